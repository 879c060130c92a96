/- Walks: Count, the document's Neat and Count; ranges that came in. -/
import Derived.Test.YtidfimpchbkppaaSpW9
import Derived.Test.YtidfimpchbkppaaArgs
namespace Go.Proofs.Ytidfimpchbkppaa
open Go.RowKit
set_option linter.unusedVariables false

theorem countR_take {M : List Rg} {k : Nat} (hk : k < M.length) : countR (M.take (k + 1)) = countR (M.take k) + ((M.getD k default).2 - (M.getD k default).1) := by
  have e : M.getD k default = M[k] := by simp [hk]
  rw [e]
  unfold countR
  rw [List.take_succ_eq_append_getElem hk, List.map_append, List.sum_append]
  simp only [List.map_cons, List.map_nil, List.sum_cons, List.sum_nil, Int.add_zero]
theorem countR_bd {M : List Rg} (h : NeatFrom (-1) M) (hb : Bnd M) (k : Nat) (hk : k < M.length) : 0 ≤ countR (M.take k) ∧ countR (M.take k) ≤ (M.getD k default).1 ∧ (M.getD k default).1 < (M.getD k default).2 := by
  have h1 := (neatFrom_append (M.take k) (-1) (M.drop k)).1 (by rw [List.take_append_drop]; exact h)
  rw [List.drop_eq_getElem_cons hk] at h1
  have h2 := countR_le h1.1
  have e : M.getD k default = M[k] := by simp [hk]
  rw [e]
  have h3 := h1.2
  simp only [NeatFrom] at h3
  omega

set_option maxRecDepth 100000 in
set_option maxHeartbeats 1000000 in
theorem count_any (a : Option Addr) (n cap : Nat) (L : List Rg) (w : World) (hn : n = L.length) (hR : Rs w a cap L) (hbig : L.length ≤ 800000) :
    Calls Try.prog 23 #[.slice a n cap] w fun e w' => Below w.heap.size w w' ∧ ∃ M, IsNf (MemR L) M ∧ Bnd M ∧ e = .returned (.int .u64 (countR M)) := by
  subst hn
  have HR := Lib.hid hR
  clear hR
  go_enter Try.func23, Try.ntmps23
  go_wp2_with (fail)
  refine (neat11_any a _ cap L w rfl HR.out hbig).mono ?_
  rintro e w1 ⟨hb1, a1, c1, M, rfl, ho1, hM, hnf, hl⟩
  have H1 := Lib.hid (ho1.rs hM).2
  have HN := Lib.hid hnf
  have HM := Lib.hid hM
  have HB1 := Lib.hid hb1
  clear ho1 hM hnf hb1
  go_wp2_with (fail)
  go_loopw [3, 5, 9] (fun s _ i wr => ∃ (k : Nat) (t : Int), i = .int .i64 k ∧ s = .int .u64 t ∧ k ≤ M.length ∧ Below w1.heap.size w1 wr ∧ Hid (countR (M.take k) = t)) (fun _ _ i _ => M.length - (intOf i).toNat)
  case atStart => exact ⟨0, 0, rfl, rfl, by omega, Below.refl _ _, Lib.hid (by simp [countR])⟩
  case round =>
    obtain ⟨k, t, rfl, rfl, hk, bw, hok⟩ := hrel
    by_cases hlt : k < M.length
    · obtain ⟨bb, off, ha, hb, c1, c2⟩ := (H1.out.below bw).at_ hlt
      subst ha
      have hbd := HM.out.getD hlt
      have hcb := countR_bd HN.out.neat HM.out k hlt
      have hst := countR_take hlt
      rw [hok.out] at hcb hst
      obtain ⟨f, hf⟩ : ∃ f, (M.getD k default).1 = f := ⟨_, rfl⟩
      obtain ⟨u, hu⟩ : ∃ u, (M.getD k default).2 = u := ⟨_, rfl⟩
      rw [hf] at c1 hbd hst hcb
      rw [hu] at c2 hbd hst hcb
      have HST := Lib.hid hst
      clear hf hu hst hok
      have hwr1 : IntKind.u64.wrap (u - f) = u - f := by rw [IntKind.wrap_u64]; omega
      have hwr2 : IntKind.u64.wrap (t + (u - f)) = t + (u - f) := by rw [IntKind.wrap_u64]; omega
      go_wp2_with (fail)
      exact ⟨⟨k + 1, t + (u - f), by go_num, by rfl, by omega, bw.alloc bw.size _, HST⟩, by simp [intOf]; omega⟩
    · obtain rfl : k = M.length := by omega
      have hst := hok.out
      rw [List.take_of_length_le (Nat.le_refl _)] at hst
      subst hst
      go_wp2_with (fail)
      go_returns
      exact ⟨below_on HB1.out bw HB1.out.size, M, HN.out, HM.out, rfl⟩

set_option maxRecDepth 100000 in
set_option maxHeartbeats 1000000 in
theorem rneat_any (a : Option Addr) (n cap : Nat) (L : List Rg) (w : World) (hn : n = L.length) (hR : Rs w a cap L) (hbig : L.length ≤ 100000) :
    Calls Try.prog 22 #[.slice a n cap] w fun e w' => Below w.heap.size w w' ∧ ∃ M, IsNf (MemR L) M ∧ e = .returned (.bool (decide (L = M))) := by
  subst hn
  have HR := Lib.hid hR
  clear hR
  go_enter Try.func22, Try.ntmps22
  go_wp2_with (fail)
  refine (make_any 0 (.inl rfl) a none _ 0 cap 0 L [] w rfl rfl HR.out (Rs.nil w) hbig (by simp)).mono ?_
  rintro e w1 ⟨hb1, a1, c1, M, rfl, hM, hl, hnf⟩
  have HM := Lib.hid hM
  have HN := Lib.hid hnf
  clear hM hnf
  go_wp2_with (fail)
  refine (same_any a a1 _ _ cap c1 L M w1 rfl rfl (HR.out.below hb1) HM.out).mono ?_
  rintro e w2 ⟨hb2, rfl⟩
  go_wp2_with (fail)
  go_returns
  refine ⟨below_on hb1 hb2 hb1.size, M, HN.out.congr fun n => ?_, rfl⟩
  simp only [opR, inB]
  rw [← inB_iff]
  simp [inB]

set_option maxRecDepth 100000 in
set_option maxHeartbeats 1000000 in
theorem rcount_any (a : Option Addr) (n cap : Nat) (L : List Rg) (w : World) (hn : n = L.length) (hR : Rs w a cap L) (hbig : L.length ≤ 100000) :
    Calls Try.prog 24 #[.slice a n cap] w fun e w' => Below w.heap.size w w' ∧ ∃ M, IsNf (MemR L) M ∧ e = .returned (.int .u64 (countR M)) := by
  subst hn
  have HR := Lib.hid hR
  clear hR
  go_enter Try.func24, Try.ntmps24
  go_wp2_with (fail)
  refine (make_any 0 (.inl rfl) a none _ 0 cap 0 L [] w rfl rfl HR.out (Rs.nil w) hbig (by simp)).mono ?_
  rintro e w1 ⟨hb1, a1, c1, M, rfl, hM, hl, hnf⟩
  have H1 := Lib.hid hM
  have HM := Lib.hid hM.bnd
  have HN := Lib.hid hnf
  have HB1 := Lib.hid hb1
  simp only [List.length_nil, Nat.add_zero] at hl
  have hlen : M.length ≤ 200000 := by omega
  clear hM hnf hb1
  go_wp2_with (fail)
  go_loopw [4, 5] (fun s i wr => ∃ (k : Nat) (t : Int), i = .int .i64 k ∧ s = .int .u64 t ∧ k ≤ M.length ∧ Below w1.heap.size w1 wr ∧ Hid (countR (M.take k) = t)) (fun _ i _ => M.length - (intOf i).toNat)
  case atStart => exact ⟨0, 0, rfl, rfl, by omega, Below.refl _ _, Lib.hid (by simp [countR])⟩
  case round =>
    obtain ⟨k, t, rfl, rfl, hk, bw, hok⟩ := hrel
    by_cases hlt : k < M.length
    · obtain ⟨bb, off, ha, hb, c1, c2⟩ := (H1.out.below bw).at_ hlt
      subst ha
      have hbd := HM.out.getD hlt
      have hcb := countR_bd HN.out.neat HM.out k hlt
      have hst := countR_take hlt
      rw [hok.out] at hcb hst
      obtain ⟨f, hf⟩ : ∃ f, (M.getD k default).1 = f := ⟨_, rfl⟩
      obtain ⟨u, hu⟩ : ∃ u, (M.getD k default).2 = u := ⟨_, rfl⟩
      rw [hf] at c1 hbd hst hcb
      rw [hu] at c2 hbd hst hcb
      have HST := Lib.hid hst
      clear hf hu hst hok
      have hwr1 : IntKind.u64.wrap (IntKind.u64.wrap (t + u) - f) = t + (u - f) := by rw [IntKind.wrap_u64, IntKind.wrap_u64]; omega
      go_wp2_with (fail)
      refine rg_start 14 ?_
      refine rg_same fun p hx hne hC => ?_
      refine rg_quiet 0 [0,1,2,3,4,5,6,7,8,9,10,11,12,13] hC ?_
      simp only [pickD, List.map_cons, List.map_nil, List.getD_cons_zero, List.getD_cons_succ]; repeat (go_big_quiet_step (fail))
      refine wpQuiet_nil ?_
      refine rg_end ?_
      go_wp2_with (fail)
      exact ⟨⟨k + 1, t + (u - f), by go_num, by rfl, by omega, bw.drew, HST⟩, by simp [intOf]; omega⟩
    · obtain rfl : k = M.length := by omega
      have hst := hok.out
      rw [List.take_of_length_le (Nat.le_refl _)] at hst
      subst hst
      go_wp2_with (fail)
      go_returns
      refine ⟨below_on HB1.out bw HB1.out.size, M, HN.out.congr fun n => ?_, rfl⟩
      simp only [opR, inB]
      rw [← inB_iff]
      simp [inB]

section
variable {H : Type} {enc : TypeId × Value → H} {w : World} {base : Nat} {v : Value} {d : DataW H} {p : List MemPlace}
set_option maxRecDepth 100000 in
theorem open_rgs (o : Value.okWide Try.prog w .any base 22 v) (h : DataW.Trod enc Try.prog w 0 (fun _ => true) true 22 v d p) : ∃ a L cap, v = .slice a L.length cap ∧ Rs w a cap L := by
  obtain ⟨a, len, cap, V, rfl, h1, h2, h3, hall⟩ := open_structslice (nf := 2) Try.underlying22 Try.underlying31 rfl (by kernel_rfl) (by kernel_rfl) (by omega) o h
  have each : ∀ i, i < len → ∃ b off, a = some ⟨b, off, none⟩ ∧ b < w.heap.size ∧ (w.cell? ⟨b, off + i * 2, none⟩ = some (.int .u64 (intOf (V i 0))) ∧ (Lit.int .u64 (intOf (V i 0))).wf = true) ∧ (w.cell? ⟨b, off + i * 2 + 1, none⟩ = some (.int .u64 (intOf (V i 1))) ∧ (Lit.int .u64 (intOf (V i 1))).wf = true) := by
    intro i hi
    obtain ⟨b, off, ha, hb, hc⟩ := hall i hi
    obtain ⟨c0, n0, y0, t0⟩ := hc 0 _ rfl
    obtain ⟨c1, n1, y1, t1⟩ := hc 1 _ rfl
    obtain ⟨m0, e0, _, w0⟩ := DataW.trod_int Try.underlying28 t0
    obtain ⟨m1, e1, _, w1⟩ := DataW.trod_int Try.underlying28 t1
    simp at e0 e1
    refine ⟨b, off, ha, hb, ⟨?_, ?_⟩, ?_, ?_⟩
    · rw [e0] at c0 ⊢; exact c0
    · rw [e0]; exact w0
    · rw [e1] at c1 ⊢; exact c1
    · rw [e1]; exact w1
  have hlen : ((List.range len).map fun i => (intOf (V i 0), intOf (V i 1))).length = len := by simp
  refine ⟨a, (List.range len).map fun i => (intOf (V i 0), intOf (V i 1)), cap, by rw [hlen], fun i hi => ?_, fun ha => (h3 ha).2, by rw [hlen]; exact h1, h2⟩
  rw [flat_length, hlen] at hi
  obtain ⟨b, off, ha, hb, ⟨k0, f0⟩, k1, f1⟩ := each (i / 2) (by omega)
  have e := flat_getD ((List.range len).map fun i => (intOf (V i 0), intOf (V i 1))) (i / 2)
  have eg : ((List.range len).map fun i => (intOf (V i 0), intOf (V i 1))).getD (i / 2) (0, 0) = (intOf (V (i / 2) 0), intOf (V (i / 2) 1)) := by simp [show i / 2 < len by omega]
  rw [eg] at e
  rcases Nat.mod_two_eq_zero_or_one i with h5 | h5
  · have hi2 : 2 * (i / 2) = i := by omega
    have := e.1
    rw [hi2] at this
    rw [this]
    refine ⟨b, off, ha, hb, ?_, f0⟩
    rw [show off + i = off + i / 2 * 2 by omega]; exact k0
  · have hi2 : 2 * (i / 2) + 1 = i := by omega
    have := e.2
    rw [hi2] at this
    rw [this]
    refine ⟨b, off, ha, hb, ?_, f1⟩
    rw [show off + i = off + i / 2 * 2 + 1 by omega]; exact k1
end
end Go.Proofs.Ytidfimpchbkppaa
