/- Walks: the document's Gap; SpanAsks. -/
import Derived.Test.YtidfimpchbkppaaSpW13
import Derived.Test.YtidfimpchbkppaaArgSl
import Derived.Test.YtidfimpchbkppaaSpW11
namespace Go.Proofs.Ytidfimpchbkppaa
open Go.RowKit
set_option linter.unusedVariables false

set_option maxRecDepth 100000 in
set_option maxHeartbeats 2000000 in
theorem rgap_any (a : Option Addr) (n cap : Nat) (L : List Rg) (x : Int) (w : World) (hn : n = L.length) (hx : 0 ≤ x ∧ x ≤ 18446744073709551615) (hR : Rs w a cap L) (hbig : L.length ≤ 100000) :
    Calls Try.prog 28 #[.slice a n cap, .int .u64 x] w fun e w' => Below w.heap.size w w' ∧ ∃ M, IsNf (MemR L) M ∧ e = .returned (.int .u64 (gapP M x)) := by
  subst hn
  have hB := hR.bnd
  obtain ⟨M, hM⟩ := nf_exists hB
  have hMb : Bnd M := bnd_of_neat hM.neat (by omega) (fun n hn => (hB.mem ((hM.mem n).1 hn)).2)
  have hLM : ∀ n, inB L n = inB M n := fun n => by
    have := hM.mem n
    rw [← inB_iff, ← inB_iff] at this
    exact (Bool.eq_iff_iff.2 this).symm
  have hgb := gapP_bnd hMb hx
  have hgi := fun h => gapP_in (x := x) hM.neat h
  have hgo := fun h => gapP_out (M := M) (x := x) h
  have hsn := fun (k : Nat) (hk : k < M.length) => (show gapP (M.take (k + 1)) x = if (M.getD k default).1 ≤ gapP (M.take k) x ∧ gapP (M.take k) x < (M.getD k default).2 then (M.getD k default).2 else gapP (M.take k) x by
    have h1 : NeatFrom (-1) (M.take k ++ [M.getD k default]) := by
      have h2 := hM.neat
      rw [← List.take_append_drop (k + 1) M] at h2
      have h3 := ((neatFrom_append _ _ _).1 h2).1
      rw [List.take_succ_eq_append_getElem hk] at h3
      simpa [hk] using h3
    rw [List.take_succ_eq_append_getElem hk, ← gapP_snoc _ _ _ x h1]
    simp [hk])
  have HR := Lib.hid hR
  have HM := Lib.hid hM
  have HMB := Lib.hid hMb
  have HLM := Lib.hid hLM
  have HSN := Lib.hid hsn
  obtain ⟨y, hy⟩ : ∃ y, gapP M x = y := ⟨_, rfl⟩
  rw [hy] at hgb
  simp only [hy] at hgi hgo
  have HGI := Lib.hid hgi
  have HGO := Lib.hid hgo
  have HY := Lib.hid hy
  clear hR hB hM hMb hLM hgi hgo hsn hy
  go_enter Try.func28, Try.ntmps28
  go_wp2_with (fail)
  go_loopw [1, 5, 6] (fun f _ _ wr => ∃ z : Int, f = .int .u64 z ∧ (z = x ∨ z = y) ∧ Below w.heap.size w wr) (fun f _ _ _ => if intOf f = y then 0 else 1)
  case atStart => exact ⟨x, rfl, .inl rfl, Below.refl _ _⟩
  case round =>
    obtain ⟨z, rfl, hz, bw⟩ := hrel
    have hzb : 0 ≤ z ∧ z ≤ 18446744073709551615 := by rcases hz with rfl | rfl <;> omega
    have hin := in_any a _ cap L z wr rfl hzb (HR.out.below bw)
    rw [HLM.out z] at hin
    obtain ⟨v, hv⟩ : ∃ v, inB M z = v := ⟨_, rfl⟩
    rw [hv] at hin
    have HIN := Lib.hid hin
    cases v with
    | false =>
      have hzy : z = y := by
        rcases hz with rfl | rfl
        · exact (HGO.out hv).symm
        · rfl
      subst hzy
      clear hv hin hz
      go_wp2_with (fail)
      refine HIN.out.mono ?_
      rintro e w1 ⟨rfl, rfl⟩
      go_wp2_with (fail)
      go_returns
      exact ⟨bw, M, HM.out, by rw [HY.out]; rfl⟩
    | true =>
      have hzx : z = x := by
        rcases hz with rfl | rfl
        · rfl
        · have h1 : inB M x = true := by
            cases h2 : inB M x with
            | true => rfl
            | false => rw [HGO.out h2, h2] at hv; cases hv
          rw [(HGI.out h1).2] at hv
          cases hv
      subst hzx
      have hlt := (HGI.out hv).1
      have hne : ¬ z = y := by omega
      clear hv hin hz
      go_wp2_with (fail)
      refine HIN.out.mono ?_
      rintro e w1 ⟨rfl, rfl⟩
      go_wp2_with (fail)
      refine (make_any 0 (.inl rfl) a none _ 0 cap 0 L [] w1 rfl rfl (HR.out.below bw) (Rs.nil _) hbig (by simp)).mono ?_
      rintro e w2 ⟨hb2, a2, c2, M2, rfl, hR2, hl2, hn2⟩
      obtain rfl : M = M2 := HM.out.unique (hn2.congr fun n => by simp only [opR, inB]; rw [← inB_iff]; simp [inB])
      have H2 := Lib.hid hR2
      have B2 := Lib.hid (below_on bw hb2 bw.size)
      simp only [List.length_nil, Nat.add_zero] at hl2
      have hlen : M.length ≤ 200000 := by omega
      clear hb2 hR2 hn2 hl2
      go_wp2_with (fail)
      go_loop [1, 6] (fun f i => ∃ (k : Nat) (t : Int), i = .int .i64 k ∧ f = .int .u64 t ∧ k ≤ M.length ∧ Hid (gapP (M.take k) z = t)) (fun _ i => M.length - (intOf i).toNat)
      case atStart => exact ⟨0, z, rfl, rfl, by omega, Lib.hid (by simp [gapP])⟩
      case round =>
        obtain ⟨k, t, rfl, rfl, hk, hok⟩ := hrel
        by_cases hk2 : k < M.length
        · obtain ⟨bb, off, ha, hb, c1, c2⟩ := H2.out.at_ hk2
          subst ha
          have hst := HSN.out k hk2
          rw [hok.out] at hst
          obtain ⟨f, hf⟩ : ∃ f, (M.getD k default).1 = f := ⟨_, rfl⟩
          obtain ⟨u, hu⟩ : ∃ t, (M.getD k default).2 = t := ⟨_, rfl⟩
          rw [hf] at c1 hst
          rw [hu] at c2 hst
          clear hf hu hok
          by_cases h1 : f ≤ t
          · by_cases h2 : t < u
            · rw [if_pos ⟨h1, h2⟩] at hst
              have HST := Lib.hid hst
              clear hst
              go_wp2_with (fail)
              exact ⟨⟨k + 1, u, by go_num, rfl, by omega, HST⟩, by simp [intOf]; omega⟩
            · rw [if_neg (by omega)] at hst
              have HST := Lib.hid hst
              clear hst
              go_wp2_with (fail)
              exact ⟨⟨k + 1, t, by go_num, rfl, by omega, HST⟩, by simp [intOf]; omega⟩
          · rw [if_neg (by omega)] at hst
            have HST := Lib.hid hst
            clear hst
            go_wp2_with (fail)
            exact ⟨⟨k + 1, t, by go_num, rfl, by omega, HST⟩, by simp [intOf]; omega⟩
        · obtain rfl : k = M.length := by omega
          have hst := hok.out
          rw [List.take_of_length_le (Nat.le_refl _), HY.out] at hst
          subst hst
          go_wp2_with (fail)
          exact ⟨⟨y, rfl, .inr rfl, B2.out⟩, by simp [intOf, hne]⟩

set_option maxRecDepth 100000 in
set_option maxHeartbeats 4000000 in
theorem asks_law (a b : Option Addr) (cap cap' : Nat) (A : List Rg) (N : List Int) (x : Int) (w : World) (hA : Rs w a cap A) (hN : Sl .u64 w b cap' N) (hx : 0 ≤ x ∧ x ≤ 18446744073709551615) :
    Calls Try.prog 6 #[.slice a A.length cap, .slice b N.length cap', .int .u64 x] w fun e w' => e = .returned (.bool true) ∧ Below w.heap.size w w' := by
  have hlA := hA.len
  have hlN := hN.len
  unfold maxLen at hlA hlN
  have HA := Lib.hid hA
  have HN := Lib.hid hN
  clear hA hN
  obtain ⟨nA, hnA⟩ : ∃ n, A.length = n := ⟨_, rfl⟩
  rw [hnA] at hlA ⊢
  have NA := Lib.hid hnA
  clear hnA
  by_cases h1 : 60 < nA
  · go_enter Try.func6, Try.ntmps6
    go_wp2_with (fail)
    refine (spworks_any w).mono ?_
    rintro e w1 ⟨rfl, hb⟩
    go_wp2_with (fail)
    go_returns
    exact ⟨rfl, hb⟩
  by_cases h2 : 100 < N.length
  · go_enter Try.func6, Try.ntmps6
    go_wp2_with (fail)
    refine (spworks_any w).mono ?_
    rintro e w1 ⟨rfl, hb⟩
    go_wp2_with (fail)
    go_returns
    exact ⟨rfl, hb⟩
  have lA : Hid (A.length ≤ 60) := Lib.hid (by have := NA.out; omega)
  go_enter Try.func6, Try.ntmps6
  go_wp2_with (fail)
  go_loopw [7, 9, 21] (fun f _ i wr => ∃ (k : Nat) (v : Bool), i = .int .i64 k ∧ f = .bool v ∧ k ≤ N.length ∧ Below w.heap.size w wr ∧ Hid (((N.take k).all fun z => inB A z) = v)) (fun _ _ i _ => N.length - (intOf i).toNat)
  case atStart => exact ⟨0, true, rfl, rfl, by omega, Below.refl _ _, Lib.hid (by simp)⟩
  case round =>
    obtain ⟨k, v, rfl, rfl, hk, bw, hok⟩ := hrel
    by_cases hlt : k < N.length
    · obtain ⟨bb, off, ha, hb, c1, hwf⟩ := (HN.out.below bw).ints k hlt
      subst ha
      have hzb := u64_bd hwf
      have hst : ((N.take (k + 1)).all fun z => inB A z) = (v && inB A (N.getD k 0)) := by
        rw [List.take_succ_eq_append_getElem hlt, List.all_append, hok.out]
        simp [hlt]
      obtain ⟨z, hz⟩ : ∃ z, N.getD k 0 = z := ⟨_, rfl⟩
      rw [hz] at c1 hzb hst
      clear hwf hok hz
      have hin := in_any a _ cap A z wr NA.out.symm hzb (HA.out.below bw)
      have b1 : Below w.heap.size w (wr.alloc (.cells #[.int .u64 z] 28)) := bw.alloc bw.size _
      have hs1 : Sl .u64 (wr.alloc (.cells #[.int .u64 z] 28)) (some ⟨wr.heap.size, 0, none⟩) 1 [z] :=
        ⟨IntsAt.of_map (L := [z]) (T := 28) (Blk.new wr #[.int .u64 z] 28) (by simpa using u64_wf hzb.1 hzb.2), (fun h => nomatch h), by simp, by simp [maxLen]⟩
      have hhas := has_any a (some ⟨wr.heap.size, 0, none⟩) _ 1 cap 1 A [z] (wr.alloc (.cells #[.int .u64 z] 28)) NA.out.symm rfl (HA.out.below b1) hs1
      simp only [List.all_cons, List.all_nil, Bool.and_true] at hhas
      have hin2 := fun W (hW : Below w.heap.size w W) => in_any a _ cap A z W NA.out.symm hzb (HA.out.below hW)
      obtain ⟨u, hu⟩ : ∃ u, inB A z = u := ⟨_, rfl⟩
      rw [hu] at hin hhas hst
      simp only [hu] at hin2
      have HIN := Lib.hid hin
      have HIN2 := Lib.hid hin2
      have HHAS := Lib.hid hhas
      have HST := Lib.hid hst
      have HB1 := Lib.hid b1
      clear hin hhas hst hin2 hu b1 hs1
      cases v with
      | true =>
        go_wp2_with (fail)
        refine HIN.out.mono ?_
        rintro e w1 ⟨rfl, rfl⟩
        go_wp2_with (fail)
        refine HHAS.out.mono ?_
        rintro e w2 ⟨hb2, rfl⟩
        have b2 : Below w.heap.size w w2 := below_on HB1.out hb2 HB1.out.size
        clear hb2
        go_wp2_with (fail)
        refine (HIN2.out w2 b2).mono ?_
        rintro e w3 ⟨rfl, rfl⟩
        cases u with
        | true =>
          go_wp2_with (fail)
          exact ⟨⟨k + 1, true, by go_num, rfl, by omega, b2, Lib.hid (by rw [HST.out]; rfl)⟩, by simp [intOf]; omega⟩
        | false =>
          go_wp2_with (fail)
          exact ⟨⟨k + 1, false, by go_num, rfl, by omega, b2, Lib.hid (by rw [HST.out]; rfl)⟩, by simp [intOf]; omega⟩
      | false =>
        go_wp2_with (fail)
        refine HHAS.out.mono ?_
        rintro e w2 ⟨hb2, rfl⟩
        have b2 : Below w.heap.size w w2 := below_on HB1.out hb2 HB1.out.size
        clear hb2
        go_wp2_with (fail)
        refine (HIN2.out w2 b2).mono ?_
        rintro e w3 ⟨rfl, rfl⟩
        cases u with
        | true =>
          go_wp2_with (fail)
          exact ⟨⟨k + 1, false, by go_num, rfl, by omega, b2, Lib.hid (by rw [HST.out]; rfl)⟩, by simp [intOf]; omega⟩
        | false =>
          go_wp2_with (fail)
          exact ⟨⟨k + 1, false, by go_num, rfl, by omega, b2, Lib.hid (by rw [HST.out]; rfl)⟩, by simp [intOf]; omega⟩
    · obtain rfl : k = N.length := by omega
      have hst := hok.out
      rw [List.take_of_length_le (Nat.le_refl _)] at hst
      have hhas := has_any a b _ _ cap cap' A N wr NA.out.symm rfl (HA.out.below bw) (HN.out.below bw)
      rw [hst] at hhas
      have HHAS := Lib.hid hhas
      clear hst hok hhas
      go_wp2_with (fail)
      refine HHAS.out.mono ?_
      rintro e w2 ⟨hb2, rfl⟩
      have X2 := Lib.hid (below_on bw hb2 bw.size)
      clear hb2 HHAS
      go_wp2_with (fail)
      refine (gap_any a _ cap A x w2 NA.out.symm hx (HA.out.below X2.out) (by have := lA.out; omega)).mono ?_
      rintro e w3 ⟨hb3, M, hM, rfl⟩
      have X3 := Lib.hid (below_on X2.out hb3 X2.out.size)
      have HM := Lib.hid hM
      clear hb3 hM
      go_wp2_with (fail)
      refine (rgap_any a _ cap A x w3 NA.out.symm hx (HA.out.below X3.out) (by have := lA.out; omega)).mono ?_
      rintro e w4 ⟨hb4, M2, hM2, rfl⟩
      obtain rfl : M = M2 := HM.out.unique hM2
      have X4 := Lib.hid (below_on X3.out hb4 X3.out.size)
      clear hb4 hM2
      go_wp2_with (fail)
      refine (spworks_any w4).mono ?_
      rintro e w5 ⟨rfl, hb5⟩
      have X5 := Lib.hid (below_on X4.out hb5 X4.out.size)
      clear hb5
      go_wp2_with (fail)
      go_returns
      exact ⟨rfl, X5.out⟩

set_option maxRecDepth 100000 in
theorem walk_SpanAsks (H : Type) (enc : TypeId × Value → H) (w : World) (base : Nat) (v0 : Value) (d0 : DataW H) (p0 : List MemPlace) (v1 : Value) (d1 : DataW H) (p1 : List MemPlace) (v2 : Value) (d2 : DataW H) (p2 : List MemPlace)
    (o0 : Value.okWide Try.prog w .any base 22 v0) (h0 : DataW.Trod enc Try.prog w 0 (fun _ => true) true 22 v0 d0 p0)
    (o1 : Value.okWide Try.prog w .any base 33 v1) (h1 : DataW.Trod enc Try.prog w 0 (fun _ => true) true 33 v1 d1 p1)
    (o2 : Value.okWide Try.prog w .any base 28 v2) (h2 : DataW.Trod enc Try.prog w 0 (fun _ => true) true 28 v2 d2 p2) :
    Calls Try.prog 6 #[v0, v1, v2] w fun e w' => e = .returned (.bool true) ∧ Below w.heap.size w w' := by
  obtain ⟨a, L, cap, rfl, hS⟩ := open_rgs o0 h0
  obtain ⟨c, N, ccap, rfl, hN⟩ := open_sl Try.underlying33 Try.underlying28 (by kernel_rfl) o1 h1
  obtain ⟨x, rfl, rfl, rfl, wx⟩ := ChangeShapes.open_int Try.underlying28 o2 h2
  have hx := u64_bd wx
  exact asks_law a c cap ccap L N x w hS hN hx
end Go.Proofs.Ytidfimpchbkppaa
