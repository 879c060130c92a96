/- Sent: sums, whether something waits, and the document's Same. -/
import Derived.Test.YtidfimpchbkppaaSt9
namespace Go.Proofs.Ytidfimpchbkppaa
open Go.RowKit
set_option linter.unusedVariables false

def sizes (L : List Pk) : Int := L.foldl (fun z p => z + p.size) 0
theorem fold_size : ∀ (L : List Pk) (z : Int), (∀ p ∈ L, 0 ≤ p.size ∧ p.size ≤ 1099511627776) → z ≤ L.foldl (fun z p => z + p.size) z ∧ L.foldl (fun z p => z + p.size) z ≤ z + L.length * 1099511627776
  | [], z, _ => by simp
  | p :: L, z, h => by
    have h1 := fold_size L (z + p.size) (fun q hq => h q (List.mem_cons_of_mem _ hq))
    have h2 := h p (by simp)
    simp only [List.foldl_cons, List.length_cons]
    omega
theorem sizes_bnd {L : List Pk} (h : ∀ p ∈ L, 0 ≤ p.size ∧ p.size ≤ 1099511627776) : 0 ≤ sizes L ∧ sizes L ≤ L.length * 1099511627776 := by
  have := fold_size L 0 h
  unfold sizes
  omega
theorem sizes_succ {L : List Pk} {k : Nat} (hk : k < L.length) : sizes (L.take (k + 1)) = sizes (L.take k) + (L.getD k default).size := foldl_take_succ (fun z (p : Pk) => z + p.size) 0 hk

set_option maxRecDepth 100000 in
set_option maxHeartbeats 4000000 in
theorem bytes15_any (b : Nat) (F : Nat → Prop) (L : List Pk) (has : Bool) (lg la lt top : Int) (w : World) (h : SS w b F L has lg la lt top) (hl : L.length ≤ 1000) (hs : ∀ p ∈ L, p.size ≤ 1099511627776) :
    Calls Try.prog 45 #[.pointer (some ⟨b, 0, none⟩)] w fun e w' => Below w.heap.size w w' ∧ e = .returned (.int .u64 (sizes L)) := by
  obtain ⟨a, n, c, hB, hn, hP, _⟩ := h
  have hs2 : ∀ p ∈ L, 0 ≤ p.size ∧ p.size ≤ 1099511627776 := fun p hp => ⟨(hP.ok p hp).2.2.1.1, hs p hp⟩
  have c0 := Blk.cell hB 0 _ rfl
  have hblt := Blk.lt hB
  have hn1 : n ≤ 1000 := by omega
  have HN := Lib.hid hn
  have HP := Lib.hid hP
  have HS := Lib.hid hs2
  clear hn hP hs hs2 hB hl
  go_enter Try.func45, Try.ntmps45
  go_wp2_with (fail)
  go_loopw [3, 5, 14] (fun s _ i wr => ∃ (k : Nat) (z : Int), i = .int .i64 k ∧ s = .int .u64 z ∧ k ≤ n ∧ Below w.heap.size w wr ∧ Hid (sizes (L.take k) = z)) (fun _ _ i _ => n - (intOf i).toNat)
  case atStart => exact ⟨0, 0, rfl, rfl, by omega, Below.refl _ _, Lib.hid rfl⟩
  case round =>
    obtain ⟨k, z, rfl, rfl, hk, bw, hz⟩ := hrel
    by_cases hlt : k < n
    · have hkL : k < L.length := by have := HN.out; omega
      obtain ⟨b', off, ha, hb', p, hpe, hpm, d0, d1, d2, d3, d4, d5, i0, i1, i2, i4⟩ := (HP.out.below bw).at_ hkL
      subst ha
      have hsz := HS.out p hpm
      have hb1 := sizes_bnd (L := L.take k) (fun q hq => HS.out q (List.mem_of_mem_take hq))
      rw [hz.out, List.length_take] at hb1
      have hb2 : 0 ≤ z ∧ z ≤ 1099511627776000 := by
        have := Nat.min_le_left k L.length
        omega
      have hsc := sizes_succ hkL
      rw [hz.out, hpe] at hsc
      have HSC := Lib.hid hsc
      have b2 : Below w.heap.size w (wr.alloc (.cells #[.int .u64 p.pn, .int .u64 p.at_, .int .u64 p.size, .bool p.el, .int .u64 p.after, .slice p.fa p.fn p.fc] 69)) := bw.alloc bw.size _
      clear hb1 hsc hpe hz
      go_wp2_with (fail)
      exact ⟨⟨k + 1, z + p.size, rfl, by go_num, by omega, b2, Lib.hid HSC.out⟩, by simp [intOf]; omega⟩
    · obtain rfl : k = n := by omega
      have h2 := hz.out
      rw [show L.take k = L by rw [HN.out, List.take_length]] at h2
      have H2 := Lib.hid h2
      clear hz h2
      go_wp2_with (fail)
      go_returns
      exact ⟨bw, by rw [H2.out]; rfl⟩

set_option maxRecDepth 100000 in
theorem waitc_any (p : Pk) (w : World) : Calls Try.prog 82 #[pkV p] w fun e w' => Below w.heap.size w w' ∧ e = .returned (.bool p.el) := by
  unfold pkV
  go_enter Try.func82, Try.ntmps82
  go_wp2_with (fail)
  go_returns
  exact ⟨(Below.refl _ _).alloc (Nat.le_refl _) _, rfl⟩
def IdxOk (L : List Pk) (z : Int) : Prop := -1 ≤ z ∧ z ≤ 1000 ∧ decide (0 ≤ z) = L.any (·.el)
set_option maxRecDepth 100000 in
set_option maxHeartbeats 4000000 in
theorem pidx_any (a : Option Addr) (n c : Nat) (L : List Pk) (w : World) (hn : n = L.length) (hP : Ps w a c L) (hl : L.length ≤ 1000) :
    Calls Try.prog 96 #[.slice a n c, .func (.func 82) #[] #[]] w fun e w' => Below w.heap.size w w' ∧ ∃ z, e = .returned (.int .i64 z) ∧ IdxOk L z := by
  have hn1 : n ≤ 1000 := by omega
  have HN := Lib.hid hn
  have HP := Lib.hid hP
  clear hn hP hl
  go_enter Try.func96, Try.ntmps96
  go_wp2_with (fail)
  go_loopw [5, 8] (fun _ i wr => ∃ k : Nat, i = .int .i64 k ∧ k ≤ n ∧ Below w.heap.size w wr ∧ Hid ((L.take k).any (·.el) = false)) (fun _ i _ => n - (intOf i).toNat)
  case atStart => exact ⟨0, rfl, by omega, Below.refl _ _, Lib.hid rfl⟩
  case round =>
    obtain ⟨k, rfl, hk, bw, hz⟩ := hrel
    by_cases hlt : k < n
    · have hkL : k < L.length := by have := HN.out; omega
      obtain ⟨b', off, ha, hb', p, hpe, hpm, d0, d1, d2, d3, d4, d5, i0, i1, i2, i4⟩ := (HP.out.below bw).at_ hkL
      subst ha
      have hts : (L.take (k + 1)).any (·.el) = p.el := by
        rw [List.take_add_one, List.getElem?_eq_getElem hkL, List.any_append, hz.out]
        have : L[k] = p := by rw [← hpe]; simp [hkL]
        simp [this]
      have HTS := Lib.hid hts
      have HFF := Lib.hid (waitc_any p wr)
      clear hts hpe hz
      have HPM := Lib.hid hpm
      unfold pkV at HFF
      obtain ⟨el, hel⟩ : ∃ v, p.el = v := ⟨_, rfl⟩
      rw [hel] at HTS HFF d3
      have HEL := Lib.hid hel
      clear hel hpm
      go_wp2_with (fail)
      refine HFF.out.mono ?_
      rintro e w2 ⟨hb2, rfl⟩
      have b2 := below_on bw hb2 bw.size
      cases el with
      | true =>
        go_wp2_with (fail)
        go_returns
        exact ⟨b2, _, rfl, by omega, by omega, by rw [List.any_eq_true.2 ⟨p, HPM.out, HEL.out⟩]; simp⟩
      | false =>
        go_wp2_with (fail)
        exact ⟨⟨k + 1, rfl, by omega, b2, HTS⟩, by simp [intOf]; omega⟩
    · obtain rfl : k = n := by omega
      have h2 := hz.out
      rw [show L.take k = L by rw [HN.out, List.take_length]] at h2
      have H2 := Lib.hid h2
      clear hz h2
      go_wp2_with (fail)
      go_returns
      exact ⟨bw, _, rfl, by omega, by omega, by rw [H2.out]; rfl⟩
set_option maxRecDepth 100000 in
theorem pcont_any (a : Option Addr) (n c : Nat) (L : List Pk) (w : World) (hn : n = L.length) (hP : Ps w a c L) (hl : L.length ≤ 1000) :
    Calls Try.prog 81 #[.slice a n c, .func (.func 82) #[] #[]] w fun e w' => Below w.heap.size w w' ∧ e = .returned (.bool (L.any (·.el))) := by
  have HC := Lib.hid (pidx_any a n c L w hn hP hl)
  clear hn hP hl
  obtain ⟨v, hv⟩ : ∃ v, L.any (·.el) = v := ⟨_, rfl⟩
  rw [hv]
  have HV := Lib.hid hv
  clear hv
  go_enter Try.func81, Try.ntmps81
  go_wp2_with (fail)
  refine HC.out.mono ?_
  rintro e w1 ⟨hb, z, rfl, h1, h2, h3⟩
  rw [HV.out] at h3
  cases v with
  | true =>
    have h4 : 0 ≤ z := of_decide_eq_true h3
    clear h3
    go_wp2_with (fail)
    go_returns
    exact ⟨hb, rfl⟩
  | false =>
    have h4 : ¬ 0 ≤ z := of_decide_eq_false h3
    clear h3
    go_wp2_with (fail)
    go_returns
    exact ⟨hb, by rw [show decide (0 ≤ z) = false from decide_eq_false (by omega)]; rfl⟩
set_option maxRecDepth 100000 in
theorem waits15_any (b : Nat) (F : Nat → Prop) (L : List Pk) (has : Bool) (lg la lt top : Int) (w : World) (h : SS w b F L has lg la lt top) (hl : L.length ≤ 1000) :
    Calls Try.prog 46 #[.pointer (some ⟨b, 0, none⟩)] w fun e w' => Below w.heap.size w w' ∧ e = .returned (.bool (L.any (·.el))) := by
  obtain ⟨a, n, c, hB, hn, hP, _⟩ := h
  have c0 := Blk.cell hB 0 _ rfl
  have hblt := Blk.lt hB
  have HC := Lib.hid (pcont_any a n c L w hn hP hl)
  clear hn hP hl hB
  obtain ⟨v, hv⟩ : ∃ v, L.any (·.el) = v := ⟨_, rfl⟩
  rw [hv] at HC ⊢
  clear hv
  go_enter Try.func46, Try.ntmps46
  go_wp2_with (fail)
  refine HC.out.mono ?_
  rintro e w1 ⟨hb, rfl⟩
  cases v with
  | true =>
    go_wp2_with (fail)
    go_returns
    exact ⟨hb, rfl⟩
  | false =>
    go_wp2_with (fail)
    go_returns
    exact ⟨hb, rfl⟩

/-! ### Same -/
def AlikeP (p q : Pk) : Prop := q = { p with fa := q.fa, fc := q.fc }
def AlikeL (A B : List Pk) : Prop := A.length = B.length ∧ ∀ i, i < A.length → AlikeP (A.getD i default) (B.getD i default)
theorem AlikeP.all {p q : Pk} (h : AlikeP p q) : q.pn = p.pn ∧ q.at_ = p.at_ ∧ q.size = p.size ∧ q.el = p.el ∧ q.after = p.after ∧ q.fn = p.fn := by
  rw [h]; exact ⟨rfl, rfl, rfl, rfl, rfl, rfl⟩
theorem AlikeL.len {A B : List Pk} (h : AlikeL A B) : A.length = B.length := h.1
theorem AlikeL.get {A B : List Pk} (h : AlikeL A B) {i : Nat} (hi : i < A.length) : AlikeP (A.getD i default) (B.getD i default) := h.2 i hi
set_option maxRecDepth 100000 in
set_option maxHeartbeats 4000000 in
theorem same15r_any (a : Option Addr) (n c : Nat) (a' : Option Addr) (n' c' : Nat) (A B : List Pk) (w : World) (hn : n = A.length) (hn' : n' = B.length) (hP : Ps w a c A) (hP' : Ps w a' c' B) (hl : A.length ≤ 1000) (h : AlikeL A B) :
    Calls Try.prog 50 #[.slice a n c, .slice a' n' c'] w fun e w' => Below w.heap.size w w' ∧ e = .returned (.bool true) := by
  have e1 : n' = n := by rw [hn, hn', h.len]
  subst e1
  have hn1 : n' ≤ 1000 := by omega
  have HN := Lib.hid hn
  have HP := Lib.hid hP
  have HP' := Lib.hid hP'
  have HH := Lib.hid h
  clear hn hn' hP hP' h hl
  go_enter Try.func50, Try.ntmps50
  go_wp2_with (fail)
  go_loopw [5, 6] (fun s i wr => ∃ k : Nat, i = .int .i64 k ∧ s = .bool true ∧ k ≤ n' ∧ Below w.heap.size w wr) (fun _ i _ => n' - (intOf i).toNat)
  case atStart => exact ⟨0, rfl, rfl, by omega, Below.refl _ _⟩
  case round =>
    obtain ⟨k, rfl, rfl, hk, bw⟩ := hrel
    by_cases hlt : k < n'
    · have hkA : k < A.length := by have := HN.out; omega
      have hkB : k < B.length := by have := HH.out.len; omega
      obtain ⟨b1, o1, ha1, hlt1, p, hpe, hpm, d0, d1, d2, d3, d4, d5, i0, i1, i2, i4⟩ := (HP.out.below bw).at_ hkA
      obtain ⟨b2, o2, ha2, hlt2, q, hqe, hqm, f0, f1, f2, f3, f4, f5, _⟩ := (HP'.out.below bw).at_ hkB
      have hal := HH.out.get hkA
      rw [hpe, hqe] at hal
      obtain ⟨g0, g1, g2, g3, g4, g5⟩ := hal.all
      rw [g0] at f0
      rw [g1] at f1
      rw [g2] at f2
      rw [g3] at f3
      rw [g4] at f4
      rw [g5] at f5
      subst ha1
      subst ha2
      clear hal hpe hqe g0 g1 g2 g3 g4 g5 hpm hqm
      go_wp2_with (fail)
      simp only [List.append_eq, List.cons_append, List.nil_append]
      refine rg_start 79 ?_
      refine rg_same fun z hx hne hC => ?_
      refine rg_quiet 0 [0,1,2,3,4,5,6,7,8,9,10,11,12,13,14,15,16,17,18,19,20,21,22,23,24,25,26,27,28,29,30,31,32,33,34,35,36,37,38,39,40,41,42,43,44,45,46,47,48,49,50,51,52,53,54,55,56,57,58,59,60,61,62,63,64,65,66,67,68,69,70,71,72,73,74,75,76,77,78] hC ?_
      simp only [pickD, List.map_cons, List.map_nil, List.getD_cons_zero, List.getD_cons_succ]; repeat (go_big_quiet_step (fail))
      refine wpQuiet_nil ?_
      refine rg_end ?_
      clear hx hne hC
      go_wp2_with (fail)
      exact ⟨⟨k + 1, rfl, rfl, by omega, below_on bw ((Below.refl _ _).drew) bw.size⟩, by simp [intOf]; omega⟩
    · obtain rfl : k = n' := by omega
      go_wp2_with (fail)
      go_returns
      exact ⟨bw, rfl⟩
end Go.Proofs.Ytidfimpchbkppaa
