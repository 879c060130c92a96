/- Sent: the document's Ack. -/
import Derived.Test.YtidfimpchbkppaaSt14
namespace Go.Proofs.Ytidfimpchbkppaa
open Go.RowKit
set_option linter.unusedVariables false

def refAny (l : List Rg) : Bool := l.any fun r => decide (r.1 < r.2)
def topStep (t : Int) (r : Rg) : Int := if (decide (r.1 < r.2) && decide (t < r.2)) = true then r.2 else t
def refTop (l : List Rg) : Int := l.foldl topStep 0
theorem refAny_succ {l : List Rg} {k : Nat} (hk : k < l.length) : refAny (l.take (k + 1)) = (refAny (l.take k) || decide ((l.getD k default).1 < (l.getD k default).2)) := by
  unfold refAny
  rw [List.take_add_one, List.getElem?_eq_getElem hk, List.any_append]
  simp [hk]
theorem refTop_succ {l : List Rg} {k : Nat} (hk : k < l.length) : refTop (l.take (k + 1)) = topStep (refTop (l.take k)) (l.getD k default) := foldl_take_succ topStep 0 hk
theorem top_bnd : ∀ (l : List Rg) (t : Int), (∀ r ∈ l, 0 ≤ r.2 ∧ r.2 ≤ 18446744073709551615) → 0 ≤ t ∧ t ≤ 18446744073709551615 → 0 ≤ l.foldl topStep t ∧ l.foldl topStep t ≤ 18446744073709551615
  | [], t, _, ht => ht
  | r :: l, t, h, ht => by
    refine top_bnd l _ (fun q hq => h q (List.mem_cons_of_mem _ hq)) ?_
    have := h r (by simp)
    unfold topStep
    split <;> omega
theorem top_ge : ∀ (l : List Rg) (t : Int), t ≤ l.foldl topStep t ∧ ∀ r ∈ l, r.1 < r.2 → r.2 ≤ l.foldl topStep t
  | [], t => by simp
  | r :: l, t => by
    obtain ⟨h1, h2⟩ := top_ge l (topStep t r)
    have h3 : t ≤ topStep t r ∧ (r.1 < r.2 → r.2 ≤ topStep t r) := by
      unfold topStep
      by_cases g1 : r.1 < r.2 <;> by_cases g2 : t < r.2 <;> simp [g1, g2] <;> omega
    refine ⟨by simp only [List.foldl_cons]; omega, fun q hq hlt => ?_⟩
    simp only [List.foldl_cons]
    rcases List.mem_cons.1 hq with rfl | hq
    · have := h3.2 hlt; omega
    · exact h2 q hq hlt
theorem top_pos {l : List Rg} (h0 : ∀ r ∈ l, 0 ≤ r.1) (h : refAny l = true) : 1 ≤ refTop l := by
  unfold refAny at h
  obtain ⟨r, hr, h1⟩ := List.any_eq_true.1 h
  have h2 := of_decide_eq_true h1
  have h3 := (top_ge l 0).2 r hr h2
  have := h0 r hr
  unfold refTop
  omega
theorem Ps.lt {w : World} {a : Option Addr} {cap : Nat} {L : List Pk} (h : Ps w a cap L) : ∀ x, a = some x → 0 < L.length → x.block < w.heap.size := fun x hx h0 => by
  obtain ⟨g, off, ha, hlt, _⟩ := h.cells 0 h0
  rw [hx] at ha
  cases ha
  exact hlt
theorem count_drop_succ {L : List Pk} (q : Pk → Bool) {k j : Nat} (hkj : k + 1 ≤ j) (hj : j < L.length) : ((L.drop (k + 1)).take (j + 1 - (k + 1))).countP q = ((L.drop (k + 1)).take (j - (k + 1))).countP q + (if q (L.getD j default) = true then 1 else 0) := by
  have hlt : j - (k + 1) < (L.drop (k + 1)).length := by simp; omega
  have e : j + 1 - (k + 1) = (j - (k + 1)) + 1 := by omega
  rw [e, List.take_add_one, List.getElem?_eq_getElem hlt, List.countP_append]
  have e2 : (L.drop (k + 1))[j - (k + 1)] = L.getD j default := by
    rw [List.getElem_drop]
    have e3 : k + 1 + (j - (k + 1)) = j := by omega
    simp [e3, hj]
  rw [e2]
  simp [List.countP_cons]
/-- Those behind a packet that are told are those with greater numbers. -/
theorem over_drop : ∀ (L : List Pk) (q : Pk → Bool) (k : Nat), (pns L).Pairwise (· < ·) → k < L.length → over (L.getD k default) (L.filter q) = (L.drop (k + 1)).countP q
  | [], q, k, _, hk => by simp at hk
  | p :: L, q, 0, h, _ => by
    have h1 := (List.pairwise_cons.1 (show ((p.pn) :: pns L).Pairwise (· < ·) from h)).1
    have e0 : ∀ r ∈ L, p.pn < r.pn := fun r hr => h1 _ (List.mem_map.2 ⟨r, hr, rfl⟩)
    unfold over
    simp only [List.getD_cons_zero, List.drop_succ_cons, List.drop_zero]
    rw [List.countP_filter, List.countP_cons]
    have : (L.countP fun a => decide (p.pn < a.pn) && q a) = L.countP q := List.countP_congr fun r hr => by simp [e0 r hr]
    rw [this]
    simp
  | p :: L, q, k + 1, h, hk => by
    have hp := List.pairwise_cons.1 (show ((p.pn) :: pns L).Pairwise (· < ·) from h)
    have hk' : k < L.length := by simpa using hk
    have ih := over_drop L q k hp.2 hk'
    have hlt : p.pn < (L.getD k default).pn := hp.1 _ (List.mem_map.2 ⟨_, by simp [hk'], rfl⟩)
    simp only [List.getD_cons_succ, List.drop_succ_cons]
    rw [← ih]
    unfold over
    rw [List.filter_cons]
    split
    · rw [List.countP_cons]
      have : decide ((L.getD k default).pn < p.pn) = false := decide_eq_false (by omega)
      rw [this]
      simp
    · rfl
theorem bump_drop {L : List Pk} {q : Pk → Bool} {k : Nat} (h : (pns L).Pairwise (· < ·)) (hk : k < L.length) {p : Pk} (hp : L.getD k default = p) : bump (L.filter q) p = { p with after := p.after + (L.drop (k + 1)).countP q } := by
  have := over_drop L q k h hk
  rw [hp] at this
  unfold bump
  rw [this]
/-- What the second loop keeps. -/
def RInv (w wr : World) (q : Pk → Bool) (L : List Pk) (k : Nat) (ao : Option Addr) (no co : Nat) (al : Option Addr) (nl cl : Nat) : Prop :=
  no = ((L.take k).filter q).length ∧ nl = ((L.take k).filter fun p => !q p).length ∧ OwnS wr w.heap.size 69 6 ao no co (cellsP ((L.take k).filter q)) ∧ OwnS wr w.heap.size 69 6 al nl cl (cellsP (((L.take k).filter fun p => !q p).map (bump (L.filter q)))) ∧
  (∀ x y, ao = some x → al = some y → x.block ≠ y.block)
def newHas15 (has : Bool) (lg t : Int) : Bool := !has || decide (lg + 1 < t)
def RAckPost (w w' : World) (e : Ending) (l : List Rg) (L : List Pk) (a : Option Addr) (n c : Nat) (has : Bool) (lg la lt top : Int) : Prop :=
  Below w.heap.size w w' ∧ ((refAny l = false ∧ e = .returned (.tuple #[stV a n c has lg la lt top, .slice none 0 0, .bool true])) ∨
    (refAny l = true ∧ top < refTop l ∧ e = .returned (.tuple #[stV a n c has lg la lt top, .slice none 0 0, .bool false])) ∨
    (refAny l = true ∧ ¬ top < refTop l ∧ ∃ (ao : Option Addr) (no co : Nat) (al : Option Addr) (nl cl : Nat), e = .returned (.tuple #[stV al nl cl true (if newHas15 has lg (refTop l) = true then refTop l - 1 else lg) la lt top, .slice ao no co, .bool true]) ∧
      no = (L.filter fun p => inB l p.pn).length ∧ nl = (L.filter fun p => !inB l p.pn).length ∧ Ps w' ao co (L.filter fun p => inB l p.pn) ∧ Ps w' al cl ((L.filter fun p => !inB l p.pn).map (bump (L.filter fun p => inB l p.pn))) ∧
      (∀ x, ao = some x → w.heap.size ≤ x.block) ∧ (∀ x, al = some x → w.heap.size ≤ x.block)))
set_option maxRecDepth 100000 in
set_option maxHeartbeats 16000000 in
theorem rack_any (ar : Option Addr) (nr cr : Nat) (l : List Rg) (L : List Pk) (a : Option Addr) (n c : Nat) (has : Bool) (lg la lt top : Int) (w : World) (hn : n = L.length) (hP : Ps w a c L) (hl : L.length ≤ 1000) (hnr : nr = l.length) (hR : Rs w ar cr l) (hll : l.length ≤ 1000)
    (hg : 0 ≤ lg ∧ lg ≤ 4611686018427387904) (ht : 0 ≤ top ∧ top ≤ 4611686018427387904) (hasc : (pns L).Pairwise (· < ·)) (haf : ∀ p ∈ L, p.after ≤ 1000000) :
    Calls Try.prog 49 #[stV a n c has lg la lt top, .slice ar nr cr] w fun e w' => RAckPost w w' e l L a n c has lg la lt top := by
  unfold stV
  have HN := Lib.hid hn
  have HP := Lib.hid hP
  have HNR := Lib.hid hnr
  have HR := Lib.hid hR
  have HASC := Lib.hid hasc
  have HAF := Lib.hid haf
  have hn1 : n ≤ 1000 := by omega
  have hn2 : nr ≤ 1000 := by omega
  have hRb : ∀ r ∈ l, 0 ≤ r.2 ∧ r.2 ≤ 18446744073709551615 := fun r hr => (hR.bnd r hr).2
  have HRB := Lib.hid hRb
  have HRA : Hid (∀ r ∈ l, 0 ≤ r.1) := Lib.hid (fun r hr => (hR.bnd r hr).1.1)
  have HNQ : Hid ((∀ x, a = some x → 0 < L.length → x.block ≠ w.heap.size) ∧ (∀ x, ar = some x → 0 < l.length → x.block ≠ w.heap.size)) := Lib.hid ⟨fun x hx h0 => by have := hP.lt x hx h0; omega, fun x hx h0 => by have := hR.lt x hx h0; omega⟩
  clear hn hP hl hnr hR hll hasc haf hRb
  go_enter Try.func49, Try.ntmps49
  go_wp2_with (fail)
  have x0 : Blk ((w.alloc (.cells #[.slice a n c, .bool has, .int .u64 lg, .int .u64 la, .int .u64 lt, .int .u64 top] 64)).alloc (.cells #[.slice none 0 0, .bool false, .int .u64 0, .int .u64 0, .int .u64 0, .int .u64 0] 64)) w.heap.size #[.slice a n c, .bool has, .int .u64 lg, .int .u64 la, .int .u64 lt, .int .u64 top] 64 := (Blk.new w _ _).alloc _
  have x1 : Blk ((w.alloc (.cells #[.slice a n c, .bool has, .int .u64 lg, .int .u64 la, .int .u64 lt, .int .u64 top] 64)).alloc (.cells #[.slice none 0 0, .bool false, .int .u64 0, .int .u64 0, .int .u64 0, .int .u64 0] 64)) (w.heap.size + 1) #[.slice none 0 0, .bool false, .int .u64 0, .int .u64 0, .int .u64 0, .int .u64 0] 64 := by
    have := Blk.new (w.alloc (.cells #[.slice a n c, .bool has, .int .u64 lg, .int .u64 la, .int .u64 lt, .int .u64 top] 64)) #[.slice none 0 0, .bool false, .int .u64 0, .int .u64 0, .int .u64 0, .int .u64 0] 64
    simpa using this
  have b0 : Below w.heap.size w ((w.alloc (.cells #[.slice a n c, .bool has, .int .u64 lg, .int .u64 la, .int .u64 lt, .int .u64 top] 64)).alloc (.cells #[.slice none 0 0, .bool false, .int .u64 0, .int .u64 0, .int .u64 0, .int .u64 0] 64)) := (((Below.refl _ _).alloc (Nat.le_refl _) _).alloc (by simp) _)
  have z0 : ((w.alloc (.cells #[.slice a n c, .bool has, .int .u64 lg, .int .u64 la, .int .u64 lt, .int .u64 top] 64)).alloc (.cells #[.slice none 0 0, .bool false, .int .u64 0, .int .u64 0, .int .u64 0, .int .u64 0] 64)).heap.size = w.heap.size + 1 + 1 := by simp
  obtain ⟨W0, hW0⟩ : ∃ z, (w.alloc (.cells #[.slice a n c, .bool has, .int .u64 lg, .int .u64 la, .int .u64 lt, .int .u64 top] 64)).alloc (.cells #[.slice none 0 0, .bool false, .int .u64 0, .int .u64 0, .int .u64 0, .int .u64 0] 64) = z := ⟨_, rfl⟩
  rw [hW0] at x0 x1 b0 z0 ⊢
  obtain ⟨q1, hq1⟩ : ∃ z, w.heap.size + 1 = z := ⟨_, rfl⟩
  rw [hq1] at x1 z0 ⊢
  obtain ⟨q0, hq0⟩ : ∃ z, w.heap.size = z := ⟨_, rfl⟩
  have hn01 : ¬ q0 = q1 := by omega
  rw [hq0] at x0 hq1 HNQ ⊢
  have l0 : q0 < W0.heap.size := by omega
  have l1 : q1 < W0.heap.size := by omega
  have HQ : Hid (w.heap.size ≤ q0 ∧ w.heap.size ≤ q1 ∧ w.heap.size ≤ W0.heap.size) := Lib.hid (by omega)
  have HP0 := Lib.hid (HP.out.below b0)
  have HR0 := Lib.hid (HR.out.below b0)
  have HB0 := Lib.hid b0
  have X0 := Lib.hid x0
  have X1 := Lib.hid x1
  clear x0 x1 hW0 b0 HP HR z0 hq0 hq1
  go_loopw [7, 8, 9] (fun s t i wr => ∃ (k : Nat) (v : Bool) (z : Int), i = .int .i64 k ∧ s = .bool v ∧ t = .int .u64 z ∧ k ≤ nr ∧ Below W0.heap.size W0 wr ∧ Hid (refAny (l.take k) = v ∧ refTop (l.take k) = z)) (fun _ _ i _ => nr - (intOf i).toNat)
  case atStart => exact ⟨0, false, 0, rfl, rfl, rfl, by omega, Below.refl _ _, Lib.hid ⟨rfl, rfl⟩⟩
  case round =>
    obtain ⟨k, v, z, rfl, rfl, rfl, hk, bw, hok⟩ := hrel
    by_cases hlt : k < nr
    · have hkl : k < l.length := by have := HNR.out; omega
      obtain ⟨g, off, rfl, hg1, c0, c1⟩ := (HR0.out.below bw).at_ hkl
      obtain ⟨i0, i1⟩ := HR0.out.bnd (l.getD k default) (by simp [hkl])
      obtain ⟨r1, hr1⟩ : ∃ x, (l.getD k default).1 = x := ⟨_, rfl⟩
      obtain ⟨r2, hr2⟩ : ∃ x, (l.getD k default).2 = x := ⟨_, rfl⟩
      have s1 := refAny_succ hkl
      have s2 := refTop_succ hkl
      unfold topStep at s2
      have hzb := top_bnd (l.take k) 0 (fun q hq => HRB.out q (List.mem_of_mem_take hq)) (by omega)
      rw [show (l.take k).foldl topStep 0 = z from hok.out.2] at hzb
      rw [hok.out.1, hr1, hr2] at s1
      rw [hok.out.2, hr1, hr2] at s2
      rw [hr1] at c0 i0
      rw [hr2] at c1 i1
      have S1 := Lib.hid s1
      have S2 := Lib.hid s2
      have bw2 : Below W0.heap.size W0 wr.drew := below_on bw (Below.refl _ _).drew bw.size
      clear s1 s2 hok hr1 hr2
      by_cases g1 : r1 < r2
      · have S1' : Hid (refAny (l.take (k + 1)) = true) := Lib.hid (by rw [S1.out]; simp [g1])
        by_cases g2 : z < r2
        · have S2' : Hid (refTop (l.take (k + 1)) = r2) := Lib.hid (by rw [S2.out]; simp [g1, g2])
          go_wp2_with (fail)
          refine rg_start 11 ?_
          refine rg_same fun p hx hne hC => ?_
          refine rg_quiet 0 [0,1,2,3,4,5,6,7,8,9,10] hC ?_
          simp only [pickD, List.map_cons, List.map_nil, List.getD_cons_zero, List.getD_cons_succ]; repeat (go_big_quiet_step (fail))
          refine wpQuiet_nil ?_
          refine rg_end ?_
          clear hx hne hC
          go_wp2_with (fail)
          exact ⟨⟨k + 1, true, r2, by go_num, rfl, rfl, by omega, bw2, Lib.hid ⟨S1'.out, S2'.out⟩⟩, by simp [intOf]; omega⟩
        · have S2' : Hid (refTop (l.take (k + 1)) = z) := Lib.hid (by rw [S2.out]; simp [g2])
          go_wp2_with (fail)
          refine rg_start 11 ?_
          refine rg_same fun p hx hne hC => ?_
          refine rg_quiet 0 [0,1,2,3,4,5,6,7,8,9,10] hC ?_
          simp only [pickD, List.map_cons, List.map_nil, List.getD_cons_zero, List.getD_cons_succ]; repeat (go_big_quiet_step (fail))
          refine wpQuiet_nil ?_
          refine rg_end ?_
          clear hx hne hC
          go_wp2_with (fail)
          exact ⟨⟨k + 1, true, z, by go_num, rfl, rfl, by omega, bw2, Lib.hid ⟨S1'.out, S2'.out⟩⟩, by simp [intOf]; omega⟩
      · have S1' : Hid (refAny (l.take (k + 1)) = v) := Lib.hid (by rw [S1.out]; simp [g1])
        have S2' : Hid (refTop (l.take (k + 1)) = z) := Lib.hid (by rw [S2.out]; simp [g1])
        go_wp2_with (fail)
        refine rg_start 11 ?_
        refine rg_same fun p hx hne hC => ?_
        refine rg_quiet 0 [0,1,2,3,4,5,6,7,8,9,10] hC ?_
        simp only [pickD, List.map_cons, List.map_nil, List.getD_cons_zero, List.getD_cons_succ]; repeat (go_big_quiet_step (fail))
        refine wpQuiet_nil ?_
        refine rg_end ?_
        clear hx hne hC
        go_wp2_with (fail)
        exact ⟨⟨k + 1, v, z, by go_num, rfl, rfl, by omega, bw2, Lib.hid ⟨S1'.out, S2'.out⟩⟩, by simp [intOf]; omega⟩
    · obtain rfl : k = nr := by omega
      have hok2 := hok.out
      rw [show l.take k = l by rw [HNR.out, List.take_length]] at hok2
      obtain ⟨o1, o2⟩ := hok2
      have hzb := top_bnd l 0 HRB.out (by omega)
      rw [show l.foldl topStep 0 = z from o2] at hzb
      have O1 := Lib.hid o1
      have O2 := Lib.hid o2
      have BW := Lib.hid bw
      have x0 := X0.out.below bw
      have x1 := X1.out.below bw
      have s0 := x0.cell 0 _ rfl
      have s1 := x0.cell 1 _ rfl
      have s2 := x0.cell 2 _ rfl
      have s3 := x0.cell 3 _ rfl
      have s4 := x0.cell 4 _ rfl
      have s5 := x0.cell 5 _ rfl
      have y0 := x1.cell 0 _ rfl
      have y1 := x1.cell 1 _ rfl
      have y2 := x1.cell 2 _ rfl
      have y3 := x1.cell 3 _ rfl
      have y4 := x1.cell 4 _ rfl
      have y5 := x1.cell 5 _ rfl
      have f0 := x1.free 0
      have f1 := x1.free 1
      have f2 := x1.free 2
      have f3 := x1.free 3
      have f4 := x1.free 4
      have f5 := x1.free 5
      have g1 := x0.free 1
      have g2 := x0.free 2
      have XR0 := Lib.hid x0
      have XR1 := Lib.hid x1
      have hPw := HP0.out.below bw
      have hRw := HR0.out.below bw
      have HPW := Lib.hid hPw
      have HRW := Lib.hid hRw
      have hsz : W0.heap.size ≤ wr.heap.size := bw.size
      clear o1 o2 x0 x1 hok bw hPw hRw
      cases v with
      | false =>
        go_wp2_with (fail)
        have hu0 := XR1.out
        have hu1 := hu0.set 0 (.slice a n c)
        have hu2 := hu1.set 1 (.bool has)
        have hu3 := hu2.set 2 (.int .u64 lg)
        have hu4 := hu3.set 3 (.int .u64 la)
        have hu5 := hu4.set 4 (.int .u64 lt)
        have hu6 := hu5.set 5 (.int .u64 top)
        have hu7 : Blk _ q1 #[.slice a n c, .bool has, .int .u64 lg, .int .u64 la, .int .u64 lt, .int .u64 top] 64 := hu6.congr (by simp)
        have b9 := (((((((below_on HB0.out BW.out HB0.out.size).setCell (p := ⟨q1, 0, none⟩) HQ.out.2.1 (.slice a n c)).setCell (p := ⟨q1, 1, none⟩) HQ.out.2.1 (.bool has)).setCell (p := ⟨q1, 2, none⟩) HQ.out.2.1 (.int .u64 lg)).setCell (p := ⟨q1, 3, none⟩) HQ.out.2.1 (.int .u64 la)).setCell (p := ⟨q1, 4, none⟩) HQ.out.2.1 (.int .u64 lt)).setCell (p := ⟨q1, 5, none⟩) HQ.out.2.1 (.int .u64 top))
        obtain ⟨w9, hw9⟩ : ∃ z, ((((((wr.setCell ⟨q1, 0, none⟩ (.slice a n c)).setCell ⟨q1, 1, none⟩ (.bool has)).setCell ⟨q1, 2, none⟩ (.int .u64 lg)).setCell ⟨q1, 3, none⟩ (.int .u64 la)).setCell ⟨q1, 4, none⟩ (.int .u64 lt)).setCell ⟨q1, 5, none⟩ (.int .u64 top)) = z := ⟨_, rfl⟩
        rw [hw9] at hu7 b9 ⊢
        clear hu0 hu1 hu2 hu3 hu4 hu5 hu6 hw9
        have t0 := hu7.cell 0 _ rfl
        have t1 := hu7.cell 1 _ rfl
        have t2 := hu7.cell 2 _ rfl
        have t3 := hu7.cell 3 _ rfl
        have t4 := hu7.cell 4 _ rfl
        have t5 := hu7.cell 5 _ rfl
        try simp only [Exit.inBlock, Exit.then]
        refine bodyPost_ret (by simp [results, Try.results49, go_sem, t0, t1, t2, t3, t4, t5]; try rfl) rfl ?_
        exact ⟨b9, .inl ⟨O1.out, rfl⟩⟩
      | true =>
        by_cases g0 : top < z
        · skip
          go_wp2_with (fail)
          have hu0 := XR1.out
          have hu1 := hu0.set 0 (.slice a n c)
          have hu2 := hu1.set 1 (.bool has)
          have hu3 := hu2.set 2 (.int .u64 lg)
          have hu4 := hu3.set 3 (.int .u64 la)
          have hu5 := hu4.set 4 (.int .u64 lt)
          have hu6 := hu5.set 5 (.int .u64 top)
          have hu7 : Blk _ q1 #[.slice a n c, .bool has, .int .u64 lg, .int .u64 la, .int .u64 lt, .int .u64 top] 64 := hu6.congr (by simp)
          have b9 := (((((((below_on HB0.out BW.out HB0.out.size).setCell (p := ⟨q1, 0, none⟩) HQ.out.2.1 (.slice a n c)).setCell (p := ⟨q1, 1, none⟩) HQ.out.2.1 (.bool has)).setCell (p := ⟨q1, 2, none⟩) HQ.out.2.1 (.int .u64 lg)).setCell (p := ⟨q1, 3, none⟩) HQ.out.2.1 (.int .u64 la)).setCell (p := ⟨q1, 4, none⟩) HQ.out.2.1 (.int .u64 lt)).setCell (p := ⟨q1, 5, none⟩) HQ.out.2.1 (.int .u64 top))
          obtain ⟨w9, hw9⟩ : ∃ z, ((((((wr.setCell ⟨q1, 0, none⟩ (.slice a n c)).setCell ⟨q1, 1, none⟩ (.bool has)).setCell ⟨q1, 2, none⟩ (.int .u64 lg)).setCell ⟨q1, 3, none⟩ (.int .u64 la)).setCell ⟨q1, 4, none⟩ (.int .u64 lt)).setCell ⟨q1, 5, none⟩ (.int .u64 top)) = z := ⟨_, rfl⟩
          rw [hw9] at hu7 b9 ⊢
          clear hu0 hu1 hu2 hu3 hu4 hu5 hu6 hw9
          have t0 := hu7.cell 0 _ rfl
          have t1 := hu7.cell 1 _ rfl
          have t2 := hu7.cell 2 _ rfl
          have t3 := hu7.cell 3 _ rfl
          have t4 := hu7.cell 4 _ rfl
          have t5 := hu7.cell 5 _ rfl
          try simp only [Exit.inBlock, Exit.then]
          refine bodyPost_ret (by simp [results, Try.results49, go_sem, t0, t1, t2, t3, t4, t5]; try rfl) rfl ?_
          exact ⟨b9, .inr (.inl ⟨O1.out, by rw [O2.out]; exact g0, rfl⟩)⟩
        · have hzt : 1 ≤ z := by have := top_pos HRA.out O1.out; have := O2.out; omega
          cases has with
          | false =>
            go_wp2_with (fail)
            have hu0 := XR0.out
            have hu1 := hu0.set 2 (.int .u64 (z - 1))
            have hu2 := hu1.set 1 (.bool true)
            have hu7 : Blk _ q0 #[.slice a n c, .bool true, .int .u64 (z - 1), .int .u64 la, .int .u64 lt, .int .u64 top] 64 := hu2.congr (by simp)
            have on1 := (((Only.refl (· = q0) wr).set 2 (.int .u64 (z - 1))).set 1 (.bool true))
            obtain ⟨w1, hw1⟩ : ∃ ww, ((wr.setCell ⟨q0, 2, none⟩ (.int .u64 (z - 1))).setCell ⟨q0, 1, none⟩ (.bool true)) = ww := ⟨_, rfl⟩
            rw [hw1] at hu7 on1 ⊢
            clear hu0 hu1 hu2 hw1 s0 s1 s2 s3 s4 s5 y0 y1 y2 y3 y4 y5 f0 f1 f2 f3 f4 f5 g1 g2
            obtain ⟨lg', hlg'⟩ : ∃ x, (z - 1 : Int) = x := ⟨_, rfl⟩
            rw [hlg'] at hu7
            have HLG : Hid ((if newHas15 false lg (refTop l) = true then refTop l - 1 else lg) = lg') := Lib.hid (by rw [O2.out]; unfold newHas15; simp; exact hlg')
            have hne0 : ∀ x, a = some x → 0 < L.length → x.block ≠ q0 := fun x hx h0 => HNQ.out.1 x hx h0
            have hPs1 := HPW.out.only2 on1 (fun x hx h0 => hne0 x hx h0)
            have hRs1 := HRW.out.only on1 (fun x hx => HNQ.out.2 x hx)
            have b1 : Below w.heap.size w w1 := below_onto (below_on HB0.out BW.out HB0.out.size) on1 (by have := HQ.out; omega) (by intro z hz h; have := HQ.out; omega)
            have hsz1 : W0.heap.size ≤ w1.heap.size := by have := on1.size; omega
            have u1 := on1.blk XR1.out (by omega)
            have HS := Lib.hid hu7
            have HU1 := Lib.hid u1
            have HP1 := Lib.hid hPs1
            have HR1 := Lib.hid hRs1
            have B1 := Lib.hid b1
            have lq0 : q0 < w1.heap.size := by omega
            have e0 := hu7.cell 0 _ rfl
            clear hu7 u1 hPs1 hRs1 b1 on1 hne0 hlg' HPW HRW BW XR0 XR1
            go_loopw [10, 11, 12, 13, 14] (fun o l' i _ _ wr => ∃ (k : Nat) (ao : Option Addr) (no co : Nat) (al : Option Addr) (nl cl : Nat), i = .int .i64 k ∧ o = .slice ao no co ∧ l' = .slice al nl cl ∧ k ≤ n ∧ Below w1.heap.size w1 wr ∧ Hid (RInv w1 wr (fun p => inB l p.pn) L k ao no co al nl cl)) (fun _ _ i _ _ _ => n - (intOf i).toNat)
            case atStart => exact ⟨0, none, 0, 0, none, 0, 0, rfl, rfl, rfl, by omega, Below.refl _ _, Lib.hid ⟨rfl, rfl, OwnS.nil _ _ _ _, OwnS.nil _ _ _ _, by simp⟩⟩
            case round =>
              clear e0
              obtain ⟨k', ao, no, co, al, nl, cl, rfl, rfl, rfl, hk', bw, hok⟩ := hrel
              have e0 := (HS.out.below bw).cell 0 _ rfl
              have hno : no ≤ 1000 ∧ nl ≤ 1000 := by
                have h1 : no = ((L.take k').filter fun p => inB l p.pn).length := hok.out.1
                have h2 : nl = ((L.take k').filter fun p => !inB l p.pn).length := hok.out.2.1
                have h3 := List.length_filter_le (fun p => inB l p.pn) (L.take k')
                have h4 := List.length_filter_le (fun p => !inB l p.pn) (L.take k')
                rw [List.length_take] at h3 h4
                have h5 := Nat.min_le_left k' L.length
                omega
              by_cases hlt2 : k' < n
              · have hkL : k' < L.length := by have := HN.out; omega
                obtain ⟨gb, go, hga, hgb, pp, hpe, hpm, d0, d1, d2, d3, d4, d5, i0, i1, i2, i4⟩ := (HP1.out.below bw).at_ hkL
                subst hga
                have hin := in_any ar k cr l pp.pn wr HNR.out i0 (HR1.out.below bw)
                obtain ⟨v, hv⟩ : ∃ v, inB l pp.pn = v := ⟨_, rfl⟩
                rw [hv] at hin
                have HV := Lib.hid hv
                have HIN := Lib.hid hin
                have HPE := Lib.hid hpe
                have HPM := Lib.hid hpm
                clear hv hin hpe hpm
                go_wp2_with (fail)
                refine HIN.out.mono ?_
                rintro e w2 ⟨rfl, rfl⟩
                cases v with
                | true =>
                  have hts : (L.take (k' + 1)).filter (fun p => inB l p.pn) = (L.take k').filter (fun p => inB l p.pn) ++ [pp] := by
                    rw [take_succ_filter hkL, HPE.out]; simp [HV.out]
                  have htl : (L.take (k' + 1)).filter (fun p => !inB l p.pn) = (L.take k').filter (fun p => !inB l p.pn) := by
                    rw [take_succ_filter hkL (fun p => !inB l p.pn), HPE.out]; simp [HV.out]
                  have HTS := Lib.hid hts
                  have HTL := Lib.hid htl
                  clear hts htl
                  go_wp2_with (at_builtin; refine Stop.mk ?_)
                  refine Stop.out ?_
                  refine wpList_app pk_et rfl rfl (base := w1.heap.size) rfl rfl (hok.out.2.2.1.below ((Below.refl _ _).alloc (Nat.le_refl _) _)) (SrcAt.pk w2 pp 69) (by simp only [maxLen]; omega) (by omega) (by have := bw.size; simp; omega) ?_
                  intro a5 c5 w5 ho5 on5 at5
                  have hr : RInv w1 w5 (fun p => inB l p.pn) L (k' + 1) a5 (no + 1) c5 al nl cl := by
                    obtain ⟨r1, r2, r3, r4, r5⟩ := hok.out
                    refine ⟨by rw [HTS.out, List.length_append, ← r1]; rfl, by rw [HTL.out]; exact r2, by rw [HTS.out, cellsP_append]; exact ho5, ?_, ?_⟩
                    · rw [HTL.out]
                      refine (r4.below ((Below.refl _ _).alloc (Nat.le_refl _) _)).only on5 ?_
                      rintro x hx ⟨y, hy, he⟩
                      exact r5 y x hy hx he
                    · intro x y hx hy he
                      rcases at5 x hx with ⟨z, hz, h6⟩ | h6
                      · exact r5 z y hz hy (by rw [← h6]; exact he)
                      · have := (r4.block hy).2.1
                        simp at h6
                        omega
                  have b5 : Below w1.heap.size w1 w5 := below_onto (bw.alloc bw.size (.cells #[.int .u64 pp.pn, .int .u64 pp.at_, .int .u64 pp.size, .bool pp.el, .int .u64 pp.after, .slice pp.fa pp.fn pp.fc] 69)) on5 (by have := bw.size; simp; omega) (by rintro z hz ⟨y, hy, rfl⟩; have := (hok.out.2.2.1.block hy).1; omega)
                  have HRI := Lib.hid hr
                  have B5 := Lib.hid b5
                  clear ho5 on5 at5 hr b5 e0
                  go_wp2_with (fail)
                  exact ⟨⟨k' + 1, a5, no + 1, c5, al, nl, cl, by go_num, rfl, rfl, by omega, B5.out, HRI⟩, by simp [intOf]; omega⟩
                | false =>
                  have hts : (L.take (k' + 1)).filter (fun p => inB l p.pn) = (L.take k').filter (fun p => inB l p.pn) := by
                    rw [take_succ_filter hkL, HPE.out]; simp [HV.out]
                  have htl : (L.take (k' + 1)).filter (fun p => !inB l p.pn) = (L.take k').filter (fun p => !inB l p.pn) ++ [pp] := by
                    rw [take_succ_filter hkL (fun p => !inB l p.pn), HPE.out]; simp [HV.out]
                  have HTS := Lib.hid hts
                  have HTL := Lib.hid htl
                  have haf := HAF.out pp HPM.out
                  clear hts htl
                  go_wp2_with (fail)
                  have xb := Blk.new w2 #[.int .u64 pp.pn, .int .u64 pp.at_, .int .u64 pp.size, .bool pp.el, .int .u64 pp.after, .slice pp.fa pp.fn pp.fc] 69
                  have bb := (Below.refl w2.heap.size w2).alloc (Nat.le_refl _) (.cells #[.int .u64 pp.pn, .int .u64 pp.at_, .int .u64 pp.size, .bool pp.el, .int .u64 pp.after, .slice pp.fa pp.fn pp.fc] 69)
                  obtain ⟨w3, hw3⟩ : ∃ z, w2.alloc (.cells #[.int .u64 pp.pn, .int .u64 pp.at_, .int .u64 pp.size, .bool pp.el, .int .u64 pp.after, .slice pp.fa pp.fn pp.fc] 69) = z := ⟨_, rfl⟩
                  have hsz3 : w3.heap.size = w2.heap.size + 1 := by rw [← hw3]; simp
                  rw [hw3] at xb bb ⊢
                  obtain ⟨qb, hqb⟩ : ∃ z, w2.heap.size = z := ⟨_, rfl⟩
                  have lqb : qb < w3.heap.size := by omega
                  have hq0b : q0 < qb := by have := bw.size; omega
                  have hq0n : ¬ q0 = qb := by omega
                  have HQB := Lib.hid hqb
                  rw [hqb] at xb ⊢
                  have e03 := (bb.cell (p := ⟨q0, 0, none⟩) (by show q0 < w2.heap.size; omega)).trans e0
                  have XB : Hid (Blk w3 qb #[.int .u64 pp.pn, .int .u64 pp.at_, .int .u64 pp.size, .bool pp.el, .int .u64 (pp.after + ((0 : Nat) : Int)), .slice pp.fa pp.fn pp.fc] 69) := Lib.hid (xb.congr (by simp))
                  have BB := Lib.hid bb
                  clear xb bb hqb e0 hsz3
                  go_loopw [14] (fun i wr => ∃ (j zc : Nat), i = .int .i64 j ∧ k' + 1 ≤ j ∧ j ≤ n ∧ zc ≤ j ∧ Below w2.heap.size w2 wr ∧ qb < wr.heap.size ∧ Hid (Blk wr qb #[.int .u64 pp.pn, .int .u64 pp.at_, .int .u64 pp.size, .bool pp.el, .int .u64 (pp.after + (zc : Int)), .slice pp.fa pp.fn pp.fc] 69) ∧ Hid (zc = ((L.drop (k' + 1)).take (j - (k' + 1))).countP fun p => inB l p.pn)) (fun i _ => n - (intOf i).toNat)
                  case atStart => exact ⟨k' + 1, 0, by go_num, by omega, by omega, by omega, BB.out, lqb, XB, Lib.hid (by simp)⟩
                  case round =>
                    clear XB e03
                    obtain ⟨j, zc, rfl, hj1, hj2, hzc, bj, lj, hxb, hcnt⟩ := hrel
                    have bwj : Below w1.heap.size w1 wr := below_on bw bj bw.size
                    have e0 := (HS.out.below bwj).cell 0 _ rfl
                    by_cases hlt3 : j < n
                    · have hjL : j < L.length := by have := HN.out; omega
                      obtain ⟨gb2, go2, hga2, hgb2, p2, hpe2, hpm2, f0, _, _, _, _, _, i02, _⟩ := (HP1.out.below bwj).at_ hjL
                      cases hga2
                      have hin2 := in_any ar k cr l p2.pn wr HNR.out i02 (HR1.out.below bwj)
                      obtain ⟨v2, hv2⟩ : ∃ v, inB l p2.pn = v := ⟨_, rfl⟩
                      rw [hv2] at hin2
                      have hcs := count_drop_succ (L := L) (fun p => inB l p.pn) (k := k') (j := j) hj1 hjL
                      rw [hpe2, ← hcnt.out] at hcs
                      simp only [hv2] at hcs
                      have HCS := Lib.hid hcs
                      have HIN2 := Lib.hid hin2
                      clear hv2 hin2 hcs hpe2 hpm2 hcnt
                      go_wp2_with (fail)
                      refine HIN2.out.mono ?_
                      rintro e w4 ⟨rfl, rfl⟩
                      cases v2 with
                      | true =>
                        have m4 := hxb.out.cell 4 _ rfl
                        have m4f := hxb.out.free 4
                        have hset := (hxb.out.set 4 (.int .u64 (pp.after + (zc : Int) + 1))).congr (cs' := #[.int .u64 pp.pn, .int .u64 pp.at_, .int .u64 pp.size, .bool pp.el, .int .u64 (pp.after + ((zc + 1 : Nat) : Int)), .slice pp.fa pp.fn pp.fc]) (by simp; omega)
                        have hb4 := bj.setCell (p := ⟨qb, 4, none⟩) (by have := HQB.out; show w2.heap.size ≤ qb; omega) (.int .u64 (pp.after + (zc : Int) + 1))
                        have HSET := Lib.hid hset
                        have HB4 := Lib.hid hb4
                        clear hset hb4
                        go_wp2_with (fail)
                        exact ⟨⟨j + 1, zc + 1, by go_num, by omega, by omega, by omega, HB4.out, by simpa using lj, HSET, Lib.hid (by rw [HCS.out]; simp)⟩, by simp [intOf]; omega⟩
                      | false =>
                        go_wp2_with (fail)
                        exact ⟨⟨j + 1, zc, by go_num, by omega, by omega, by omega, bj, lj, hxb, Lib.hid (by rw [HCS.out]; simp)⟩, by simp [intOf]; omega⟩
                    · obtain rfl : j = n := by omega
                      have hcall : (zc : Int) = ((L.drop (k' + 1)).countP fun p => inB l p.pn) := by
                        have := hcnt.out
                        rw [List.take_of_length_le (by have := HN.out; simp; omega)] at this
                        exact_mod_cast this
                      have hbump := bump_drop (q := fun p => inB l p.pn) HASC.out hkL HPE.out
                      rw [← hcall] at hbump
                      have HBU := Lib.hid hbump
                      have m0 := hxb.out.cell 0 _ rfl
                      have m1 := hxb.out.cell 1 _ rfl
                      have m2 := hxb.out.cell 2 _ rfl
                      have m3 := hxb.out.cell 3 _ rfl
                      have m4 := hxb.out.cell 4 _ rfl
                      have m5 := hxb.out.cell 5 _ rfl
                      clear hcall hbump hcnt
                      go_wp2_with (at_builtin; refine Stop.mk ?_)
                      refine Stop.out ?_
                      refine wpList_app pk_et rfl rfl (base := w1.heap.size) rfl rfl ((hok.out.2.2.2.1.below bj).below ((Below.refl _ _).alloc (Nat.le_refl _) _)) (SrcAt.pk wr { pp with after := pp.after + (zc : Int) } 69) (by simp only [maxLen]; omega) (by omega) (by have := bwj.size; simp; omega) ?_
                      intro a5 c5 w5 ho5 on5 at5
                      have hr : RInv w1 w5 (fun p => inB l p.pn) L (k' + 1) ao no co a5 (nl + 1) c5 := by
                        obtain ⟨r1, r2, r3, r4, r5⟩ := hok.out
                        refine ⟨by rw [HTS.out]; exact r1, by rw [HTL.out, List.length_append, ← r2]; rfl, ?_, ?_, ?_⟩
                        · rw [HTS.out]
                          refine ((r3.below bj).below ((Below.refl _ _).alloc (Nat.le_refl _) _)).only on5 ?_
                          rintro x hx ⟨y, hy, he⟩
                          exact r5 x y hx hy he.symm
                        · rw [HTL.out, List.map_append, cellsP_append, List.map_cons, List.map_nil, HBU.out]; exact ho5
                        · intro x y hx hy he
                          rcases at5 y hy with ⟨z, hz, h6⟩ | h6
                          · exact r5 x z hx hz (by rw [← h6]; exact he)
                          · have := (r3.block hx).2.1
                            have := bj.size
                            simp at h6
                            omega
                      have b5 : Below w1.heap.size w1 w5 := below_onto (bwj.alloc bwj.size (.cells #[.int .u64 pp.pn, .int .u64 pp.at_, .int .u64 pp.size, .bool pp.el, .int .u64 (pp.after + (zc : Int)), .slice pp.fa pp.fn pp.fc] 69)) on5 (by have := bwj.size; simp; omega) (by rintro z hz ⟨y, hy, rfl⟩; have := (hok.out.2.2.2.1.block hy).1; omega)
                      have HRI := Lib.hid hr
                      have B5 := Lib.hid b5
                      clear ho5 on5 at5 hr b5 e0 m0 m1 m2 m3 m4 m5
                      go_wp2_with (fail)
                      exact ⟨⟨k' + 1, ao, no, co, a5, nl + 1, c5, by go_num, rfl, rfl, by omega, B5.out, HRI⟩, by simp [intOf]; omega⟩
              · obtain rfl : k' = n := by omega
                have hok2 := hok.out
                unfold RInv at hok2
                rw [show L.take k' = L by rw [HN.out, List.take_length]] at hok2
                obtain ⟨r1, r2, r3, r4, r5⟩ := hok2
                have x0 := HS.out.below bw
                have x1 := HU1.out.below bw
                have s1 := x0.cell 1 _ rfl
                have s2 := x0.cell 2 _ rfl
                have s3 := x0.cell 3 _ rfl
                have s4 := x0.cell 4 _ rfl
                have s5 := x0.cell 5 _ rfl
                have s0f := x0.free 0
                have y0 := x1.cell 0 _ rfl
                have y1 := x1.cell 1 _ rfl
                have y2 := x1.cell 2 _ rfl
                have y3 := x1.cell 3 _ rfl
                have y4 := x1.cell 4 _ rfl
                have y5 := x1.cell 5 _ rfl
                have f0 := x1.free 0
                have f1 := x1.free 1
                have f2 := x1.free 2
                have f3 := x1.free 3
                have f4 := x1.free 4
                have f5 := x1.free 5
                have XF1 := Lib.hid x1
                have R1 := Lib.hid r1
                have R2 := Lib.hid r2
                have R3 := Lib.hid r3
                have R4 := Lib.hid r4
                have BF := Lib.hid bw
                have hszf := bw.size
                clear r1 r2 r3 r4 r5 hok bw x0 x1
                go_wp2_with (fail)
                have hu0 := ((Only.refl (· = q0) wr).set 0 (.slice al nl cl)).blk XF1.out (by omega)
                have hu1 := hu0.set 0 (.slice al nl cl)
                have hu2 := hu1.set 1 (.bool true)
                have hu3 := hu2.set 2 (.int .u64 lg')
                have hu4 := hu3.set 3 (.int .u64 la)
                have hu5 := hu4.set 4 (.int .u64 lt)
                have hu6 := hu5.set 5 (.int .u64 top)
                have hu7 : Blk _ q1 #[.slice al nl cl, .bool true, .int .u64 lg', .int .u64 la, .int .u64 lt, .int .u64 top] 64 := hu6.congr (by simp)
                have on9 := ((((((((Only.refl (fun z => z = q0 ∨ z = q1) wr).setCell (p := ⟨q0, 0, none⟩) (.inl (.inl rfl)) (.slice al nl cl)).setCell (p := ⟨q1, 0, none⟩) (.inl (.inr rfl)) (.slice al nl cl)).setCell (p := ⟨q1, 1, none⟩) (.inl (.inr rfl)) (.bool true)).setCell (p := ⟨q1, 2, none⟩) (.inl (.inr rfl)) (.int .u64 lg')).setCell (p := ⟨q1, 3, none⟩) (.inl (.inr rfl)) (.int .u64 la)).setCell (p := ⟨q1, 4, none⟩) (.inl (.inr rfl)) (.int .u64 lt)).setCell (p := ⟨q1, 5, none⟩) (.inl (.inr rfl)) (.int .u64 top))
                have b9 := ((((((((below_on B1.out BF.out B1.out.size).setCell (p := ⟨q0, 0, none⟩) HQ.out.1 (.slice al nl cl)).setCell (p := ⟨q1, 0, none⟩) HQ.out.2.1 (.slice al nl cl)).setCell (p := ⟨q1, 1, none⟩) HQ.out.2.1 (.bool true)).setCell (p := ⟨q1, 2, none⟩) HQ.out.2.1 (.int .u64 lg')).setCell (p := ⟨q1, 3, none⟩) HQ.out.2.1 (.int .u64 la)).setCell (p := ⟨q1, 4, none⟩) HQ.out.2.1 (.int .u64 lt)).setCell (p := ⟨q1, 5, none⟩) HQ.out.2.1 (.int .u64 top))
                obtain ⟨w9, hw9⟩ : ∃ z, (((((((wr.setCell ⟨q0, 0, none⟩ (.slice al nl cl)).setCell ⟨q1, 0, none⟩ (.slice al nl cl)).setCell ⟨q1, 1, none⟩ (.bool true)).setCell ⟨q1, 2, none⟩ (.int .u64 lg')).setCell ⟨q1, 3, none⟩ (.int .u64 la)).setCell ⟨q1, 4, none⟩ (.int .u64 lt)).setCell ⟨q1, 5, none⟩ (.int .u64 top)) = z := ⟨_, rfl⟩
                rw [hw9] at hu7 on9 b9 ⊢
                clear hu0 hu1 hu2 hu3 hu4 hu5 hu6 hw9
                have t0 := hu7.cell 0 _ rfl
                have t1 := hu7.cell 1 _ rfl
                have t2 := hu7.cell 2 _ rfl
                have t3 := hu7.cell 3 _ rfl
                have t4 := hu7.cell 4 _ rfl
                have t5 := hu7.cell 5 _ rfl
                try simp only [Exit.inBlock, Exit.then]
                refine bodyPost_ret (by simp [results, Try.results49, go_sem, t0, t1, t2, t3, t4, t5]; try rfl) rfl ?_
                have hL1 : ∀ x, ao = some x → W0.heap.size ≤ x.block := fun x hx => by have := (R3.out.block hx).1; omega
                have hL2 : ∀ x, al = some x → W0.heap.size ≤ x.block := fun x hx => by have := (R4.out.block hx).1; omega
                refine ⟨b9, .inr (.inr ⟨O1.out, by rw [O2.out]; omega, ao, no, co, al, nl, cl, by rw [HLG.out]; rfl, R1.out, R2.out, ?_, ?_, fun x hx => by have := hL1 x hx; have := HQ.out; omega, fun x hx => by have := hL2 x hx; have := HQ.out; omega⟩)⟩
                · exact (R3.out.ps (fun q hq => HP1.out.ok q (List.mem_filter.1 hq).1)).2.only on9 (fun x hx he => by have := hL1 x hx; omega)
                · refine (R4.out.ps (fun q hq => ?_)).2.only on9 (fun x hx he => by have := hL2 x hx; omega)
                  obtain ⟨r, hr, rfl⟩ := List.mem_map.1 hq
                  have h1 := HP1.out.ok r (List.mem_filter.1 hr).1
                  have h2 := HAF.out r (List.mem_filter.1 hr).1
                  have h3 := over_le r (L.filter fun p => inB l p.pn)
                  have h4 := List.length_filter_le (fun p => inB l p.pn) L
                  have h5 := HN.out
                  obtain ⟨w1, w2, w3, w4⟩ := h1
                  unfold u64b' at w4
                  exact ⟨w1, w2, w3, by unfold u64b' bump; simp only; omega⟩
          | true =>
            by_cases g3 : lg + 1 < z
            · skip
              go_wp2_with (fail)
              have hu0 := XR0.out
              have hu1 := hu0.set 2 (.int .u64 (z - 1))
              have hu2 := hu1.set 1 (.bool true)
              have hu7 : Blk _ q0 #[.slice a n c, .bool true, .int .u64 (z - 1), .int .u64 la, .int .u64 lt, .int .u64 top] 64 := hu2.congr (by simp)
              have on1 := (((Only.refl (· = q0) wr).set 2 (.int .u64 (z - 1))).set 1 (.bool true))
              obtain ⟨w1, hw1⟩ : ∃ ww, ((wr.setCell ⟨q0, 2, none⟩ (.int .u64 (z - 1))).setCell ⟨q0, 1, none⟩ (.bool true)) = ww := ⟨_, rfl⟩
              rw [hw1] at hu7 on1 ⊢
              clear hu0 hu1 hu2 hw1 s0 s1 s2 s3 s4 s5 y0 y1 y2 y3 y4 y5 f0 f1 f2 f3 f4 f5 g1 g2
              obtain ⟨lg', hlg'⟩ : ∃ x, (z - 1 : Int) = x := ⟨_, rfl⟩
              rw [hlg'] at hu7
              have HLG : Hid ((if newHas15 true lg (refTop l) = true then refTop l - 1 else lg) = lg') := Lib.hid (by rw [O2.out]; unfold newHas15; simp [g3]; exact hlg')
              have hne0 : ∀ x, a = some x → 0 < L.length → x.block ≠ q0 := fun x hx h0 => HNQ.out.1 x hx h0
              have hPs1 := HPW.out.only2 on1 (fun x hx h0 => hne0 x hx h0)
              have hRs1 := HRW.out.only on1 (fun x hx => HNQ.out.2 x hx)
              have b1 : Below w.heap.size w w1 := below_onto (below_on HB0.out BW.out HB0.out.size) on1 (by have := HQ.out; omega) (by intro z hz h; have := HQ.out; omega)
              have hsz1 : W0.heap.size ≤ w1.heap.size := by have := on1.size; omega
              have u1 := on1.blk XR1.out (by omega)
              have HS := Lib.hid hu7
              have HU1 := Lib.hid u1
              have HP1 := Lib.hid hPs1
              have HR1 := Lib.hid hRs1
              have B1 := Lib.hid b1
              have lq0 : q0 < w1.heap.size := by omega
              have e0 := hu7.cell 0 _ rfl
              clear hu7 u1 hPs1 hRs1 b1 on1 hne0 hlg' HPW HRW BW XR0 XR1
              go_loopw [10, 11, 12, 13, 14] (fun o l' i _ _ wr => ∃ (k : Nat) (ao : Option Addr) (no co : Nat) (al : Option Addr) (nl cl : Nat), i = .int .i64 k ∧ o = .slice ao no co ∧ l' = .slice al nl cl ∧ k ≤ n ∧ Below w1.heap.size w1 wr ∧ Hid (RInv w1 wr (fun p => inB l p.pn) L k ao no co al nl cl)) (fun _ _ i _ _ _ => n - (intOf i).toNat)
              case atStart => exact ⟨0, none, 0, 0, none, 0, 0, rfl, rfl, rfl, by omega, Below.refl _ _, Lib.hid ⟨rfl, rfl, OwnS.nil _ _ _ _, OwnS.nil _ _ _ _, by simp⟩⟩
              case round =>
                clear e0
                obtain ⟨k', ao, no, co, al, nl, cl, rfl, rfl, rfl, hk', bw, hok⟩ := hrel
                have e0 := (HS.out.below bw).cell 0 _ rfl
                have hno : no ≤ 1000 ∧ nl ≤ 1000 := by
                  have h1 : no = ((L.take k').filter fun p => inB l p.pn).length := hok.out.1
                  have h2 : nl = ((L.take k').filter fun p => !inB l p.pn).length := hok.out.2.1
                  have h3 := List.length_filter_le (fun p => inB l p.pn) (L.take k')
                  have h4 := List.length_filter_le (fun p => !inB l p.pn) (L.take k')
                  rw [List.length_take] at h3 h4
                  have h5 := Nat.min_le_left k' L.length
                  omega
                by_cases hlt2 : k' < n
                · have hkL : k' < L.length := by have := HN.out; omega
                  obtain ⟨gb, go, hga, hgb, pp, hpe, hpm, d0, d1, d2, d3, d4, d5, i0, i1, i2, i4⟩ := (HP1.out.below bw).at_ hkL
                  subst hga
                  have hin := in_any ar k cr l pp.pn wr HNR.out i0 (HR1.out.below bw)
                  obtain ⟨v, hv⟩ : ∃ v, inB l pp.pn = v := ⟨_, rfl⟩
                  rw [hv] at hin
                  have HV := Lib.hid hv
                  have HIN := Lib.hid hin
                  have HPE := Lib.hid hpe
                  have HPM := Lib.hid hpm
                  clear hv hin hpe hpm
                  go_wp2_with (fail)
                  refine HIN.out.mono ?_
                  rintro e w2 ⟨rfl, rfl⟩
                  cases v with
                  | true =>
                    have hts : (L.take (k' + 1)).filter (fun p => inB l p.pn) = (L.take k').filter (fun p => inB l p.pn) ++ [pp] := by
                      rw [take_succ_filter hkL, HPE.out]; simp [HV.out]
                    have htl : (L.take (k' + 1)).filter (fun p => !inB l p.pn) = (L.take k').filter (fun p => !inB l p.pn) := by
                      rw [take_succ_filter hkL (fun p => !inB l p.pn), HPE.out]; simp [HV.out]
                    have HTS := Lib.hid hts
                    have HTL := Lib.hid htl
                    clear hts htl
                    go_wp2_with (at_builtin; refine Stop.mk ?_)
                    refine Stop.out ?_
                    refine wpList_app pk_et rfl rfl (base := w1.heap.size) rfl rfl (hok.out.2.2.1.below ((Below.refl _ _).alloc (Nat.le_refl _) _)) (SrcAt.pk w2 pp 69) (by simp only [maxLen]; omega) (by omega) (by have := bw.size; simp; omega) ?_
                    intro a5 c5 w5 ho5 on5 at5
                    have hr : RInv w1 w5 (fun p => inB l p.pn) L (k' + 1) a5 (no + 1) c5 al nl cl := by
                      obtain ⟨r1, r2, r3, r4, r5⟩ := hok.out
                      refine ⟨by rw [HTS.out, List.length_append, ← r1]; rfl, by rw [HTL.out]; exact r2, by rw [HTS.out, cellsP_append]; exact ho5, ?_, ?_⟩
                      · rw [HTL.out]
                        refine (r4.below ((Below.refl _ _).alloc (Nat.le_refl _) _)).only on5 ?_
                        rintro x hx ⟨y, hy, he⟩
                        exact r5 y x hy hx he
                      · intro x y hx hy he
                        rcases at5 x hx with ⟨z, hz, h6⟩ | h6
                        · exact r5 z y hz hy (by rw [← h6]; exact he)
                        · have := (r4.block hy).2.1
                          simp at h6
                          omega
                    have b5 : Below w1.heap.size w1 w5 := below_onto (bw.alloc bw.size (.cells #[.int .u64 pp.pn, .int .u64 pp.at_, .int .u64 pp.size, .bool pp.el, .int .u64 pp.after, .slice pp.fa pp.fn pp.fc] 69)) on5 (by have := bw.size; simp; omega) (by rintro z hz ⟨y, hy, rfl⟩; have := (hok.out.2.2.1.block hy).1; omega)
                    have HRI := Lib.hid hr
                    have B5 := Lib.hid b5
                    clear ho5 on5 at5 hr b5 e0
                    go_wp2_with (fail)
                    exact ⟨⟨k' + 1, a5, no + 1, c5, al, nl, cl, by go_num, rfl, rfl, by omega, B5.out, HRI⟩, by simp [intOf]; omega⟩
                  | false =>
                    have hts : (L.take (k' + 1)).filter (fun p => inB l p.pn) = (L.take k').filter (fun p => inB l p.pn) := by
                      rw [take_succ_filter hkL, HPE.out]; simp [HV.out]
                    have htl : (L.take (k' + 1)).filter (fun p => !inB l p.pn) = (L.take k').filter (fun p => !inB l p.pn) ++ [pp] := by
                      rw [take_succ_filter hkL (fun p => !inB l p.pn), HPE.out]; simp [HV.out]
                    have HTS := Lib.hid hts
                    have HTL := Lib.hid htl
                    have haf := HAF.out pp HPM.out
                    clear hts htl
                    go_wp2_with (fail)
                    have xb := Blk.new w2 #[.int .u64 pp.pn, .int .u64 pp.at_, .int .u64 pp.size, .bool pp.el, .int .u64 pp.after, .slice pp.fa pp.fn pp.fc] 69
                    have bb := (Below.refl w2.heap.size w2).alloc (Nat.le_refl _) (.cells #[.int .u64 pp.pn, .int .u64 pp.at_, .int .u64 pp.size, .bool pp.el, .int .u64 pp.after, .slice pp.fa pp.fn pp.fc] 69)
                    obtain ⟨w3, hw3⟩ : ∃ z, w2.alloc (.cells #[.int .u64 pp.pn, .int .u64 pp.at_, .int .u64 pp.size, .bool pp.el, .int .u64 pp.after, .slice pp.fa pp.fn pp.fc] 69) = z := ⟨_, rfl⟩
                    have hsz3 : w3.heap.size = w2.heap.size + 1 := by rw [← hw3]; simp
                    rw [hw3] at xb bb ⊢
                    obtain ⟨qb, hqb⟩ : ∃ z, w2.heap.size = z := ⟨_, rfl⟩
                    have lqb : qb < w3.heap.size := by omega
                    have hq0b : q0 < qb := by have := bw.size; omega
                    have hq0n : ¬ q0 = qb := by omega
                    have HQB := Lib.hid hqb
                    rw [hqb] at xb ⊢
                    have e03 := (bb.cell (p := ⟨q0, 0, none⟩) (by show q0 < w2.heap.size; omega)).trans e0
                    have XB : Hid (Blk w3 qb #[.int .u64 pp.pn, .int .u64 pp.at_, .int .u64 pp.size, .bool pp.el, .int .u64 (pp.after + ((0 : Nat) : Int)), .slice pp.fa pp.fn pp.fc] 69) := Lib.hid (xb.congr (by simp))
                    have BB := Lib.hid bb
                    clear xb bb hqb e0 hsz3
                    go_loopw [14] (fun i wr => ∃ (j zc : Nat), i = .int .i64 j ∧ k' + 1 ≤ j ∧ j ≤ n ∧ zc ≤ j ∧ Below w2.heap.size w2 wr ∧ qb < wr.heap.size ∧ Hid (Blk wr qb #[.int .u64 pp.pn, .int .u64 pp.at_, .int .u64 pp.size, .bool pp.el, .int .u64 (pp.after + (zc : Int)), .slice pp.fa pp.fn pp.fc] 69) ∧ Hid (zc = ((L.drop (k' + 1)).take (j - (k' + 1))).countP fun p => inB l p.pn)) (fun i _ => n - (intOf i).toNat)
                    case atStart => exact ⟨k' + 1, 0, by go_num, by omega, by omega, by omega, BB.out, lqb, XB, Lib.hid (by simp)⟩
                    case round =>
                      clear XB e03
                      obtain ⟨j, zc, rfl, hj1, hj2, hzc, bj, lj, hxb, hcnt⟩ := hrel
                      have bwj : Below w1.heap.size w1 wr := below_on bw bj bw.size
                      have e0 := (HS.out.below bwj).cell 0 _ rfl
                      by_cases hlt3 : j < n
                      · have hjL : j < L.length := by have := HN.out; omega
                        obtain ⟨gb2, go2, hga2, hgb2, p2, hpe2, hpm2, f0, _, _, _, _, _, i02, _⟩ := (HP1.out.below bwj).at_ hjL
                        cases hga2
                        have hin2 := in_any ar k cr l p2.pn wr HNR.out i02 (HR1.out.below bwj)
                        obtain ⟨v2, hv2⟩ : ∃ v, inB l p2.pn = v := ⟨_, rfl⟩
                        rw [hv2] at hin2
                        have hcs := count_drop_succ (L := L) (fun p => inB l p.pn) (k := k') (j := j) hj1 hjL
                        rw [hpe2, ← hcnt.out] at hcs
                        simp only [hv2] at hcs
                        have HCS := Lib.hid hcs
                        have HIN2 := Lib.hid hin2
                        clear hv2 hin2 hcs hpe2 hpm2 hcnt
                        go_wp2_with (fail)
                        refine HIN2.out.mono ?_
                        rintro e w4 ⟨rfl, rfl⟩
                        cases v2 with
                        | true =>
                          have m4 := hxb.out.cell 4 _ rfl
                          have m4f := hxb.out.free 4
                          have hset := (hxb.out.set 4 (.int .u64 (pp.after + (zc : Int) + 1))).congr (cs' := #[.int .u64 pp.pn, .int .u64 pp.at_, .int .u64 pp.size, .bool pp.el, .int .u64 (pp.after + ((zc + 1 : Nat) : Int)), .slice pp.fa pp.fn pp.fc]) (by simp; omega)
                          have hb4 := bj.setCell (p := ⟨qb, 4, none⟩) (by have := HQB.out; show w2.heap.size ≤ qb; omega) (.int .u64 (pp.after + (zc : Int) + 1))
                          have HSET := Lib.hid hset
                          have HB4 := Lib.hid hb4
                          clear hset hb4
                          go_wp2_with (fail)
                          exact ⟨⟨j + 1, zc + 1, by go_num, by omega, by omega, by omega, HB4.out, by simpa using lj, HSET, Lib.hid (by rw [HCS.out]; simp)⟩, by simp [intOf]; omega⟩
                        | false =>
                          go_wp2_with (fail)
                          exact ⟨⟨j + 1, zc, by go_num, by omega, by omega, by omega, bj, lj, hxb, Lib.hid (by rw [HCS.out]; simp)⟩, by simp [intOf]; omega⟩
                      · obtain rfl : j = n := by omega
                        have hcall : (zc : Int) = ((L.drop (k' + 1)).countP fun p => inB l p.pn) := by
                          have := hcnt.out
                          rw [List.take_of_length_le (by have := HN.out; simp; omega)] at this
                          exact_mod_cast this
                        have hbump := bump_drop (q := fun p => inB l p.pn) HASC.out hkL HPE.out
                        rw [← hcall] at hbump
                        have HBU := Lib.hid hbump
                        have m0 := hxb.out.cell 0 _ rfl
                        have m1 := hxb.out.cell 1 _ rfl
                        have m2 := hxb.out.cell 2 _ rfl
                        have m3 := hxb.out.cell 3 _ rfl
                        have m4 := hxb.out.cell 4 _ rfl
                        have m5 := hxb.out.cell 5 _ rfl
                        clear hcall hbump hcnt
                        go_wp2_with (at_builtin; refine Stop.mk ?_)
                        refine Stop.out ?_
                        refine wpList_app pk_et rfl rfl (base := w1.heap.size) rfl rfl ((hok.out.2.2.2.1.below bj).below ((Below.refl _ _).alloc (Nat.le_refl _) _)) (SrcAt.pk wr { pp with after := pp.after + (zc : Int) } 69) (by simp only [maxLen]; omega) (by omega) (by have := bwj.size; simp; omega) ?_
                        intro a5 c5 w5 ho5 on5 at5
                        have hr : RInv w1 w5 (fun p => inB l p.pn) L (k' + 1) ao no co a5 (nl + 1) c5 := by
                          obtain ⟨r1, r2, r3, r4, r5⟩ := hok.out
                          refine ⟨by rw [HTS.out]; exact r1, by rw [HTL.out, List.length_append, ← r2]; rfl, ?_, ?_, ?_⟩
                          · rw [HTS.out]
                            refine ((r3.below bj).below ((Below.refl _ _).alloc (Nat.le_refl _) _)).only on5 ?_
                            rintro x hx ⟨y, hy, he⟩
                            exact r5 x y hx hy he.symm
                          · rw [HTL.out, List.map_append, cellsP_append, List.map_cons, List.map_nil, HBU.out]; exact ho5
                          · intro x y hx hy he
                            rcases at5 y hy with ⟨z, hz, h6⟩ | h6
                            · exact r5 x z hx hz (by rw [← h6]; exact he)
                            · have := (r3.block hx).2.1
                              have := bj.size
                              simp at h6
                              omega
                        have b5 : Below w1.heap.size w1 w5 := below_onto (bwj.alloc bwj.size (.cells #[.int .u64 pp.pn, .int .u64 pp.at_, .int .u64 pp.size, .bool pp.el, .int .u64 (pp.after + (zc : Int)), .slice pp.fa pp.fn pp.fc] 69)) on5 (by have := bwj.size; simp; omega) (by rintro z hz ⟨y, hy, rfl⟩; have := (hok.out.2.2.2.1.block hy).1; omega)
                        have HRI := Lib.hid hr
                        have B5 := Lib.hid b5
                        clear ho5 on5 at5 hr b5 e0 m0 m1 m2 m3 m4 m5
                        go_wp2_with (fail)
                        exact ⟨⟨k' + 1, ao, no, co, a5, nl + 1, c5, by go_num, rfl, rfl, by omega, B5.out, HRI⟩, by simp [intOf]; omega⟩
                · obtain rfl : k' = n := by omega
                  have hok2 := hok.out
                  unfold RInv at hok2
                  rw [show L.take k' = L by rw [HN.out, List.take_length]] at hok2
                  obtain ⟨r1, r2, r3, r4, r5⟩ := hok2
                  have x0 := HS.out.below bw
                  have x1 := HU1.out.below bw
                  have s1 := x0.cell 1 _ rfl
                  have s2 := x0.cell 2 _ rfl
                  have s3 := x0.cell 3 _ rfl
                  have s4 := x0.cell 4 _ rfl
                  have s5 := x0.cell 5 _ rfl
                  have s0f := x0.free 0
                  have y0 := x1.cell 0 _ rfl
                  have y1 := x1.cell 1 _ rfl
                  have y2 := x1.cell 2 _ rfl
                  have y3 := x1.cell 3 _ rfl
                  have y4 := x1.cell 4 _ rfl
                  have y5 := x1.cell 5 _ rfl
                  have f0 := x1.free 0
                  have f1 := x1.free 1
                  have f2 := x1.free 2
                  have f3 := x1.free 3
                  have f4 := x1.free 4
                  have f5 := x1.free 5
                  have XF1 := Lib.hid x1
                  have R1 := Lib.hid r1
                  have R2 := Lib.hid r2
                  have R3 := Lib.hid r3
                  have R4 := Lib.hid r4
                  have BF := Lib.hid bw
                  have hszf := bw.size
                  clear r1 r2 r3 r4 r5 hok bw x0 x1
                  go_wp2_with (fail)
                  have hu0 := ((Only.refl (· = q0) wr).set 0 (.slice al nl cl)).blk XF1.out (by omega)
                  have hu1 := hu0.set 0 (.slice al nl cl)
                  have hu2 := hu1.set 1 (.bool true)
                  have hu3 := hu2.set 2 (.int .u64 lg')
                  have hu4 := hu3.set 3 (.int .u64 la)
                  have hu5 := hu4.set 4 (.int .u64 lt)
                  have hu6 := hu5.set 5 (.int .u64 top)
                  have hu7 : Blk _ q1 #[.slice al nl cl, .bool true, .int .u64 lg', .int .u64 la, .int .u64 lt, .int .u64 top] 64 := hu6.congr (by simp)
                  have on9 := ((((((((Only.refl (fun z => z = q0 ∨ z = q1) wr).setCell (p := ⟨q0, 0, none⟩) (.inl (.inl rfl)) (.slice al nl cl)).setCell (p := ⟨q1, 0, none⟩) (.inl (.inr rfl)) (.slice al nl cl)).setCell (p := ⟨q1, 1, none⟩) (.inl (.inr rfl)) (.bool true)).setCell (p := ⟨q1, 2, none⟩) (.inl (.inr rfl)) (.int .u64 lg')).setCell (p := ⟨q1, 3, none⟩) (.inl (.inr rfl)) (.int .u64 la)).setCell (p := ⟨q1, 4, none⟩) (.inl (.inr rfl)) (.int .u64 lt)).setCell (p := ⟨q1, 5, none⟩) (.inl (.inr rfl)) (.int .u64 top))
                  have b9 := ((((((((below_on B1.out BF.out B1.out.size).setCell (p := ⟨q0, 0, none⟩) HQ.out.1 (.slice al nl cl)).setCell (p := ⟨q1, 0, none⟩) HQ.out.2.1 (.slice al nl cl)).setCell (p := ⟨q1, 1, none⟩) HQ.out.2.1 (.bool true)).setCell (p := ⟨q1, 2, none⟩) HQ.out.2.1 (.int .u64 lg')).setCell (p := ⟨q1, 3, none⟩) HQ.out.2.1 (.int .u64 la)).setCell (p := ⟨q1, 4, none⟩) HQ.out.2.1 (.int .u64 lt)).setCell (p := ⟨q1, 5, none⟩) HQ.out.2.1 (.int .u64 top))
                  obtain ⟨w9, hw9⟩ : ∃ z, (((((((wr.setCell ⟨q0, 0, none⟩ (.slice al nl cl)).setCell ⟨q1, 0, none⟩ (.slice al nl cl)).setCell ⟨q1, 1, none⟩ (.bool true)).setCell ⟨q1, 2, none⟩ (.int .u64 lg')).setCell ⟨q1, 3, none⟩ (.int .u64 la)).setCell ⟨q1, 4, none⟩ (.int .u64 lt)).setCell ⟨q1, 5, none⟩ (.int .u64 top)) = z := ⟨_, rfl⟩
                  rw [hw9] at hu7 on9 b9 ⊢
                  clear hu0 hu1 hu2 hu3 hu4 hu5 hu6 hw9
                  have t0 := hu7.cell 0 _ rfl
                  have t1 := hu7.cell 1 _ rfl
                  have t2 := hu7.cell 2 _ rfl
                  have t3 := hu7.cell 3 _ rfl
                  have t4 := hu7.cell 4 _ rfl
                  have t5 := hu7.cell 5 _ rfl
                  try simp only [Exit.inBlock, Exit.then]
                  refine bodyPost_ret (by simp [results, Try.results49, go_sem, t0, t1, t2, t3, t4, t5]; try rfl) rfl ?_
                  have hL1 : ∀ x, ao = some x → W0.heap.size ≤ x.block := fun x hx => by have := (R3.out.block hx).1; omega
                  have hL2 : ∀ x, al = some x → W0.heap.size ≤ x.block := fun x hx => by have := (R4.out.block hx).1; omega
                  refine ⟨b9, .inr (.inr ⟨O1.out, by rw [O2.out]; omega, ao, no, co, al, nl, cl, by rw [HLG.out]; rfl, R1.out, R2.out, ?_, ?_, fun x hx => by have := hL1 x hx; have := HQ.out; omega, fun x hx => by have := hL2 x hx; have := HQ.out; omega⟩)⟩
                  · exact (R3.out.ps (fun q hq => HP1.out.ok q (List.mem_filter.1 hq).1)).2.only on9 (fun x hx he => by have := hL1 x hx; omega)
                  · refine (R4.out.ps (fun q hq => ?_)).2.only on9 (fun x hx he => by have := hL2 x hx; omega)
                    obtain ⟨r, hr, rfl⟩ := List.mem_map.1 hq
                    have h1 := HP1.out.ok r (List.mem_filter.1 hr).1
                    have h2 := HAF.out r (List.mem_filter.1 hr).1
                    have h3 := over_le r (L.filter fun p => inB l p.pn)
                    have h4 := List.length_filter_le (fun p => inB l p.pn) L
                    have h5 := HN.out
                    obtain ⟨w1, w2, w3, w4⟩ := h1
                    unfold u64b' at w4
                    exact ⟨w1, w2, w3, by unfold u64b' bump; simp only; omega⟩
            · skip
              go_wp2_with (fail)
              have hu0 := XR0.out
              have hu1 := hu0.set 1 (.bool true)
              have hu7 : Blk _ q0 #[.slice a n c, .bool true, .int .u64 (lg), .int .u64 la, .int .u64 lt, .int .u64 top] 64 := hu1.congr (by simp)
              have on1 := ((Only.refl (· = q0) wr).set 1 (.bool true))
              obtain ⟨w1, hw1⟩ : ∃ ww, (wr.setCell ⟨q0, 1, none⟩ (.bool true)) = ww := ⟨_, rfl⟩
              rw [hw1] at hu7 on1 ⊢
              clear hu0 hu1 hw1 s0 s1 s2 s3 s4 s5 y0 y1 y2 y3 y4 y5 f0 f1 f2 f3 f4 f5 g1 g2
              obtain ⟨lg', hlg'⟩ : ∃ x, (lg : Int) = x := ⟨_, rfl⟩
              rw [hlg'] at hu7
              have HLG : Hid ((if newHas15 true lg (refTop l) = true then refTop l - 1 else lg) = lg') := Lib.hid (by rw [O2.out]; unfold newHas15; rw [if_neg (by simp; omega)]; exact hlg')
              have hne0 : ∀ x, a = some x → 0 < L.length → x.block ≠ q0 := fun x hx h0 => HNQ.out.1 x hx h0
              have hPs1 := HPW.out.only2 on1 (fun x hx h0 => hne0 x hx h0)
              have hRs1 := HRW.out.only on1 (fun x hx => HNQ.out.2 x hx)
              have b1 : Below w.heap.size w w1 := below_onto (below_on HB0.out BW.out HB0.out.size) on1 (by have := HQ.out; omega) (by intro z hz h; have := HQ.out; omega)
              have hsz1 : W0.heap.size ≤ w1.heap.size := by have := on1.size; omega
              have u1 := on1.blk XR1.out (by omega)
              have HS := Lib.hid hu7
              have HU1 := Lib.hid u1
              have HP1 := Lib.hid hPs1
              have HR1 := Lib.hid hRs1
              have B1 := Lib.hid b1
              have lq0 : q0 < w1.heap.size := by omega
              have e0 := hu7.cell 0 _ rfl
              clear hu7 u1 hPs1 hRs1 b1 on1 hne0 hlg' HPW HRW BW XR0 XR1
              go_loopw [10, 11, 12, 13, 14] (fun o l' i _ _ wr => ∃ (k : Nat) (ao : Option Addr) (no co : Nat) (al : Option Addr) (nl cl : Nat), i = .int .i64 k ∧ o = .slice ao no co ∧ l' = .slice al nl cl ∧ k ≤ n ∧ Below w1.heap.size w1 wr ∧ Hid (RInv w1 wr (fun p => inB l p.pn) L k ao no co al nl cl)) (fun _ _ i _ _ _ => n - (intOf i).toNat)
              case atStart => exact ⟨0, none, 0, 0, none, 0, 0, rfl, rfl, rfl, by omega, Below.refl _ _, Lib.hid ⟨rfl, rfl, OwnS.nil _ _ _ _, OwnS.nil _ _ _ _, by simp⟩⟩
              case round =>
                clear e0
                obtain ⟨k', ao, no, co, al, nl, cl, rfl, rfl, rfl, hk', bw, hok⟩ := hrel
                have e0 := (HS.out.below bw).cell 0 _ rfl
                have hno : no ≤ 1000 ∧ nl ≤ 1000 := by
                  have h1 : no = ((L.take k').filter fun p => inB l p.pn).length := hok.out.1
                  have h2 : nl = ((L.take k').filter fun p => !inB l p.pn).length := hok.out.2.1
                  have h3 := List.length_filter_le (fun p => inB l p.pn) (L.take k')
                  have h4 := List.length_filter_le (fun p => !inB l p.pn) (L.take k')
                  rw [List.length_take] at h3 h4
                  have h5 := Nat.min_le_left k' L.length
                  omega
                by_cases hlt2 : k' < n
                · have hkL : k' < L.length := by have := HN.out; omega
                  obtain ⟨gb, go, hga, hgb, pp, hpe, hpm, d0, d1, d2, d3, d4, d5, i0, i1, i2, i4⟩ := (HP1.out.below bw).at_ hkL
                  subst hga
                  have hin := in_any ar k cr l pp.pn wr HNR.out i0 (HR1.out.below bw)
                  obtain ⟨v, hv⟩ : ∃ v, inB l pp.pn = v := ⟨_, rfl⟩
                  rw [hv] at hin
                  have HV := Lib.hid hv
                  have HIN := Lib.hid hin
                  have HPE := Lib.hid hpe
                  have HPM := Lib.hid hpm
                  clear hv hin hpe hpm
                  go_wp2_with (fail)
                  refine HIN.out.mono ?_
                  rintro e w2 ⟨rfl, rfl⟩
                  cases v with
                  | true =>
                    have hts : (L.take (k' + 1)).filter (fun p => inB l p.pn) = (L.take k').filter (fun p => inB l p.pn) ++ [pp] := by
                      rw [take_succ_filter hkL, HPE.out]; simp [HV.out]
                    have htl : (L.take (k' + 1)).filter (fun p => !inB l p.pn) = (L.take k').filter (fun p => !inB l p.pn) := by
                      rw [take_succ_filter hkL (fun p => !inB l p.pn), HPE.out]; simp [HV.out]
                    have HTS := Lib.hid hts
                    have HTL := Lib.hid htl
                    clear hts htl
                    go_wp2_with (at_builtin; refine Stop.mk ?_)
                    refine Stop.out ?_
                    refine wpList_app pk_et rfl rfl (base := w1.heap.size) rfl rfl (hok.out.2.2.1.below ((Below.refl _ _).alloc (Nat.le_refl _) _)) (SrcAt.pk w2 pp 69) (by simp only [maxLen]; omega) (by omega) (by have := bw.size; simp; omega) ?_
                    intro a5 c5 w5 ho5 on5 at5
                    have hr : RInv w1 w5 (fun p => inB l p.pn) L (k' + 1) a5 (no + 1) c5 al nl cl := by
                      obtain ⟨r1, r2, r3, r4, r5⟩ := hok.out
                      refine ⟨by rw [HTS.out, List.length_append, ← r1]; rfl, by rw [HTL.out]; exact r2, by rw [HTS.out, cellsP_append]; exact ho5, ?_, ?_⟩
                      · rw [HTL.out]
                        refine (r4.below ((Below.refl _ _).alloc (Nat.le_refl _) _)).only on5 ?_
                        rintro x hx ⟨y, hy, he⟩
                        exact r5 y x hy hx he
                      · intro x y hx hy he
                        rcases at5 x hx with ⟨z, hz, h6⟩ | h6
                        · exact r5 z y hz hy (by rw [← h6]; exact he)
                        · have := (r4.block hy).2.1
                          simp at h6
                          omega
                    have b5 : Below w1.heap.size w1 w5 := below_onto (bw.alloc bw.size (.cells #[.int .u64 pp.pn, .int .u64 pp.at_, .int .u64 pp.size, .bool pp.el, .int .u64 pp.after, .slice pp.fa pp.fn pp.fc] 69)) on5 (by have := bw.size; simp; omega) (by rintro z hz ⟨y, hy, rfl⟩; have := (hok.out.2.2.1.block hy).1; omega)
                    have HRI := Lib.hid hr
                    have B5 := Lib.hid b5
                    clear ho5 on5 at5 hr b5 e0
                    go_wp2_with (fail)
                    exact ⟨⟨k' + 1, a5, no + 1, c5, al, nl, cl, by go_num, rfl, rfl, by omega, B5.out, HRI⟩, by simp [intOf]; omega⟩
                  | false =>
                    have hts : (L.take (k' + 1)).filter (fun p => inB l p.pn) = (L.take k').filter (fun p => inB l p.pn) := by
                      rw [take_succ_filter hkL, HPE.out]; simp [HV.out]
                    have htl : (L.take (k' + 1)).filter (fun p => !inB l p.pn) = (L.take k').filter (fun p => !inB l p.pn) ++ [pp] := by
                      rw [take_succ_filter hkL (fun p => !inB l p.pn), HPE.out]; simp [HV.out]
                    have HTS := Lib.hid hts
                    have HTL := Lib.hid htl
                    have haf := HAF.out pp HPM.out
                    clear hts htl
                    go_wp2_with (fail)
                    have xb := Blk.new w2 #[.int .u64 pp.pn, .int .u64 pp.at_, .int .u64 pp.size, .bool pp.el, .int .u64 pp.after, .slice pp.fa pp.fn pp.fc] 69
                    have bb := (Below.refl w2.heap.size w2).alloc (Nat.le_refl _) (.cells #[.int .u64 pp.pn, .int .u64 pp.at_, .int .u64 pp.size, .bool pp.el, .int .u64 pp.after, .slice pp.fa pp.fn pp.fc] 69)
                    obtain ⟨w3, hw3⟩ : ∃ z, w2.alloc (.cells #[.int .u64 pp.pn, .int .u64 pp.at_, .int .u64 pp.size, .bool pp.el, .int .u64 pp.after, .slice pp.fa pp.fn pp.fc] 69) = z := ⟨_, rfl⟩
                    have hsz3 : w3.heap.size = w2.heap.size + 1 := by rw [← hw3]; simp
                    rw [hw3] at xb bb ⊢
                    obtain ⟨qb, hqb⟩ : ∃ z, w2.heap.size = z := ⟨_, rfl⟩
                    have lqb : qb < w3.heap.size := by omega
                    have hq0b : q0 < qb := by have := bw.size; omega
                    have hq0n : ¬ q0 = qb := by omega
                    have HQB := Lib.hid hqb
                    rw [hqb] at xb ⊢
                    have e03 := (bb.cell (p := ⟨q0, 0, none⟩) (by show q0 < w2.heap.size; omega)).trans e0
                    have XB : Hid (Blk w3 qb #[.int .u64 pp.pn, .int .u64 pp.at_, .int .u64 pp.size, .bool pp.el, .int .u64 (pp.after + ((0 : Nat) : Int)), .slice pp.fa pp.fn pp.fc] 69) := Lib.hid (xb.congr (by simp))
                    have BB := Lib.hid bb
                    clear xb bb hqb e0 hsz3
                    go_loopw [14] (fun i wr => ∃ (j zc : Nat), i = .int .i64 j ∧ k' + 1 ≤ j ∧ j ≤ n ∧ zc ≤ j ∧ Below w2.heap.size w2 wr ∧ qb < wr.heap.size ∧ Hid (Blk wr qb #[.int .u64 pp.pn, .int .u64 pp.at_, .int .u64 pp.size, .bool pp.el, .int .u64 (pp.after + (zc : Int)), .slice pp.fa pp.fn pp.fc] 69) ∧ Hid (zc = ((L.drop (k' + 1)).take (j - (k' + 1))).countP fun p => inB l p.pn)) (fun i _ => n - (intOf i).toNat)
                    case atStart => exact ⟨k' + 1, 0, by go_num, by omega, by omega, by omega, BB.out, lqb, XB, Lib.hid (by simp)⟩
                    case round =>
                      clear XB e03
                      obtain ⟨j, zc, rfl, hj1, hj2, hzc, bj, lj, hxb, hcnt⟩ := hrel
                      have bwj : Below w1.heap.size w1 wr := below_on bw bj bw.size
                      have e0 := (HS.out.below bwj).cell 0 _ rfl
                      by_cases hlt3 : j < n
                      · have hjL : j < L.length := by have := HN.out; omega
                        obtain ⟨gb2, go2, hga2, hgb2, p2, hpe2, hpm2, f0, _, _, _, _, _, i02, _⟩ := (HP1.out.below bwj).at_ hjL
                        cases hga2
                        have hin2 := in_any ar k cr l p2.pn wr HNR.out i02 (HR1.out.below bwj)
                        obtain ⟨v2, hv2⟩ : ∃ v, inB l p2.pn = v := ⟨_, rfl⟩
                        rw [hv2] at hin2
                        have hcs := count_drop_succ (L := L) (fun p => inB l p.pn) (k := k') (j := j) hj1 hjL
                        rw [hpe2, ← hcnt.out] at hcs
                        simp only [hv2] at hcs
                        have HCS := Lib.hid hcs
                        have HIN2 := Lib.hid hin2
                        clear hv2 hin2 hcs hpe2 hpm2 hcnt
                        go_wp2_with (fail)
                        refine HIN2.out.mono ?_
                        rintro e w4 ⟨rfl, rfl⟩
                        cases v2 with
                        | true =>
                          have m4 := hxb.out.cell 4 _ rfl
                          have m4f := hxb.out.free 4
                          have hset := (hxb.out.set 4 (.int .u64 (pp.after + (zc : Int) + 1))).congr (cs' := #[.int .u64 pp.pn, .int .u64 pp.at_, .int .u64 pp.size, .bool pp.el, .int .u64 (pp.after + ((zc + 1 : Nat) : Int)), .slice pp.fa pp.fn pp.fc]) (by simp; omega)
                          have hb4 := bj.setCell (p := ⟨qb, 4, none⟩) (by have := HQB.out; show w2.heap.size ≤ qb; omega) (.int .u64 (pp.after + (zc : Int) + 1))
                          have HSET := Lib.hid hset
                          have HB4 := Lib.hid hb4
                          clear hset hb4
                          go_wp2_with (fail)
                          exact ⟨⟨j + 1, zc + 1, by go_num, by omega, by omega, by omega, HB4.out, by simpa using lj, HSET, Lib.hid (by rw [HCS.out]; simp)⟩, by simp [intOf]; omega⟩
                        | false =>
                          go_wp2_with (fail)
                          exact ⟨⟨j + 1, zc, by go_num, by omega, by omega, by omega, bj, lj, hxb, Lib.hid (by rw [HCS.out]; simp)⟩, by simp [intOf]; omega⟩
                      · obtain rfl : j = n := by omega
                        have hcall : (zc : Int) = ((L.drop (k' + 1)).countP fun p => inB l p.pn) := by
                          have := hcnt.out
                          rw [List.take_of_length_le (by have := HN.out; simp; omega)] at this
                          exact_mod_cast this
                        have hbump := bump_drop (q := fun p => inB l p.pn) HASC.out hkL HPE.out
                        rw [← hcall] at hbump
                        have HBU := Lib.hid hbump
                        have m0 := hxb.out.cell 0 _ rfl
                        have m1 := hxb.out.cell 1 _ rfl
                        have m2 := hxb.out.cell 2 _ rfl
                        have m3 := hxb.out.cell 3 _ rfl
                        have m4 := hxb.out.cell 4 _ rfl
                        have m5 := hxb.out.cell 5 _ rfl
                        clear hcall hbump hcnt
                        go_wp2_with (at_builtin; refine Stop.mk ?_)
                        refine Stop.out ?_
                        refine wpList_app pk_et rfl rfl (base := w1.heap.size) rfl rfl ((hok.out.2.2.2.1.below bj).below ((Below.refl _ _).alloc (Nat.le_refl _) _)) (SrcAt.pk wr { pp with after := pp.after + (zc : Int) } 69) (by simp only [maxLen]; omega) (by omega) (by have := bwj.size; simp; omega) ?_
                        intro a5 c5 w5 ho5 on5 at5
                        have hr : RInv w1 w5 (fun p => inB l p.pn) L (k' + 1) ao no co a5 (nl + 1) c5 := by
                          obtain ⟨r1, r2, r3, r4, r5⟩ := hok.out
                          refine ⟨by rw [HTS.out]; exact r1, by rw [HTL.out, List.length_append, ← r2]; rfl, ?_, ?_, ?_⟩
                          · rw [HTS.out]
                            refine ((r3.below bj).below ((Below.refl _ _).alloc (Nat.le_refl _) _)).only on5 ?_
                            rintro x hx ⟨y, hy, he⟩
                            exact r5 x y hx hy he.symm
                          · rw [HTL.out, List.map_append, cellsP_append, List.map_cons, List.map_nil, HBU.out]; exact ho5
                          · intro x y hx hy he
                            rcases at5 y hy with ⟨z, hz, h6⟩ | h6
                            · exact r5 x z hx hz (by rw [← h6]; exact he)
                            · have := (r3.block hx).2.1
                              have := bj.size
                              simp at h6
                              omega
                        have b5 : Below w1.heap.size w1 w5 := below_onto (bwj.alloc bwj.size (.cells #[.int .u64 pp.pn, .int .u64 pp.at_, .int .u64 pp.size, .bool pp.el, .int .u64 (pp.after + (zc : Int)), .slice pp.fa pp.fn pp.fc] 69)) on5 (by have := bwj.size; simp; omega) (by rintro z hz ⟨y, hy, rfl⟩; have := (hok.out.2.2.2.1.block hy).1; omega)
                        have HRI := Lib.hid hr
                        have B5 := Lib.hid b5
                        clear ho5 on5 at5 hr b5 e0 m0 m1 m2 m3 m4 m5
                        go_wp2_with (fail)
                        exact ⟨⟨k' + 1, ao, no, co, a5, nl + 1, c5, by go_num, rfl, rfl, by omega, B5.out, HRI⟩, by simp [intOf]; omega⟩
                · obtain rfl : k' = n := by omega
                  have hok2 := hok.out
                  unfold RInv at hok2
                  rw [show L.take k' = L by rw [HN.out, List.take_length]] at hok2
                  obtain ⟨r1, r2, r3, r4, r5⟩ := hok2
                  have x0 := HS.out.below bw
                  have x1 := HU1.out.below bw
                  have s1 := x0.cell 1 _ rfl
                  have s2 := x0.cell 2 _ rfl
                  have s3 := x0.cell 3 _ rfl
                  have s4 := x0.cell 4 _ rfl
                  have s5 := x0.cell 5 _ rfl
                  have s0f := x0.free 0
                  have y0 := x1.cell 0 _ rfl
                  have y1 := x1.cell 1 _ rfl
                  have y2 := x1.cell 2 _ rfl
                  have y3 := x1.cell 3 _ rfl
                  have y4 := x1.cell 4 _ rfl
                  have y5 := x1.cell 5 _ rfl
                  have f0 := x1.free 0
                  have f1 := x1.free 1
                  have f2 := x1.free 2
                  have f3 := x1.free 3
                  have f4 := x1.free 4
                  have f5 := x1.free 5
                  have XF1 := Lib.hid x1
                  have R1 := Lib.hid r1
                  have R2 := Lib.hid r2
                  have R3 := Lib.hid r3
                  have R4 := Lib.hid r4
                  have BF := Lib.hid bw
                  have hszf := bw.size
                  clear r1 r2 r3 r4 r5 hok bw x0 x1
                  go_wp2_with (fail)
                  have hu0 := ((Only.refl (· = q0) wr).set 0 (.slice al nl cl)).blk XF1.out (by omega)
                  have hu1 := hu0.set 0 (.slice al nl cl)
                  have hu2 := hu1.set 1 (.bool true)
                  have hu3 := hu2.set 2 (.int .u64 lg')
                  have hu4 := hu3.set 3 (.int .u64 la)
                  have hu5 := hu4.set 4 (.int .u64 lt)
                  have hu6 := hu5.set 5 (.int .u64 top)
                  have hu7 : Blk _ q1 #[.slice al nl cl, .bool true, .int .u64 lg', .int .u64 la, .int .u64 lt, .int .u64 top] 64 := hu6.congr (by simp)
                  have on9 := ((((((((Only.refl (fun z => z = q0 ∨ z = q1) wr).setCell (p := ⟨q0, 0, none⟩) (.inl (.inl rfl)) (.slice al nl cl)).setCell (p := ⟨q1, 0, none⟩) (.inl (.inr rfl)) (.slice al nl cl)).setCell (p := ⟨q1, 1, none⟩) (.inl (.inr rfl)) (.bool true)).setCell (p := ⟨q1, 2, none⟩) (.inl (.inr rfl)) (.int .u64 lg')).setCell (p := ⟨q1, 3, none⟩) (.inl (.inr rfl)) (.int .u64 la)).setCell (p := ⟨q1, 4, none⟩) (.inl (.inr rfl)) (.int .u64 lt)).setCell (p := ⟨q1, 5, none⟩) (.inl (.inr rfl)) (.int .u64 top))
                  have b9 := ((((((((below_on B1.out BF.out B1.out.size).setCell (p := ⟨q0, 0, none⟩) HQ.out.1 (.slice al nl cl)).setCell (p := ⟨q1, 0, none⟩) HQ.out.2.1 (.slice al nl cl)).setCell (p := ⟨q1, 1, none⟩) HQ.out.2.1 (.bool true)).setCell (p := ⟨q1, 2, none⟩) HQ.out.2.1 (.int .u64 lg')).setCell (p := ⟨q1, 3, none⟩) HQ.out.2.1 (.int .u64 la)).setCell (p := ⟨q1, 4, none⟩) HQ.out.2.1 (.int .u64 lt)).setCell (p := ⟨q1, 5, none⟩) HQ.out.2.1 (.int .u64 top))
                  obtain ⟨w9, hw9⟩ : ∃ z, (((((((wr.setCell ⟨q0, 0, none⟩ (.slice al nl cl)).setCell ⟨q1, 0, none⟩ (.slice al nl cl)).setCell ⟨q1, 1, none⟩ (.bool true)).setCell ⟨q1, 2, none⟩ (.int .u64 lg')).setCell ⟨q1, 3, none⟩ (.int .u64 la)).setCell ⟨q1, 4, none⟩ (.int .u64 lt)).setCell ⟨q1, 5, none⟩ (.int .u64 top)) = z := ⟨_, rfl⟩
                  rw [hw9] at hu7 on9 b9 ⊢
                  clear hu0 hu1 hu2 hu3 hu4 hu5 hu6 hw9
                  have t0 := hu7.cell 0 _ rfl
                  have t1 := hu7.cell 1 _ rfl
                  have t2 := hu7.cell 2 _ rfl
                  have t3 := hu7.cell 3 _ rfl
                  have t4 := hu7.cell 4 _ rfl
                  have t5 := hu7.cell 5 _ rfl
                  try simp only [Exit.inBlock, Exit.then]
                  refine bodyPost_ret (by simp [results, Try.results49, go_sem, t0, t1, t2, t3, t4, t5]; try rfl) rfl ?_
                  have hL1 : ∀ x, ao = some x → W0.heap.size ≤ x.block := fun x hx => by have := (R3.out.block hx).1; omega
                  have hL2 : ∀ x, al = some x → W0.heap.size ≤ x.block := fun x hx => by have := (R4.out.block hx).1; omega
                  refine ⟨b9, .inr (.inr ⟨O1.out, by rw [O2.out]; omega, ao, no, co, al, nl, cl, by rw [HLG.out]; rfl, R1.out, R2.out, ?_, ?_, fun x hx => by have := hL1 x hx; have := HQ.out; omega, fun x hx => by have := hL2 x hx; have := HQ.out; omega⟩)⟩
                  · exact (R3.out.ps (fun q hq => HP1.out.ok q (List.mem_filter.1 hq).1)).2.only on9 (fun x hx he => by have := hL1 x hx; omega)
                  · refine (R4.out.ps (fun q hq => ?_)).2.only on9 (fun x hx he => by have := hL2 x hx; omega)
                    obtain ⟨r, hr, rfl⟩ := List.mem_map.1 hq
                    have h1 := HP1.out.ok r (List.mem_filter.1 hr).1
                    have h2 := HAF.out r (List.mem_filter.1 hr).1
                    have h3 := over_le r (L.filter fun p => inB l p.pn)
                    have h4 := List.length_filter_le (fun p => inB l p.pn) L
                    have h5 := HN.out
                    obtain ⟨w1, w2, w3, w4⟩ := h1
                    unfold u64b' at w4
                    exact ⟨w1, w2, w3, by unfold u64b' bump; simp only; omega⟩
end Go.Proofs.Ytidfimpchbkppaa
