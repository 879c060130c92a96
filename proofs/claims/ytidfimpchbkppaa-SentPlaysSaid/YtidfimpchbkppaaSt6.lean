/- Sent: Clear and Lost. -/
import Derived.Test.YtidfimpchbkppaaSt3
import Derived.Test.YtidfimpchbkppaaSt5
namespace Go.Proofs.Ytidfimpchbkppaa
open Go.RowKit
set_option linter.unusedVariables false

/-- Block b is what was sent: L is on its way. -/
def SS (w : World) (b : Nat) (F : Nat → Prop) (L : List Pk) (has : Bool) (lg la lt top : Int) : Prop := ∃ (a : Option Addr) (n c : Nat), SB w b a n c has lg la lt top ∧ n = L.length ∧ Ps w a c L ∧ ∀ x, a = some x → 0 < L.length → x.block ≠ b ∧ F x.block
/-- What is told. -/
def Told15 (w w' : World) (v : Value) (out : List Pk) : Prop := ∃ (a : Option Addr) (n c : Nat), v = .slice a n c ∧ n = out.length ∧ Ps w' a c out ∧ ∀ x, a = some x → w.heap.size ≤ x.block
theorem SS.only {w w' : World} {b : Nat} {F : Nat → Prop} {L : List Pk} {has : Bool} {lg la lt top : Int} (h : SS w b F L has lg la lt top) (hb : Below w.heap.size w w') : SS w' b F L has lg la lt top := by
  obtain ⟨a, n, c, h1, h2, h3, h4⟩ := h
  exact ⟨a, n, c, Blk.below h1 hb, h2, h3.below hb, h4⟩
theorem TakeInv.told {w w' : World} {q : Pk → Bool} {L : List Pk} {ao : Option Addr} {no co : Nat} {al : Option Addr} {nl cl : Nat} (h : TakeInv w w' q L L.length ao no co al nl cl) (hok : ∀ p ∈ L, PkOk p) :
    Told15 w w' (.slice ao no co) (L.filter q) ∧ nl = (L.filter fun p => !q p).length ∧ Ps w' al cl (L.filter fun p => !q p) ∧ (∀ x, al = some x → w.heap.size ≤ x.block) := by
  obtain ⟨h1, h2, h3, h4, h5⟩ := h
  rw [List.take_length] at h1 h2 h3 h4
  have k3 := h3.ps (fun p hp => hok p (List.mem_filter.1 hp).1)
  have k4 := h4.ps (fun p hp => hok p (List.mem_filter.1 hp).1)
  exact ⟨⟨ao, no, co, rfl, h1, k3.2, fun x hx => (h3.block hx).1⟩, h2, k4.2, fun x hx => (h4.block hx).1⟩

set_option maxRecDepth 100000 in
/-- Clear. -/
theorem sclear_any (b : Nat) (F : Nat → Prop) (L : List Pk) (has : Bool) (lg la lt top : Int) (w : World) (h : SS w b F L has lg la lt top) (hF : Hid (∀ z, w.heap.size ≤ z → F z)) (hl : L.length ≤ 1000) :
    Calls Try.prog 42 #[.pointer (some ⟨b, 0, none⟩)] w fun e w' => Only (· = b) w w' ∧ ∃ v, e = .returned v ∧ Told15 w w' v L ∧ SS w' b F [] has lg 0 lt top := by
  obtain ⟨a, n, c, hB, hn, hP, hne0⟩ := h
  have hne : ∀ x, a = some x → 0 < L.length → x.block ≠ b := fun x hx h0 => (hne0 x hx h0).1
  clear hne0
  have c3 := Blk.cell hB 3 _ rfl
  have f3 := Blk.free hB 3
  have hblt := Blk.lt hB
  have hB1 : SB (w.setCell ⟨b, 3, none⟩ (.int .u64 0)) b a n c has lg 0 lt top := (Blk.set hB 3 (.int .u64 0)).congr (by simp)
  have o1 : Only (· = b) w (w.setCell ⟨b, 3, none⟩ (.int .u64 0)) := (Only.refl _ _).set 3 _
  have hP1 := hP.only2 o1 (fun x hx h0 => hne x hx h0)
  have HC := take_any 80 #[] (fun _ => true) b L a n c has lg 0 lt top _ hB1 hn hP1 hl (by kernel_rfl) (fun W p _ _ => clearc_any p W)
  have hok := hP.ok
  have HCC := Lib.hid HC
  have HOK := Lib.hid hok
  have HO1 := Lib.hid o1
  clear HC hB hn hP hne hB1 o1 hP1 hok
  go_enter Try.func42, Try.ntmps42
  go_wp2_with (fail)
  clear c3 f3
  refine HCC.out.mono ?_
  rintro e w1 ⟨o2, ao, no, co, al, nl, cl, rfl, hs, ht⟩
  have HT := Lib.hid (ht.told HOK.out)
  have HS := Lib.hid hs
  have HO2 := Lib.hid (HO1.out.trans o2)
  clear hs ht o2
  go_wp2_with (fail)
  go_returns
  obtain ⟨⟨a1, n1, c1, e1, k1, k2, k3⟩, k4, k5, k6⟩ := HT.out
  cases e1
  have ft : L.filter (fun _ => true) = L := List.filter_eq_self.2 (by simp)
  have fz : L.filter (fun _ => false) = [] := List.filter_eq_nil_iff.2 (by simp)
  simp only [Bool.not_true] at k4 k5
  rw [ft] at k1 k2
  rw [fz] at k4 k5
  exact ⟨HO2.out, _, rfl, ⟨ao, no, co, rfl, k1, k2, fun x hx => by have := k3 x hx; simpa using this⟩, al, nl, cl, HS.out, k4, k5, fun x hx _ => by have := k6 x hx; simp at this; exact ⟨by omega, hF.out _ this⟩⟩

def maxAt (p : Pk) (delay : Int) : Int := max (p.at_ + delay) 1
def lossStep (has : Bool) (lg delay : Int) (z : Int) (p : Pk) : Int := if ((has && decide (p.pn < lg)) && (decide (z = 0) || decide (maxAt p delay < z))) = true then maxAt p delay else z
theorem foldl_take_succ {β α : Type} [Inhabited α] (f : β → α → β) (z : β) {L : List α} {k : Nat} (hk : k < L.length) : (L.take (k + 1)).foldl f z = f ((L.take k).foldl f z) (L.getD k default) := by
  rw [List.take_add_one, List.getElem?_eq_getElem hk, List.foldl_append]
  simp [hk]
theorem loss_bnd {has : Bool} {lg delay : Int} (hd : 0 ≤ delay ∧ delay ≤ 4611686018427387904) : ∀ (L : List Pk) (z : Int), (∀ p ∈ L, 0 ≤ p.at_ ∧ p.at_ ≤ 4611686018427387904) → 0 ≤ z ∧ z ≤ 9223372036854775808 → 0 ≤ L.foldl (lossStep has lg delay) z ∧ L.foldl (lossStep has lg delay) z ≤ 9223372036854775808
  | [], z, _, hz => hz
  | p :: L, z, h, hz => by
    refine loss_bnd hd L _ (fun q hq => h q (List.mem_cons_of_mem _ hq)) ?_
    have := h p (by simp)
    unfold lossStep maxAt
    split <;> omega
/-- What Lost makes of LossAt. -/
def lossOf (has : Bool) (lg delay : Int) (L : List Pk) : Int := L.foldl (lossStep has lg delay) 0

set_option maxRecDepth 100000 in
set_option maxHeartbeats 4000000 in
/-- Lost. -/
theorem slost_any (b : Nat) (F : Nat → Prop) (now delay : Int) (L : List Pk) (has : Bool) (lg la lt top : Int) (w : World) (h : SS w b F L has lg la lt top) (hF : Hid (∀ z, w.heap.size ≤ z → F z)) (hl : L.length ≤ 1000) (hg : u64b' lg)
    (hd : 0 ≤ delay ∧ delay ≤ 4611686018427387904) (hnow : 0 ≤ now ∧ now ≤ 4611686018427387904) (hat : ∀ p ∈ L, p.at_ ≤ 4611686018427387904) :
    Calls Try.prog 41 #[.pointer (some ⟨b, 0, none⟩), .int .u64 now, .int .u64 delay] w fun e w' => Only (· = b) w w' ∧ ∃ v, e = .returned v ∧ Told15 w w' v (L.filter (lostQ has lg now delay)) ∧
      SS w' b F (L.filter fun p => !lostQ has lg now delay p) has lg (lossOf has lg delay (L.filter fun p => !lostQ has lg now delay p)) lt top := by
  obtain ⟨a, n, c, hB, hn, hP, hne0⟩ := h
  have hne : ∀ x, a = some x → 0 < L.length → x.block ≠ b := fun x hx h0 => (hne0 x hx h0).1
  clear hne0
  have hblt := Blk.lt hB
  have hz0 : ¬ b = w.heap.size := by omega
  have hok := hP.ok
  obtain ⟨R, hR⟩ : ∃ R, (L.filter fun p => !lostQ has lg now delay p) = R := ⟨_, rfl⟩
  have hRat : ∀ p ∈ R, p.at_ ≤ 4611686018427387904 := fun p hp => hat p (List.mem_filter.1 (hR ▸ hp)).1
  have hRl : R.length ≤ 1000 := by have := List.length_filter_le (fun p => !lostQ has lg now delay p) L; rw [hR] at this; omega
  rw [hR] 
  have b1 : Below w.heap.size w (((w.alloc (.cells #[.pointer (some ⟨b, 0, none⟩)] 61)).alloc (.cells #[.int .u64 now] 28)).alloc (.cells #[.int .u64 delay] 28)) := (((Below.refl _ _).alloc (Nat.le_refl _) _).alloc (by simp) _).alloc (by simp; omega) _
  have q0 : (((w.alloc (.cells #[.pointer (some ⟨b, 0, none⟩)] 61)).alloc (.cells #[.int .u64 now] 28)).alloc (.cells #[.int .u64 delay] 28)).cell? ⟨w.heap.size, 0, none⟩ = some (.pointer (some ⟨b, 0, none⟩)) := (((Blk.new w #[.pointer (some ⟨b, 0, none⟩)] 61).alloc (.cells #[.int .u64 now] 28)).alloc (.cells #[.int .u64 delay] 28)).cell 0 _ rfl
  have q1 : (((w.alloc (.cells #[.pointer (some ⟨b, 0, none⟩)] 61)).alloc (.cells #[.int .u64 now] 28)).alloc (.cells #[.int .u64 delay] 28)).cell? ⟨w.heap.size + 1, 0, none⟩ = some (.int .u64 now) := by
    have := ((Blk.new (w.alloc (.cells #[.pointer (some ⟨b, 0, none⟩)] 61)) #[.int .u64 now] 28).alloc (.cells #[.int .u64 delay] 28)).cell 0 _ rfl
    simpa using this
  have q2 : (((w.alloc (.cells #[.pointer (some ⟨b, 0, none⟩)] 61)).alloc (.cells #[.int .u64 now] 28)).alloc (.cells #[.int .u64 delay] 28)).cell? ⟨w.heap.size + 1 + 1, 0, none⟩ = some (.int .u64 delay) := by
    have := (Blk.new ((w.alloc (.cells #[.pointer (some ⟨b, 0, none⟩)] 61)).alloc (.cells #[.int .u64 now] 28)) #[.int .u64 delay] 28).cell 0 _ rfl
    simpa using this
  have z1 : (((w.alloc (.cells #[.pointer (some ⟨b, 0, none⟩)] 61)).alloc (.cells #[.int .u64 now] 28)).alloc (.cells #[.int .u64 delay] 28)).heap.size = w.heap.size + 1 + 1 + 1 := by simp
  go_enter Try.func41, Try.ntmps41
  go_wp2_with (fail)
  obtain ⟨w1, hw1⟩ : ∃ w1, ((w.alloc (.cells #[.pointer (some ⟨b, 0, none⟩)] 61)).alloc (.cells #[.int .u64 now] 28)).alloc (.cells #[.int .u64 delay] 28) = w1 := ⟨_, rfl⟩
  rw [hw1] at b1 q0 q1 q2 z1 ⊢
  clear hw1
  have hB1 := Blk.below hB b1
  have hP1 := hP.below b1
  have HC := take_any 78 #[.pointer (some ⟨w.heap.size, 0, none⟩), .pointer (some ⟨w.heap.size + 1 + 1, 0, none⟩), .pointer (some ⟨w.heap.size + 1, 0, none⟩)] (lostQ has lg now delay) b L a n c has lg la lt top w1 hB1 hn hP1 hl (by kernel_rfl) (fun W p hW hp => lostc_any p w.heap.size (w.heap.size + 1 + 1) (w.heap.size + 1) b a n c has lg la lt top now delay W (hok p hp) hg (Blk.below hB1 hW) (by have := hW.size; omega) (by have := hW.size; omega) (by have := hW.size; omega) ((hW.cell (p := ⟨w.heap.size, 0, none⟩) (by show w.heap.size < _; omega)).trans q0) ((hW.cell (p := ⟨w.heap.size + 1 + 1, 0, none⟩) (by show w.heap.size + 1 + 1 < _; omega)).trans q2) ((hW.cell (p := ⟨w.heap.size + 1, 0, none⟩) (by show w.heap.size + 1 < _; omega)).trans q1) hd hnow (hat p hp))
  refine HC.mono ?_
  rintro e w2 ⟨o2, ao, no, co, al, nl, cl, rfl, hs, ht⟩
  obtain ⟨t1, t2, t3, t4⟩ := ht.told hok
  rw [hR] at t2 t3
  have g0 : w2.cell? ⟨w.heap.size, 0, none⟩ = some (.pointer (some ⟨b, 0, none⟩)) := (o2.cell (p := ⟨w.heap.size, 0, none⟩) (by show w.heap.size < _; omega) (by show ¬ w.heap.size = b; omega)).trans q0
  have g2 : w2.cell? ⟨w.heap.size + 1 + 1, 0, none⟩ = some (.int .u64 delay) := (o2.cell (p := ⟨w.heap.size + 1 + 1, 0, none⟩) (by show w.heap.size + 1 + 1 < _; omega) (by show ¬ w.heap.size + 1 + 1 = b; omega)).trans q2
  have hsz2 : w.heap.size + 1 + 1 + 1 ≤ w2.heap.size := by have := o2.size; omega
  have c3 := Blk.cell hs 3 _ rfl
  have f3 := Blk.free hs 3
  have hs2 : SB (w2.setCell ⟨b, 3, none⟩ (.int .u64 0)) b al nl cl has lg 0 lt top := (Blk.set hs 3 (.int .u64 0)).congr (by simp)
  have s0 := Blk.cell hs2 0 _ rfl
  have o3 : Only (· = b) w2 (w2.setCell ⟨b, 3, none⟩ (.int .u64 0)) := (Only.refl _ _).set 3 _
  have HS2 := Lib.hid hs2
  have t1' : Told15 w w2 (.slice ao no co) (L.filter (lostQ has lg now delay)) := by obtain ⟨a1, n1, c1, e1, k1, k2, k3⟩ := t1; exact ⟨a1, n1, c1, e1, k1, k2, fun x hx => by have := k3 x hx; omega⟩
  have T1 := Lib.hid t1'
  have T2 := Lib.hid t2
  have T3 := Lib.hid t3
  have t4' : ∀ x, al = some x → x.block ≠ b ∧ w.heap.size ≤ x.block := fun x hx => by have := t4 x hx; omega
  have T4 := Lib.hid t4'
  have O2 := Lib.hid (Only.trans (only_of_below b1 (· = b)) o2)
  have O3 := Lib.hid o3
  have HAT := Lib.hid hRat
  have HRL := Lib.hid hRl
  clear HC ht hs hs2 t1 t2 t3 t4 t4' t1' o2 o3 hRat hRl hB1 hP1 hB hP hne hok hat b1 q0 q1 q2 hn hR hl z1
  go_wp2_with (fail)
  clear c3 f3 s0
  have nqb : ¬ w.heap.size + 1 + 1 = b := by omega
  have nq2 : w.heap.size + 1 + 1 < w2.heap.size := by omega
  have nq0 : w.heap.size < w2.heap.size := by omega
  clear hsz2
  generalize w.heap.size + 1 + 1 = qd at *
  go_loopw [9, 10, 26] (fun _ _ i wr => ∃ k : Nat, i = .int .i64 k ∧ k ≤ nl ∧ Only (· = b) w2 wr ∧ Hid (SB wr b al nl cl has lg ((R.take k).foldl (lossStep has lg delay) 0) lt top)) (fun _ _ i _ => nl - (intOf i).toNat)
  case atStart => exact ⟨0, rfl, by omega, O3.out, Lib.hid HS2.out⟩
  case round =>
    obtain ⟨k, rfl, hk, ow, hsb⟩ := hrel
    have OW := Lib.hid ow
    by_cases hlt : k < nl
    · have hkR : k < R.length := by have := T2.out; omega
      obtain ⟨b', off, ha, hb', p, hpe, hpm, d0, d1, d2, d3, d4, d5, i0, i1, i2, i4⟩ := (T3.out.only ow (fun x hx => by have := (T4.out x hx).1; omega)).at_ hkR
      subst ha
      have hpat := HAT.out p hpm
      have hfold := foldl_take_succ (lossStep has lg delay) 0 hkR
      rw [hpe] at hfold
      have hzb := loss_bnd (has := has) (lg := lg) hd (R.take k) 0 (fun q hq => by have h1 := T3.out.ok q (List.mem_of_mem_take hq); have h2 := HAT.out q (List.mem_of_mem_take hq); exact ⟨h1.2.1.1, h2⟩) (by omega)
      have hlen := HRL.out
      have hnl := T2.out
      have hnl1 : nl ≤ 1000 := by omega
      have g0' : wr.cell? ⟨w.heap.size, 0, none⟩ = some (.pointer (some ⟨b, 0, none⟩)) := (ow.cell (p := ⟨w.heap.size, 0, none⟩) (by show w.heap.size < _; omega) (by show ¬ w.heap.size = b; omega)).trans g0
      have g2' : wr.cell? ⟨qd, 0, none⟩ = some (.int .u64 delay) := (ow.cell (p := ⟨qd, 0, none⟩) (by show qd < _; omega) (by show ¬ qd = b; omega)).trans g2
      have hszr := ow.size
      have n0 : ¬ w.heap.size = wr.heap.size := by omega
      have n2 : ¬ qd = wr.heap.size := by omega
      have nb : ¬ b = wr.heap.size := by omega
      have l0 : w.heap.size < wr.heap.size := by omega
      have l2 : qd < wr.heap.size := by omega
      obtain ⟨z, hz⟩ : ∃ z, (R.take k).foldl (lossStep has lg delay) 0 = z := ⟨_, rfl⟩
      rw [hz] at hsb hzb
      have HZ := Lib.hid hz
      have HF := Lib.hid hfold
      have b1 : Below wr.heap.size wr (wr.alloc (.cells #[.int .u64 p.pn, .int .u64 p.at_, .int .u64 p.size, .bool p.el, .int .u64 p.after, .slice p.fa p.fn p.fc] 69)) := (Below.refl _ _).alloc (Nat.le_refl _) _
      have ho := over_any b p (some ⟨b', off, none⟩) nl cl has lg z lt top _ (Blk.below hsb.out b1) ⟨i0, i1, i2, i4⟩ hg
      obtain ⟨ov, hov⟩ : ∃ v, (has && decide (p.pn < lg)) = v := ⟨_, rfl⟩
      rw [hov] at ho
      have HOV := Lib.hid hov
      have HO := Lib.hid ho
      have HSB := Lib.hid hsb.out
      clear ho hov hpe hfold hsb hz hnl hlen g0 g2
      obtain ⟨pn, at_, size, el, after, fa, fn, fc⟩ := p
      simp only [pkV] at *
      obtain ⟨m, hm⟩ : ∃ m, max (at_ + delay) 1 = m := ⟨_, rfl⟩
      have HM := Lib.hid hm
      have hmb : 0 ≤ m ∧ m ≤ 18446744073709551615 := by omega
      have hmx : ∀ (hm : max (at_ + delay) 1 = m), True := fun _ => trivial
      clear hm hmx
      have HHH : Hid (∀ W, Below (wr.alloc (.cells #[.int .u64 pn, .int .u64 at_, .int .u64 size, .bool el, .int .u64 after, .slice fa fn fc] 69)).heap.size (wr.alloc (.cells #[.int .u64 pn, .int .u64 at_, .int .u64 size, .bool el, .int .u64 after, .slice fa fn fc] 69)) W → Only (· = b) w2 W ∧ SB W b (some ⟨b', off, none⟩) nl cl has lg z lt top ∧ W.cell? ⟨w.heap.size, 0, none⟩ = some (.pointer (some ⟨b, 0, none⟩))) := Lib.hid (fun W hW => by
        have b3 := below_on b1 hW (by simp)
        exact ⟨OW.out.trans (only_of_below b3 _), Blk.below HSB.out b3, (b3.cell (p := ⟨w.heap.size, 0, none⟩) (by show w.heap.size < _; omega)).trans g0'⟩)
      clear ow
      go_wp2_with (fail)
      try simp only [HM.out]
      refine HO.out.mono ?_
      rintro e w3 ⟨hb3, rfl⟩
      obtain ⟨o5, hs5, y0⟩ := HHH.out w3 hb3
      have y3 := Blk.cell hs5 3 _ rfl
      have O5 := Lib.hid o5
      have HS5 := Lib.hid hs5
      clear o5 hs5 hb3
      cases ov with
      | false =>
        have hstep : lossStep has lg delay z ⟨pn, at_, size, el, after, fa, fn, fc⟩ = z := by
          unfold lossStep maxAt
          rw [HM.out, HOV.out]
          simp
        go_wp2_with (fail)
        exact ⟨⟨k + 1, rfl, by omega, O5.out, Lib.hid (by rw [HF.out, HZ.out, hstep]; exact HS5.out)⟩, by simp [intOf]; omega⟩
      | true =>
        by_cases e1 : z = 0
        · have e1' : (z == 0) = true := by simpa using e1
          have hstep : lossStep has lg delay z ⟨pn, at_, size, el, after, fa, fn, fc⟩ = m := by
            unfold lossStep maxAt
            rw [HM.out, HOV.out]
            simp [e1]
          have f5 := Blk.free HS5.out 3
          go_wp2_with (fail)
          exact ⟨⟨k + 1, rfl, by omega, O5.out.set 3 (.int .u64 m), Lib.hid (by rw [HF.out, HZ.out, hstep]; exact (Blk.set HS5.out 3 (.int .u64 m)).congr (by simp))⟩, by simp [intOf]; omega⟩
        · have e1' : (z == 0) = false := by simpa using e1
          by_cases e2 : m < z
          · have e2' : decide (m < z) = true := decide_eq_true e2
            have hstep : lossStep has lg delay z ⟨pn, at_, size, el, after, fa, fn, fc⟩ = m := by
              unfold lossStep maxAt
              rw [HM.out, HOV.out]
              simp [e1, e2]
            have f5 := Blk.free HS5.out 3
            go_wp2_with (fail)
            exact ⟨⟨k + 1, rfl, by omega, O5.out.set 3 (.int .u64 m), Lib.hid (by rw [HF.out, HZ.out, hstep]; exact (Blk.set HS5.out 3 (.int .u64 m)).congr (by simp))⟩, by simp [intOf]; omega⟩
          · have e2' : decide (m < z) = false := decide_eq_false e2
            have hstep : lossStep has lg delay z ⟨pn, at_, size, el, after, fa, fn, fc⟩ = z := by
              unfold lossStep maxAt
              rw [HM.out, HOV.out]
              simp [e1, e2]
            go_wp2_with (fail)
            exact ⟨⟨k + 1, rfl, by omega, O5.out, Lib.hid (by rw [HF.out, HZ.out, hstep]; exact HS5.out)⟩, by simp [intOf]; omega⟩
    · obtain rfl : k = nl := by omega
      have hk2 : R.take k = R := by rw [T2.out, List.take_length]
      rw [hk2] at hsb
      have HSB := Lib.hid hsb.out
      clear hsb hk2
      go_wp2_with (fail)
      go_returns
      obtain ⟨a1, n1, c1, e1, k1, k2, k3⟩ := T1.out
      cases e1
      have ow := OW.out
      refine ⟨O2.out.trans ow, _, rfl, ⟨ao, no, co, rfl, k1, k2.only ow (fun x hx => by have := k3 x hx; omega), fun x hx => k3 x hx⟩, al, k, cl, HSB.out, T2.out, T3.out.only ow (fun x hx => by have := (T4.out x hx).1; omega), fun x hx _ => ⟨(T4.out x hx).1, hF.out _ (T4.out x hx).2⟩⟩
end Go.Proofs.Ytidfimpchbkppaa
