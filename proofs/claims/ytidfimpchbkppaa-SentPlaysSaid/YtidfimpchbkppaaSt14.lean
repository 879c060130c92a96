/- Sent: the document's SameAll and Add. -/
import Derived.Test.YtidfimpchbkppaaSt13
namespace Go.Proofs.Ytidfimpchbkppaa
open Go.RowKit
set_option linter.unusedVariables false

theorem SrcAt.blk {w : World} {g : Nat} (p : Pk) (h : Blk w g #[.int .u64 p.pn, .int .u64 p.at_, .int .u64 p.size, .bool p.el, .int .u64 p.after, .slice p.fa p.fn p.fc] 69) : SrcAt w (some ⟨g, 0, none⟩) 1 1 6 (cellsP [p]) := by
  refine ⟨rfl, by simp, fun y hy j u hj => ?_, cellsP_one _⟩
  cases hy
  rw [addr_add, Nat.zero_add]
  exact h.cell j u (by simpa [cellsP, encP] using hj)
theorem SrcAt.cap {w : World} {ad : Option Addr} {m c c' size : Nat} {news : List Value} (h : SrcAt w ad m c size news) (hc : ad = none → c' = 0) : SrcAt w ad m c' size news := ⟨h.1, fun e => ⟨(h.2.1 e).1, hc e⟩, h.2.2⟩
def stV (a : Option Addr) (n c : Nat) (has : Bool) (lg la lt top : Int) : Value := .agg #[.slice a n c, .bool has, .int .u64 lg, .int .u64 la, .int .u64 lt, .int .u64 top]
set_option maxRecDepth 100000 in
set_option maxHeartbeats 4000000 in
theorem sameall_any (a : Option Addr) (n c : Nat) (a' : Option Addr) (n' c' : Nat) (A B : List Pk) (has : Bool) (lg la lt top : Int) (w : World) (hn : n = A.length) (hn' : n' = B.length) (hP : Ps w a c A) (hP' : Ps w a' c' B) (hl : A.length ≤ 1000) (h : AlikeL A B) :
    Calls Try.prog 52 #[stV a n c has lg la lt top, stV a' n' c' has lg la lt top] w fun e w' => Below w.heap.size w w' ∧ e = .returned (.bool true) := by
  unfold stV
  have b1 : Below w.heap.size w ((w.alloc (.cells #[.slice a n c, .bool has, .int .u64 lg, .int .u64 la, .int .u64 lt, .int .u64 top] 64)).alloc (.cells #[.slice a' n' c', .bool has, .int .u64 lg, .int .u64 la, .int .u64 lt, .int .u64 top] 64)) := ((Below.refl _ _).alloc (Nat.le_refl _) _).alloc (by simp) _
  have x1 : Blk ((w.alloc (.cells #[.slice a n c, .bool has, .int .u64 lg, .int .u64 la, .int .u64 lt, .int .u64 top] 64)).alloc (.cells #[.slice a' n' c', .bool has, .int .u64 lg, .int .u64 la, .int .u64 lt, .int .u64 top] 64)) w.heap.size #[.slice a n c, .bool has, .int .u64 lg, .int .u64 la, .int .u64 lt, .int .u64 top] 64 := (Blk.new w _ _).alloc _
  have x2 : Blk ((w.alloc (.cells #[.slice a n c, .bool has, .int .u64 lg, .int .u64 la, .int .u64 lt, .int .u64 top] 64)).alloc (.cells #[.slice a' n' c', .bool has, .int .u64 lg, .int .u64 la, .int .u64 lt, .int .u64 top] 64)) (w.heap.size + 1) #[.slice a' n' c', .bool has, .int .u64 lg, .int .u64 la, .int .u64 lt, .int .u64 top] 64 := by
    have := Blk.new (w.alloc (.cells #[.slice a n c, .bool has, .int .u64 lg, .int .u64 la, .int .u64 lt, .int .u64 top] 64)) #[.slice a' n' c', .bool has, .int .u64 lg, .int .u64 la, .int .u64 lt, .int .u64 top] 64
    simpa using this
  have HC := Lib.hid (same15r_any a n c a' n' c' A B _ hn hn' (hP.below b1) (hP'.below b1) hl h)
  have y0 := x1.cell 0 _ rfl
  have z0 := x2.cell 0 _ rfl
  have X1 := Lib.hid x1
  have X2 := Lib.hid x2
  have B1 := Lib.hid b1
  clear hn hn' hP hP' hl h x1 x2 b1
  go_enter Try.func52, Try.ntmps52
  go_wp2_with (fail)
  refine HC.out.mono ?_
  rintro e w1 ⟨hb, rfl⟩
  have u1 := (X1.out.below hb).cell 1 _ rfl
  have u2 := (X1.out.below hb).cell 2 _ rfl
  have u3 := (X1.out.below hb).cell 3 _ rfl
  have u4 := (X1.out.below hb).cell 4 _ rfl
  have u5 := (X1.out.below hb).cell 5 _ rfl
  have v1 := (X2.out.below hb).cell 1 _ rfl
  have v2 := (X2.out.below hb).cell 2 _ rfl
  have v3 := (X2.out.below hb).cell 3 _ rfl
  have v4 := (X2.out.below hb).cell 4 _ rfl
  have v5 := (X2.out.below hb).cell 5 _ rfl
  have hb2 := below_on B1.out hb B1.out.size
  clear HC X1 X2 B1 hb y0 z0
  go_wp2_with (fail)
  go_returns
  exact ⟨hb2, rfl⟩

set_option maxRecDepth 100000 in
set_option maxHeartbeats 4000000 in
/-- The document's Add of one that may not be. -/
theorem radd_not (p : Pk) (a : Option Addr) (n c : Nat) (has : Bool) (lg la lt top : Int) (w : World) (hp : PkOk p) (ht : u64b' top) (hno : p.pn < top ∨ 4611686018427387903 < p.pn) :
    Calls Try.prog 48 #[stV a n c has lg la lt top, pkV p] w fun e w' => Below w.heap.size w w' ∧ e = .returned (.tuple #[stV a n c has lg la lt top, .bool false]) := by
  obtain ⟨pn, at_, size, el, after, fa, fn, fc⟩ := p
  obtain ⟨⟨p1, p2⟩, _, _, _⟩ := hp
  simp only [pkV, stV] at p1 p2 hno ⊢
  unfold u64b' at ht
  by_cases g1 : pn < top
  · go_enter Try.func48, Try.ntmps48
    go_wp2_with (fail)
    go_returns
    exact ⟨((((Below.refl _ _).alloc (Nat.le_refl _) _).alloc (by simp) _).alloc (by simp; omega) _), rfl⟩
  · have g2 : 4611686018427387903 < pn := by omega
    go_enter Try.func48, Try.ntmps48
    go_wp2_with (fail)
    go_returns
    exact ⟨((((Below.refl _ _).alloc (Nat.le_refl _) _).alloc (by simp) _).alloc (by simp; omega) _), rfl⟩

set_option maxRecDepth 100000 in
set_option maxHeartbeats 4000000 in
/-- The document's Add. -/
theorem radd_any (p : Pk) (L : List Pk) (a : Option Addr) (n c : Nat) (has : Bool) (lg la lt top : Int) (w : World) (hn : n = L.length) (hP : Ps w a c L) (hl : L.length ≤ 1000) (hp : PkOk p) (ht : u64b' top) (h1 : ¬ p.pn < top) (h2 : ¬ 4611686018427387903 < p.pn) :
    Calls Try.prog 48 #[stV a n c has lg la lt top, pkV p] w fun e w' => Below w.heap.size w w' ∧
      ∃ (a' : Option Addr) (c' : Nat), e = .returned (.tuple #[stV a' (n + 1) c' has lg la (if p.el = true then p.at_ else lt) (p.pn + 1), .bool true]) ∧ (∀ x, a' = some x → w.heap.size ≤ x.block) ∧ Ps w' a' c' (L ++ [{ p with after := 0 }]) := by
  obtain ⟨pn, at_, size, el, after, fa, fn, fc⟩ := p
  obtain ⟨⟨p1, p2⟩, ⟨p3, p4⟩, ⟨p5, p6⟩, ⟨p7, p8⟩⟩ := hp
  simp only [pkV, stV] at *
  unfold u64b' at ht
  have HN := Lib.hid hn
  have HP := Lib.hid hP
  have hn1 : n ≤ 1000 := by omega
  clear hn hP hl
  go_enter Try.func48, Try.ntmps48
  go_wp2_with (fail)
  -- THE WAYS
  have x0 : Blk (((w.alloc (.cells #[.slice a n c, .bool has, .int .u64 lg, .int .u64 la, .int .u64 lt, .int .u64 top] 64)).alloc (.cells #[.int .u64 pn, .int .u64 at_, .int .u64 size, .bool el, .int .u64 0, .slice fa fn fc] 69)).alloc (.cells #[.slice none 0 0, .bool false, .int .u64 0, .int .u64 0, .int .u64 0, .int .u64 0] 64)) w.heap.size #[.slice a n c, .bool has, .int .u64 lg, .int .u64 la, .int .u64 lt, .int .u64 top] 64 := ((Blk.new w _ _).alloc _).alloc _
  have x1 : Blk (((w.alloc (.cells #[.slice a n c, .bool has, .int .u64 lg, .int .u64 la, .int .u64 lt, .int .u64 top] 64)).alloc (.cells #[.int .u64 pn, .int .u64 at_, .int .u64 size, .bool el, .int .u64 0, .slice fa fn fc] 69)).alloc (.cells #[.slice none 0 0, .bool false, .int .u64 0, .int .u64 0, .int .u64 0, .int .u64 0] 64)) (w.heap.size + 1) #[.int .u64 pn, .int .u64 at_, .int .u64 size, .bool el, .int .u64 0, .slice fa fn fc] 69 := by
    have := (Blk.new (w.alloc (.cells #[.slice a n c, .bool has, .int .u64 lg, .int .u64 la, .int .u64 lt, .int .u64 top] 64)) #[.int .u64 pn, .int .u64 at_, .int .u64 size, .bool el, .int .u64 0, .slice fa fn fc] 69).alloc (.cells #[.slice none 0 0, .bool false, .int .u64 0, .int .u64 0, .int .u64 0, .int .u64 0] 64)
    simpa using this
  have x2 : Blk (((w.alloc (.cells #[.slice a n c, .bool has, .int .u64 lg, .int .u64 la, .int .u64 lt, .int .u64 top] 64)).alloc (.cells #[.int .u64 pn, .int .u64 at_, .int .u64 size, .bool el, .int .u64 0, .slice fa fn fc] 69)).alloc (.cells #[.slice none 0 0, .bool false, .int .u64 0, .int .u64 0, .int .u64 0, .int .u64 0] 64)) (w.heap.size + 1 + 1) #[.slice none 0 0, .bool false, .int .u64 0, .int .u64 0, .int .u64 0, .int .u64 0] 64 := by
    have := Blk.new ((w.alloc (.cells #[.slice a n c, .bool has, .int .u64 lg, .int .u64 la, .int .u64 lt, .int .u64 top] 64)).alloc (.cells #[.int .u64 pn, .int .u64 at_, .int .u64 size, .bool el, .int .u64 0, .slice fa fn fc] 69)) #[.slice none 0 0, .bool false, .int .u64 0, .int .u64 0, .int .u64 0, .int .u64 0] 64
    simpa using this
  have b0 : Below w.heap.size w (((w.alloc (.cells #[.slice a n c, .bool has, .int .u64 lg, .int .u64 la, .int .u64 lt, .int .u64 top] 64)).alloc (.cells #[.int .u64 pn, .int .u64 at_, .int .u64 size, .bool el, .int .u64 0, .slice fa fn fc] 69)).alloc (.cells #[.slice none 0 0, .bool false, .int .u64 0, .int .u64 0, .int .u64 0, .int .u64 0] 64)) := ((((Below.refl _ _).alloc (Nat.le_refl _) _).alloc (by simp) _).alloc (by simp; omega) _)
  have z0 : (((w.alloc (.cells #[.slice a n c, .bool has, .int .u64 lg, .int .u64 la, .int .u64 lt, .int .u64 top] 64)).alloc (.cells #[.int .u64 pn, .int .u64 at_, .int .u64 size, .bool el, .int .u64 0, .slice fa fn fc] 69)).alloc (.cells #[.slice none 0 0, .bool false, .int .u64 0, .int .u64 0, .int .u64 0, .int .u64 0] 64)).heap.size = w.heap.size + 1 + 1 + 1 := by simp
  obtain ⟨W0, hW0⟩ : ∃ z, ((w.alloc (.cells #[.slice a n c, .bool has, .int .u64 lg, .int .u64 la, .int .u64 lt, .int .u64 top] 64)).alloc (.cells #[.int .u64 pn, .int .u64 at_, .int .u64 size, .bool el, .int .u64 0, .slice fa fn fc] 69)).alloc (.cells #[.slice none 0 0, .bool false, .int .u64 0, .int .u64 0, .int .u64 0, .int .u64 0] 64) = z := ⟨_, rfl⟩
  rw [hW0] at x0 x1 x2 b0 z0 ⊢
  obtain ⟨q1, hq1⟩ : ∃ z, w.heap.size + 1 = z := ⟨_, rfl⟩
  obtain ⟨q2, hq2⟩ : ∃ z, w.heap.size + 1 + 1 = z := ⟨_, rfl⟩
  rw [hq2] at x2 z0 ⊢
  rw [hq1] at x1 hq2 ⊢
  obtain ⟨q0, hq0⟩ : ∃ z, w.heap.size = z := ⟨_, rfl⟩
  have hn01 : ¬ q0 = q1 := by omega
  have hn02 : ¬ q0 = q2 := by omega
  have hn12 : ¬ q1 = q2 := by omega
  rw [hq0] at x0 hq1 ⊢
  have l0 : q0 < W0.heap.size := by omega
  have l1 : q1 < W0.heap.size := by omega
  have l2 : q2 < W0.heap.size := by omega
  have HP0 := Lib.hid (HP.out.below b0)
  have HB0 := Lib.hid b0
  have s0 := x0.cell 0 _ rfl
  have y0 := x1.cell 0 _ rfl
  have y1 := x1.cell 1 _ rfl
  have y2 := x1.cell 2 _ rfl
  have y3 := x1.cell 3 _ rfl
  have y4 := x1.cell 4 _ rfl
  have y5 := x1.cell 5 _ rfl
  have X0 := Lib.hid x0
  have X1 := Lib.hid x1
  have X2 := Lib.hid x2
  have HQ : Hid (w.heap.size ≤ q0 ∧ w.heap.size ≤ q2 ∧ w.heap.size ≤ W0.heap.size) := Lib.hid (by omega)
  clear x0 x1 x2 hW0 b0 HP z0 hq0 hq1 hq2
  refine rg_start 9 ?_
  refine rg_below fun p hx hne hC hbel => ?_
  have k0 : ∀ z : Wd p, z.w.cell? ⟨q0, 0, none⟩ = some (.slice a n c) := fun z => (hx z _ _ _ l0).trans s0
  have k1 : ∀ z : Wd p, z.w.cell? ⟨q1, 0, none⟩ = some (.int .u64 pn) := fun z => (hx z _ _ _ l1).trans y0
  have k2 : ∀ z : Wd p, z.w.cell? ⟨q1, 1, none⟩ = some (.int .u64 at_) := fun z => (hx z _ _ _ l1).trans y1
  have k3 : ∀ z : Wd p, z.w.cell? ⟨q1, 2, none⟩ = some (.int .u64 size) := fun z => (hx z _ _ _ l1).trans y2
  have k4 : ∀ z : Wd p, z.w.cell? ⟨q1, 3, none⟩ = some (.bool el) := fun z => (hx z _ _ _ l1).trans y3
  have k5 : ∀ z : Wd p, z.w.cell? ⟨q1, 4, none⟩ = some (.int .u64 0) := fun z => (hx z _ _ _ l1).trans y4
  have k6 : ∀ z : Wd p, z.w.cell? ⟨q1, 5, none⟩ = some (.slice fa fn fc) := fun z => (hx z _ _ _ l1).trans y5
  refine rg_quiet 6 [1,2,4] hC ?_
  simp only [pickD, List.map_cons, List.map_nil, List.getD_cons_zero, List.getD_cons_succ]; repeat (go_big_quiet_step (fail))
  refine wpQuiet_nil ?_
  refine rg_among [0, 5] ?_
  simp only [List.forall_mem_cons, List.getD_cons_zero, List.getD_cons_succ]
  refine ⟨?_, ?_, by simp⟩
  · go_wp2_with (fail)
    refine ⟨hbel _ (by repeat first | exact Below.refl _ _ | exact ⟨rfl, rfl, rfl, Nat.le_refl _, fun _ _ => rfl⟩ | apply Below.drew | refine Below.alloc ?_ (by simp) _), ?_⟩
    refine rg_among [3, 5] ?_
    simp only [List.forall_mem_cons, List.getD_cons_zero, List.getD_cons_succ]
    refine ⟨?_, ?_, by simp⟩
    · skip
      go_wp2_with (at_builtin; refine Stop.mk ?_)
      refine Stop.out ?_
      have hsrc3 := ((HP0.out.below (show Below W0.heap.size W0 ((W0.alloc (.cells #[] 69)).drew) from (by repeat first | exact Below.refl _ _ | exact ⟨rfl, rfl, rfl, Nat.le_refl _, fun _ _ => rfl⟩ | apply Below.drew | refine Below.alloc ?_ (by simp) _))).src HN.out).cap HP0.out.nul
      refine wpList_app pk_et rfl rfl (base := W0.heap.size) (xs := []) rfl rfl ((OwnS.new W0 W0.heap.size (Nat.le_refl _) 69 6 0 #[] (by simp [maxLen]) rfl).below (Below.refl _ _).drew) hsrc3 (by simp only [maxLen]; omega) (by omega) (by simp <;> omega) ?_
      intro a3 c3 w3 ho3 on3 at3
      have b3 : Below W0.heap.size W0 w3 := below_onto (show Below W0.heap.size W0 ((W0.alloc (.cells #[] 69)).drew) from (by repeat first | exact Below.refl _ _ | exact ⟨rfl, rfl, rfl, Nat.le_refl _, fun _ _ => rfl⟩ | apply Below.drew | refine Below.alloc ?_ (by simp) _)) on3 (by simp <;> omega) (by rintro z hz ⟨y, hy, rfl⟩; cases hy; (simp at hz <;> omega))
      rw [Nat.zero_add, List.nil_append] at ho3
      have HO3 := Lib.hid ho3
      have HB3 := Lib.hid b3
      skip
      have hC3 := hbel _ ⟨b3.os, b3.tape, b3.output, b3.size, b3.block⟩
      clear ho3 b3 on3 at3 hsrc3
      simp only [Nat.zero_add]
      go_wp2_with (fail)
      refine ⟨hC3, ?_⟩
      refine rg_act 5 ?_
      go_wp2_with (fail)
      refine ⟨hbel _ (by have h9 := HB3.out.alloc HB3.out.size (.cells #[.int .u64 pn, .int .u64 at_, .int .u64 size, .bool el, .int .u64 0, .slice fa fn fc] 69); exact ⟨h9.os, h9.tape, h9.output, h9.size, h9.block⟩), ?_⟩
      refine rg_act 6 ?_
      go_wp2_with (at_builtin; refine Stop.mk ?_)
      refine Stop.out ?_
      refine wpList_app pk_et rfl rfl (base := W0.heap.size) rfl rfl (HO3.out.below ((Below.refl _ _).alloc (Nat.le_refl _) _)) (SrcAt.pk w3 ⟨pn, at_, size, el, 0, fa, fn, fc⟩ 69) (by simp only [maxLen]; omega) (by omega) (by have := HB3.out.size; first | omega | (simp; omega)) ?_
      intro a6 c6 w6 ho6 on6 at6
      have b6 : Below W0.heap.size W0 w6 := below_onto (HB3.out.alloc HB3.out.size _) on6 (by have := HB3.out.size; first | omega | (simp; omega)) (by rintro z hz ⟨y, hy, rfl⟩; have := (HO3.out.block hy).1; omega)
      rw [← cellsP_append] at ho6
      have HO6 := Lib.hid ho6
      have HB6 := Lib.hid b6
      have hC6 := hbel _ ⟨b6.os, b6.tape, b6.output, b6.size, b6.block⟩
      have u0 := X0.out.below b6
      have u1 := X1.out.below b6
      have u2 := X2.out.below b6
      clear ho6 b6 on6 at6
      go_wp2_with (fail)
      refine ⟨hC6, ?_⟩
      have m0 := u0.free 0
      have m5 := u0.free 5
      have m4 := u0.free 4
      have r0 := u0.cell 0 _ rfl
      have r1 := u0.cell 1 _ rfl
      have r2 := u0.cell 2 _ rfl
      have r3 := u0.cell 3 _ rfl
      have r4 := u0.cell 4 _ rfl
      have r5 := u0.cell 5 _ rfl
      have v0 := u1.cell 0 _ rfl
      have v1 := u1.cell 1 _ rfl
      have v3 := u1.cell 3 _ rfl
      have e0 := u2.cell 0 _ rfl
      have e1 := u2.cell 1 _ rfl
      have e2 := u2.cell 2 _ rfl
      have e3 := u2.cell 3 _ rfl
      have e4 := u2.cell 4 _ rfl
      have e5 := u2.cell 5 _ rfl
      have f0 := u2.free 0
      have f1 := u2.free 1
      have f2 := u2.free 2
      have f3 := u2.free 3
      have f4 := u2.free 4
      have f5 := u2.free 5
      refine rg_quiet 1 [7] hC6 ?_
      simp only [pickD, List.map_cons, List.map_nil, List.getD_cons_zero, List.getD_cons_succ]; repeat (go_big_quiet_step (fail))
      refine wpQuiet_nil ?_
      refine rg_cut 8 ?_
      go_wp2
      refine rg_end0 ?_
      cases el with
      | true =>
        go_wp2_with (fail)
        have hu0 := ((((Only.refl (· = q0) w6).set 0 (.slice a6 (n + 1) c6)).set 5 (.int .u64 (pn + 1))).set 4 (.int .u64 at_)).blk u2 (by omega)
        have hu1 := hu0.set 0 (.slice a6 (n + 1) c6)
        have hu2 := hu1.set 1 (.bool has)
        have hu3 := hu2.set 2 (.int .u64 lg)
        have hu4 := hu3.set 3 (.int .u64 la)
        have hu5 := hu4.set 4 (.int .u64 at_)
        have hu6 := hu5.set 5 (.int .u64 (pn + 1))
        have hu7 : Blk _ q2 #[.slice a6 (n + 1) c6, .bool has, .int .u64 lg, .int .u64 la, .int .u64 at_, .int .u64 (pn + 1)] 64 := hu6.congr (by simp)
        have on9 := ((((((((((Only.refl (fun z => z = q0 ∨ z = q2) w6).setCell (p := ⟨q0, 0, none⟩) (.inl (.inl rfl)) (.slice a6 (n + 1) c6)).setCell (p := ⟨q0, 5, none⟩) (.inl (.inl rfl)) (.int .u64 (pn + 1))).setCell (p := ⟨q0, 4, none⟩) (.inl (.inl rfl)) (.int .u64 at_)).setCell (p := ⟨q2, 0, none⟩) (.inl (.inr rfl)) (.slice a6 (n + 1) c6)).setCell (p := ⟨q2, 1, none⟩) (.inl (.inr rfl)) (.bool has)).setCell (p := ⟨q2, 2, none⟩) (.inl (.inr rfl)) (.int .u64 lg)).setCell (p := ⟨q2, 3, none⟩) (.inl (.inr rfl)) (.int .u64 la)).setCell (p := ⟨q2, 4, none⟩) (.inl (.inr rfl)) (.int .u64 at_)).setCell (p := ⟨q2, 5, none⟩) (.inl (.inr rfl)) (.int .u64 (pn + 1)))
        have b9 := ((((((((((below_on HB0.out HB6.out HB0.out.size).setCell (p := ⟨q0, 0, none⟩) HQ.out.1 (.slice a6 (n + 1) c6)).setCell (p := ⟨q0, 5, none⟩) HQ.out.1 (.int .u64 (pn + 1))).setCell (p := ⟨q0, 4, none⟩) HQ.out.1 (.int .u64 at_)).setCell (p := ⟨q2, 0, none⟩) HQ.out.2.1 (.slice a6 (n + 1) c6)).setCell (p := ⟨q2, 1, none⟩) HQ.out.2.1 (.bool has)).setCell (p := ⟨q2, 2, none⟩) HQ.out.2.1 (.int .u64 lg)).setCell (p := ⟨q2, 3, none⟩) HQ.out.2.1 (.int .u64 la)).setCell (p := ⟨q2, 4, none⟩) HQ.out.2.1 (.int .u64 at_)).setCell (p := ⟨q2, 5, none⟩) HQ.out.2.1 (.int .u64 (pn + 1)))
        obtain ⟨w9, hw9⟩ : ∃ z, (((((((((w6.setCell ⟨q0, 0, none⟩ (.slice a6 (n + 1) c6)).setCell ⟨q0, 5, none⟩ (.int .u64 (pn + 1))).setCell ⟨q0, 4, none⟩ (.int .u64 at_)).setCell ⟨q2, 0, none⟩ (.slice a6 (n + 1) c6)).setCell ⟨q2, 1, none⟩ (.bool has)).setCell ⟨q2, 2, none⟩ (.int .u64 lg)).setCell ⟨q2, 3, none⟩ (.int .u64 la)).setCell ⟨q2, 4, none⟩ (.int .u64 at_)).setCell ⟨q2, 5, none⟩ (.int .u64 (pn + 1))) = z := ⟨_, rfl⟩
        rw [hw9] at hu7 on9 b9 ⊢
        clear hu0 hu1 hu2 hu3 hu4 hu5 hu6 hw9
        have t0 := hu7.cell 0 _ rfl
        have t1 := hu7.cell 1 _ rfl
        have t2 := hu7.cell 2 _ rfl
        have t3 := hu7.cell 3 _ rfl
        have t4 := hu7.cell 4 _ rfl
        have t5 := hu7.cell 5 _ rfl
        try simp only [Exit.inBlock, Exit.then]
        refine bodyPost_ret (by simp [results, Try.results48, go_sem, t0, t1, t2, t3, t4, t5]; try rfl) rfl ?_
        refine ⟨b9, a6, c6, rfl, fun x hx => by have := (HO6.out.block hx).1; have := HQ.out; omega, ?_⟩
        refine (HO6.out.ps (fun q hq => ?_)).2.only on9 (fun x hx he => ?_)
        · rcases List.mem_append.1 hq with hq | hq
          · exact HP0.out.ok q hq
          · rw [List.mem_singleton.1 hq]
            exact ⟨⟨p1, p2⟩, ⟨p3, p4⟩, ⟨p5, p6⟩, by unfold u64b'; simp⟩
        · have := (HO6.out.block hx).1
          omega
      | false =>
        go_wp2_with (fail)
        have hu0 := (((Only.refl (· = q0) w6).set 0 (.slice a6 (n + 1) c6)).set 5 (.int .u64 (pn + 1))).blk u2 (by omega)
        have hu1 := hu0.set 0 (.slice a6 (n + 1) c6)
        have hu2 := hu1.set 1 (.bool has)
        have hu3 := hu2.set 2 (.int .u64 lg)
        have hu4 := hu3.set 3 (.int .u64 la)
        have hu5 := hu4.set 4 (.int .u64 lt)
        have hu6 := hu5.set 5 (.int .u64 (pn + 1))
        have hu7 : Blk _ q2 #[.slice a6 (n + 1) c6, .bool has, .int .u64 lg, .int .u64 la, .int .u64 lt, .int .u64 (pn + 1)] 64 := hu6.congr (by simp)
        have on9 := (((((((((Only.refl (fun z => z = q0 ∨ z = q2) w6).setCell (p := ⟨q0, 0, none⟩) (.inl (.inl rfl)) (.slice a6 (n + 1) c6)).setCell (p := ⟨q0, 5, none⟩) (.inl (.inl rfl)) (.int .u64 (pn + 1))).setCell (p := ⟨q2, 0, none⟩) (.inl (.inr rfl)) (.slice a6 (n + 1) c6)).setCell (p := ⟨q2, 1, none⟩) (.inl (.inr rfl)) (.bool has)).setCell (p := ⟨q2, 2, none⟩) (.inl (.inr rfl)) (.int .u64 lg)).setCell (p := ⟨q2, 3, none⟩) (.inl (.inr rfl)) (.int .u64 la)).setCell (p := ⟨q2, 4, none⟩) (.inl (.inr rfl)) (.int .u64 lt)).setCell (p := ⟨q2, 5, none⟩) (.inl (.inr rfl)) (.int .u64 (pn + 1)))
        have b9 := (((((((((below_on HB0.out HB6.out HB0.out.size).setCell (p := ⟨q0, 0, none⟩) HQ.out.1 (.slice a6 (n + 1) c6)).setCell (p := ⟨q0, 5, none⟩) HQ.out.1 (.int .u64 (pn + 1))).setCell (p := ⟨q2, 0, none⟩) HQ.out.2.1 (.slice a6 (n + 1) c6)).setCell (p := ⟨q2, 1, none⟩) HQ.out.2.1 (.bool has)).setCell (p := ⟨q2, 2, none⟩) HQ.out.2.1 (.int .u64 lg)).setCell (p := ⟨q2, 3, none⟩) HQ.out.2.1 (.int .u64 la)).setCell (p := ⟨q2, 4, none⟩) HQ.out.2.1 (.int .u64 lt)).setCell (p := ⟨q2, 5, none⟩) HQ.out.2.1 (.int .u64 (pn + 1)))
        obtain ⟨w9, hw9⟩ : ∃ z, ((((((((w6.setCell ⟨q0, 0, none⟩ (.slice a6 (n + 1) c6)).setCell ⟨q0, 5, none⟩ (.int .u64 (pn + 1))).setCell ⟨q2, 0, none⟩ (.slice a6 (n + 1) c6)).setCell ⟨q2, 1, none⟩ (.bool has)).setCell ⟨q2, 2, none⟩ (.int .u64 lg)).setCell ⟨q2, 3, none⟩ (.int .u64 la)).setCell ⟨q2, 4, none⟩ (.int .u64 lt)).setCell ⟨q2, 5, none⟩ (.int .u64 (pn + 1))) = z := ⟨_, rfl⟩
        rw [hw9] at hu7 on9 b9 ⊢
        clear hu0 hu1 hu2 hu3 hu4 hu5 hu6 hw9
        have t0 := hu7.cell 0 _ rfl
        have t1 := hu7.cell 1 _ rfl
        have t2 := hu7.cell 2 _ rfl
        have t3 := hu7.cell 3 _ rfl
        have t4 := hu7.cell 4 _ rfl
        have t5 := hu7.cell 5 _ rfl
        try simp only [Exit.inBlock, Exit.then]
        refine bodyPost_ret (by simp [results, Try.results48, go_sem, t0, t1, t2, t3, t4, t5]; try rfl) rfl ?_
        refine ⟨b9, a6, c6, rfl, fun x hx => by have := (HO6.out.block hx).1; have := HQ.out; omega, ?_⟩
        refine (HO6.out.ps (fun q hq => ?_)).2.only on9 (fun x hx he => ?_)
        · rcases List.mem_append.1 hq with hq | hq
          · exact HP0.out.ok q hq
          · rw [List.mem_singleton.1 hq]
            exact ⟨⟨p1, p2⟩, ⟨p3, p4⟩, ⟨p5, p6⟩, by unfold u64b'; simp⟩
        · have := (HO6.out.block hx).1
          omega
    · go_wp2_with (fail)
      refine ⟨hbel _ (by repeat first | exact Below.refl _ _ | exact ⟨rfl, rfl, rfl, Nat.le_refl _, fun _ _ => rfl⟩ | apply Below.drew | refine Below.alloc ?_ (by simp) _), ?_⟩
      refine rg_act 3 ?_
      go_wp2_with (at_builtin; refine Stop.mk ?_)
      refine Stop.out ?_
      have hsrc3 := ((HP0.out.below (show Below W0.heap.size W0 (((W0.alloc (.cells #[] 69)).alloc (.cells #[.int .u64 pn, .int .u64 at_, .int .u64 size, .bool el, .int .u64 0, .slice fa fn fc] 69)).drew) from (by repeat first | exact Below.refl _ _ | exact ⟨rfl, rfl, rfl, Nat.le_refl _, fun _ _ => rfl⟩ | apply Below.drew | refine Below.alloc ?_ (by simp) _))).src HN.out).cap HP0.out.nul
      refine wpList_app pk_et rfl rfl (base := W0.heap.size) (xs := []) rfl rfl (((OwnS.new W0 W0.heap.size (Nat.le_refl _) 69 6 0 #[] (by simp [maxLen]) rfl).below ((Below.refl _ _).alloc (Nat.le_refl _) _)).below (Below.refl _ _).drew) hsrc3 (by simp only [maxLen]; omega) (by omega) (by simp <;> omega) ?_
      intro a3 c3 w3 ho3 on3 at3
      have b3 : Below W0.heap.size W0 w3 := below_onto (show Below W0.heap.size W0 (((W0.alloc (.cells #[] 69)).alloc (.cells #[.int .u64 pn, .int .u64 at_, .int .u64 size, .bool el, .int .u64 0, .slice fa fn fc] 69)).drew) from (by repeat first | exact Below.refl _ _ | exact ⟨rfl, rfl, rfl, Nat.le_refl _, fun _ _ => rfl⟩ | apply Below.drew | refine Below.alloc ?_ (by simp) _)) on3 (by simp <;> omega) (by rintro z hz ⟨y, hy, rfl⟩; cases hy; (simp at hz <;> omega))
      rw [Nat.zero_add, List.nil_append] at ho3
      have HO3 := Lib.hid ho3
      have HB3 := Lib.hid b3
      have g3 := on3.blk (show Blk (((W0.alloc (.cells #[] 69)).alloc (.cells #[.int .u64 pn, .int .u64 at_, .int .u64 size, .bool el, .int .u64 0, .slice fa fn fc] 69)).drew) (W0.heap.size + 1) _ _ from by have h9 := (Blk.new (W0.alloc (.cells #[] 69)) #[.int .u64 pn, .int .u64 at_, .int .u64 size, .bool el, .int .u64 0, .slice fa fn fc] 69).drew; simpa using h9) (by rintro ⟨y, hy, he⟩; cases hy; simp at he)
      have G3 := Lib.hid g3
      clear g3
      have hC3 := hbel _ ⟨b3.os, b3.tape, b3.output, b3.size, b3.block⟩
      clear ho3 b3 on3 at3 hsrc3
      simp only [Nat.zero_add]
      go_wp2_with (fail)
      refine ⟨hC3, ?_⟩
      refine rg_act 6 ?_
      go_wp2_with (at_builtin; refine Stop.mk ?_)
      refine Stop.out ?_
      refine wpList_app pk_et rfl rfl (base := W0.heap.size) rfl rfl (HO3.out) (SrcAt.blk ⟨pn, at_, size, el, 0, fa, fn, fc⟩ G3.out) (by simp only [maxLen]; omega) (by omega) (by have := HB3.out.size; first | omega | (simp; omega)) ?_
      intro a6 c6 w6 ho6 on6 at6
      have b6 : Below W0.heap.size W0 w6 := below_onto (HB3.out) on6 (by have := HB3.out.size; first | omega | (simp; omega)) (by rintro z hz ⟨y, hy, rfl⟩; have := (HO3.out.block hy).1; omega)
      rw [← cellsP_append] at ho6
      have HO6 := Lib.hid ho6
      have HB6 := Lib.hid b6
      have hC6 := hbel _ ⟨b6.os, b6.tape, b6.output, b6.size, b6.block⟩
      have u0 := X0.out.below b6
      have u1 := X1.out.below b6
      have u2 := X2.out.below b6
      clear ho6 b6 on6 at6
      go_wp2_with (fail)
      refine ⟨hC6, ?_⟩
      have m0 := u0.free 0
      have m5 := u0.free 5
      have m4 := u0.free 4
      have r0 := u0.cell 0 _ rfl
      have r1 := u0.cell 1 _ rfl
      have r2 := u0.cell 2 _ rfl
      have r3 := u0.cell 3 _ rfl
      have r4 := u0.cell 4 _ rfl
      have r5 := u0.cell 5 _ rfl
      have v0 := u1.cell 0 _ rfl
      have v1 := u1.cell 1 _ rfl
      have v3 := u1.cell 3 _ rfl
      have e0 := u2.cell 0 _ rfl
      have e1 := u2.cell 1 _ rfl
      have e2 := u2.cell 2 _ rfl
      have e3 := u2.cell 3 _ rfl
      have e4 := u2.cell 4 _ rfl
      have e5 := u2.cell 5 _ rfl
      have f0 := u2.free 0
      have f1 := u2.free 1
      have f2 := u2.free 2
      have f3 := u2.free 3
      have f4 := u2.free 4
      have f5 := u2.free 5
      refine rg_quiet 1 [7] hC6 ?_
      simp only [pickD, List.map_cons, List.map_nil, List.getD_cons_zero, List.getD_cons_succ]; repeat (go_big_quiet_step (fail))
      refine wpQuiet_nil ?_
      refine rg_cut 8 ?_
      go_wp2
      refine rg_end0 ?_
      cases el with
      | true =>
        go_wp2_with (fail)
        have hu0 := ((((Only.refl (· = q0) w6).set 0 (.slice a6 (n + 1) c6)).set 5 (.int .u64 (pn + 1))).set 4 (.int .u64 at_)).blk u2 (by omega)
        have hu1 := hu0.set 0 (.slice a6 (n + 1) c6)
        have hu2 := hu1.set 1 (.bool has)
        have hu3 := hu2.set 2 (.int .u64 lg)
        have hu4 := hu3.set 3 (.int .u64 la)
        have hu5 := hu4.set 4 (.int .u64 at_)
        have hu6 := hu5.set 5 (.int .u64 (pn + 1))
        have hu7 : Blk _ q2 #[.slice a6 (n + 1) c6, .bool has, .int .u64 lg, .int .u64 la, .int .u64 at_, .int .u64 (pn + 1)] 64 := hu6.congr (by simp)
        have on9 := ((((((((((Only.refl (fun z => z = q0 ∨ z = q2) w6).setCell (p := ⟨q0, 0, none⟩) (.inl (.inl rfl)) (.slice a6 (n + 1) c6)).setCell (p := ⟨q0, 5, none⟩) (.inl (.inl rfl)) (.int .u64 (pn + 1))).setCell (p := ⟨q0, 4, none⟩) (.inl (.inl rfl)) (.int .u64 at_)).setCell (p := ⟨q2, 0, none⟩) (.inl (.inr rfl)) (.slice a6 (n + 1) c6)).setCell (p := ⟨q2, 1, none⟩) (.inl (.inr rfl)) (.bool has)).setCell (p := ⟨q2, 2, none⟩) (.inl (.inr rfl)) (.int .u64 lg)).setCell (p := ⟨q2, 3, none⟩) (.inl (.inr rfl)) (.int .u64 la)).setCell (p := ⟨q2, 4, none⟩) (.inl (.inr rfl)) (.int .u64 at_)).setCell (p := ⟨q2, 5, none⟩) (.inl (.inr rfl)) (.int .u64 (pn + 1)))
        have b9 := ((((((((((below_on HB0.out HB6.out HB0.out.size).setCell (p := ⟨q0, 0, none⟩) HQ.out.1 (.slice a6 (n + 1) c6)).setCell (p := ⟨q0, 5, none⟩) HQ.out.1 (.int .u64 (pn + 1))).setCell (p := ⟨q0, 4, none⟩) HQ.out.1 (.int .u64 at_)).setCell (p := ⟨q2, 0, none⟩) HQ.out.2.1 (.slice a6 (n + 1) c6)).setCell (p := ⟨q2, 1, none⟩) HQ.out.2.1 (.bool has)).setCell (p := ⟨q2, 2, none⟩) HQ.out.2.1 (.int .u64 lg)).setCell (p := ⟨q2, 3, none⟩) HQ.out.2.1 (.int .u64 la)).setCell (p := ⟨q2, 4, none⟩) HQ.out.2.1 (.int .u64 at_)).setCell (p := ⟨q2, 5, none⟩) HQ.out.2.1 (.int .u64 (pn + 1)))
        obtain ⟨w9, hw9⟩ : ∃ z, (((((((((w6.setCell ⟨q0, 0, none⟩ (.slice a6 (n + 1) c6)).setCell ⟨q0, 5, none⟩ (.int .u64 (pn + 1))).setCell ⟨q0, 4, none⟩ (.int .u64 at_)).setCell ⟨q2, 0, none⟩ (.slice a6 (n + 1) c6)).setCell ⟨q2, 1, none⟩ (.bool has)).setCell ⟨q2, 2, none⟩ (.int .u64 lg)).setCell ⟨q2, 3, none⟩ (.int .u64 la)).setCell ⟨q2, 4, none⟩ (.int .u64 at_)).setCell ⟨q2, 5, none⟩ (.int .u64 (pn + 1))) = z := ⟨_, rfl⟩
        rw [hw9] at hu7 on9 b9 ⊢
        clear hu0 hu1 hu2 hu3 hu4 hu5 hu6 hw9
        have t0 := hu7.cell 0 _ rfl
        have t1 := hu7.cell 1 _ rfl
        have t2 := hu7.cell 2 _ rfl
        have t3 := hu7.cell 3 _ rfl
        have t4 := hu7.cell 4 _ rfl
        have t5 := hu7.cell 5 _ rfl
        try simp only [Exit.inBlock, Exit.then]
        refine bodyPost_ret (by simp [results, Try.results48, go_sem, t0, t1, t2, t3, t4, t5]; try rfl) rfl ?_
        refine ⟨b9, a6, c6, rfl, fun x hx => by have := (HO6.out.block hx).1; have := HQ.out; omega, ?_⟩
        refine (HO6.out.ps (fun q hq => ?_)).2.only on9 (fun x hx he => ?_)
        · rcases List.mem_append.1 hq with hq | hq
          · exact HP0.out.ok q hq
          · rw [List.mem_singleton.1 hq]
            exact ⟨⟨p1, p2⟩, ⟨p3, p4⟩, ⟨p5, p6⟩, by unfold u64b'; simp⟩
        · have := (HO6.out.block hx).1
          omega
      | false =>
        go_wp2_with (fail)
        have hu0 := (((Only.refl (· = q0) w6).set 0 (.slice a6 (n + 1) c6)).set 5 (.int .u64 (pn + 1))).blk u2 (by omega)
        have hu1 := hu0.set 0 (.slice a6 (n + 1) c6)
        have hu2 := hu1.set 1 (.bool has)
        have hu3 := hu2.set 2 (.int .u64 lg)
        have hu4 := hu3.set 3 (.int .u64 la)
        have hu5 := hu4.set 4 (.int .u64 lt)
        have hu6 := hu5.set 5 (.int .u64 (pn + 1))
        have hu7 : Blk _ q2 #[.slice a6 (n + 1) c6, .bool has, .int .u64 lg, .int .u64 la, .int .u64 lt, .int .u64 (pn + 1)] 64 := hu6.congr (by simp)
        have on9 := (((((((((Only.refl (fun z => z = q0 ∨ z = q2) w6).setCell (p := ⟨q0, 0, none⟩) (.inl (.inl rfl)) (.slice a6 (n + 1) c6)).setCell (p := ⟨q0, 5, none⟩) (.inl (.inl rfl)) (.int .u64 (pn + 1))).setCell (p := ⟨q2, 0, none⟩) (.inl (.inr rfl)) (.slice a6 (n + 1) c6)).setCell (p := ⟨q2, 1, none⟩) (.inl (.inr rfl)) (.bool has)).setCell (p := ⟨q2, 2, none⟩) (.inl (.inr rfl)) (.int .u64 lg)).setCell (p := ⟨q2, 3, none⟩) (.inl (.inr rfl)) (.int .u64 la)).setCell (p := ⟨q2, 4, none⟩) (.inl (.inr rfl)) (.int .u64 lt)).setCell (p := ⟨q2, 5, none⟩) (.inl (.inr rfl)) (.int .u64 (pn + 1)))
        have b9 := (((((((((below_on HB0.out HB6.out HB0.out.size).setCell (p := ⟨q0, 0, none⟩) HQ.out.1 (.slice a6 (n + 1) c6)).setCell (p := ⟨q0, 5, none⟩) HQ.out.1 (.int .u64 (pn + 1))).setCell (p := ⟨q2, 0, none⟩) HQ.out.2.1 (.slice a6 (n + 1) c6)).setCell (p := ⟨q2, 1, none⟩) HQ.out.2.1 (.bool has)).setCell (p := ⟨q2, 2, none⟩) HQ.out.2.1 (.int .u64 lg)).setCell (p := ⟨q2, 3, none⟩) HQ.out.2.1 (.int .u64 la)).setCell (p := ⟨q2, 4, none⟩) HQ.out.2.1 (.int .u64 lt)).setCell (p := ⟨q2, 5, none⟩) HQ.out.2.1 (.int .u64 (pn + 1)))
        obtain ⟨w9, hw9⟩ : ∃ z, ((((((((w6.setCell ⟨q0, 0, none⟩ (.slice a6 (n + 1) c6)).setCell ⟨q0, 5, none⟩ (.int .u64 (pn + 1))).setCell ⟨q2, 0, none⟩ (.slice a6 (n + 1) c6)).setCell ⟨q2, 1, none⟩ (.bool has)).setCell ⟨q2, 2, none⟩ (.int .u64 lg)).setCell ⟨q2, 3, none⟩ (.int .u64 la)).setCell ⟨q2, 4, none⟩ (.int .u64 lt)).setCell ⟨q2, 5, none⟩ (.int .u64 (pn + 1))) = z := ⟨_, rfl⟩
        rw [hw9] at hu7 on9 b9 ⊢
        clear hu0 hu1 hu2 hu3 hu4 hu5 hu6 hw9
        have t0 := hu7.cell 0 _ rfl
        have t1 := hu7.cell 1 _ rfl
        have t2 := hu7.cell 2 _ rfl
        have t3 := hu7.cell 3 _ rfl
        have t4 := hu7.cell 4 _ rfl
        have t5 := hu7.cell 5 _ rfl
        try simp only [Exit.inBlock, Exit.then]
        refine bodyPost_ret (by simp [results, Try.results48, go_sem, t0, t1, t2, t3, t4, t5]; try rfl) rfl ?_
        refine ⟨b9, a6, c6, rfl, fun x hx => by have := (HO6.out.block hx).1; have := HQ.out; omega, ?_⟩
        refine (HO6.out.ps (fun q hq => ?_)).2.only on9 (fun x hx he => ?_)
        · rcases List.mem_append.1 hq with hq | hq
          · exact HP0.out.ok q hq
          · rw [List.mem_singleton.1 hq]
            exact ⟨⟨p1, p2⟩, ⟨p3, p4⟩, ⟨p5, p6⟩, by unfold u64b'; simp⟩
        · have := (HO6.out.block hx).1
          omega
  · go_wp2_with (fail)
    refine ⟨hbel _ (by repeat first | exact Below.refl _ _ | exact ⟨rfl, rfl, rfl, Nat.le_refl _, fun _ _ => rfl⟩ | apply Below.drew | refine Below.alloc ?_ (by simp) _), ?_⟩
    refine rg_act 0 ?_
    go_wp2_with (fail)
    refine ⟨hbel _ (by repeat first | exact Below.refl _ _ | exact ⟨rfl, rfl, rfl, Nat.le_refl _, fun _ _ => rfl⟩ | apply Below.drew | refine Below.alloc ?_ (by simp) _), ?_⟩
    refine rg_act 3 ?_
    go_wp2_with (at_builtin; refine Stop.mk ?_)
    refine Stop.out ?_
    have hsrc3 := ((HP0.out.below (show Below W0.heap.size W0 (((W0.alloc (.cells #[.int .u64 pn, .int .u64 at_, .int .u64 size, .bool el, .int .u64 0, .slice fa fn fc] 69)).alloc (.cells #[] 69)).drew) from (by repeat first | exact Below.refl _ _ | exact ⟨rfl, rfl, rfl, Nat.le_refl _, fun _ _ => rfl⟩ | apply Below.drew | refine Below.alloc ?_ (by simp) _))).src HN.out).cap HP0.out.nul
    refine wpList_app pk_et rfl rfl (base := W0.heap.size) (xs := []) rfl rfl (by have h9 := (OwnS.new (W0.alloc (.cells #[.int .u64 pn, .int .u64 at_, .int .u64 size, .bool el, .int .u64 0, .slice fa fn fc] 69)) W0.heap.size (by simp) 69 6 0 #[] (by simp [maxLen]) rfl).below (Below.refl _ _).drew; simpa using h9) hsrc3 (by simp only [maxLen]; omega) (by omega) (by simp <;> omega) ?_
    intro a3 c3 w3 ho3 on3 at3
    have b3 : Below W0.heap.size W0 w3 := below_onto (show Below W0.heap.size W0 (((W0.alloc (.cells #[.int .u64 pn, .int .u64 at_, .int .u64 size, .bool el, .int .u64 0, .slice fa fn fc] 69)).alloc (.cells #[] 69)).drew) from (by repeat first | exact Below.refl _ _ | exact ⟨rfl, rfl, rfl, Nat.le_refl _, fun _ _ => rfl⟩ | apply Below.drew | refine Below.alloc ?_ (by simp) _)) on3 (by simp <;> omega) (by rintro z hz ⟨y, hy, rfl⟩; cases hy; (simp at hz <;> omega))
    rw [Nat.zero_add, List.nil_append] at ho3
    have HO3 := Lib.hid ho3
    have HB3 := Lib.hid b3
    have g3 := on3.blk (show Blk (((W0.alloc (.cells #[.int .u64 pn, .int .u64 at_, .int .u64 size, .bool el, .int .u64 0, .slice fa fn fc] 69)).alloc (.cells #[] 69)).drew) W0.heap.size _ _ from ((Blk.new W0 #[.int .u64 pn, .int .u64 at_, .int .u64 size, .bool el, .int .u64 0, .slice fa fn fc] 69).alloc (.cells #[] 69)).drew) (by rintro ⟨y, hy, he⟩; cases hy; simp at he)
    have G3 := Lib.hid g3
    clear g3
    have hC3 := hbel _ ⟨b3.os, b3.tape, b3.output, b3.size, b3.block⟩
    clear ho3 b3 on3 at3 hsrc3
    simp only [Nat.zero_add]
    go_wp2_with (fail)
    refine ⟨hC3, ?_⟩
    refine rg_act 6 ?_
    go_wp2_with (at_builtin; refine Stop.mk ?_)
    refine Stop.out ?_
    refine wpList_app pk_et rfl rfl (base := W0.heap.size) rfl rfl (HO3.out) (SrcAt.blk ⟨pn, at_, size, el, 0, fa, fn, fc⟩ G3.out) (by simp only [maxLen]; omega) (by omega) (by have := HB3.out.size; first | omega | (simp; omega)) ?_
    intro a6 c6 w6 ho6 on6 at6
    have b6 : Below W0.heap.size W0 w6 := below_onto (HB3.out) on6 (by have := HB3.out.size; first | omega | (simp; omega)) (by rintro z hz ⟨y, hy, rfl⟩; have := (HO3.out.block hy).1; omega)
    rw [← cellsP_append] at ho6
    have HO6 := Lib.hid ho6
    have HB6 := Lib.hid b6
    have hC6 := hbel _ ⟨b6.os, b6.tape, b6.output, b6.size, b6.block⟩
    have u0 := X0.out.below b6
    have u1 := X1.out.below b6
    have u2 := X2.out.below b6
    clear ho6 b6 on6 at6
    go_wp2_with (fail)
    refine ⟨hC6, ?_⟩
    have m0 := u0.free 0
    have m5 := u0.free 5
    have m4 := u0.free 4
    have r0 := u0.cell 0 _ rfl
    have r1 := u0.cell 1 _ rfl
    have r2 := u0.cell 2 _ rfl
    have r3 := u0.cell 3 _ rfl
    have r4 := u0.cell 4 _ rfl
    have r5 := u0.cell 5 _ rfl
    have v0 := u1.cell 0 _ rfl
    have v1 := u1.cell 1 _ rfl
    have v3 := u1.cell 3 _ rfl
    have e0 := u2.cell 0 _ rfl
    have e1 := u2.cell 1 _ rfl
    have e2 := u2.cell 2 _ rfl
    have e3 := u2.cell 3 _ rfl
    have e4 := u2.cell 4 _ rfl
    have e5 := u2.cell 5 _ rfl
    have f0 := u2.free 0
    have f1 := u2.free 1
    have f2 := u2.free 2
    have f3 := u2.free 3
    have f4 := u2.free 4
    have f5 := u2.free 5
    refine rg_quiet 1 [7] hC6 ?_
    simp only [pickD, List.map_cons, List.map_nil, List.getD_cons_zero, List.getD_cons_succ]; repeat (go_big_quiet_step (fail))
    refine wpQuiet_nil ?_
    refine rg_cut 8 ?_
    go_wp2
    refine rg_end0 ?_
    cases el with
    | true =>
      go_wp2_with (fail)
      have hu0 := ((((Only.refl (· = q0) w6).set 0 (.slice a6 (n + 1) c6)).set 5 (.int .u64 (pn + 1))).set 4 (.int .u64 at_)).blk u2 (by omega)
      have hu1 := hu0.set 0 (.slice a6 (n + 1) c6)
      have hu2 := hu1.set 1 (.bool has)
      have hu3 := hu2.set 2 (.int .u64 lg)
      have hu4 := hu3.set 3 (.int .u64 la)
      have hu5 := hu4.set 4 (.int .u64 at_)
      have hu6 := hu5.set 5 (.int .u64 (pn + 1))
      have hu7 : Blk _ q2 #[.slice a6 (n + 1) c6, .bool has, .int .u64 lg, .int .u64 la, .int .u64 at_, .int .u64 (pn + 1)] 64 := hu6.congr (by simp)
      have on9 := ((((((((((Only.refl (fun z => z = q0 ∨ z = q2) w6).setCell (p := ⟨q0, 0, none⟩) (.inl (.inl rfl)) (.slice a6 (n + 1) c6)).setCell (p := ⟨q0, 5, none⟩) (.inl (.inl rfl)) (.int .u64 (pn + 1))).setCell (p := ⟨q0, 4, none⟩) (.inl (.inl rfl)) (.int .u64 at_)).setCell (p := ⟨q2, 0, none⟩) (.inl (.inr rfl)) (.slice a6 (n + 1) c6)).setCell (p := ⟨q2, 1, none⟩) (.inl (.inr rfl)) (.bool has)).setCell (p := ⟨q2, 2, none⟩) (.inl (.inr rfl)) (.int .u64 lg)).setCell (p := ⟨q2, 3, none⟩) (.inl (.inr rfl)) (.int .u64 la)).setCell (p := ⟨q2, 4, none⟩) (.inl (.inr rfl)) (.int .u64 at_)).setCell (p := ⟨q2, 5, none⟩) (.inl (.inr rfl)) (.int .u64 (pn + 1)))
      have b9 := ((((((((((below_on HB0.out HB6.out HB0.out.size).setCell (p := ⟨q0, 0, none⟩) HQ.out.1 (.slice a6 (n + 1) c6)).setCell (p := ⟨q0, 5, none⟩) HQ.out.1 (.int .u64 (pn + 1))).setCell (p := ⟨q0, 4, none⟩) HQ.out.1 (.int .u64 at_)).setCell (p := ⟨q2, 0, none⟩) HQ.out.2.1 (.slice a6 (n + 1) c6)).setCell (p := ⟨q2, 1, none⟩) HQ.out.2.1 (.bool has)).setCell (p := ⟨q2, 2, none⟩) HQ.out.2.1 (.int .u64 lg)).setCell (p := ⟨q2, 3, none⟩) HQ.out.2.1 (.int .u64 la)).setCell (p := ⟨q2, 4, none⟩) HQ.out.2.1 (.int .u64 at_)).setCell (p := ⟨q2, 5, none⟩) HQ.out.2.1 (.int .u64 (pn + 1)))
      obtain ⟨w9, hw9⟩ : ∃ z, (((((((((w6.setCell ⟨q0, 0, none⟩ (.slice a6 (n + 1) c6)).setCell ⟨q0, 5, none⟩ (.int .u64 (pn + 1))).setCell ⟨q0, 4, none⟩ (.int .u64 at_)).setCell ⟨q2, 0, none⟩ (.slice a6 (n + 1) c6)).setCell ⟨q2, 1, none⟩ (.bool has)).setCell ⟨q2, 2, none⟩ (.int .u64 lg)).setCell ⟨q2, 3, none⟩ (.int .u64 la)).setCell ⟨q2, 4, none⟩ (.int .u64 at_)).setCell ⟨q2, 5, none⟩ (.int .u64 (pn + 1))) = z := ⟨_, rfl⟩
      rw [hw9] at hu7 on9 b9 ⊢
      clear hu0 hu1 hu2 hu3 hu4 hu5 hu6 hw9
      have t0 := hu7.cell 0 _ rfl
      have t1 := hu7.cell 1 _ rfl
      have t2 := hu7.cell 2 _ rfl
      have t3 := hu7.cell 3 _ rfl
      have t4 := hu7.cell 4 _ rfl
      have t5 := hu7.cell 5 _ rfl
      try simp only [Exit.inBlock, Exit.then]
      refine bodyPost_ret (by simp [results, Try.results48, go_sem, t0, t1, t2, t3, t4, t5]; try rfl) rfl ?_
      refine ⟨b9, a6, c6, rfl, fun x hx => by have := (HO6.out.block hx).1; have := HQ.out; omega, ?_⟩
      refine (HO6.out.ps (fun q hq => ?_)).2.only on9 (fun x hx he => ?_)
      · rcases List.mem_append.1 hq with hq | hq
        · exact HP0.out.ok q hq
        · rw [List.mem_singleton.1 hq]
          exact ⟨⟨p1, p2⟩, ⟨p3, p4⟩, ⟨p5, p6⟩, by unfold u64b'; simp⟩
      · have := (HO6.out.block hx).1
        omega
    | false =>
      go_wp2_with (fail)
      have hu0 := (((Only.refl (· = q0) w6).set 0 (.slice a6 (n + 1) c6)).set 5 (.int .u64 (pn + 1))).blk u2 (by omega)
      have hu1 := hu0.set 0 (.slice a6 (n + 1) c6)
      have hu2 := hu1.set 1 (.bool has)
      have hu3 := hu2.set 2 (.int .u64 lg)
      have hu4 := hu3.set 3 (.int .u64 la)
      have hu5 := hu4.set 4 (.int .u64 lt)
      have hu6 := hu5.set 5 (.int .u64 (pn + 1))
      have hu7 : Blk _ q2 #[.slice a6 (n + 1) c6, .bool has, .int .u64 lg, .int .u64 la, .int .u64 lt, .int .u64 (pn + 1)] 64 := hu6.congr (by simp)
      have on9 := (((((((((Only.refl (fun z => z = q0 ∨ z = q2) w6).setCell (p := ⟨q0, 0, none⟩) (.inl (.inl rfl)) (.slice a6 (n + 1) c6)).setCell (p := ⟨q0, 5, none⟩) (.inl (.inl rfl)) (.int .u64 (pn + 1))).setCell (p := ⟨q2, 0, none⟩) (.inl (.inr rfl)) (.slice a6 (n + 1) c6)).setCell (p := ⟨q2, 1, none⟩) (.inl (.inr rfl)) (.bool has)).setCell (p := ⟨q2, 2, none⟩) (.inl (.inr rfl)) (.int .u64 lg)).setCell (p := ⟨q2, 3, none⟩) (.inl (.inr rfl)) (.int .u64 la)).setCell (p := ⟨q2, 4, none⟩) (.inl (.inr rfl)) (.int .u64 lt)).setCell (p := ⟨q2, 5, none⟩) (.inl (.inr rfl)) (.int .u64 (pn + 1)))
      have b9 := (((((((((below_on HB0.out HB6.out HB0.out.size).setCell (p := ⟨q0, 0, none⟩) HQ.out.1 (.slice a6 (n + 1) c6)).setCell (p := ⟨q0, 5, none⟩) HQ.out.1 (.int .u64 (pn + 1))).setCell (p := ⟨q2, 0, none⟩) HQ.out.2.1 (.slice a6 (n + 1) c6)).setCell (p := ⟨q2, 1, none⟩) HQ.out.2.1 (.bool has)).setCell (p := ⟨q2, 2, none⟩) HQ.out.2.1 (.int .u64 lg)).setCell (p := ⟨q2, 3, none⟩) HQ.out.2.1 (.int .u64 la)).setCell (p := ⟨q2, 4, none⟩) HQ.out.2.1 (.int .u64 lt)).setCell (p := ⟨q2, 5, none⟩) HQ.out.2.1 (.int .u64 (pn + 1)))
      obtain ⟨w9, hw9⟩ : ∃ z, ((((((((w6.setCell ⟨q0, 0, none⟩ (.slice a6 (n + 1) c6)).setCell ⟨q0, 5, none⟩ (.int .u64 (pn + 1))).setCell ⟨q2, 0, none⟩ (.slice a6 (n + 1) c6)).setCell ⟨q2, 1, none⟩ (.bool has)).setCell ⟨q2, 2, none⟩ (.int .u64 lg)).setCell ⟨q2, 3, none⟩ (.int .u64 la)).setCell ⟨q2, 4, none⟩ (.int .u64 lt)).setCell ⟨q2, 5, none⟩ (.int .u64 (pn + 1))) = z := ⟨_, rfl⟩
      rw [hw9] at hu7 on9 b9 ⊢
      clear hu0 hu1 hu2 hu3 hu4 hu5 hu6 hw9
      have t0 := hu7.cell 0 _ rfl
      have t1 := hu7.cell 1 _ rfl
      have t2 := hu7.cell 2 _ rfl
      have t3 := hu7.cell 3 _ rfl
      have t4 := hu7.cell 4 _ rfl
      have t5 := hu7.cell 5 _ rfl
      try simp only [Exit.inBlock, Exit.then]
      refine bodyPost_ret (by simp [results, Try.results48, go_sem, t0, t1, t2, t3, t4, t5]; try rfl) rfl ?_
      refine ⟨b9, a6, c6, rfl, fun x hx => by have := (HO6.out.block hx).1; have := HQ.out; omega, ?_⟩
      refine (HO6.out.ps (fun q hq => ?_)).2.only on9 (fun x hx he => ?_)
      · rcases List.mem_append.1 hq with hq | hq
        · exact HP0.out.ok q hq
        · rw [List.mem_singleton.1 hq]
          exact ⟨⟨p1, p2⟩, ⟨p3, p4⟩, ⟨p5, p6⟩, by unfold u64b'; simp⟩
      · have := (HO6.out.block hx).1
        omega
end Go.Proofs.Ytidfimpchbkppaa
