/- Out: the block; End, Over, Finish, Allow, Blocked, wrong, Write. -/
import Derived.Test.YtidfimpchbkppaaOu1
namespace Go.Proofs.Ytidfimpchbkppaa
open Go.RowKit
set_option linter.unusedVariables false

structure OSt where
  ba : Option Addr
  bn : Nat
  bc : Nat
  base : Int
  next : Int
  mx : Int
  aa : Option Addr
  an : Nat
  ac : Nat
  la : Option Addr
  ln : Nat
  lc : Nat
  fin : Bool
  sent : Bool
  ack : Bool
/-- Block b is the part. -/
def OB (w : World) (b : Nat) (s : OSt) : Prop := Blk w b #[.slice s.ba s.bn s.bc, .int .u64 s.base, .int .u64 s.next, .int .u64 s.mx, .slice s.aa s.an s.ac, .slice s.la s.ln s.lc, .bool s.fin, .bool s.sent, .bool s.ack, .bool false, .int .u64 0, .bool false, .bool false, .bool false] 96
def OOk (s : OSt) : Prop := (0 ≤ s.base ∧ s.base ≤ 100000) ∧ (0 ≤ s.next ∧ s.next ≤ 100000) ∧ (0 ≤ s.mx ∧ s.mx ≤ 100000000000) ∧ s.bn ≤ 100000
set_option maxRecDepth 100000 in
theorem oend_any (b : Nat) (s : OSt) (w : World) (h : OB w b s) (hs : OOk s) : Calls Try.prog 64 #[.pointer (some ⟨b, 0, none⟩)] w fun e w' => Below w.heap.size w w' ∧ e = .returned (.int .u64 (s.base + s.bn)) := by
  unfold OB at h
  obtain ⟨ba, bn, bc, base, next, mx, aa, an, ac, la, ln, lc, fin, sent, ack⟩ := s
  obtain ⟨h1, h2, h3, h4⟩ := hs
  simp only at *
  have c0 := h.cell 0 _ rfl
  have c1 := h.cell 1 _ rfl
  have lb := h.lt
  clear h
  go_enter Try.func64, Try.ntmps64
  go_wp2_with (fail)
  refine rg_start 14 ?_
  refine rg_same fun p hx hne hC => ?_
  refine rg_quiet 0 [0,1,2,3,4,5,6,7,8,9,10,11,12,13] hC ?_
  simp only [pickD, List.map_cons, List.map_nil, List.getD_cons_zero, List.getD_cons_succ]; repeat (go_big_quiet_step (fail))
  refine wpQuiet_nil ?_
  refine rg_end ?_
  clear hx hne hC
  go_wp2_with (fail)
  go_returns
  exact ⟨(Below.refl _ _).drew, rfl⟩
def overB (s : OSt) : Bool := s.fin && (s.ack && decide (s.bn = 0))
set_option maxRecDepth 100000 in
theorem oover_any (b : Nat) (s : OSt) (w : World) (h : OB w b s) (hs : OOk s) : Calls Try.prog 57 #[.pointer (some ⟨b, 0, none⟩)] w fun e w' => Below w.heap.size w w' ∧ e = .returned (.bool (overB s)) := by
  unfold OB at h
  obtain ⟨ba, bn, bc, base, next, mx, aa, an, ac, la, ln, lc, fin, sent, ack⟩ := s
  obtain ⟨h1, h2, h3, h4⟩ := hs
  simp only [overB] at *
  have c0 := h.cell 0 _ rfl
  have c6 := h.cell 6 _ rfl
  have c8 := h.cell 8 _ rfl
  have c9 := h.cell 9 _ rfl
  have lb := h.lt
  clear h
  cases fin with
  | false =>
    go_enter Try.func57, Try.ntmps57
    go_wp2_with (fail)
    go_returns
    exact ⟨Below.refl _ _, rfl⟩
  | true =>
    cases ack with
    | false =>
      go_enter Try.func57, Try.ntmps57
      go_wp2_with (fail)
      go_returns
      exact ⟨Below.refl _ _, rfl⟩
    | true =>
      by_cases g : bn = 0
      · subst g
        go_enter Try.func57, Try.ntmps57
        go_wp2_with (fail)
        go_returns
        exact ⟨Below.refl _ _, rfl⟩
      · have g' : ((bn : Int) == 0) = false := by simp; omega
        have g2 : decide (bn = 0) = false := by simp [g]
        rw [g2]
        go_enter Try.func57, Try.ntmps57
        go_wp2_with (fail)
        go_returns
        exact ⟨Below.refl _ _, rfl⟩
set_option maxRecDepth 100000 in
theorem ofinish_any (b : Nat) (s : OSt) (w : World) (h : OB w b s) (hf : s.fin = false) : Calls Try.prog 55 #[.pointer (some ⟨b, 0, none⟩)] w fun e w' => Only (· = b) w w' ∧ OB w' b { s with fin := true } ∧ e = .returned (.int .i64 0) := by
  unfold OB at *
  obtain ⟨ba, bn, bc, base, next, mx, aa, an, ac, la, ln, lc, fin, sent, ack⟩ := s
  simp only at *
  subst hf
  have c6 := h.cell 6 _ rfl
  have c9 := h.cell 9 _ rfl
  have f6 := h.free 6
  have lb := h.lt
  have HH := Lib.hid h
  clear h
  go_enter Try.func55, Try.ntmps55
  go_wp2_with (fail)
  go_returns
  exact ⟨(Only.refl _ _).set 6 _, (HH.out.set 6 (.bool true)).congr (by simp), rfl⟩
set_option maxRecDepth 100000 in
theorem oallow_any (b : Nat) (s : OSt) (m : Int) (w : World) (h : OB w b s) (hs : OOk s) (hm : 0 ≤ m ∧ m ≤ 100000000000) (hle : s.mx ≤ m) : Calls Try.prog 56 #[.pointer (some ⟨b, 0, none⟩), .int .u64 m] w fun e w' => Only (· = b) w w' ∧ OB w' b { s with mx := m } ∧ ∃ v, e = .returned v := by
  unfold OB at *
  obtain ⟨ba, bn, bc, base, next, mx, aa, an, ac, la, ln, lc, fin, sent, ack⟩ := s
  obtain ⟨h1, h2, h3, h4⟩ := hs
  simp only at *
  have c3 := h.cell 3 _ rfl
  have f3 := h.free 3
  have lb := h.lt
  have HH := Lib.hid h
  clear h
  by_cases g : mx < m
  · go_enter Try.func56, Try.ntmps56
    go_wp2_with (fail)
    go_returns
    exact ⟨(Only.refl _ _).set 3 _, (HH.out.set 3 (.int .u64 m)).congr (by simp), _, rfl⟩
  · obtain rfl : mx = m := by omega
    go_enter Try.func56, Try.ntmps56
    go_wp2_with (fail)
    go_returns
    exact ⟨Only.refl _ _, HH.out, _, rfl⟩
set_option maxRecDepth 100000 in
/-- Blocked. -/
theorem oblocked_any (b : Nat) (s : OSt) (w : World) (h : OB w b s) (hs : OOk s) (h1 : s.next < s.base + s.bn) (h2 : s.mx ≤ s.next) : Calls Try.prog 59 #[.pointer (some ⟨b, 0, none⟩)] w fun e w' => Below w.heap.size w w' ∧ e = .returned (.bool true) := by
  have HE : Hid (∀ W, Below w.heap.size w W → _) := Lib.hid (fun W (hW : Below w.heap.size w W) => oend_any b s W (Blk.below h hW) hs)
  unfold OB at h
  obtain ⟨ba, bn, bc, base, next, mx, aa, an, ac, la, ln, lc, fin, sent, ack⟩ := s
  obtain ⟨g1, g2, g3, g4⟩ := hs
  simp only at *
  have c2 := h.cell 2 _ rfl
  have c3 := h.cell 3 _ rfl
  have c9 := h.cell 9 _ rfl
  have lb := h.lt
  obtain ⟨en, hen⟩ : ∃ x, base + (bn : Int) = x := ⟨_, rfl⟩
  rw [hen] at HE h1
  have d1 : decide (next < en) = true := decide_eq_true h1
  have d2 : decide (mx ≤ next) = true := decide_eq_true h2
  clear h hen
  go_enter Try.func59, Try.ntmps59
  go_wp2_with (fail)
  refine rg_start 34 ?_
  refine rg_below fun p hx hne hC hbel => ?_
  have k2 : ∀ z : Wd p, z.w.cell? ⟨b, 2, none⟩ = some (.int .u64 next) := fun z => (hx z _ _ _ lb).trans c2
  have k3 : ∀ z : Wd p, z.w.cell? ⟨b, 3, none⟩ = some (.int .u64 mx) := fun z => (hx z _ _ _ lb).trans c3
  have k9 : ∀ z : Wd p, z.w.cell? ⟨b, 9, none⟩ = some (.bool false) := fun z => (hx z _ _ _ lb).trans c9
  refine rg_quiet 17 [0,1,2,3,4,5,6,7,8,9,10,11,12,13,14,15,16] hC ?_
  simp only [pickD, List.map_cons, List.map_nil, List.getD_cons_zero, List.getD_cons_succ]; repeat (go_big_quiet_step (fail))
  refine wpQuiet_nil ?_
  refine rg_act 17 ?_
  go_wp2_with (fail)
  refine (HE.out _ (Below.refl _ _).drew).mono ?_
  rintro e w1 ⟨hb1, rfl⟩
  have b1 : Below w.heap.size w w1 := below_on ((Below.refl _ _).drew) hb1 (Nat.le_refl _)
  have hC1 := hbel _ ⟨b1.os, b1.tape, b1.output, b1.size, b1.block⟩
  have B1 := Lib.hid b1
  clear hb1 b1
  go_wp2_with (fail)
  refine ⟨hC1, ?_⟩
  refine rg_quiet 0 [18,19,20,21,22,23,24,25,26,27,28,29,30,31,32,33] hC1 ?_
  simp only [pickD, List.map_cons, List.map_nil, List.getD_cons_zero, List.getD_cons_succ]; repeat (go_big_quiet_step (fail))
  refine wpQuiet_nil ?_
  refine rg_end ?_
  clear hx hne hC hbel hC1 k2 k3 k9
  go_wp2_with (fail)
  go_returns
  exact ⟨B1.out, rfl⟩
set_option maxRecDepth 100000 in
/-- What may be acknowledged is not wrong. -/
theorem owrong_any (b : Nat) (s : OSt) (off m : Int) (fin : Bool) (w : World) (h : OB w b s) (hs : OOk s) (h1 : 0 ≤ off) (h2 : 0 ≤ m) (h3 : off + m ≤ s.next) (h4 : fin = true → s.sent = true ∧ off + m = s.base + s.bn) :
    Calls Try.prog 86 #[.pointer (some ⟨b, 0, none⟩), .int .u64 off, .int .u64 m, .bool fin] w fun e w' => Below w.heap.size w w' ∧ e = .returned (.bool false) := by
  have HE := Lib.hid (oend_any b s w h hs)
  unfold OB at h
  obtain ⟨ba, bn, bc, base, next, mx, aa, an, ac, la, ln, lc, fin', sent, ack⟩ := s
  obtain ⟨g1, g2, g3, g4⟩ := hs
  simp only at *
  have c2 := h.cell 2 _ rfl
  have c7 := h.cell 7 _ rfl
  have c8 := h.cell 8 _ rfl
  have lb := h.lt
  obtain ⟨en, hen⟩ : ∃ x, base + (bn : Int) = x := ⟨_, rfl⟩
  rw [hen] at HE h4
  have u1 : off ≤ 100000 := by omega
  have u2 : m ≤ 100000 := by omega
  have e1 : decide (4611686018427387903 < off) = false := decide_eq_false (by omega)
  have e2 : decide (4611686018427387903 < m) = false := decide_eq_false (by omega)
  have e3 : decide (next < off + m) = false := decide_eq_false (by omega)
  clear h hen
  cases fin with
  | false =>
    clear h4
    go_enter Try.func86, Try.ntmps86
    go_wp2_with (fail)
    go_returns
    exact ⟨Below.refl _ _, rfl⟩
  | true =>
    obtain ⟨rfl, h5⟩ := h4 rfl
    have e4 : decide (next < en) = false := decide_eq_false (by omega)
    clear h4
    go_enter Try.func86, Try.ntmps86
    go_wp2_with (fail)
    refine HE.out.mono ?_
    rintro e w1 ⟨hb1, rfl⟩
    have B1 := Lib.hid hb1
    clear hb1 HE
    go_wp2_with (fail)
    go_returns
    exact ⟨B1.out, rfl⟩
set_option maxRecDepth 100000 in
set_option maxHeartbeats 2000000 in
/-- Write of one part, when nothing was written. -/
theorem owrite_any (b q : Nat) (s : OSt) (n c : Nat) (a : Option Addr) (B : List Int) (w : World) (h : OB w b s) (hs : OOk s) (hz : s.ba = none ∧ s.bn = 0 ∧ s.bc = 0 ∧ s.base = 0) (hf : s.fin = false) (hn : n = B.length) (hB : Sl .u8 w a c B) (hl : B.length ≤ 3000) (hq : Blk w q #[.slice a n c] 46) :
    Calls Try.prog 54 #[.pointer (some ⟨b, 0, none⟩), .slice (some ⟨q, 0, none⟩) 1 1] w fun e w' => Only (· = b) w w' ∧ e = .returned (.int .i64 0) ∧ ∃ (a' : Option Addr) (c' : Nat), OB w' b { s with ba := a', bn := n, bc := c' } ∧ (∀ x, a' = some x → x.block ≠ b ∧ w.heap.size ≤ x.block) ∧ Sl .u8 w' a' c' B := by
  have HC := Lib.hid (bconcat1_any q a n c B w hn hq hB (by omega))
  have HE : Hid (∀ W, Below w.heap.size w W → _) := Lib.hid (fun W (hW : Below w.heap.size w W) => oend_any b s W (Blk.below h hW) hs)
  unfold OB at *
  obtain ⟨ba, bn, bc, base, next, mx, aa, an, ac, la, ln, lc, fin', sent, ack⟩ := s
  obtain ⟨g1, g2, g3, g4⟩ := hs
  simp only at *
  obtain ⟨rfl, rfl, rfl, rfl⟩ := hz
  subst hf
  have hwf := hB.wf
  have lb := h.lt
  have hn1 : n ≤ 3000 := by omega
  have HN := Lib.hid hn
  have HH := Lib.hid h
  have HW := Lib.hid hwf
  clear h hB hq hn hl hwf
  go_enter Try.func54, Try.ntmps54
  go_wp2_with (fail)
  refine HC.out.mono ?_
  rintro e w1 ⟨hb1, a1, c1, rfl, ho1⟩
  have hb := HH.out.below hb1
  have d0 := hb.cell 0 _ rfl
  have d1 := hb.cell 1 _ rfl
  have d6 := hb.cell 6 _ rfl
  have d9 := hb.cell 9 _ rfl
  have lb1 : b < w1.heap.size := hb.lt
  have HO1 := Lib.hid ho1
  have HB1 := Lib.hid hb1
  clear ho1 hb1 HC hb
  go_wp2_with (fail)
  refine (HE.out w1 HB1.out).mono ?_
  rintro e w2 ⟨hb2, rfl⟩
  have b2 := below_on HB1.out hb2 HB1.out.size
  have hb := HH.out.below b2
  have e0 := hb.cell 0 _ rfl
  have ef := hb.free 0
  have lb2 : b < w2.heap.size := hb.lt
  have s1 := OwnS.sl (L := B) (HO1.out.below hb2) HW.out
  have HO2 := Lib.hid (HO1.out.below hb2)
  have x2 := Blk.new w2 #[.slice none 0 0, .slice a1 n c1] 46
  have hcc := bconcat2_any w2.heap.size none a1 0 n 0 c1 [] B (w2.alloc (.cells #[.slice none 0 0, .slice a1 n c1] 46)) rfl HN.out x2 (Sl.nil _ _) (s1.2.below ((Below.refl _ _).alloc (Nat.le_refl _) _)) (by simp) (by have := HN.out; omega)
  rw [List.nil_append, Nat.zero_add] at hcc
  have HCC := Lib.hid hcc
  have B2 := Lib.hid b2
  clear hb hb2 b2 s1 x2 hcc HE HB1 d0 d1 d6 d9
  go_wp2_with (fail)
  refine HCC.out.mono ?_
  rintro e w3 ⟨hb3, a3, c3, rfl, ho3⟩
  have b3 : Below w.heap.size w w3 := below_on (B2.out.alloc B2.out.size (.cells #[.slice none 0 0, .slice a1 n c1] 46)) hb3 (by have := B2.out.size; simp; omega)
  have hb := HH.out.below b3
  have e0' := hb.cell 0 _ rfl
  have ef' := hb.free 0
  have hfar : ∀ x, a3 = some x → x.block ≠ b ∧ w.heap.size ≤ x.block := fun x hx => by
    have h1 := (ho3.block hx).1
    have h2 := B2.out.size
    simp at h1
    omega
  have hset := (hb.set 0 (.slice a3 n c3)).congr (cs' := #[.slice a3 n c3, .int .u64 0, .int .u64 next, .int .u64 mx, .slice aa an ac, .slice la ln lc, .bool false, .bool sent, .bool ack, .bool false, .int .u64 0, .bool false, .bool false, .bool false]) (by simp)
  have on3 : Only (· = b) w3 (w3.setCell ⟨b, 0, none⟩ (.slice a3 n c3)) := (Only.refl _ _).set 0 _
  have hsl := (OwnS.sl (L := B) ho3 HW.out).2.only on3 (fun x hx _ he => (hfar x hx).1 he)
  have F := Lib.hid hfar
  have S3 := Lib.hid hset
  have L3 := Lib.hid hsl
  have B3 := Lib.hid b3
  clear hb hb3 b3 hfar hset hsl ho3 on3 e0 ef HCC
  go_wp2_with (fail)
  go_returns
  exact ⟨(only_of_below B3.out _).trans ((Only.refl _ _).set 0 _), rfl, a3, c3, S3.out, F.out, L3.out⟩
end Go.Proofs.Ytidfimpchbkppaa
