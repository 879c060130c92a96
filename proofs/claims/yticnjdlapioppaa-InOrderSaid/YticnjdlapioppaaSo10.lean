/- In: the block; end, Over, may, comes. -/
import Derived.Test.YticnjdlapioppaaSo9
namespace Go.Proofs.Yticnjdlapioppaa
open Go.RowKit
set_option linter.unusedVariables false

/-- n bytes of the text from o on. -/
def sub (T : List Int) (o n : Nat) : List Int := (T.drop o).take n
theorem sub_length {T : List Int} {o n : Nat} (h : o + n ≤ T.length) : (sub T o n).length = n := by simp [sub]; omega
theorem sub_take {T : List Int} {o n m : Nat} (h : m ≤ n) : (sub T o n).take m = sub T o m := by simp [sub, List.take_take, Nat.min_eq_left h]
theorem sub_drop (T : List Int) (o n m : Nat) : (sub T o n).drop m = sub T (o + m) (n - m) := by simp [sub, List.drop_take, List.drop_drop]
theorem sub_append (T : List Int) (o n m : Nat) : sub T o n ++ sub T (o + n) m = sub T o (n + m) := by
  unfold sub
  rw [← List.drop_drop, ← List.take_add]

structure ISt where
  ba : Option Addr
  bn : Nat
  bc : Nat
  rd : Nat
  la : Option Addr
  ln : Nat
  lc : Nat
  top : Nat
  mx : Nat
  hf : Bool
  fin : Nat
  fr : Bool
/-- Block q is the part. -/
def IB (w : World) (q : Nat) (s : ISt) : Prop := Blk w q #[.slice s.ba s.bn s.bc, .int .u64 s.rd, .slice s.la s.ln s.lc, .int .u64 s.top, .int .u64 s.mx, .bool s.hf, .int .u64 s.fin, .bool s.fr, .bool false, .int .u64 0, .bool false, .int .u64 0, .bool false] 100
def IOk (s : ISt) : Prop := s.rd ≤ 100000 ∧ s.bn ≤ 100000 ∧ s.ln ≤ 100000 ∧ s.top ≤ 100000 ∧ s.mx ≤ 100000 ∧ s.fin ≤ 100000
set_option maxRecDepth 100000 in
theorem iend_any (q : Nat) (s : ISt) (w : World) (h : IB w q s) (hs : IOk s) : Calls Try.prog 53 #[.pointer (some ⟨q, 0, none⟩)] w fun e w' => Below w.heap.size w w' ∧ e = .returned (.int .u64 ((s.rd : Int) + (s.bn : Int))) := by
  unfold IB at h
  obtain ⟨ba, bn, bc, rd, la, ln, lc, top, mx, hf, fin, fr⟩ := s
  obtain ⟨h1, h2, h3, h4, h5, h6⟩ := hs
  simp only at *
  have c0 := h.cell 0 _ rfl
  have c1 := h.cell 1 _ rfl
  have lb := h.lt
  clear h
  go_enter Try.func53, Try.ntmps53
  go_wp2_with (fail)
  refine rg_start 14 ?_
  refine rg_same fun p hx hne hC => ?_
  refine rg_quiet 0 [0,1,2,3,4,5,6,7,8,9,10,11,12,13] hC ?_
  simp only [pickD, List.map_cons, List.map_nil, List.getD_cons_zero, List.getD_cons_succ]; repeat (go_big_quiet_step (fail))
  refine wpQuiet_nil ?_
  refine rg_end ?_
  clear hx hne hC
  go_wp2_with (fail)
  go_returns
  exact ⟨(Below.refl _ _).drew, rfl⟩
set_option maxRecDepth 100000 in
theorem iover_any (q : Nat) (s : ISt) (w : World) (h : IB w q s) (hfr : s.fr = true) : Calls Try.prog 30 #[.pointer (some ⟨q, 0, none⟩)] w fun e w' => Below w.heap.size w w' ∧ e = .returned (.bool true) := by
  unfold IB at h
  obtain ⟨ba, bn, bc, rd, la, ln, lc, top, mx, hf, fin, fr⟩ := s
  simp only at *
  subst hfr
  have c7 := h.cell 7 _ rfl
  have c8 := h.cell 8 _ rfl
  have lb := h.lt
  clear h
  go_enter Try.func30, Try.ntmps30
  go_wp2_with (fail)
  go_returns
  exact ⟨Below.refl _ _, rfl⟩
set_option maxRecDepth 100000 in
/-- may: nothing is wrong. -/
theorem imay_any (q : Nat) (s : ISt) (e0 : Nat) (fl : Bool) (w : World) (h : IB w q s) (hs : IOk s) (h1 : e0 ≤ s.mx) (h2 : s.hf = true → e0 ≤ s.fin ∧ (fl = true → e0 = s.fin)) (h3 : fl = true → s.top ≤ e0) :
    Calls Try.prog 49 #[.pointer (some ⟨q, 0, none⟩), .int .u64 e0, .bool fl] w fun e w' => Below w.heap.size w w' ∧ e = .returned (.int .i64 0) := by
  unfold IB at h
  obtain ⟨ba, bn, bc, rd, la, ln, lc, top, mx, hf, fin, fr⟩ := s
  obtain ⟨g1, g2, g3, g4, g5, g6⟩ := hs
  simp only at *
  have c3 := h.cell 3 _ rfl
  have c4 := h.cell 4 _ rfl
  have c5 := h.cell 5 _ rfl
  have c6 := h.cell 6 _ rfl
  have lb := h.lt
  clear h
  have d1 : ¬ (e0 : Int) > (mx : Int) := by omega
  cases hf with
  | false =>
    clear h2
    cases fl with
    | false =>
      clear h3
      go_enter Try.func49, Try.ntmps49
      go_wp2_with (fail)
      go_returns
      exact ⟨Below.refl _ _, rfl⟩
    | true =>
      have h3 := h3 rfl
      have d3 : ¬ (e0 : Int) < (top : Int) := by omega
      go_enter Try.func49, Try.ntmps49
      go_wp2_with (fail)
      go_returns
      exact ⟨Below.refl _ _, rfl⟩
  | true =>
    obtain ⟨h2, h4⟩ := h2 rfl
    have d2 : ¬ (e0 : Int) > (fin : Int) := by omega
    cases fl with
    | false =>
      clear h3 h4
      go_enter Try.func49, Try.ntmps49
      go_wp2_with (fail)
      go_returns
      exact ⟨Below.refl _ _, rfl⟩
    | true =>
      have h3 := h3 rfl
      obtain rfl := h4 rfl
      have d3 : ¬ (e0 : Int) < (top : Int) := by omega
      clear h4
      go_enter Try.func49, Try.ntmps49
      go_wp2_with (fail)
      go_returns
      exact ⟨Below.refl _ _, rfl⟩
set_option maxRecDepth 100000 in
theorem icomes_any (q : Nat) (s : ISt) (e0 t : Nat) (w : World) (h : IB w q s) (hs : IOk s) (h0 : e0 ≤ 100000) (ht : max s.top e0 = t) :
    Calls Try.prog 50 #[.pointer (some ⟨q, 0, none⟩), .int .u64 e0, .bool false] w fun e w' => Only (· = q) w w' ∧ IB w' q { s with top := t } ∧ ∃ v : Int, e = .returned (.int .u64 v) := by
  unfold IB at *
  obtain ⟨ba, bn, bc, rd, la, ln, lc, top, mx, hf, fin, fr⟩ := s
  obtain ⟨g1, g2, g3, g4, g5, g6⟩ := hs
  simp only at *
  have c3 := h.cell 3 _ rfl
  have f3 := h.free 3
  have lb := h.lt
  have htt : max (top : Int) (e0 : Int) = (t : Int) := by omega
  have htb : top ≤ t ∧ t ≤ 100000 := by omega
  have HH := Lib.hid h
  obtain ⟨d, hd⟩ : ∃ d : Nat, t = top + d := ⟨t - top, by omega⟩
  have hd1 : (t : Int) - (top : Int) = (d : Int) := by omega
  have hd2 : (top : Int) + (d : Int) = (t : Int) := by omega
  have hdb : d ≤ 100000 := by omega
  clear h ht hd
  go_enter Try.func50, Try.ntmps50
  go_wp2_with (fail)
  refine rg_start 14 ?_
  refine rg_same fun p hx hne hC => ?_
  refine rg_quiet 0 [0,1,2,3,4,5,6,7,8,9,10,11,12,13] hC ?_
  simp only [pickD, List.map_cons, List.map_nil, List.getD_cons_zero, List.getD_cons_succ]; repeat (go_big_quiet_step (fail))
  refine wpQuiet_nil ?_
  refine rg_end ?_
  clear hx hne hC
  go_wp2_with (fail)
  go_returns
  exact ⟨((Only.refl _ _).drew).set 3 _, ((HH.out.drew).set 3 (.int .u64 t)).congr (by simp), _, rfl⟩
set_option maxRecDepth 100000 in
theorem icomes_fin (q : Nat) (s : ISt) (e0 t : Nat) (w : World) (h : IB w q s) (hs : IOk s) (h0 : e0 ≤ 100000) (ht : max s.top e0 = t) :
    Calls Try.prog 50 #[.pointer (some ⟨q, 0, none⟩), .int .u64 e0, .bool true] w fun e w' => Only (· = q) w w' ∧ IB w' q { s with top := t, hf := true, fin := e0 } ∧ ∃ v : Int, e = .returned (.int .u64 v) := by
  unfold IB at *
  obtain ⟨ba, bn, bc, rd, la, ln, lc, top, mx, hf, fin, fr⟩ := s
  obtain ⟨g1, g2, g3, g4, g5, g6⟩ := hs
  simp only at *
  have c3 := h.cell 3 _ rfl
  have c5 := h.cell 5 _ rfl
  have c6 := h.cell 6 _ rfl
  have f3 := h.free 3
  have f5 := h.free 5
  have f6 := h.free 6
  have lb := h.lt
  have htt : max (top : Int) (e0 : Int) = (t : Int) := by omega
  have htb : top ≤ t ∧ t ≤ 100000 := by omega
  have HH := Lib.hid h
  obtain ⟨d, hd⟩ : ∃ d : Nat, t = top + d := ⟨t - top, by omega⟩
  have hd1 : (t : Int) - (top : Int) = (d : Int) := by omega
  have hd2 : (top : Int) + (d : Int) = (t : Int) := by omega
  have hdb : d ≤ 100000 := by omega
  clear h ht hd
  go_enter Try.func50, Try.ntmps50
  go_wp2_with (fail)
  refine rg_start 14 ?_
  refine rg_same fun p hx hne hC => ?_
  refine rg_quiet 0 [0,1,2,3,4,5,6,7,8,9,10,11,12,13] hC ?_
  simp only [pickD, List.map_cons, List.map_nil, List.getD_cons_zero, List.getD_cons_succ]; repeat (go_big_quiet_step (fail))
  refine wpQuiet_nil ?_
  refine rg_end ?_
  clear hx hne hC
  go_wp2_with (fail)
  go_returns
  exact ⟨((((Only.refl _ _).drew).set 3 _).set 5 _).set 6 _, ((((HH.out.drew).set 3 (.int .u64 t)).set 5 (.bool true)).set 6 (.int .u64 e0)).congr (by simp), _, rfl⟩
end Go.Proofs.Yticnjdlapioppaa
