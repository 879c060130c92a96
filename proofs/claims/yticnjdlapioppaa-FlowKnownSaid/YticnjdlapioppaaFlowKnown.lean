/- Statements of layer 18: FlowKnown: the walk. -/
import Derived.Test.YticnjdlapioppaaFlow
import Derived.Test.YticnjdlapioppaaArgs
namespace Go.Proofs.Yticnjdlapioppaa
open Go.RowKit
set_option linter.unusedVariables false
namespace Flow

theorem kinds_nil (k : Int) (w : World) : Calls Try.prog 41 #[.pointer none, .int .i64 k] w fun e w' => e = .returned (.int .i64 1) ∧ w = w' := by
  go_enter Try.func41, Try.ntmps41
  go_wp2_with (fail)
  go_returns
  exact ⟨rfl, rfl⟩
theorem kinds_ok (b : Nat) (k : Int) (w : World) (hk : k = 0 ∨ k = 1) : Calls Try.prog 41 #[.pointer (some ⟨b, 0, none⟩), .int .i64 k] w fun e w' => e = .returned (.int .i64 0) ∧ w = w' := by
  rcases hk with rfl | rfl
  all_goals
    go_enter Try.func41, Try.ntmps41
    go_wp2_with (fail)
    go_returns
    exact ⟨rfl, rfl⟩
theorem kinds_bad (b : Nat) (k : Int) (w : World) (hk : (k != 0) = true) (hk' : (k != 1) = true) : Calls Try.prog 41 #[.pointer (some ⟨b, 0, none⟩), .int .i64 k] w fun e w' => e = .returned (.int .i64 2) ∧ w = w' := by
  go_enter Try.func41, Try.ntmps41
  go_wp2_with (fail)
  go_returns
  exact ⟨rfl, rfl⟩

theorem open_err (p : Option Addr) (k e : Int) (w : World) (he : (e != 0) = true) (hk : Calls Try.prog 41 #[.pointer p, .int .i64 k] w fun x w' => x = .returned (.int .i64 e) ∧ w = w') :
    Calls Try.prog 17 #[.pointer p, .int .i64 k] w fun x w' => x = .returned (.tuple #[.int .u64 0, .int .i64 e]) ∧ w = w' := by
  have HK := Lib.hid hk
  clear hk
  go_enter Try.func17, Try.ntmps17
  go_wp2_with (fail)
  refine HK.out.mono ?_
  rintro x w1 ⟨rfl, rfl⟩
  go_wp2_with (fail)
  go_returns
  exact ⟨rfl, rfl⟩
theorem peer_err (p : Option Addr) (k e n : Int) (w : World) (he : (e != 0) = true) (hk : Calls Try.prog 41 #[.pointer p, .int .i64 k] w fun x w' => x = .returned (.int .i64 e) ∧ w = w') :
    Calls Try.prog 18 #[.pointer p, .int .i64 k, .int .u64 n] w fun x w' => x = .returned (.tuple #[.int .u64 0, .int .i64 e]) ∧ w = w' := by
  have HK := Lib.hid hk
  clear hk
  go_enter Try.func18, Try.ntmps18
  go_wp2_with (fail)
  refine HK.out.mono ?_
  rintro x w1 ⟨rfl, rfl⟩
  go_wp2_with (fail)
  go_returns
  exact ⟨rfl, rfl⟩
theorem allowOpen_err (p : Option Addr) (k e n : Int) (w : World) (he : (e != 0) = true) (hk : Calls Try.prog 41 #[.pointer p, .int .i64 k] w fun x w' => x = .returned (.int .i64 e) ∧ w = w') :
    Calls Try.prog 20 #[.pointer p, .int .i64 k, .int .u64 n] w fun x w' => x = .returned (.int .i64 e) ∧ w = w' := by
  have HK := Lib.hid hk
  clear hk
  go_enter Try.func20, Try.ntmps20
  go_wp2_with (fail)
  refine HK.out.mono ?_
  rintro x w1 ⟨rfl, rfl⟩
  go_wp2_with (fail)
  go_returns
  exact ⟨rfl, rfl⟩
theorem allowOpen_range (b : Nat) (n : Int) (w : World) (hn : 1152921504606846976 < n) :
    Calls Try.prog 20 #[.pointer (some ⟨b, 0, none⟩), .int .i64 1, .int .u64 n] w fun x w' => x = .returned (.int .i64 5) ∧ w = w' := by
  go_enter Try.func20, Try.ntmps20
  go_wp2_with (fail)
  refine (kinds_ok b 1 _ (.inr rfl)).mono ?_
  rintro x w1 ⟨rfl, rfl⟩
  go_wp2_with (fail)
  go_returns
  exact ⟨rfl, rfl⟩
theorem moreOpen_nil (k c n : Int) (w : World) : Calls Try.prog 19 #[.pointer none, .int .i64 k, .int .u64 c, .int .u64 n] w fun x w' => x = .returned (.tuple #[.int .u64 0, .bool false]) ∧ w = w' := by
  go_enter Try.func19, Try.ntmps19
  go_wp2_with (fail)
  refine (kinds_nil k _).mono ?_
  rintro x w1 ⟨rfl, rfl⟩
  go_wp2_with (fail)
  go_returns
  exact ⟨rfl, rfl⟩
theorem allow_nil (n : Int) (w : World) : Calls Try.prog 11 #[.pointer none, .int .u64 n] w fun x w' => x = .returned (.tuple #[]) ∧ w = w' := by
  go_enter Try.func11, Try.ntmps11
  go_wp2_with (fail)
  go_returns
  exact ⟨rfl, rfl⟩
theorem use_nil (v : Value) (w : World) : Calls Try.prog 15 #[.pointer none, v] w fun x w' => x = .returned (.tuple #[]) ∧ w = w' := by
  go_enter Try.func15, Try.ntmps15
  go_wp2_with (fail)
  go_returns
  exact ⟨rfl, rfl⟩
theorem more_nil (n : Int) (w : World) : Calls Try.prog 10 #[.pointer none, .int .u64 n] w fun x w' => x = .returned (.tuple #[.int .u64 0, .bool false]) ∧ w = w' := by
  go_enter Try.func10, Try.ntmps10
  go_wp2_with (fail)
  go_returns
  exact ⟨rfl, rfl⟩
theorem spend_nil (v : Value) (w : World) : Calls Try.prog 13 #[.pointer none, v] w fun x w' => x = .returned (.int .i64 1) ∧ w = w' := by
  go_enter Try.func13, Try.ntmps13
  go_wp2_with (fail)
  go_returns
  exact ⟨rfl, rfl⟩
theorem come_nil (v : Value) (w : World) : Calls Try.prog 14 #[.pointer none, v] w fun x w' => x = .returned (.int .i64 1) ∧ w = w' := by
  go_enter Try.func14, Try.ntmps14
  go_wp2_with (fail)
  go_returns
  exact ⟨rfl, rfl⟩
theorem fresh_nil (w : World) : Calls Try.prog 12 #[.pointer none] w fun x w' => x = .returned (.int .u64 0) ∧ w = w' := by
  go_enter Try.func12, Try.ntmps12
  go_wp2_with (fail)
  go_returns
  exact ⟨rfl, rfl⟩

/-- Open of kind 0. -/
theorem open_full (b : Nat) (s : FS) (w : World) (h : s.m0 ≤ s.o0) (hb : Blk w b s.vals 31) :
    Calls Try.prog 17 #[.pointer (some ⟨b, 0, none⟩), .int .i64 0] w fun x w' => x = .returned (.tuple #[.int .u64 0, .int .i64 7]) ∧ Below w.heap.size w w' := by
  obtain ⟨smax, sent, rmax, came, read, o0, o1, m0, m1, p0, p1, q0, q1⟩ := s
  simp only at h
  have c5 := hb.cell 5 (.int .u64 o0) rfl
  have c7 := hb.cell 7 (.int .u64 m0) rfl
  go_enter Try.func17, Try.ntmps17
  go_wp2_with (fail)
  refine (kinds_ok b 0 _ (.inl rfl)).mono ?_
  rintro x w1 ⟨rfl, rfl⟩
  go_wp2_with (fail)
  refine rg_start 15 ?_
  refine rg_same fun p hx hne hC => ?_
  refine rg_quiet 0 [0,1,2,3,4,5,6,7,8,9,10,11,12,13,14] hC ?_
  simp only [pickD, List.map_cons, List.map_nil, List.getD_cons_zero, List.getD_cons_succ]; repeat (go_big_quiet_step (fail))
  refine wpQuiet_nil ?_
  refine rg_end ?_
  go_wp2_with (fail)
  go_returns
  exact ⟨rfl, (Below.refl _ _).drew⟩
theorem open_ok (b : Nat) (s : FS) (w : World) (h : s.o0 < s.m0) (h0 : 0 ≤ s.o0) (h1 : s.o0 ≤ 4611686018427387903) (hb : Blk w b s.vals 31) :
    Calls Try.prog 17 #[.pointer (some ⟨b, 0, none⟩), .int .i64 0] w fun x w' => x = .returned (.tuple #[.int .u64 s.o0, .int .i64 0]) ∧ Blk w' b (FS.vals { s with o0 := s.o0 + 1 }) 31 ∧ Only (· = b) w w' := by
  obtain ⟨smax, sent, rmax, came, read, o0, o1, m0, m1, p0, p1, q0, q1⟩ := s
  simp only at h h0 h1 ⊢
  have c5 := hb.cell 5 (.int .u64 o0) rfl
  have c7 := hb.cell 7 (.int .u64 m0) rfl
  have f5 := hb.free 5
  go_enter Try.func17, Try.ntmps17
  go_wp2_with (fail)
  refine (kinds_ok b 0 _ (.inl rfl)).mono ?_
  rintro x w1 ⟨rfl, rfl⟩
  go_wp2_with (fail)
  refine rg_start 15 ?_
  refine rg_same fun p hx hne hC => ?_
  refine rg_quiet 0 [0,1,2,3,4,5,6,7,8,9,10,11,12,13,14] hC ?_
  simp only [pickD, List.map_cons, List.map_nil, List.getD_cons_zero, List.getD_cons_succ]; repeat (go_big_quiet_step (fail))
  refine wpQuiet_nil ?_
  refine rg_end ?_
  go_wp2_with (fail)
  refine rg_start 13 ?_
  refine rg_same fun p hx hne hC => ?_
  refine rg_quiet 1 [0,1,2,3,4,5,6,7,8,9,10,11] hC ?_
  simp only [pickD, List.map_cons, List.map_nil, List.getD_cons_zero, List.getD_cons_succ]; repeat (go_big_quiet_step (fail))
  refine wpQuiet_nil ?_
  refine rg_cut 12 ?_      -- store 25 t39 t35
  go_wp2
  refine rg_end0 ?_
  go_wp2_with (fail)
  go_returns
  refine ⟨rfl, Blk.drew (Blk.drew (Blk.congr (hb.set 5 _) (by simp [FS.vals, FS.list]))), (((Only.refl _ _).set _ _).drew).drew⟩

theorem walk_FlowKnown (H : Type) (_ : TypeId × Value → H) (w : World) (_ : Nat) : Calls Try.prog 4 #[] w fun e w' => e = .returned (.bool true) ∧ Below w.heap.size w w' := by
  go_enter Try.func4, Try.ntmps4
  go_wp2_with (fail)
  refine (small_any _).mono ?_
  rintro e w1 ⟨rfl, rfl⟩
  have b1 := Blk.new w small.vals 31
  have k1 : Below w.heap.size w (w.alloc (.cells small.vals 31)) := (Below.refl _ _).alloc (Nat.le_refl _) _
  generalize w.alloc (.cells small.vals 31) = w1 at *
  have z1 := b1.lt
  go_wp2_with (fail)
  refine (open_ok _ small _ (by decide) (by decide) (by decide) b1).mono ?_
  rintro e w2 ⟨rfl, b2, o2⟩
  have k2 := below_onto k1 o2 (by omega) (by intro k hk; omega)
  rw [show ({ small with o0 := small.o0 + 1 } : FS) = { small with o0 := 1 } from rfl] at b2
  rw [show small.o0 = 0 from rfl]
  go_wp2_with (fail)
  refine (open_full _ { small with o0 := 1 } _ (by decide) b2).mono ?_
  rintro e w3 ⟨rfl, h3⟩
  have k3 := below_on k2 h3 (by have := b2.lt; omega)
  have b3 := b2.below h3
  have z3 := b3.lt
  go_wp2_with (fail)
  refine (open_err _ 2 2 _ rfl (kinds_bad _ _ _ rfl rfl)).mono ?_
  rintro e w4 ⟨rfl, rfl⟩
  go_wp2_with (fail)
  refine (allow_nil _ _).mono ?_
  rintro e w4 ⟨rfl, rfl⟩
  go_wp2_with (fail)
  refine (use_nil _ _).mono ?_
  rintro e w4 ⟨rfl, rfl⟩
  have k4 := k3.alloc (by omega) (.cells #[.int .u64 1] 25)
  have kk := Lib.hid k4
  clear k4
  go_wp2_with (fail)
  refine (more_nil _ _).mono ?_
  rintro e w4 ⟨rfl, rfl⟩
  go_wp2_with (fail)
  refine (open_err _ 0 1 _ rfl (kinds_nil _ _)).mono ?_
  rintro e w4 ⟨rfl, rfl⟩
  go_wp2_with (fail)
  refine (peer_err _ 0 1 _ _ rfl (kinds_nil _ _)).mono ?_
  rintro e w4 ⟨rfl, rfl⟩
  go_wp2_with (fail)
  refine (moreOpen_nil _ _ _ _).mono ?_
  rintro e w4 ⟨rfl, rfl⟩
  go_wp2_with (fail)
  refine (works_any _).mono ?_
  rintro e w4 ⟨rfl, h4⟩
  have k4 := below_on kk.out h4 (by simp; omega)
  go_wp2_with (fail)
  refine (spend_nil _ _).mono ?_
  rintro e w5 ⟨rfl, rfl⟩
  go_wp2_with (fail)
  refine (come_nil _ _).mono ?_
  rintro e w5 ⟨rfl, rfl⟩
  go_wp2_with (fail)
  refine (fresh_nil _).mono ?_
  rintro e w5 ⟨rfl, rfl⟩
  go_wp2_with (fail)
  refine (allowOpen_err _ 0 1 _ _ rfl (kinds_nil _ _)).mono ?_
  rintro e w5 ⟨rfl, rfl⟩
  go_wp2_with (fail)
  refine (allowOpen_range _ _ _ (by decide)).mono ?_
  rintro e w5 ⟨rfl, rfl⟩
  go_wp2_with (fail)
  refine (allowOpen_err _ (-1) 2 _ _ rfl (kinds_bad _ _ _ rfl rfl)).mono ?_
  rintro e w5 ⟨rfl, rfl⟩
  go_wp2_with (fail)
  go_returns
  exact ⟨rfl, k4⟩

end Flow
end Go.Proofs.Yticnjdlapioppaa
