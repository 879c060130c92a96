/- A set of streams: the flow's counts. -/
import Derived.Test.YtgpnfdeneagdbaaGreatCo3
namespace Go.Proofs.YtgpnfdeneagdbaaGreat
open Go.RowKit
set_option linter.unusedVariables false
set_option linter.unusedSimpArgs false
set_option maxRecDepth 100000 in
set_option maxHeartbeats 4000000 in
theorem open_any (s k o m : Nat) (cs : Array Value) (T : TypeId) (w : World) (hk : k < 2) (hB : Blk w s cs T) (ho : cs[5 + k]? = some (.int .u64 o)) (hm : cs[7 + k]? = some (.int .u64 m)) (hm2 : m ≤ 1000) (ho2 : o ≤ 1000) :
    Calls Tryz.prog 23 #[.pointer (some ⟨s, 0, none⟩), .int .i64 k] w fun e w' => (m ≤ o → e = .returned (.tuple #[.int .u64 0, .int .i64 7]) ∧ Below w.heap.size w w') ∧
      (o < m → e = .returned (.tuple #[.int .u64 o, .int .i64 0]) ∧ Only (· = s) w w' ∧ Blk w' s (cs.setIfInBounds (5 + k) (.int .u64 (o + 1 : Nat))) T) := by
  have c5 := hB.cell (5 + k) _ ho
  have c7 := hB.cell (7 + k) _ hm
  have fz := hB.free (5 + k)
  have HB := Lib.hid hB
  have HK := fun W => Lib.hid (kinds_any s k W hk)
  have hlt := hB.lt
  clear hB ho hm
  by_cases hom : m ≤ o
  · have g1 : decide ((m : Int) ≤ (o : Int)) = true := decide_eq_true (by omega)
    have HO := Lib.hid hom
    rcases (by omega : k = 0 ∨ k = 1) with rfl | rfl
    · simp only [Nat.add_zero, Nat.reduceAdd] at c5 c7 fz
      go_enter Tryz.func23, Tryz.ntmps23
      go_wp2_with (fail)
      refine (HK _).out.mono ?_
      rintro e w1 ⟨rfl, rfl⟩
      go_wp2_with (fail)
      refine rg_start 15 ?_
      refine rg_same fun p hx hne hC => ?_
      refine rg_quiet 0 [0,1,2,3,4,5,6,7,8,9,10,11,12,13,14] hC ?_
      simp only [pickD, List.map_cons, List.map_nil, List.getD_cons_zero, List.getD_cons_succ]; repeat (go_big_quiet_step (fail))
      refine wpQuiet_nil ?_
      refine rg_end ?_
      go_wp2_with (fail)
      go_returns
      exact ⟨fun _ => ⟨rfl, (Below.refl _ _).drew⟩, fun h => absurd h (Nat.not_lt.2 HO.out)⟩
    · simp only [Nat.reduceAdd] at c5 c7 fz
      go_enter Tryz.func23, Tryz.ntmps23
      go_wp2_with (fail)
      refine (HK _).out.mono ?_
      rintro e w1 ⟨rfl, rfl⟩
      go_wp2_with (fail)
      refine rg_start 15 ?_
      refine rg_same fun p hx hne hC => ?_
      refine rg_quiet 0 [0,1,2,3,4,5,6,7,8,9,10,11,12,13,14] hC ?_
      simp only [pickD, List.map_cons, List.map_nil, List.getD_cons_zero, List.getD_cons_succ]; repeat (go_big_quiet_step (fail))
      refine wpQuiet_nil ?_
      refine rg_end ?_
      go_wp2_with (fail)
      go_returns
      exact ⟨fun _ => ⟨rfl, (Below.refl _ _).drew⟩, fun h => absurd h (Nat.not_lt.2 HO.out)⟩
  · have g1 : decide ((m : Int) ≤ (o : Int)) = false := decide_eq_false (by omega)
    have HO := Lib.hid hom
    rcases (by omega : k = 0 ∨ k = 1) with rfl | rfl
    · simp only [Nat.add_zero, Nat.reduceAdd] at c5 c7 fz
      go_enter Tryz.func23, Tryz.ntmps23
      go_wp2_with (fail)
      refine (HK _).out.mono ?_
      rintro e w1 ⟨rfl, rfl⟩
      go_wp2_with (fail)
      refine rg_start 15 ?_
      refine rg_same fun p hx hne hC => ?_
      refine rg_quiet 0 [0,1,2,3,4,5,6,7,8,9,10,11,12,13,14] hC ?_
      simp only [pickD, List.map_cons, List.map_nil, List.getD_cons_zero, List.getD_cons_succ]; repeat (go_big_quiet_step (fail))
      refine wpQuiet_nil ?_
      refine rg_end ?_
      go_wp2_with (fail)
      refine rg_start 13 ?_
      refine rg_same fun p hx hne hC => ?_
      refine rg_quiet 1 [0,1,2,3,4,5,6,7,8,9,10,11] hC ?_
      simp only [pickD, List.map_cons, List.map_nil, List.getD_cons_zero, List.getD_cons_succ]; repeat (go_big_quiet_step (fail))
      refine wpQuiet_nil ?_
      refine rg_cut 12 ?_      -- store 23 t39 t35
      go_wp2
      refine rg_end0 ?_
      go_wp2_with (fail)
      go_returns
      exact ⟨fun h => absurd h HO.out, fun _ => ⟨rfl, ((Only.refl (· = s) _).drew.drew).setCell (p := ⟨s, 5, none⟩) (.inl rfl) _, HB.out.drew.drew.set 5 _⟩⟩
    · simp only [Nat.reduceAdd] at c5 c7 fz
      go_enter Tryz.func23, Tryz.ntmps23
      go_wp2_with (fail)
      refine (HK _).out.mono ?_
      rintro e w1 ⟨rfl, rfl⟩
      go_wp2_with (fail)
      refine rg_start 15 ?_
      refine rg_same fun p hx hne hC => ?_
      refine rg_quiet 0 [0,1,2,3,4,5,6,7,8,9,10,11,12,13,14] hC ?_
      simp only [pickD, List.map_cons, List.map_nil, List.getD_cons_zero, List.getD_cons_succ]; repeat (go_big_quiet_step (fail))
      refine wpQuiet_nil ?_
      refine rg_end ?_
      go_wp2_with (fail)
      refine rg_start 13 ?_
      refine rg_same fun p hx hne hC => ?_
      refine rg_quiet 1 [0,1,2,3,4,5,6,7,8,9,10,11] hC ?_
      simp only [pickD, List.map_cons, List.map_nil, List.getD_cons_zero, List.getD_cons_succ]; repeat (go_big_quiet_step (fail))
      refine wpQuiet_nil ?_
      refine rg_cut 12 ?_      -- store 23 t39 t35
      go_wp2
      refine rg_end0 ?_
      go_wp2_with (fail)
      go_returns
      exact ⟨fun h => absurd h HO.out, fun _ => ⟨rfl, ((Only.refl (· = s) _).drew.drew).setCell (p := ⟨s, 6, none⟩) (.inl rfl) _, HB.out.drew.drew.set 6 _⟩⟩
set_option maxRecDepth 100000 in
set_option maxHeartbeats 4000000 in
/-- The peer opens. -/
theorem peer_open_any (s k p q n : Nat) (cs : Array Value) (T : TypeId) (w : World) (hk : k < 2) (hB : Blk w s cs T) (hp : cs[9 + k]? = some (.int .u64 p)) (hq : cs[11 + k]? = some (.int .u64 q)) (hq2 : q ≤ 1000) (hp2 : p ≤ 1000) (hn : n < 18446744073709551616) :
    Calls Tryz.prog 73 #[.pointer (some ⟨s, 0, none⟩), .int .i64 k, .int .u64 n] w fun e w' => (q ≤ n → e = .returned (.tuple #[.int .u64 0, .int .i64 5]) ∧ Below w.heap.size w w') ∧
      (n < q → e = .returned (.tuple #[.int .u64 p, .int .i64 0]) ∧ Only (· = s) w w' ∧ Blk w' s (cs.setIfInBounds (9 + k) (.int .u64 (max p (n + 1) : Nat))) T) := by
  have c9 := hB.cell (9 + k) _ hp
  have c11 := hB.cell (11 + k) _ hq
  have fz := hB.free (9 + k)
  have HB := Lib.hid hB
  have HK := fun W => Lib.hid (kinds_any s k W hk)
  have hlt := hB.lt
  clear hB hp hq
  by_cases hqn : q ≤ n
  · have g1 : decide ((q : Int) ≤ (n : Int)) = true := decide_eq_true (by omega)
    have HO := Lib.hid hqn
    rcases (by omega : k = 0 ∨ k = 1) with rfl | rfl
    all_goals
      simp only [Nat.add_zero, Nat.reduceAdd] at c9 c11 fz
      go_enter Tryz.func73, Tryz.ntmps73
      go_wp2_with (fail)
      refine (HK _).out.mono ?_
      rintro e w1 ⟨rfl, rfl⟩
      go_wp2_with (fail)
      go_returns
      exact ⟨fun _ => ⟨rfl, Below.refl _ _⟩, fun h => absurd h (Nat.not_lt.2 HO.out)⟩
  · have g1 : decide ((q : Int) ≤ (n : Int)) = false := decide_eq_false (by omega)
    have HO := Lib.hid hqn
    rcases (by omega : k = 0 ∨ k = 1) with rfl | rfl
    all_goals
      simp only [Nat.add_zero, Nat.reduceAdd] at c9 c11 fz
      go_enter Tryz.func73, Tryz.ntmps73
      go_wp2_with (fail)
      refine (HK _).out.mono ?_
      rintro e w1 ⟨rfl, rfl⟩
      go_wp2_with (fail)
      go_returns
      have hmax : max (p : Int) ((n : Int) + 1) = ((max p (n + 1) : Nat) : Int) := by omega
      rw [hmax]
      exact ⟨fun h => absurd h HO.out, fun _ => ⟨rfl, (Only.refl (· = s) _).setCell (p := ⟨s, _, none⟩) (.inl rfl) _, HB.out.set _ _⟩⟩
end Go.Proofs.YtgpnfdeneagdbaaGreat
