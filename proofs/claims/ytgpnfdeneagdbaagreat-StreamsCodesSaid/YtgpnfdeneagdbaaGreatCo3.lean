/- A set of streams: a new stream's limits; the flow's counts. -/
import Derived.Test.YtgpnfdeneagdbaaGreatCo2
import Derived.Deep.CutRange
import Derived.Deep.CutBlock
namespace Go.Proofs.YtgpnfdeneagdbaaGreat
open Go.RowKit
set_option linter.unusedVariables false
/-- The cells of a set that are read. -/
structure SC (w : World) (s : Nat) (sv : Bool) (own peer : Nat → Nat) : Prop where
  srv : w.cell? ⟨s, 13, none⟩ = some (.bool sv)
  o : ∀ k, k < 3 → w.cell? ⟨s, 18 + k, none⟩ = some (.int .u64 (own k)) ∧ own k < 18446744073709551616
  p : ∀ k, k < 3 → w.cell? ⟨s, 46 + k, none⟩ = some (.int .u64 (peer k)) ∧ peer k < 18446744073709551616
def LimPost (w : World) (e : Ending) (w' : World) : Prop := Below w.heap.size w w' ∧ ∃ a b : Nat, a < 18446744073709551616 ∧ b < 18446744073709551616 ∧ e = .returned (.tuple #[.int .u64 a, .int .u64 b])
set_option maxRecDepth 100000 in
set_option maxHeartbeats 4000000 in
theorem limits_any (s : Nat) (sv : Bool) (own peer : Nat → Nat) (id : Nat) (w : World) (h : id < 18446744073709551616) (hC : SC w s sv own peer) (hs : s < w.heap.size) : Calls Tryz.prog 44 #[.pointer (some ⟨s, 0, none⟩), .int .u64 id] w fun e w' => LimPost w e w' := by
  have HU := fun W => Lib.hid (uni_any id W h)
  have HC := Lib.hid hC
  have o0 := (hC.o 0 (by omega)).1
  have o1 := (hC.o 1 (by omega)).1
  have o2 := (hC.o 2 (by omega)).1
  have p0 := (hC.p 0 (by omega)).1
  have p1 := (hC.p 1 (by omega)).1
  have p2 := (hC.p 2 (by omega)).1
  simp only [Nat.add_zero, Nat.reduceAdd] at o0 o1 o2 p0 p1 p2
  have l0 := fun k (hk : k < 3) => (hC.o k hk).2
  have l1 := fun k (hk : k < 3) => (hC.p k hk).2
  have HL := Lib.hid (And.intro l0 l1)
  have HM := Lib.hid (mine_any s sv id w h hC.srv)
  obtain ⟨u, hu⟩ : ∃ u, uniB id = u := ⟨_, rfl⟩
  obtain ⟨m, hm⟩ : ∃ m, mineB sv id = m := ⟨_, rfl⟩
  rw [hu] at HU
  rw [hm] at HM
  clear hu hm hC l0 l1
  go_enter Tryz.func44, Tryz.ntmps44
  go_upto_block 0 with (fail)
  go_cut [4, 5] from 6 (fun a b wc => ∃ x y : Nat, a = .int .u64 x ∧ b = .int .u64 y ∧ x < 18446744073709551616 ∧ y < 18446744073709551616 ∧ Below w.heap.size w wc)
  case rest =>
    clear HU HM o0 o1 o2 p0 p1 p2 HL
    obtain ⟨x, y, rfl, rfl, hx, hy, hb⟩ := hcut
    have hcs : ∀ W, Below w.heap.size w W → W.cell? ⟨s, 13, none⟩ = some (.bool sv) := fun W hW => (hW.cell (p := ⟨s, 13, none⟩) hs).trans HC.out.srv
    have HS := Lib.hid (sends_any s sv id wc h (hcs _ hb))
    have HR := Lib.hid (recv_any s sv id wc h (hcs _ hb))
    obtain ⟨r1, hr1⟩ : ∃ r, sendsB sv id = r := ⟨_, rfl⟩
    obtain ⟨r2, hr2⟩ : ∃ r, recvB sv id = r := ⟨_, rfl⟩
    rw [hr1] at HS
    rw [hr2] at HR
    have HB := Lib.hid hb
    clear hr1 hr2 hcs hb
    go_wp2_with (fail)
    refine HS.out.mono ?_
    rintro e w1 ⟨rfl, rfl⟩
    cases r1 with
    | true =>
      go_wp2_with (fail)
      refine HR.out.mono ?_
      rintro e w2 ⟨rfl, rfl⟩
      cases r2 with
      | true => go_wp2_with (fail); go_returns; exact ⟨HB.out, x, y, hx, hy, rfl⟩
      | false => go_wp2_with (fail); go_returns; exact ⟨HB.out, x, 0, hx, by omega, rfl⟩
    | false =>
      go_wp2_with (fail)
      refine HR.out.mono ?_
      rintro e w2 ⟨rfl, rfl⟩
      cases r2 with
      | true => go_wp2_with (fail); go_returns; exact ⟨HB.out, 0, y, by omega, hy, rfl⟩
      | false => go_wp2_with (fail); go_returns; exact ⟨HB.out, 0, 0, by omega, by omega, rfl⟩
  case first =>
    cases u with
    | true =>
      go_wp2_with (fail)
      refine (HU _).out.mono ?_
      rintro e w1 ⟨rfl, rfl⟩
      go_wp2_with (fail)
      refine rg_start 12 ?_
      refine rg_same fun p hx hne hC => ?_
      refine rg_quiet 0 [0,1,2,3,4,5,6,7,8,9,10,11] hC ?_
      simp only [pickD, List.map_cons, List.map_nil, List.getD_cons_zero, List.getD_cons_succ]; repeat (go_big_quiet_step (fail))
      refine wpQuiet_nil ?_
      refine rg_end ?_
      go_wp2_with (fail)
      go_meet
      case rel => exact ⟨_, _, rfl, rfl, HL.out.2 2 (by omega), HL.out.1 2 (by omega), (Below.refl _ _).drew⟩
    | false =>
      go_wp2_with (fail)
      refine (HU _).out.mono ?_
      rintro e w1 ⟨rfl, rfl⟩
      go_wp2_with (fail)
      refine HM.out.mono ?_
      rintro e w2 ⟨rfl, rfl⟩
      cases m with
      | true =>
        go_wp2_with (fail)
        refine rg_start 12 ?_
        refine rg_same fun p hx hne hC => ?_
        refine rg_quiet 0 [0,1,2,3,4,5,6,7,8,9,10,11] hC ?_
        simp only [pickD, List.map_cons, List.map_nil, List.getD_cons_zero, List.getD_cons_succ]; repeat (go_big_quiet_step (fail))
        refine wpQuiet_nil ?_
        refine rg_end ?_
        go_wp2_with (fail)
        go_meet
        case rel => exact ⟨_, _, rfl, rfl, HL.out.2 1 (by omega), HL.out.1 0 (by omega), (Below.refl _ _).drew⟩
      | false =>
        go_wp2_with (fail)
        refine rg_start 12 ?_
        refine rg_same fun p hx hne hC => ?_
        refine rg_quiet 0 [0,1,2,3,4,5,6,7,8,9,10,11] hC ?_
        simp only [pickD, List.map_cons, List.map_nil, List.getD_cons_zero, List.getD_cons_succ]; repeat (go_big_quiet_step (fail))
        refine wpQuiet_nil ?_
        refine rg_end ?_
        go_wp2_with (fail)
        go_meet
        case rel => exact ⟨_, _, rfl, rfl, HL.out.2 0 (by omega), HL.out.1 1 (by omega), (Below.refl _ _).drew⟩
end Go.Proofs.YtgpnfdeneagdbaaGreat
