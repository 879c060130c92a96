/- A set of streams: whose a number is. -/
import Derived.Test.YtgpnfdeneagdbaaGreatCo1
import Derived.Test.YtgpnfdeneagdbaaGreatArgSl
import Derived.Test.YtgpnfdeneagdbaaGreatLoad
import Derived.Test.YtgpnfdeneagdbaaGreatQuie
import Derived.Laws.Bits64b
namespace Go.Proofs.YtgpnfdeneagdbaaGreat
open Go.RowKit
set_option linter.unusedVariables false
theorem and1 (id : Nat) (h : id < 18446744073709551616) : bits .and .u64 (id : Int) 1 = ((id % 2 : Nat) : Int) := by
  have := bits_and_u64_nat id 1 h (by omega)
  rw [show ((1 : Nat) : Int) = 1 from rfl] at this
  rw [this, Nat.and_one_is_mod]
theorem and3 (id : Nat) (h : id < 18446744073709551616) : bits .and .u64 (id : Int) 3 = ((id % 4 : Nat) : Int) := by
  have := bits_and_u64_nat id 3 h (by omega)
  rw [show ((3 : Nat) : Int) = 3 from rfl] at this
  rw [this, show (3 : Nat) = 2 ^ 2 - 1 from rfl, Nat.and_two_pow_sub_one_eq_mod]
theorem nat_and2 (n : Nat) : n &&& 2 = 2 * (n / 2 % 2) := by
  have h1 : (n &&& 2) / 2 = n / 2 % 2 := by
    have := Nat.and_div_two (a := n) (b := 2)
    rw [this, show (2 : Nat) / 2 = 1 from rfl, Nat.and_one_is_mod]
  have h2 : (n &&& 2) % 2 = 0 := by
    have := Nat.and_mod_two_pow (a := n) (b := 2) (n := 1)
    simp at this
    omega
  omega
theorem and2 (id : Nat) (h : id < 18446744073709551616) : bits .and .u64 (id : Int) 2 = ((2 * (id / 2 % 2) : Nat) : Int) := by
  have := bits_and_u64_nat id 2 h (by omega)
  rw [show ((2 : Nat) : Int) = 2 from rfl] at this
  rw [this, nat_and2]
def mineB (sv : Bool) (id : Nat) : Bool := decide (id % 2 = 1) == sv
def uniB (id : Nat) : Bool := decide (id / 2 % 2 = 1)
def sendsB (sv : Bool) (id : Nat) : Bool := !uniB id || mineB sv id
def recvB (sv : Bool) (id : Nat) : Bool := !uniB id || !mineB sv id
set_option maxRecDepth 100000 in
theorem uni_any (id : Nat) (w : World) (h : id < 18446744073709551616) : Calls Tryz.prog 74 #[.int .u64 id] w fun e w' => w' = w ∧ e = .returned (.bool (uniB id)) := by
  have hb := and2 id h
  obtain ⟨r, hr⟩ : ∃ r, uniB id = r := ⟨_, rfl⟩
  rw [hr]
  unfold uniB at hr
  have h9 : ((2 * (id / 2 % 2) : Nat) : Int) ≠ 0 ↔ r = true := by rw [← hr, decide_eq_true_iff]; omega
  obtain ⟨m, hm⟩ : ∃ m : Nat, 2 * (id / 2 % 2) = m := ⟨_, rfl⟩
  rw [hm] at hb h9
  have hne : ((m : Int) != 0) = r := by cases r <;> simp at h9 ⊢ <;> omega
  clear hr h9 hm
  go_enter Tryz.func74, Tryz.ntmps74
  go_wp2_with (fail)
  go_returns
  exact ⟨rfl, rfl⟩
set_option maxRecDepth 100000 in
theorem mine_any (s : Nat) (sv : Bool) (id : Nat) (w : World) (h : id < 18446744073709551616) (hc : w.cell? ⟨s, 13, none⟩ = some (.bool sv)) : Calls Tryz.prog 72 #[.pointer (some ⟨s, 0, none⟩), .int .u64 id] w fun e w' => w' = w ∧ e = .returned (.bool (mineB sv id)) := by
  have hb := and1 id h
  obtain ⟨m, hm⟩ : ∃ m : Nat, id % 2 = m := ⟨_, rfl⟩
  rw [hm] at hb
  have hm2 : m < 2 := by omega
  have hr : mineB sv id = (((m : Int) != 0) == sv) := by
    unfold mineB; rw [hm]
    rcases (by omega : m = 0 ∨ m = 1) with rfl | rfl <;> simp
  rw [hr]
  clear hr hm hm2
  go_enter Tryz.func72, Tryz.ntmps72
  go_wp2_with (fail)
  go_returns
  exact ⟨rfl, rfl⟩
set_option maxRecDepth 100000 in
theorem sends_any (s : Nat) (sv : Bool) (id : Nat) (w : World) (h : id < 18446744073709551616) (hc : w.cell? ⟨s, 13, none⟩ = some (.bool sv)) : Calls Tryz.prog 32 #[.pointer (some ⟨s, 0, none⟩), .int .u64 id] w fun e w' => w' = w ∧ e = .returned (.bool (sendsB sv id)) := by
  have HU := Lib.hid (uni_any id w h)
  have HM := Lib.hid (mine_any s sv id w h hc)
  unfold sendsB
  obtain ⟨u, hu⟩ : ∃ u, uniB id = u := ⟨_, rfl⟩
  obtain ⟨m, hm⟩ : ∃ m, mineB sv id = m := ⟨_, rfl⟩
  rw [hu] at HU ⊢
  rw [hm] at HM ⊢
  clear hu hm hc
  go_enter Tryz.func32, Tryz.ntmps32
  go_wp2_with (fail)
  refine HU.out.mono ?_
  rintro e w1 ⟨rfl, rfl⟩
  cases u with
  | false =>
    go_wp2_with (fail)
    go_returns
    exact ⟨rfl, rfl⟩
  | true =>
    go_wp2_with (fail)
    refine HM.out.mono ?_
    rintro e w2 ⟨rfl, rfl⟩
    go_wp2_with (fail)
    go_returns
    exact ⟨rfl, by simp⟩
set_option maxRecDepth 100000 in
theorem recv_any (s : Nat) (sv : Bool) (id : Nat) (w : World) (h : id < 18446744073709551616) (hc : w.cell? ⟨s, 13, none⟩ = some (.bool sv)) : Calls Tryz.prog 31 #[.pointer (some ⟨s, 0, none⟩), .int .u64 id] w fun e w' => w' = w ∧ e = .returned (.bool (recvB sv id)) := by
  have HU := Lib.hid (uni_any id w h)
  have HM := Lib.hid (mine_any s sv id w h hc)
  unfold recvB
  obtain ⟨u, hu⟩ : ∃ u, uniB id = u := ⟨_, rfl⟩
  obtain ⟨m, hm⟩ : ∃ m, mineB sv id = m := ⟨_, rfl⟩
  rw [hu] at HU ⊢
  rw [hm] at HM ⊢
  clear hu hm hc
  go_enter Tryz.func31, Tryz.ntmps31
  go_wp2_with (fail)
  refine HU.out.mono ?_
  rintro e w1 ⟨rfl, rfl⟩
  cases u with
  | false =>
    go_wp2_with (fail)
    go_returns
    exact ⟨rfl, rfl⟩
  | true =>
    go_wp2_with (fail)
    refine HM.out.mono ?_
    rintro e w2 ⟨rfl, rfl⟩
    go_wp2_with (fail)
    go_returns
    exact ⟨rfl, by simp⟩
def kindN (id : Nat) : Nat := id / 2 % 2
set_option maxRecDepth 100000 in
theorem kind_any (id : Nat) (w : World) (h : id < 18446744073709551616) : Calls Tryz.prog 71 #[.int .u64 id] w fun e w' => w' = w ∧ e = .returned (.int .i64 (kindN id)) := by
  have hb := and1 (id / 2) (by omega)
  obtain ⟨m, hm⟩ : ∃ m : Nat, id / 2 % 2 = m := ⟨_, rfl⟩
  unfold kindN
  rw [hm] at hb ⊢
  have hm2 : m < 2 := by omega
  obtain ⟨d, hd⟩ : ∃ d : Nat, id / 2 = d := ⟨_, rfl⟩
  have hd2 : (id : Int) / 2 = (d : Int) := by omega
  rw [hd] at hb
  clear hd hm
  go_enter Tryz.func71, Tryz.ntmps71
  go_wp2_with (fail)
  go_returns
  exact ⟨rfl, rfl⟩
set_option maxRecDepth 100000 in
theorem kinds_any (s k : Nat) (w : World) (hk : k < 2) : Calls Tryz.prog 68 #[.pointer (some ⟨s, 0, none⟩), .int .i64 k] w fun e w' => w' = w ∧ e = .returned (.int .i64 0) := by
  rcases (by omega : k = 0 ∨ k = 1) with rfl | rfl
  · go_enter Tryz.func68, Tryz.ntmps68
    go_wp2_with (fail)
    go_returns
    exact ⟨rfl, rfl⟩
  · go_enter Tryz.func68, Tryz.ntmps68
    go_wp2_with (fail)
    go_returns
    exact ⟨rfl, rfl⟩
end Go.Proofs.YtgpnfdeneagdbaaGreat
