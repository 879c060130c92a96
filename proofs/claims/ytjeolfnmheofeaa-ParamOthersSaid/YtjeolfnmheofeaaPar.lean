/- Layer 4: parameters in memory; the calls on one number. -/
import Derived.Test.YtjeolfnmheofeaaVar9
namespace Go.Proofs.Ytjeolfnmheofeaa
open Go.RowKit
set_option linter.unusedVariables false
namespace Par

structure PV where
  oa : Option Addr
  oc : Nat
  O : List Int
  ca : Option Addr
  cc : Nat
  C : List Int
  f2 : Int
  f3 : Int
  f4 : Int
  f5 : Int
  f6 : Int
  f7 : Int
  f8 : Int
  f9 : Int
  f10 : Int
  has : Bool
  t0 : Int
  t1 : Int
  t2 : Int
  t3 : Int
  t4 : Int
  t5 : Int
  t6 : Int
  t7 : Int
  t8 : Int
  t9 : Int
  t10 : Int
  t11 : Int
  t12 : Int
  t13 : Int
  t14 : Int
  t15 : Int
def PV.list (p : PV) : List Value := [.slice p.oa p.O.length p.oc, .slice p.ca p.C.length p.cc, .int .u64 p.f2, .int .u64 p.f3, .int .u64 p.f4, .int .u64 p.f5, .int .u64 p.f6, .int .u64 p.f7, .int .u64 p.f8, .int .u64 p.f9, .int .u64 p.f10, .bool p.has, .int .u8 p.t0, .int .u8 p.t1, .int .u8 p.t2, .int .u8 p.t3, .int .u8 p.t4, .int .u8 p.t5, .int .u8 p.t6, .int .u8 p.t7, .int .u8 p.t8, .int .u8 p.t9, .int .u8 p.t10, .int .u8 p.t11, .int .u8 p.t12, .int .u8 p.t13, .int .u8 p.t14, .int .u8 p.t15]
def PV.vals (p : PV) : Array Value := p.list.toArray
/-- What stands in a slot. -/
def PV.num (p : PV) : Nat → Int
  | 2 => p.f2
  | 3 => p.f3
  | 4 => p.f4
  | 5 => p.f5
  | 6 => p.f6
  | 7 => p.f7
  | 8 => p.f8
  | 9 => p.f9
  | 10 => p.f10
  | _ => 0
def PV.tok (p : PV) : List Int := [p.t0, p.t1, p.t2, p.t3, p.t4, p.t5, p.t6, p.t7, p.t8, p.t9, p.t10, p.t11, p.t12, p.t13, p.t14, p.t15]
theorem PV.at_num (p : PV) (k : Nat) (h2 : 2 ≤ k) (h10 : k ≤ 10) : p.list[k]? = some (.int .u64 (p.num k)) := by
  rcases (by omega : k = 2 ∨ k = 3 ∨ k = 4 ∨ k = 5 ∨ k = 6 ∨ k = 7 ∨ k = 8 ∨ k = 9 ∨ k = 10) with rfl | rfl | rfl | rfl | rfl | rfl | rfl | rfl | rfl <;> rfl
theorem PV.at_tok (p : PV) (j : Nat) (h : j < 16) : p.list[12 + j]? = some (.int .u8 (p.tok.getD j 0)) := by
  rcases (by omega : j = 0 ∨ j = 1 ∨ j = 2 ∨ j = 3 ∨ j = 4 ∨ j = 5 ∨ j = 6 ∨ j = 7 ∨ j = 8 ∨ j = 9 ∨ j = 10 ∨ j = 11 ∨ j = 12 ∨ j = 13 ∨ j = 14 ∨ j = 15) with rfl | rfl | rfl | rfl | rfl | rfl | rfl | rfl | rfl | rfl | rfl | rfl | rfl | rfl | rfl | rfl <;> rfl
structure PV.ok (p : PV) (w : World) : Prop where
  o : Sl .u8 w p.oa p.oc p.O
  c : Sl .u8 w p.ca p.cc p.C
  n : ∀ k, 0 ≤ p.num k ∧ p.num k ≤ 18446744073709551615
  t : ∀ x ∈ p.tok, Var.Byte x
theorem PV.ok.below {p : PV} {w w' : World} (h : p.ok w) (hb : Below w.heap.size w w') : p.ok w' := ⟨h.o.below hb, h.c.below hb, h.n, h.t⟩

/-- Where a parameter's number stands; 0: nowhere. -/
def slotF (id : Int) : Nat :=
  if id = 1 then 2 else if id = 4 then 3 else if id = 5 then 4 else if id = 6 then 5 else if id = 7 then 6 else if id = 8 then 7 else if id = 9 then 8 else if id = 11 then 9 else if id = 14 then 10 else 0
theorem slot_cases (id : Int) : (id = 1 ∧ slotF id = 2) ∨ (id = 4 ∧ slotF id = 3) ∨ (id = 5 ∧ slotF id = 4) ∨ (id = 6 ∧ slotF id = 5) ∨ (id = 7 ∧ slotF id = 6) ∨ (id = 8 ∧ slotF id = 7) ∨ (id = 9 ∧ slotF id = 8) ∨ (id = 11 ∧ slotF id = 9) ∨ (id = 14 ∧ slotF id = 10) ∨ (id ≠ 1 ∧ id ≠ 4 ∧ id ≠ 5 ∧ id ≠ 6 ∧ id ≠ 7 ∧ id ≠ 8 ∧ id ≠ 9 ∧ id ≠ 11 ∧ id ≠ 14 ∧ slotF id = 0) := by
  unfold slotF
  by_cases h1 : id = 1
  · subst h1; simp
  by_cases h4 : id = 4
  · subst h4; simp
  by_cases h5 : id = 5
  · subst h5; simp
  by_cases h6 : id = 6
  · subst h6; simp
  by_cases h7 : id = 7
  · subst h7; simp
  by_cases h8 : id = 8
  · subst h8; simp
  by_cases h9 : id = 9
  · subst h9; simp
  by_cases h11 : id = 11
  · subst h11; simp
  by_cases h14 : id = 14
  · subst h14; simp
  simp [*]
theorem slot_le (id : Int) : slotF id = 0 ∨ (2 ≤ slotF id ∧ slotF id ≤ 10) := by
  rcases slot_cases id with h | h | h | h | h | h | h | h | h | h <;> omega
def ptrAt (b : Nat) (k : Nat) : Option Addr := if k = 0 then none else some ⟨b, k, none⟩

set_option maxHeartbeats 1000000 in
theorem number_any (b : Nat) (id : Int) (w : World) : Calls Try.prog 48 #[.pointer (some ⟨b, 0, none⟩), .int .u64 id] w fun e w' => e = .returned (.pointer (ptrAt b (slotF id))) ∧ w = w' := by
  rcases slot_cases id with ⟨rfl, hs⟩ | ⟨rfl, hs⟩ | ⟨rfl, hs⟩ | ⟨rfl, hs⟩ | ⟨rfl, hs⟩ | ⟨rfl, hs⟩ | ⟨rfl, hs⟩ | ⟨rfl, hs⟩ | ⟨rfl, hs⟩ | ⟨h1, h4, h5, h6, h7, h8, h9, h11, h14, hs⟩
  all_goals
    rw [hs]
    clear hs
    go_enter Try.func48, Try.ntmps48
    go_wp2_with (fail)
    go_returns
    exact ⟨rfl, rfl⟩
theorem cid_any (b : Nat) (id : Int) (w : World) : Calls Try.prog 49 #[.pointer (some ⟨b, 0, none⟩), .int .u64 id] w fun e w' => e = .returned (.pointer (if id = 0 then some ⟨b, 0, none⟩ else if id = 15 then some ⟨b, 1, none⟩ else none)) ∧ w = w' := by
  by_cases h0 : id = 0
  · rw [if_pos h0]
    subst h0
    go_enter Try.func49, Try.ntmps49
    go_wp2_with (fail)
    go_returns
    exact ⟨rfl, rfl⟩
  · rw [if_neg h0]
    by_cases h1 : id = 15
    · rw [if_pos h1]
      subst h1
      go_enter Try.func49, Try.ntmps49
      go_wp2_with (fail)
      go_returns
      exact ⟨rfl, rfl⟩
    · rw [if_neg h1]
      go_enter Try.func49, Try.ntmps49
      go_wp2_with (fail)
      go_returns
      exact ⟨rfl, rfl⟩

/-- May a number stand there? -/
def mayId (id n : Int) : Bool := if id = 8 ∨ id = 9 then decide (n ≤ 1152921504606846976) else if id = 11 then decide (n ≤ 16383) else if id = 14 then decide (2 ≤ n) && decide (n ≤ 4611686018427387903) else decide (n ≤ 4611686018427387903)
theorem may_cases (id n : Int) : ((id = 8 ∨ id = 9) ∧ mayId id n = decide (n ≤ 1152921504606846976)) ∨ (id = 11 ∧ mayId id n = decide (n ≤ 16383)) ∨ (id = 14 ∧ 2 ≤ n ∧ mayId id n = decide (n ≤ 4611686018427387903)) ∨ (id = 14 ∧ n < 2 ∧ mayId id n = false) ∨ (id ≠ 8 ∧ id ≠ 9 ∧ id ≠ 11 ∧ id ≠ 14 ∧ mayId id n = decide (n ≤ 4611686018427387903)) := by
  unfold mayId
  by_cases h1 : id = 8 ∨ id = 9
  · exact .inl ⟨h1, if_pos h1⟩
  · by_cases h2 : id = 11
    · exact .inr (.inl ⟨h2, by rw [if_neg h1, if_pos h2]⟩)
    · by_cases h3 : id = 14
      · by_cases h4 : 2 ≤ n
        · exact .inr (.inr (.inl ⟨h3, h4, by rw [if_neg h1, if_neg h2, if_pos h3]; simp [h4]⟩))
        · exact .inr (.inr (.inr (.inl ⟨h3, by omega, by rw [if_neg h1, if_neg h2, if_pos h3]; simp [h4]⟩)))
      · exact .inr (.inr (.inr (.inr ⟨by omega, by omega, h2, h3, by rw [if_neg h1, if_neg h2, if_neg h3]⟩)))

set_option maxHeartbeats 1000000 in
theorem may_any (id n : Int) (w : World) (hn : 0 ≤ n) : Calls Try.prog 52 #[.int .u64 id, .int .u64 n] w fun e w' => e = .returned (.bool (mayId id n)) ∧ w = w' := by
  rcases may_cases id n with ⟨rfl | rfl, hs⟩ | ⟨rfl, hs⟩ | ⟨rfl, hg, hs⟩ | ⟨rfl, hg, hs⟩ | ⟨h1, h2, h3, h4, hs⟩
  all_goals
    rw [hs]
    clear hs
    go_enter Try.func52, Try.ntmps52
    go_wp2_with (fail)
    go_returns
    exact ⟨rfl, rfl⟩
set_option maxHeartbeats 1000000 in
theorem fits_any (id n : Int) (w : World) (hn : 0 ≤ n) : Calls Try.prog 51 #[.int .i64 id, .int .u64 n] w fun e w' => e = .returned (.bool (mayId id n)) ∧ w = w' := by
  have e1 : decide (n < 16384) = decide (n ≤ 16383) := by congr 1; apply propext; omega
  have e2 : decide (n < 4611686018427387904) = decide (n ≤ 4611686018427387903) := by congr 1; apply propext; omega
  have e3 : decide (1 < n) = decide (2 ≤ n) := by congr 1
  rcases may_cases id n with ⟨rfl | rfl, hs⟩ | ⟨rfl, hs⟩ | ⟨rfl, hg, hs⟩ | ⟨rfl, hg, hs⟩ | ⟨h1, h2, h3, h4, hs⟩
  all_goals
    rw [hs]
    have E1 := Lib.hid e1
    have E2 := Lib.hid e2
    have E3 := Lib.hid e3
    clear hs e1 e2 e3
    go_enter Try.func51, Try.ntmps51
    go_wp2_with (fail)
    go_returns
    first
      | exact ⟨rfl, rfl⟩
      | exact ⟨by simp only [← E1.out, ← E2.out, ← E3.out]; rfl, rfl⟩
      | skip

end Par
end Go.Proofs.Ytjeolfnmheofeaa
