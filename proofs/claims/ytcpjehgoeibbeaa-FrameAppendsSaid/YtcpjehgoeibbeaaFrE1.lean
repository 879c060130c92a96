/- The document's Form, has, u; paths of a region joined. -/
import Derived.Test.YtcpjehgoeibbeaaFrMa
namespace Go.Proofs.Ytcpjehgoeibbeaa
open Go.RowKit
set_option linter.unusedVariables false
namespace Frm
open Var
section
variable {P : Program} {ops : Array Oper} {Q : Exit → Act → World → Prop} {a : Act} {w : World}
/-- Several slots of an act set. -/
def setAll (a : Act) : List (Nat × Value) → Act
  | [] => a
  | (d, v) :: l => setAll (a.put (some d) v) l
/-- The ways through the next n operations meet again: only what is in the slots that 'F' names differs. -/
theorem wpList_join {α : Type} (n : Nat) (F : α → List (Nat × Value)) {l : List Oper} (hrest : ∀ x, wpList P ops Q (l.drop n) (setAll a (F x)) w)
    (hchunk : ∀ R, (∀ x, wpList P ops Q R (setAll a (F x)) w) → wpList P ops Q (l.take n ++ R) a w) : wpList P ops Q l a w := by
  have := hchunk (l.drop n) hrest
  rwa [List.take_append_drop] at this
/-- What lays such a frame out, in one. -/
theorem meet_laws : (∀ a : Act, setAll a [] = a) ∧ (∀ (a : Act) (d : Nat) (v : Value) (l : List (Nat × Value)), setAll a ((d, v) :: l) = setAll (a.put (some d) v) l)
    ∧ (∀ (t : Array Value) (df : List Deferred) (d : Nat) (v : Value), Act.put ⟨t, df⟩ (some d) v = ⟨t.setIfInBounds d v, df⟩)
    ∧ (∀ (l : List Value) (i : Nat) (x : Value), l.toArray.setIfInBounds i x = (l.set i x).toArray) ∧ (∀ (x : Value) (l : List Value) (n : Nat) (y : Value), (x :: l).set (n + 1) y = x :: l.set n y) ∧ (∀ (x : Value) (l : List Value) (y : Value), (x :: l).set 0 y = y :: l)
    ∧ (∀ (x : Oper) (l : List Oper) (n : Nat), (x :: l).drop (n + 1) = l.drop n) ∧ (∀ l : List Oper, l.drop 0 = l) ∧ (∀ (x : Oper) (l : List Oper) (n : Nat), (x :: l).take (n + 1) = x :: l.take n) ∧ (∀ l : List Oper, l.take 0 = [])
    ∧ (∀ l m : List Oper, List.append l m = l ++ m) ∧ (∀ (x : Oper) (l m : List Oper), (x :: l) ++ m = x :: (l ++ m)) ∧ (∀ m : List Oper, [] ++ m = m) :=
  ⟨fun _ => rfl, fun _ _ _ _ => rfl, fun _ _ _ _ => rfl, fun _ _ _ => List.setIfInBounds_toArray .., fun _ _ _ _ => rfl, fun _ _ _ => rfl, fun _ _ _ => rfl, fun _ => rfl, fun _ _ _ => rfl, fun _ => rfl, fun _ _ => rfl, fun _ _ _ => rfl, fun _ => rfl⟩
theorem stop_d (n : Nat) {o : Op} {ty : TypeId} {pos : String} {aft : Array Edge} {g : Option (Nat × Bool)} {rest : List Oper}
    (h : Stop (wpList P ops Q (⟨some n, o, ty, pos, aft, g⟩ :: rest) a w)) : wpList P ops Q (⟨some n, o, ty, pos, aft, g⟩ :: rest) a w := h
end
theorem has_any (s : List UInt8) (c : UInt8) (r : Bool) (w : World) (hr : s.contains c = r) (hl : s.length ≤ 1000) :
    Calls Try.prog 53 #[.string ⟨s.toArray⟩, .int .u8 c.toNat] w fun e w' => e = .returned (.bool r) ∧ w = w' := by
  have HR := Lib.hid hr
  clear hr
  go_enter Try.func53, Try.ntmps53
  go_wp2_with (fail)
  go_loopw [5] (fun i wr => ∃ k : Nat, i = .int .i64 k ∧ k ≤ s.length ∧ w = wr ∧ Hid (∀ j, j < k → s[j]? ≠ some c)) (fun i _ => s.length - (intOf i).toNat)
  case atStart => exact ⟨0, rfl, by omega, rfl, Lib.hid (fun j h => by omega)⟩
  case round =>
    obtain ⟨k, rfl, hk, rfl, hno⟩ := hrel
    by_cases hlt : k < s.length
    · have hks : k < (⟨s.toArray⟩ : ByteArray).size := by show k < s.toArray.size; simpa using hlt
      obtain ⟨x, hx⟩ : ∃ x, s[k] = x := ⟨_, rfl⟩
      have hsk : s[k]? = some x := by rw [List.getElem?_eq_getElem hlt, hx]
      have HSK := Lib.hid hsk
      have hbx : (⟨s.toArray⟩ : ByteArray)[k]'hks = x := by show s.toArray[k]'(by simpa using hlt) = x; simpa using hx
      by_cases hxc : x = c
      · have hc : s.contains c = true := by
          rw [List.contains_iff_mem]; rw [← hxc, ← hx]; exact List.getElem_mem hlt
        have hr : r = true := HR.out.symm.trans hc
        subst hr hxc
        clear hsk hc
        go_wp2_with (fail)
        go_returns
        exact ⟨rfl, rfl⟩
      · have hne : ¬ ((x.toNat : Int) = (c.toNat : Int)) := fun h => hxc (UInt8.toNat_inj.1 (Int.ofNat.inj h))
        have heq : ((x.toNat : Int) == (c.toNat : Int)) = false := by simpa using hne
        clear hsk
        go_wp2_with (fail)
        refine ⟨⟨k + 1, by go_num, by omega, trivial, Lib.hid fun j hj => ?_⟩, by simp [intOf]; omega⟩
        rcases Nat.lt_or_ge j k with h | h
        · exact hno.out j h
        · obtain rfl : j = k := by omega
          rw [HSK.out]; exact fun h => hxc (Option.some.inj h)
    · obtain rfl : k = s.length := by omega
      have hr : r = false := by
        rw [← HR.out, Bool.eq_false_iff]
        intro h
        obtain ⟨j, hj, e⟩ := List.getElem_of_mem (List.contains_iff_mem.1 h)
        exact hno.out j hj (by rw [List.getElem?_eq_getElem hj, e])
      subst hr
      go_wp2_with (fail)
      go_returns
      exact ⟨rfl, rfl⟩
/-- What a kind has, by letters. -/
def formS (k : Int) : List UInt8 :=
  if k = 0 then [80]
  else if k = 1 then []
  else if k = 2 then [65]
  else if k = 3 then [69]
  else if k = 4 then [105, 99, 109]
  else if k = 5 then [105, 99]
  else if k = 6 then [111, 100]
  else if k = 7 then [100]
  else if k = 8 then [83]
  else if k = 16 then [109]
  else if k = 17 then [105, 109]
  else if k = 18 then [109]
  else if k = 19 then [109]
  else if k = 20 then [109]
  else if k = 21 then [105, 109]
  else if k = 22 then [109]
  else if k = 23 then [109]
  else if k = 24 then [105, 109, 67]
  else if k = 25 then [105]
  else if k = 26 then [68]
  else if k = 27 then [68]
  else if k = 28 then [99, 109, 100]
  else if k = 29 then [99, 100]
  else if k = 30 then []
  else []
set_option maxRecDepth 100000 in
set_option maxHeartbeats 4000000 in
theorem form_any (k : Int) (w : World) : Calls Try.prog 19 #[.int .u64 k] w fun e w' => e = .returned (.tuple #[.string ⟨(formS k).toArray⟩, .bool (isFr k)]) ∧ w = w' := by
  by_cases h0 : k = 0
  · subst h0
    go_enter Try.func19, Try.ntmps19
    go_wp2_with (fail)
    go_returns
    exact ⟨rfl, rfl⟩
  by_cases h1 : k = 1
  · subst h1
    go_enter Try.func19, Try.ntmps19
    go_wp2_with (fail)
    go_returns
    exact ⟨rfl, rfl⟩
  by_cases h2 : k = 2
  · subst h2
    go_enter Try.func19, Try.ntmps19
    go_wp2_with (fail)
    go_returns
    exact ⟨rfl, rfl⟩
  by_cases h3 : k = 3
  · subst h3
    go_enter Try.func19, Try.ntmps19
    go_wp2_with (fail)
    go_returns
    exact ⟨rfl, rfl⟩
  by_cases h4 : k = 4
  · subst h4
    go_enter Try.func19, Try.ntmps19
    go_wp2_with (fail)
    go_returns
    exact ⟨rfl, rfl⟩
  by_cases h5 : k = 5
  · subst h5
    go_enter Try.func19, Try.ntmps19
    go_wp2_with (fail)
    go_returns
    exact ⟨rfl, rfl⟩
  by_cases h6 : k = 6
  · subst h6
    go_enter Try.func19, Try.ntmps19
    go_wp2_with (fail)
    go_returns
    exact ⟨rfl, rfl⟩
  by_cases h7 : k = 7
  · subst h7
    go_enter Try.func19, Try.ntmps19
    go_wp2_with (fail)
    go_returns
    exact ⟨rfl, rfl⟩
  by_cases h8 : k = 8
  · subst h8
    go_enter Try.func19, Try.ntmps19
    go_wp2_with (fail)
    go_returns
    exact ⟨rfl, rfl⟩
  by_cases h16 : k = 16
  · subst h16
    go_enter Try.func19, Try.ntmps19
    go_wp2_with (fail)
    go_returns
    exact ⟨rfl, rfl⟩
  by_cases h17 : k = 17
  · subst h17
    go_enter Try.func19, Try.ntmps19
    go_wp2_with (fail)
    go_returns
    exact ⟨rfl, rfl⟩
  by_cases h18 : k = 18
  · subst h18
    go_enter Try.func19, Try.ntmps19
    go_wp2_with (fail)
    go_returns
    exact ⟨rfl, rfl⟩
  by_cases h19 : k = 19
  · subst h19
    go_enter Try.func19, Try.ntmps19
    go_wp2_with (fail)
    go_returns
    exact ⟨rfl, rfl⟩
  by_cases h20 : k = 20
  · subst h20
    go_enter Try.func19, Try.ntmps19
    go_wp2_with (fail)
    go_returns
    exact ⟨rfl, rfl⟩
  by_cases h21 : k = 21
  · subst h21
    go_enter Try.func19, Try.ntmps19
    go_wp2_with (fail)
    go_returns
    exact ⟨rfl, rfl⟩
  by_cases h22 : k = 22
  · subst h22
    go_enter Try.func19, Try.ntmps19
    go_wp2_with (fail)
    go_returns
    exact ⟨rfl, rfl⟩
  by_cases h23 : k = 23
  · subst h23
    go_enter Try.func19, Try.ntmps19
    go_wp2_with (fail)
    go_returns
    exact ⟨rfl, rfl⟩
  by_cases h24 : k = 24
  · subst h24
    go_enter Try.func19, Try.ntmps19
    go_wp2_with (fail)
    go_returns
    exact ⟨rfl, rfl⟩
  by_cases h25 : k = 25
  · subst h25
    go_enter Try.func19, Try.ntmps19
    go_wp2_with (fail)
    go_returns
    exact ⟨rfl, rfl⟩
  by_cases h26 : k = 26
  · subst h26
    go_enter Try.func19, Try.ntmps19
    go_wp2_with (fail)
    go_returns
    exact ⟨rfl, rfl⟩
  by_cases h27 : k = 27
  · subst h27
    go_enter Try.func19, Try.ntmps19
    go_wp2_with (fail)
    go_returns
    exact ⟨rfl, rfl⟩
  by_cases h28 : k = 28
  · subst h28
    go_enter Try.func19, Try.ntmps19
    go_wp2_with (fail)
    go_returns
    exact ⟨rfl, rfl⟩
  by_cases h29 : k = 29
  · subst h29
    go_enter Try.func19, Try.ntmps19
    go_wp2_with (fail)
    go_returns
    exact ⟨rfl, rfl⟩
  by_cases h30 : k = 30
  · subst h30
    go_enter Try.func19, Try.ntmps19
    go_wp2_with (fail)
    go_returns
    exact ⟨rfl, rfl⟩
  have e1 : formS k = [] := by simp [formS, h0, h1, h2, h3, h4, h5, h6, h7, h8, h16, h17, h18, h19, h20, h21, h22, h23, h24, h25, h26, h27, h28, h29, h30]
  have e2 : isFr k = false := by
    rw [Bool.eq_false_iff]
    intro h
    simp only [isFr, Bool.and_eq_true, Bool.not_eq_true', Bool.and_eq_false_iff, decide_eq_true_eq, decide_eq_false_iff_not] at h
    omega
  have g0 : (k == 0) = false := by simpa using h0
  have g1 : (k == 1) = false := by simpa using h1
  have g2 : (k == 2) = false := by simpa using h2
  have g3 : (k == 3) = false := by simpa using h3
  have g4 : (k == 4) = false := by simpa using h4
  have g5 : (k == 5) = false := by simpa using h5
  have g6 : (k == 6) = false := by simpa using h6
  have g7 : (k == 7) = false := by simpa using h7
  have g8 : (k == 8) = false := by simpa using h8
  have g16 : (k == 16) = false := by simpa using h16
  have g17 : (k == 17) = false := by simpa using h17
  have g18 : (k == 18) = false := by simpa using h18
  have g19 : (k == 19) = false := by simpa using h19
  have g20 : (k == 20) = false := by simpa using h20
  have g21 : (k == 21) = false := by simpa using h21
  have g22 : (k == 22) = false := by simpa using h22
  have g23 : (k == 23) = false := by simpa using h23
  have g24 : (k == 24) = false := by simpa using h24
  have g25 : (k == 25) = false := by simpa using h25
  have g26 : (k == 26) = false := by simpa using h26
  have g27 : (k == 27) = false := by simpa using h27
  have g28 : (k == 28) = false := by simpa using h28
  have g29 : (k == 29) = false := by simpa using h29
  have g30 : (k == 30) = false := by simpa using h30
  rw [e1, e2]
  clear e1 e2 h0 h1 h2 h3 h4 h5 h6 h7 h8 h16 h17 h18 h19 h20 h21 h22 h23 h24 h25 h26 h27 h28 h29 h30
  go_enter Try.func19, Try.ntmps19
  go_wp2_with (fail)
  go_returns
  exact ⟨rfl, rfl⟩
end Frm
end Go.Proofs.Ytcpjehgoeibbeaa
