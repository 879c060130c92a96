/- Scripts in plain Lean: forms, moves, what is parsed. No program here. -/
import Derived.Test.YthangjgdjhhfgaaGreatDoorScP2
namespace Go.Proofs.YthangjgdjhhfgaaGreatDoor
set_option linter.unusedVariables false

structure Mv where
  kind : Nat
  side : Nat
  n : Int
  id : Nat
  code : Nat
  b : List UInt8
  from_ : Nat
  to_ : Nat
  d : List UInt8
def mv0 (k : Nat) : Mv := ⟨k, 0, 0, 0, 0, [], 0, 0, []⟩
instance : Inhabited Mv := ⟨mv0 0⟩
/-- The moves' words and letters, by kind from 1 on. -/
def formT : List (List UInt8 × List UInt8) := [([100, 105, 97, 108], []),
  ([115, 116, 97, 114, 116], [115, 110]),
  ([119, 114, 105, 116, 101], [115, 105, 98]),
  ([102, 105, 110, 105, 115, 104], [115, 105]),
  ([100, 114, 111, 112], [115, 105, 99]),
  ([114, 101, 97, 100], [115, 105, 110]),
  ([114, 101, 102, 117, 115, 101], [115, 105, 99]),
  ([117, 112, 100, 97, 116, 101], [115]),
  ([99, 108, 111, 115, 101], [115, 99, 98]),
  ([115, 101, 110, 100], [115]),
  ([100, 101, 108, 105, 118, 101, 114], [110]),
  ([108, 111, 115, 101], [110]),
  ([100, 111, 117, 98, 108, 101], [110]),
  ([116, 117, 114, 110], [110, 99]),
  ([105, 110, 106, 101, 99, 116], [100]),
  ([116, 105, 99, 107], [110]),
  ([98, 111, 111, 116], [115]),
  ([99, 114, 97, 115, 104], [115]),
  ([102, 114, 101, 101, 122, 101], [115]),
  ([115, 97, 118, 101], [115]),
  ([116, 104, 97, 119], [115]),
  ([97, 100, 111, 112, 116], [115]),
  ([99, 108, 97, 105, 109], [115]),
  ([108, 111, 111, 107], [115]),
  ([116, 111, 114, 110], [110]),
  ([109, 111, 118, 101], [])]
def formsL : List UInt8 := [100, 105, 97, 108, 124, 115, 116, 97, 114, 116, 32, 115, 110, 124, 119, 114, 105, 116, 101, 32, 115, 105, 98, 124, 102, 105, 110, 105, 115, 104, 32, 115, 105, 124, 100, 114, 111, 112, 32, 115, 105, 99, 124, 114, 101, 97, 100, 32, 115, 105, 110, 124, 114, 101, 102, 117, 115, 101, 32, 115, 105, 99, 124, 117, 112, 100, 97, 116, 101, 32, 115, 124, 99, 108, 111, 115, 101, 32, 115, 99, 98, 124, 115, 101, 110, 100, 32, 115, 124, 100, 101, 108, 105, 118, 101, 114, 32, 110, 124, 108, 111, 115, 101, 32, 110, 124, 100, 111, 117, 98, 108, 101, 32, 110, 124, 116, 117, 114, 110, 32, 110, 99, 124, 105, 110, 106, 101, 99, 116, 32, 100, 124, 116, 105, 99, 107, 32, 110, 124, 98, 111, 111, 116, 32, 115, 124, 99, 114, 97, 115, 104, 32, 115, 124, 102, 114, 101, 101, 122, 101, 32, 115, 124, 115, 97, 118, 101, 32, 115, 124, 116, 104, 97, 119, 32, 115, 124, 97, 100, 111, 112, 116, 32, 115, 124, 99, 108, 97, 105, 109, 32, 115, 124, 108, 111, 111, 107, 32, 115, 124, 116, 111, 114, 110, 32, 110, 124, 109, 111, 118, 101]
def wordK (k : Nat) : List UInt8 := (formT.getD (k - 1) ([], [])).1
def letK (k : Nat) : List UInt8 := (formT.getD (k - 1) ([], [])).2
def isK (k : Nat) : Bool := decide (1 ≤ k) && decide (k ≤ 26)
def kindF (w : List UInt8) : Nat → Nat → Nat
  | 0, _ => 0
  | f + 1, k => if isK k then (if wordK k = w then k else kindF w f (k + 1)) else 0
def kindW (w : List UInt8) : Nat := kindF w 30 1
/-! ### Halves of bytes -/
def hexT : List UInt8 := [48, 49, 50, 51, 52, 53, 54, 55, 56, 57, 97, 98, 99, 100, 101, 102]
def hexD (c : UInt8) : List UInt8 := [hexT.getD (c.toNat / 16) 0, hexT.getD (c.toNat % 16) 0]
def hexS (b : List UInt8) : List UInt8 := if b = [] then [45] else b.flatMap hexD
def hv (c : UInt8) : Option Nat := if 48 ≤ c.toNat ∧ c.toNat ≤ 57 then some (c.toNat - 48) else if 97 ≤ c.toNat ∧ c.toNat ≤ 102 then some (c.toNat - 87) else none
def hexP : List UInt8 → Option (List UInt8)
  | [] => some []
  | [_] => none
  | a :: b :: r => match hv a, hv b, hexP r with
    | some x, some y, some t => some (UInt8.ofNat (x * 16 + y) :: t)
    | _, _, _ => none
def unhexO (s : List UInt8) : Option (List UInt8) := if s = [45] then some [] else if s = [] then none else hexP s
/-! ### A line's words -/
def cntL (c : UInt8) : Nat := if c = 100 then 3 else 1
def setO (c : UInt8) (ws : List (List UInt8)) (m : Mv) : Option Mv :=
  if c = 115 then (numM 255 (ws.getD 0 [])).map fun n => { m with side := n }
  else if c = 110 then (intO (ws.getD 0 [])).map fun n => { m with n := n }
  else if c = 105 then (numM M64 (ws.getD 0 [])).map fun n => { m with id := n }
  else if c = 99 then (numM M64 (ws.getD 0 [])).map fun n => { m with code := n }
  else if c = 98 then (unhexO (ws.getD 0 [])).map fun b => { m with b := b }
  else match numM 4294967295 (ws.getD 0 []), numM 4294967295 (ws.getD 1 []), unhexO (ws.getD 2 []) with
    | some f, some t, some d => some { m with from_ := f, to_ := t, d := d }
    | _, _, _ => none
def runL : List UInt8 → List (List UInt8) → Option Mv → Option Mv
  | [], _, st => st
  | c :: r, ws, st => runL r (ws.drop (cntL c)) (st.bind (setO c ws))
def manyL (l : List UInt8) : Nat := 1 + l.length + 2 * l.count 100
inductive OneR
  | ok (m : Mv)
  | err (e : Nat)
def oneE (ws : List (List UInt8)) : OneR :=
  if kindW (ws.getD 0 []) = 0 then .err 2 else if ws.length ≠ manyL (letK (kindW (ws.getD 0 []))) then .err 2
  else match runL (letK (kindW (ws.getD 0 []))) ws.tail (some (mv0 (kindW (ws.getD 0 [])))) with
    | some m => .ok m
    | none => .err 5
def textW (t : List UInt8) : List (List UInt8) := wds (t.takeWhile (· ≠ 35))
def parseLs : Nat → List (List UInt8) → List Mv → List Mv × Nat × Nat
  | _, [], out => (out, 0, 0)
  | n, t :: r, out => if textW t = [] then parseLs (n + 1) r out else match oneE (textW t) with
    | .err e => ([], n + 1, e)
    | .ok m => if out.length = 2000 then ([], n + 1, 3) else parseLs (n + 1) r (out ++ [m])
def parseS (s : List UInt8) : List Mv × Nat × Nat := parseLs 0 (pcs 10 s) []

/-! ### Laws of forms -/
theorem forms_pcs : pcs 124 formsL = formT.map fun x => if x.2 = [] then x.1 else x.1 ++ 32 :: x.2 := by decide
theorem kindF_of (w : List UInt8) : ∀ (f k : Nat), k + f ≤ 31 → 1 ≤ k → kindF w f k = 0 ∨ (k ≤ kindF w f k ∧ isK (kindF w f k) = true ∧ wordK (kindF w f k) = w)
  | 0, k, _, _ => .inl rfl
  | f + 1, k, h, h1 => by
    rw [kindF]
    split
    · rename_i hk
      split
      · rename_i hw; exact .inr ⟨Nat.le_refl _, hk, hw⟩
      · rcases kindF_of w f (k + 1) (by omega) (by omega) with h2 | ⟨h2, h3, h4⟩
        · exact .inl h2
        · exact .inr ⟨by omega, h3, h4⟩
    · exact .inl rfl
theorem kindW_le (w : List UInt8) : kindW w ≤ 26 := by
  rcases kindF_of w 30 1 (by omega) (by omega) with h | ⟨_, h, _⟩
  · unfold kindW; omega
  · simp only [isK, Bool.and_eq_true, decide_eq_true_eq] at h; unfold kindW; omega
theorem let_ok : ∀ k, k < 28 → ∀ c ∈ letK k, c = 115 ∨ c = 110 ∨ c = 105 ∨ c = 99 ∨ c = 98 ∨ c = 100 := by decide
theorem let_len : ∀ k, k < 28 → (letK k).length ≤ 3 := by decide
end Go.Proofs.YthangjgdjhhfgaaGreatDoor
