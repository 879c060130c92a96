/- One line's words by the document: the same as the program's (plain Lean). -/
import Derived.Test.YthangjgdjhhfgaaDoorScD6
namespace Go.Proofs.YthangjgdjhhfgaaDoor
open Go.RowKit
set_option linter.unusedVariables false
def expL (l : List UInt8) : List UInt8 := l.flatMap fun c => if c = 100 then [102, 116, 100] else [c]
def runD : List UInt8 → List (List UInt8) → Mv → Option Mv
  | [], _, m => some m
  | _ :: _, [], _ => none
  | c :: r, w :: ws, m => (setD c w m).bind (runD r ws)
def lettersD (k : Nat) : List UInt8 := lettersR.getD k []
def oneD (ws : List (List UInt8)) : OneR :=
  if kindW (ws.getD 0 []) = 0 then .err 2 else if ws.length ≠ (lettersD (kindW (ws.getD 0 []))).length + 1 then .err 2
  else match runD (lettersD (kindW (ws.getD 0 []))) ws.tail (mv0 (kindW (ws.getD 0 []))) with
    | some m => .ok m
    | none => .err 5
theorem lettersD_exp : ∀ k, k < 27 → 1 ≤ k → lettersD k = expL (letK k) := by decide
theorem lettersD_len : ∀ k, k < 27 → 1 ≤ k → (lettersD k).length + 1 = manyL (letK k) := by decide
theorem setO_D (c : UInt8) (hc : c = 115 ∨ c = 110 ∨ c = 105 ∨ c = 99 ∨ c = 98) (w : List UInt8) (ws : List (List UInt8)) (m : Mv) : setO c (w :: ws) m = setD c w m := by
  rcases hc with rfl | rfl | rfl | rfl | rfl <;> simp [setO, setD, M64]
theorem setO_d (x y z : List UInt8) (ws : List (List UInt8)) (m : Mv) : setO 100 (x :: y :: z :: ws) m = (setD 102 x m).bind fun m1 => (setD 116 y m1).bind fun m2 => setD 100 z m2 := by
  have h1 : ∀ (s : List UInt8) (m : Mv), setD 102 s m = (numM 4294967295 s).map fun n => { m with from_ := n } := fun _ _ => rfl
  have h2 : ∀ (s : List UInt8) (m : Mv), setD 116 s m = (numM 4294967295 s).map fun n => { m with to_ := n } := fun _ _ => rfl
  have h3 : ∀ (s : List UInt8) (m : Mv), setD 100 s m = (unhexO s).map fun d => { m with d := d } := fun _ _ => rfl
  have h4 : setO 100 (x :: y :: z :: ws) m = match numM 4294967295 x, numM 4294967295 y, unhexO z with
    | some f, some t, some d => some { m with from_ := f, to_ := t, d := d }
    | _, _, _ => none := rfl
  rw [h4, h1]
  simp only [h2, h3]
  cases numM 4294967295 x with
  | none => rfl
  | some f =>
    cases hy : numM 4294967295 y with
    | none => simp
    | some t =>
      cases hz : unhexO z with
      | none => simp
      | some d => simp
theorem runL_none : ∀ (l : List UInt8) (ws : List (List UInt8)), runL l ws none = none
  | [], _ => rfl
  | c :: r, ws => by rw [runL]; exact runL_none r _
theorem runD_app : ∀ (l r : List UInt8) (ws vs : List (List UInt8)) (m : Mv), ws.length = l.length → runD (l ++ r) (ws ++ vs) m = (runD l ws m).bind (runD r vs)
  | [], r, ws, vs, m, h => by cases ws with
    | nil => rfl
    | cons a b => simp at h
  | c :: l, r, ws, vs, m, h => by
    cases ws with
    | nil => simp at h
    | cons a b =>
      simp only [List.cons_append, runD]
      cases setD c a m with
      | none => rfl
      | some m1 => simp only [Option.bind_some]; exact runD_app l r b vs m1 (by simpa using h)
theorem runL_D : ∀ (l : List UInt8) (ws : List (List UInt8)) (m : Mv), (∀ c ∈ l, c = 115 ∨ c = 110 ∨ c = 105 ∨ c = 99 ∨ c = 98 ∨ c = 100) → ws.length = (expL l).length → runL l ws (some m) = runD (expL l) ws m
  | [], ws, m, _, _ => rfl
  | c :: l, ws, m, hl, h => by
    have hc := hl c (List.mem_cons_self ..)
    have hl' : ∀ c ∈ l, c = 115 ∨ c = 110 ∨ c = 105 ∨ c = 99 ∨ c = 98 ∨ c = 100 := fun x hx => hl x (List.mem_cons_of_mem _ hx)
    have hex : expL (c :: l) = (if c = 100 then [102, 116, 100] else [c]) ++ expL l := by simp [expL]
    rw [hex] at h ⊢
    rw [runL]
    by_cases h100 : c = 100
    · subst h100
      rw [if_pos rfl] at h ⊢
      obtain ⟨x, y, z, r, rfl⟩ : ∃ x y z r, ws = x :: y :: z :: r := by
        match ws, h with
        | x :: y :: z :: r, _ => exact ⟨x, y, z, r, rfl⟩
        | [], h => simp at h
        | [_], h => simp at h
        | [_, _], h => simp at h
      rw [show cntL 100 = 3 from rfl, Option.bind_some, setO_d]
      show runL l r _ = runD ([102, 116, 100] ++ expL l) ([x, y, z] ++ r) m
      rw [runD_app _ _ _ _ _ rfl]
      simp only [runD]
      cases setD 102 x m with
      | none => simp [runL_none]
      | some m1 =>
        simp only [Option.bind_some]
        cases setD 116 y m1 with
        | none => simp [runL_none]
        | some m2 =>
          simp only [Option.bind_some]
          cases setD 100 z m2 with
          | none => simp [runL_none]
          | some m3 => simp only [Option.bind_some]; exact runL_D l r m3 hl' (by simpa using h)
    · rw [if_neg h100] at h ⊢
      obtain ⟨x, r, rfl⟩ : ∃ x r, ws = x :: r := by
        match ws, h with
        | x :: r, _ => exact ⟨x, r, rfl⟩
        | [], h => simp at h
      rw [show cntL c = 1 from if_neg h100, Option.bind_some, setO_D c (by rcases hc with h | h | h | h | h | h <;> simp_all)]
      show runL l r _ = runD ([c] ++ expL l) ([x] ++ r) m
      rw [runD_app _ _ _ _ _ rfl]
      simp only [runD]
      cases setD c x m with
      | none => simp [runL_none]
      | some m1 => simp only [Option.bind_some]; exact runL_D l r m1 hl' (by simpa using h)
theorem oneD_E (ws : List (List UInt8)) : oneD ws = oneE ws := by
  unfold oneD oneE
  have hk := kindW_le (ws.getD 0 [])
  generalize kindW (ws.getD 0 []) = k at hk ⊢
  by_cases h0 : k = 0
  · rw [if_pos h0, if_pos h0]
  · rw [if_neg h0, if_neg h0, lettersD_len k (by omega) (by omega)]
    by_cases hn : ws.length ≠ manyL (letK k)
    · rw [if_pos hn, if_pos hn]
    · rw [if_neg hn, if_neg hn, runL_D _ _ _ (let_ok k (by omega)), lettersD_exp k (by omega) (by omega)]
      · rfl
      · have := lettersD_len k (by omega) (by omega)
        rw [List.length_tail, ← lettersD_exp k (by omega) (by omega)]
        omega
end Go.Proofs.YthangjgdjhhfgaaDoor
