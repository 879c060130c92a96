/- Ranges in plain Lean: how many numbers there are in two sets that are apart. -/
import Derived.Test.YtidfimpchbkppaaSpP2
namespace Go.Proofs.Ytidfimpchbkppaa
set_option linter.unusedVariables false

/-- How many numbers from 0 to below N there are of a kind. -/
def cntB (f : Int → Bool) : Nat → Int
  | 0 => 0
  | n + 1 => cntB f n + if f n = true then 1 else 0
theorem cntB_or {f g h : Int → Bool} (h1 : ∀ n, f n = (g n || h n)) (h2 : ∀ n, ¬ (g n = true ∧ h n = true)) : ∀ N, cntB f N = cntB g N + cntB h N
  | 0 => rfl
  | N + 1 => by
    have ih := cntB_or h1 h2 N
    have e1 := h1 N
    have e2 := h2 N
    simp only [cntB]
    cases hg : g N <;> cases hh : h N <;> simp_all <;> omega
theorem cntB_range (x y : Int) (h0 : 0 ≤ x) (h1 : x ≤ y) : ∀ N : Nat, cntB (fun n => decide (x ≤ n) && decide (n < y)) N = min y N - min x N
  | 0 => by simp only [cntB]; omega
  | N + 1 => by
    have ih := cntB_range x y h0 h1 N
    simp only [cntB, ih, Bool.and_eq_true, decide_eq_true_eq]
    split <;> omega
theorem cntB_neat : ∀ {M : List Rg} {b : Int} (N : Nat), NeatFrom b M → -1 ≤ b → endOf b M ≤ N → cntB (inB M) N = countR M
  | [], b, N, _, _, _ => by
    have : ∀ N, cntB (inB []) N = 0 := fun N => by
      induction N with
      | zero => rfl
      | succ N ih => simp [cntB, ih, inB]
    rw [this]; rfl
  | r :: l, b, N, ⟨h1, h2, h3⟩, hb, hN => by
    have hle := neatFrom_le_end h3
    simp only [endOf] at hN
    have e1 := cntB_or (f := inB (r :: l)) (g := fun n => decide (r.1 ≤ n) && decide (n < r.2)) (h := inB l) (fun n => by simp [inB]) (fun n ⟨a1, a2⟩ => by
      rw [inB_iff] at a2
      have := neatFrom_low h3 a2
      simp at a1
      omega) N
    rw [e1, cntB_range _ _ (by omega) (by omega), cntB_neat N h3 (by omega) hN]
    simp only [countR, List.map_cons, List.sum_cons]
    omega
/-- Two sets that are apart have together as many numbers as both of them. -/
theorem countR_add {M1 M2 M3 : List Rg} (h1 : NeatFrom (-1) M1) (h2 : NeatFrom (-1) M2) (h3 : NeatFrom (-1) M3) (hm : ∀ n, inB M3 n = (inB M1 n || inB M2 n)) (ha : ∀ n, ¬ (inB M1 n = true ∧ inB M2 n = true)) : countR M1 + countR M2 = countR M3 := by
  have key : ∀ N : Nat, endOf (-1) M1 ≤ N → endOf (-1) M2 ≤ N → endOf (-1) M3 ≤ N → countR M1 + countR M2 = countR M3 := fun N a1 a2 a3 => by
    rw [← cntB_neat N h1 (by omega) a1, ← cntB_neat N h2 (by omega) a2, ← cntB_neat N h3 (by omega) a3, cntB_or hm ha N]
  exact key ((endOf (-1) M1).toNat + (endOf (-1) M2).toNat + (endOf (-1) M3).toNat) (by omega) (by omega) (by omega)
theorem nf_nil {M : List Rg} (h : IsNf (fun _ => False) M) : M = [] := h.unique ⟨trivial, fun n => by simp [memR_nil]⟩
end Go.Proofs.Ytidfimpchbkppaa
