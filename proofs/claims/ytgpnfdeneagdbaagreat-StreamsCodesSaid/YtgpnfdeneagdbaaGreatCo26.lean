/- An element of an array of arrays. -/
import Derived.Test.YtgpnfdeneagdbaaGreatCo25
namespace Go.Proofs.YtgpnfdeneagdbaaGreat
open Go.RowKit
set_option linter.unusedVariables false
set_option linter.unusedSimpArgs false
theorem two_size : ((Tryz.prog).info? 35).map (·.size) = some 2 := by kernel_rfl
theorem run_index22 (c0 c1 c2 c3 : Value) (W : World) : (Instr.index 36 (.agg #[c0, c1, c2, c3]) (.int .i64 0)).run Tryz.prog W = .ok (.agg #[c0, c1]) W ∧ (Instr.index 36 (.agg #[c0, c1, c2, c3]) (.int .i64 1)).run Tryz.prog W = .ok (.agg #[c2, c3]) W := by
  have h1 := two_size
  cases hq : (Tryz.prog).info? 35 with
  | none => rw [hq] at h1; cases h1
  | some i =>
    have hs : i.size = 2 := by simpa [hq] using h1
    constructor
    · simp [Instr.index, asIntOf, Sem.run_bind, run_underlying Tryz.underlying36, run_underlying Tryz.underlying35, part, isAgg, sizeOf, typeInfo, hq, hs]
    · simp [Instr.index, asIntOf, Sem.run_bind, run_underlying Tryz.underlying36, run_underlying Tryz.underlying35, part, isAgg, sizeOf, typeInfo, hq, hs]
def LawPost (w : World) (e : Ending) (w' : World) : Prop := e = .returned (.bool true) ∧ Below w.heap.size w w'
section
variable {P : Program} {md : Region.Mode} {ops : Array Oper} {Q : Exit → Act → World → Prop} {E : List Nat}
theorem wpG_mono {C C' : World → Prop} (hC : ∀ w, C' w → C w) : ∀ (fuel : Nat) (listed : Array Bool) (a : Act) (w : World), wpG P md ops Q C' E fuel listed a w → wpG P md ops Q C E fuel listed a w
  | 0, _, _, _, h => h
  | fuel + 1, _, _, _, h => ⟨h.1, fun i hi => wpOp_mono (fun a' w' h' => ⟨fun hn => hC _ (h'.1 hn), wpG_mono hC fuel _ a' w' h'.2⟩) (h.2 i hi)⟩
/-- A narrower class from here on: what is there now stays. -/
theorem rg_more {C : World → Prop} {n : Nat} {listed : Array Bool} {a : Act} {w : World} (hC : ∀ w', RowKit.Below w.heap.size w w' → C w')
    (h : ∀ p : World → Prop, (∀ x : Wd p, ∀ b o s, b < w.heap.size → x.w.cell? ⟨b, o, s⟩ = w.cell? ⟨b, o, s⟩) → Nonempty (Wd p) → Cls p w → (∀ w', RowKit.Below w.heap.size w w' → Cls p w') → RG P ops Q (Cls p) E n listed a w) : RG P ops Q C E n listed a w := fun hcl =>
  wpG_mono (fun w' (hw : Cls (fun w' => RowKit.Below w.heap.size w w') w') => hC w' hw.out) _ _ _ _ (h (fun w' => RowKit.Below w.heap.size w w') (fun x b o s hb => x.ok.cell (p := ⟨b, o, s⟩) hb) ⟨⟨w, RowKit.Below.refl _ _⟩⟩ (Cls.mk (RowKit.Below.refl _ _)) (fun _ h => Cls.mk h) hcl)
end
theorem mayF_me {sv : Bool} {q r : Nat → Nat} (c : Nat) (h : c % 2 = me sv) : mayF sv q r c = r (7 + c / 2) := if_pos h
theorem mayF_you {sv : Bool} {q r : Nat → Nat} (c : Nat) (h : ¬ c % 2 = me sv) : mayF sv q r c = q (7 + c / 2) := if_neg h
end Go.Proofs.YtgpnfdeneagdbaaGreat
