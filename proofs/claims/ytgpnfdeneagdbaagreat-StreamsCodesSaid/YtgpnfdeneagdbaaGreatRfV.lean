/- The machine at closed calls that are handed plain values and yield plain values. -/
import Derived.Test.YtgpnfdeneagdbaaGreatRf14
namespace Go.Proofs.YtgpnfdeneagdbaaGreat.Rf
open Go.RowKit
set_option linter.unusedVariables false
def lit1 : Value → Bool
  | .bool _ | .int .. | .string _ | .nilIface | .slice none 0 0 => true
  | _ => false
def lit2 : Value → Bool
  | .agg ⟨cs⟩ => cs.all lit1
  | v => lit1 v
def lit3 : Value → Bool
  | .tuple ⟨vs⟩ => vs.all lit2
  | v => lit2 v
def eq1 : Value → Value → Bool
  | .bool a, .bool b => a == b
  | .int k a, .int k' b => decide (k = k') && (a == b)
  | .string s, .string t => s.data.toList == t.data.toList
  | .nilIface, .nilIface => true
  | .slice none 0 0, .slice none 0 0 => true
  | _, _ => false
def eqs1 : List Value → List Value → Bool
  | [], [] => true
  | x :: xs, y :: ys => eq1 x y && eqs1 xs ys
  | _, _ => false
def eq2 : Value → Value → Bool
  | .agg ⟨cs⟩, .agg ⟨ds⟩ => eqs1 cs ds
  | x, y => eq1 x y
def eqs2 : List Value → List Value → Bool
  | [], [] => true
  | x :: xs, y :: ys => eq2 x y && eqs2 xs ys
  | _, _ => false
def eq3 : Value → Value → Bool
  | .tuple ⟨cs⟩, .tuple ⟨ds⟩ => eqs2 cs ds
  | x, y => eq2 x y
theorem eq1_ok : ∀ {x y : Value}, eq1 x y = true → x = y ∧ lit1 x = true := by
  intro x y h
  unfold eq1 at h
  split at h
  · simp at h; subst h; exact ⟨rfl, rfl⟩
  · simp at h; obtain ⟨rfl, rfl⟩ := h; exact ⟨rfl, rfl⟩
  · rename_i s t
    have h1 : s.data.toList = t.data.toList := by simpa using h
    have h2 : s.data = t.data := Array.ext' h1
    have h3 : s = t := ByteArray.ext h2
    subst h3; exact ⟨rfl, rfl⟩
  · exact ⟨rfl, rfl⟩
  · exact ⟨rfl, rfl⟩
  · cases h
theorem eqs1_ok : ∀ {xs ys : List Value}, eqs1 xs ys = true → xs = ys ∧ xs.all lit1 = true
  | [], [], _ => ⟨rfl, rfl⟩
  | x :: xs, y :: ys, h => by
    simp only [eqs1, Bool.and_eq_true] at h
    obtain ⟨rfl, h2⟩ := eq1_ok h.1
    obtain ⟨rfl, h4⟩ := eqs1_ok h.2
    exact ⟨rfl, by simp [h2, h4]⟩
  | [], _ :: _, h => by cases h
  | _ :: _, [], h => by cases h
theorem eq2_ok : ∀ {x y : Value}, eq2 x y = true → x = y ∧ lit2 x = true := by
  intro x y h
  unfold eq2 at h
  split at h
  · obtain ⟨rfl, h2⟩ := eqs1_ok h
    exact ⟨rfl, h2⟩
  · obtain ⟨rfl, h2⟩ := eq1_ok h
    refine ⟨rfl, ?_⟩
    cases x <;> first | exact h2 | (simp [lit1] at h2)
theorem eqs2_ok : ∀ {xs ys : List Value}, eqs2 xs ys = true → xs = ys ∧ xs.all lit2 = true
  | [], [], _ => ⟨rfl, rfl⟩
  | x :: xs, y :: ys, h => by
    simp only [eqs2, Bool.and_eq_true] at h
    obtain ⟨rfl, h2⟩ := eq2_ok h.1
    obtain ⟨rfl, h4⟩ := eqs2_ok h.2
    exact ⟨rfl, by simp [h2, h4]⟩
  | [], _ :: _, h => by cases h
  | _ :: _, [], h => by cases h
theorem eq3_ok : ∀ {x y : Value}, eq3 x y = true → x = y ∧ lit3 x = true := by
  intro x y h
  unfold eq3 at h
  split at h
  · obtain ⟨rfl, h2⟩ := eqs2_ok h
    exact ⟨rfl, h2⟩
  · obtain ⟨rfl, h2⟩ := eq2_ok h
    refine ⟨rfl, ?_⟩
    cases x <;> first | exact h2 | (simp [lit2, lit1] at h2)
theorem VR.lit1 {ρ : Ren} {v v' : Value} (h : VR ρ v v') (hl : Rf.lit1 v = true) : v' = v := by
  cases h <;> first | rfl | (simp [Rf.lit1] at hl)
theorem VRs.lit1 {ρ : Ren} : ∀ {v v' : List Value}, VRs ρ v v' → v.all Rf.lit1 = true → v' = v
  | [], _, h, _ => by cases h; rfl
  | x :: xs, _, h, hl => by
    cases h with
    | cons _ y _ ys h1 h2 =>
      simp only [List.all_cons, Bool.and_eq_true] at hl
      rw [VR.lit1 h1 hl.1, VRs.lit1 h2 hl.2]
theorem VR.lit2 {ρ : Ren} {v v' : Value} (h : VR ρ v v') (hl : Rf.lit2 v = true) : v' = v := by
  cases h with
  | ag c c' h1 => rw [VRs.lit1 h1 hl]
  | flat v h => rfl
  | _ => first | rfl | (simp [Rf.lit2, Rf.lit1] at hl)
theorem VRs.lit2 {ρ : Ren} : ∀ {v v' : List Value}, VRs ρ v v' → v.all Rf.lit2 = true → v' = v
  | [], _, h, _ => by cases h; rfl
  | x :: xs, _, h, hl => by
    cases h with
    | cons _ y _ ys h1 h2 =>
      simp only [List.all_cons, Bool.and_eq_true] at hl
      rw [VR.lit2 h1 hl.1, VRs.lit2 h2 hl.2]
theorem VR.lit3 {ρ : Ren} {v v' : Value} (h : VR ρ v v') (hl : Rf.lit3 v = true) : v' = v := by
  cases h with
  | tu c c' h1 => rw [VRs.lit2 h1 hl]
  | ag c c' h1 => rw [VRs.lit1 h1 hl]
  | flat v h => rfl
  | _ => first | rfl | (simp [Rf.lit3, Rf.lit2, Rf.lit1] at hl)
theorem VRs.args {ρ : Ren} : ∀ {l : List Value}, l.all Rf.lit2 = true → VRs ρ l l
  | [], _ => .nil
  | x :: xs, h => by
    simp only [List.all_cons, Bool.and_eq_true] at h
    refine .cons _ _ _ _ ?_ (VRs.args h.2)
    have h1 := h.1
    have key : ∀ v : Value, Rf.lit1 v = true → Rf.flat v = true := fun v hv => by
      cases v <;> first | rfl | (simp [Rf.lit1] at hv; done) | (rename_i a l c; cases a <;> first | rfl | (simp [Rf.lit1] at hv))
    have keys : ∀ l : List Value, l.all Rf.lit1 = true → VRs ρ l l := by
      intro l
      induction l with
      | nil => intro _; exact .nil
      | cons y l ih =>
        intro hl
        simp only [List.all_cons, Bool.and_eq_true] at hl
        exact .cons _ _ _ _ (.flat _ (key y hl.1)) (ih hl.2)
    cases x <;> first | exact .flat _ rfl | (simp [Rf.lit2, Rf.lit1] at h1; done) | exact .flat _ (key _ h1) | skip
    rename_i cs
    obtain ⟨cs⟩ := cs
    exact .ag _ _ (keys cs h1)
variable {P : Program}
def runsV (P : Program) (f : FuncId) (args : List Value) (v : Value) (fuel : Nat) : Bool := args.all lit2 && (ev' P fuel).call f args .nil 1 (fun x _ _ => eq3 x v)
/-- A CLOSED CALL AT PLAIN VALUES YIELDS WHAT THE MACHINE FINDS. -/
theorem runs_val (hm : P.follows .mixedOrders = true) {f : FuncId} {args : List Value} {v : Value} {k : Nat} (h : runsV P f args v k = true) (W : World) : Calls P f args.toArray W fun e W' => e = .returned v ∧ Below W.heap.size W W' := by
  unfold runsV at h
  simp only [Bool.and_eq_true] at h
  obtain ⟨x, hp2, n2, hK, hs⟩ := (sound hm k).2 _ _ _ _ _ h.2
  obtain ⟨rfl, hl⟩ := eq3_ok hK
  refine (hs (WR.start W) (VRs.args h.1)).mono fun e W' ⟨v', he, ρ', hw, hx, hv⟩ => ?_
  exact ⟨by rw [he, VR.lit3 hv hl], hw.below⟩
end Go.Proofs.YtgpnfdeneagdbaaGreat.Rf
