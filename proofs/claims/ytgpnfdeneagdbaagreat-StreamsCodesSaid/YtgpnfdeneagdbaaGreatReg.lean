/- Drawn regions of our own make: operations that only read are taken first, in any order; what acts comes up in the one order that is left. -/
import Derived.Deep.Quiet
import Derived.Tactics
import Derived.KernelRfl
import Derived.BigQuiet
import Derived.Deep.QuietTactic
import Derived.WalkKit
namespace Go.Proofs.YtgpnfdeneagdbaaGreat
open Go
set_option linter.unusedVariables false

section
variable {P : Program} {ops : Array Oper} {Q : Exit → Act → World → Prop} {md : Region.Mode} {C : World → Prop} {E : List Nat}

/-- Operation i comes before j in every order. -/
def anc (md : Region.Mode) (ops : Array Oper) : Nat → Nat → Nat → Bool
  | 0, _, _ => false
  | f + 1, i, j => match ops[j]? with
    | none => false
    | some oj => oj.after.any fun e => Region.binds md e && (e.on == i || anc md ops f i e.on)

def needs (md : Region.Mode) (ops : Array Oper) (E : List Nat) (j : Nat) : Bool := E.any fun i => !anc md ops ops.size i j

def DownClosed (md : Region.Mode) (ops : Array Oper) (listed : Array Bool) : Prop :=
  ∀ j oj, ops[j]? = some oj → listed.getD j false = true → ∀ e ∈ oj.after, Region.binds md e = true → listed.getD e.on false = true

theorem anc_listed {listed : Array Bool} (hc : DownClosed md ops listed) : ∀ (f i j : Nat), listed.getD j false = true → anc md ops f i j = true → listed.getD i false = true := by
  intro f
  induction f with
  | zero => intro i j _ h; simp [anc] at h
  | succ f ih =>
    intro i j hj h
    unfold anc at h
    split at h
    · cases h
    · rename_i oj ho
      obtain ⟨e, he, hb⟩ := Array.any_eq_true'.1 h
      simp only [Bool.and_eq_true, Bool.or_eq_true, beq_iff_eq] at hb
      have hl := hc j oj ho hj e he hb.1
      rcases hb.2 with h1 | h1
      · rw [← h1]; exact hl
      · exact ih i e.on hl h1

theorem anc_ready {listed : Array Bool} (hc : DownClosed md ops listed) {f i j : Nat} (hj : j ∈ Region.ready md ops listed) (h : anc md ops f i j = true) : listed.getD i false = true := by
  obtain ⟨_, oj, ho, hall⟩ := mem_ready.1 hj
  cases f with
  | zero => simp [anc] at h
  | succ f =>
    unfold anc at h
    rw [ho] at h
    obtain ⟨e, he, hb⟩ := Array.any_eq_true'.1 h
    simp only [Bool.and_eq_true, Bool.or_eq_true, beq_iff_eq] at hb
    have hl := hall e he hb.1
    rcases hb.2 with h1 | h1
    · rw [← h1]; exact hl
    · exact anc_listed hc f i e.on hl h1

theorem getD_unlisted {listed : Array Bool} {i : Nat} (h : listed.getD i true = false) : listed.getD i false = false := by
  rcases Nat.lt_or_ge i listed.size with h' | h'
  · simp [h'] at h ⊢; exact h
  · simp [Array.getElem?_eq_none h'] at h

theorem DownClosed.set {listed : Array Bool} {i : Nat} (hc : DownClosed md ops listed) (hi : i ∈ Region.ready md ops listed) : DownClosed md ops (listed.setIfInBounds i true) := by
  intro j oj hj hl e he hb
  obtain ⟨_, oi, hoi, hall⟩ := mem_ready.1 hi
  by_cases hij : i = j
  · subst hij
    have : oj = oi := Option.some.inj (hj.symm.trans hoi)
    subst this
    exact getD_set_true (hall e he hb)
  · rw [getD_set_ne false hij] at hl
    exact getD_set_true (hc j oj hj hl e he hb)

theorem DownClosed.none (n : Nat) : DownClosed md ops (Array.replicate n false) := by
  intro j oj _ hl
  rw [show (Array.replicate n false).getD j false = false from by
    rcases Nat.lt_or_ge j n with h | h
    · simp [h]
    · simp [h]] at hl
  cases hl

/-- In every world of the class, operation 'o' leaves 'v' in its temporary and does nothing else. -/
def Gives (P : Program) (ops : Array Oper) (C : World → Prop) (o : Oper) (v : Value) (a : Act) : Prop :=
  (Region.wanted o (yielded ops a.tmps) = true ∧ ∀ w, C w → (execOp a.eval o).run P w = .ok (.value v) w ∨ ((execOp a.eval o).run P w = .ok .skip w ∧ v = undef)) ∨
  (Region.wanted o (yielded ops a.tmps) = false ∧ v = undef)

theorem Gives.wpOp {i : Nat} {o : Oper} {v : Value} {a : Act} (hi : ops[i]? = some o) (hy : Gives P ops C o v a)
    {K : Act → World → Prop} {w : World} (hC : C w) (h : K (a.put o.dst v) w) : wpOp P ops Q i K a w := by
  unfold Go.wpOp
  simp only [hi]
  rcases hy with ⟨hw, hv⟩ | ⟨hw, rfl⟩
  · rcases hv w hC with hv | ⟨hv, hu⟩
    · simp only [hw, if_true, Oper.wp, hv, Oper.upon]; exact .inl h
    · simp only [hw, if_true]
      refine .inl ?_
      unfold Oper.wp
      rw [hv]
      rw [hu] at h
      exact h
  · simp only [hw, Bool.false_eq_true, if_false]; exact h

theorem Gives.of_same {o : Oper} {v : Value} {a a' : Act} (hy : Gives P ops C o v a) (he : execOp a'.eval o = execOp a.eval o)
    (hw : Region.wanted o (yielded ops a'.tmps) = Region.wanted o (yielded ops a.tmps)) : Gives P ops C o v a' := by
  unfold Gives at *
  rw [he, hw]
  exact hy

theorem wpOp_putG {j : Nat} {oi oj : Oper} {v : Value} (hj : ops[j]? = some oj) (hap : oi.apart ops oj = true)
    (hsi : ∀ cs b, oi.op ≠ .select cs b) (hsj : ∀ cs b, oj.op ≠ .select cs b)
    (hQ : ∀ c a w, Q (.panic c) (a.put oi.dst v) w → Q (.panic c) a w) {K : Act → World → Prop} {a : Act} {w : World}
    (hy : Gives P ops C oi v a) (h : wpOp P ops Q j K (a.put oi.dst v) w) :
    wpOp P ops Q j (fun a' w' => Gives P ops C oi v a' ∧ K (a'.put oi.dst v) w') a w := by
  obtain ⟨h1, h2, h3⟩ := Oper.apart_spec hap
  have keep : ∀ (a : Act), Gives P ops C oi v a → ∀ u, Gives P ops C oi v (a.put oj.dst u) := fun a hy u =>
    hy.of_same (execOp_put oi hsi a oj.dst u h3) (wanted_put oi a oj.dst u h3)
  have keepD : ∀ d, Gives P ops C oi v { a with defers := d :: a.defers } := fun d => hy.of_same rfl rfl
  unfold wpOp at *
  simp only [hj] at *
  rw [wanted_put oj a oi.dst v h1] at h
  split
  · rename_i hw
    simp only [hw, if_true] at h
    rcases h with h | ⟨hasks, hlets⟩
    case inr => exact .inr ⟨by unfold Oper.asks at *; rw [execOp_put oj hsj a oi.dst v h1] at hasks; exact hasks, hlets⟩
    refine .inl ?_
    unfold Oper.wp at *
    rw [execOp_put oj hsj a oi.dst v h1] at h
    generalize (execOp a.eval oj).run P w = r at *
    cases r with
    | ok n w' =>
      cases n <;> simp only [Oper.upon] at h ⊢
      case value u => exact ⟨keep a hy u, by rw [← Act.put_comm a v u h2]; exact h⟩
      case skip => exact ⟨keep a hy _, by rw [← Act.put_comm a v undef h2]; exact h⟩
      case defer d =>
        refine ⟨keep _ (keepD d) _, ?_⟩
        rw [← Act.put_comm _ v undef h2, ← Act.put_defers]
        exact h
      case enter f args =>
        refine Calls.mono h fun e w'' he => ?_
        cases e with
        | returned u => exact ⟨keep a hy u, by rw [← Act.put_comm a v u h2]; exact he⟩
        | panicked c => exact hQ _ _ _ he
        | outgrown => exact he
      case row row args => exact Rows.mono h fun u w'' he => ⟨keep a hy u, by rw [← Act.put_comm a v u h2]; exact he⟩
    | halt x w' =>
      cases x <;> simp only [Oper.upon] at h ⊢
      case panic u => exact hQ _ _ _ h
  · rename_i hw
    simp only [hw] at h
    exact ⟨keep a hy _, by rw [← Act.put_comm a v undef h2]; exact h⟩

/-- Whatever order is picked from here on; and behind every operation that some operation of E need not precede, the class holds. -/
def wpG (P : Program) (md : Region.Mode) (ops : Array Oper) (Q : Exit → Act → World → Prop) (C : World → Prop) (E : List Nat) : Nat → Array Bool → Act → World → Prop
  | 0, listed, a, w => Region.ready md ops listed = [] ∧ Q .normal a w
  | fuel + 1, listed, a, w =>
    (Region.ready md ops listed = [] → Q .normal a w) ∧
    ∀ i ∈ Region.ready md ops listed, wpOp P ops Q i (fun a' w' => (needs md ops E i = true → C w') ∧ wpG P md ops Q C E fuel (listed.setIfInBounds i true) a' w') a w

theorem wpAny_of_G : ∀ (fuel : Nat) (listed : Array Bool) (a : Act) (w : World), wpG P md ops Q C E fuel listed a w → wpAny P md ops Q fuel listed a w
  | 0, _, _, _, h => h
  | fuel + 1, _, _, _, h => ⟨h.1, fun i hi => wpOp_mono (fun a' w' h' => wpAny_of_G fuel _ a' w' h'.2) (h.2 i hi)⟩

/-- With nothing taken early, any class serves. -/
theorem wpG_of_any : ∀ (fuel : Nat) (listed : Array Bool) (a : Act) (w : World), wpAny P md ops Q fuel listed a w → wpG P md ops Q C [] fuel listed a w
  | 0, _, _, _, h => h
  | fuel + 1, _, _, _, h => ⟨h.1, fun i hi => wpOp_mono (fun a' w' h' => ⟨fun hn => by simp [needs] at hn, wpG_of_any fuel _ a' w' h'⟩) (h.2 i hi)⟩

/-- An operation that only reads may be taken first. -/
theorem wpG_first {i : Nat} {oi : Oper} {v : Value} (hi : ops[i]? = some oi) (hsel : ∀ (j : Nat) (o : Oper) cs b, ops[j]? = some o → o.op ≠ .select cs b)
    (hQ : ∀ c a w, Q (.panic c) (a.put oi.dst v) w → Q (.panic c) a w) :
    ∀ (fuel : Nat) (listed : Array Bool) (a : Act) (w : World), DownClosed md ops listed →
      (∀ j oj, ops[j]? = some oj → j ≠ i → listed.getD j true = false → (∀ e ∈ oj.after, Region.binds md e = true → e.on ≠ i) → oi.apart ops oj = true) →
      i ∈ Region.ready md ops listed → Gives P ops C oi v a → C w →
      wpG P md ops Q C (i :: E) fuel (listed.setIfInBounds i true) (a.put oi.dst v) w → wpG P md ops Q C E (fuel + 1) listed a w := by
  have weak : ∀ j, needs md ops E j = true → needs md ops (i :: E) j = true := fun j h => by
    simp only [needs, List.any_cons, Bool.or_eq_true]; exact .inr h
  have down : ∀ (fuel : Nat) (listed : Array Bool) (a : Act) (w : World), wpG P md ops Q C (i :: E) fuel listed a w → wpG P md ops Q C E fuel listed a w := by
    intro fuel
    induction fuel with
    | zero => intro listed a w h; exact h
    | succ fuel ih => intro listed a w h; exact ⟨h.1, fun j hj => wpOp_mono (fun a' w' h' => ⟨fun hn => h'.1 (weak j hn), ih _ _ _ h'.2⟩) (h.2 j hj)⟩
  intro fuel
  induction fuel with
  | zero =>
    intro listed a w _ _ hr hy hC H
    refine ⟨fun h => (by rw [h] at hr; cases hr), fun j hj => ?_⟩
    by_cases hji : j = i
    · subst hji; exact hy.wpOp hi hC ⟨fun _ => hC, H⟩
    · have := ready_mono hj hji
      rw [H.1] at this
      cases this
  | succ fuel ih =>
    intro listed a w hcl hfree hr hy hC H
    refine ⟨fun h => (by rw [h] at hr; cases hr), fun j hj => ?_⟩
    by_cases hji : j = i
    · subst hji; exact hy.wpOp hi hC ⟨fun _ => hC, down _ _ _ _ H⟩
    · have h1 := H.2 j (ready_mono hj hji)
      obtain ⟨hjun, oj, hoj, hall⟩ := mem_ready.1 hj
      have hiun := getD_unlisted (mem_ready.1 hr).1
      have hnot : ∀ e ∈ oj.after, Region.binds md e = true → e.on ≠ i := fun e he hb heq => by
        have h1 := hall e he hb
        rw [heq, hiun] at h1
        cases h1
      have hneed : needs md ops (i :: E) j = true := by
        have : anc md ops ops.size i j = false := by
          cases h : anc md ops ops.size i j
          · rfl
          · rw [anc_ready hcl hj h] at hiun; cases hiun
        simp [needs, this]
      have h2 := wpOp_putG hoj (hfree j oj hoj hji hjun hnot) (fun cs b => hsel i oi cs b hi) (fun cs b => hsel j oj cs b hoj) hQ hy h1
      have hfree' : ∀ k ok, ops[k]? = some ok → k ≠ i → (listed.setIfInBounds j true).getD k true = false →
          (∀ e ∈ ok.after, Region.binds md e = true → e.on ≠ i) → oi.apart ops ok = true := fun k ok hk hki hun hno => by
        refine hfree k ok hk hki ?_ hno
        by_cases hjk : j = k
        · subst hjk; exact hjun
        · rw [getD_set_ne true hjk] at hun; exact hun
      refine wpOp_mono (fun a' w' h3 => ?_) h2
      have hCw := h3.2.1 hneed
      refine ⟨fun _ => hCw, ih (listed.setIfInBounds j true) a' w' (hcl.set hj) hfree' (ready_mono hr (Ne.symm hji)) h3.1 hCw ?_⟩
      rw [Array.setIfInBounds_comm _ _ hji]
      exact h3.2.2

/-! ### Which operations never enter a Go function -/
def calm (o : Oper) : Bool := match o.op with
  | .call c => match c.callee with
    | .builtin b => match b with
      | .len | .cap | .min | .max => true
      | _ => false
    | _ => false
  | .go _ | .defer _ | .send .. | .recv .. | .select .. | .panic _ => false
  | _ => true

/-- It never enters a Go function. -/
def NE (s : Sem Next) : Prop := ∀ (P : Program) (w : World) f args w', s.run P w ≠ .ok (.enter f args) w'
theorem NE.value (v : Value) : NE (pure (.value v)) := fun P w f args w' h => by cases h
theorem NE.skip : NE (pure .skip) := fun P w f args w' h => by cases h
theorem NE.bind {α : Type} {s : Sem α} {g : α → Sem Next} (h : ∀ a, NE (g a)) : NE (s >>= g) := by
  intro P w f args w' hh
  have hh : Sem.run P (Sem.bind s g) w = .ok (.enter f args) w' := hh
  rw [Sem.run_bind'] at hh
  cases hr : s.run P w with
  | ok x w1 => rw [hr] at hh; exact h x P w1 f args w' hh
  | halt x w1 => rw [hr] at hh; cases hh
theorem NE.halt (x : Halt) : NE (.halt x) := fun P w f args w' h => by cases h

theorem no_enter {o : Oper} (hc : calm o = true) (ρ : Operand → Value) : NE (execOp ρ o) := by
  obtain ⟨dst, op, type, pos, after, guard⟩ := o
  cases op <;> simp only [execOp]
  case call c =>
    obtain ⟨callee, ags, ats⟩ := c
    cases callee with
    | builtin b =>
      cases b <;> simp only [calm, Bool.false_eq_true] at hc <;>
        (simp only [resolve, pure_bind, invoke, builtin]; exact NE.bind fun _ => NE.value _)
    | value f => simp [calm] at hc
    | invoke r m => simp [calm] at hc
  case nilCheck x =>
    split
    · exact NE.bind fun _ => NE.halt _
    · exact NE.bind fun _ => NE.halt _
    · exact NE.bind fun _ => NE.halt _
    · split
      · exact NE.bind fun _ => NE.halt _
      · refine NE.bind fun _ => NE.bind fun _ => ?_
        split
        · exact NE.bind fun _ => NE.value _
        · exact NE.value _
      · exact NE.value _
    · exact NE.value _
  all_goals first
    | exact NE.value _
    | exact NE.bind fun _ => NE.value _
    | exact NE.bind fun _ => NE.skip
    | (simp [calm] at hc; done)

/-- What the quiet walk shows of a calm operation. -/
theorem gives_of_quiet {o : Oper} {a : Act} {K : Act → Prop} (hc : calm o = true)
    (h : if Region.wanted o (yielded ops a.tmps) then o.quiet P a C K else K (a.put o.dst undef)) : ∃ v, Gives P ops C o v a ∧ K (a.put o.dst v) := by
  by_cases hw : Region.wanted o (yielded ops a.tmps) = true
  · rw [if_pos hw] at h
    obtain ⟨v, h1, h2⟩ := h
    refine ⟨v, .inl ⟨hw, fun w hCw => ?_⟩, h2⟩
    have := h1 w hCw
    unfold Oper.quietAt at this
    have hne := no_enter hc a.eval P w
    generalize (execOp a.eval o).run P w = r at *
    cases r with
    | ok n w' =>
      cases n <;> simp only [Oper.quietUpon] at this
      case value u => obtain ⟨rfl, rfl⟩ := this; exact .inl rfl
      case skip => obtain ⟨rfl, rfl⟩ := this; exact .inr ⟨rfl, rfl⟩
      case enter f args => exact absurd rfl (hne f args w')
    | halt x w' => simp only [Oper.quietUpon] at this
  · rw [if_neg hw] at h
    exact ⟨undef, .inr ⟨by simpa using hw, rfl⟩, h⟩

/-- The operations at these places. -/
def pick (ops : Array Oper) : List Nat → Option (List Oper)
  | [] => some []
  | i :: r => match ops[i]?, pick ops r with
    | some o, some l => some (o :: l)
    | _, _ => none

/-- May these be taken first, one behind the other? -/
def quietB (md : Region.Mode) (ops : Array Oper) : Array Bool → List Nat → Bool
  | _, [] => true
  | listed, i :: r => (Region.ready md ops listed).contains i && Region.free md ops listed i && ((ops[i]?).map calm).getD false && quietB md ops (listed.setIfInBounds i true) r
def setAll : Array Bool → List Nat → Array Bool
  | listed, [] => listed
  | listed, i :: r => setAll (listed.setIfInBounds i true) r
def revOnto : List Nat → List Nat → List Nat
  | [], E => E
  | i :: r, E => revOnto r (i :: E)

theorem wpG_quiet (hs : Region.noSelect ops = true) (hQ : ∀ c a w, ∀ d v, Q (.panic c) (Act.put a d v) w → Q (.panic c) a w) {R : Act → Prop} : ∀ (idx : List Nat) (ls : List Oper) (E : List Nat) (fuel : Nat) (listed : Array Bool) (a : Act) (w : World),
    pick ops idx = some ls → quietB md ops listed idx = true → DownClosed md ops listed → C w →
    (∀ a', R a' → wpG P md ops Q C (revOnto idx E) fuel (setAll listed idx) a' w) → wpQuiet P ops C R ls a → wpG P md ops Q C E (fuel + idx.length) listed a w
  | [], ls, E, fuel, listed, a, w, hp, _, _, _, hR, h => by
    simp only [pick, Option.some.injEq] at hp
    subst hp
    exact hR a h
  | i :: r, ls, E, fuel, listed, a, w, hp, hB, hcl, hC, hR, h => by
    simp only [quietB, Bool.and_eq_true] at hB
    obtain ⟨⟨⟨hr, hf⟩, hcalm⟩, hB'⟩ := hB
    unfold pick at hp
    cases ho : ops[i]? with
    | none => rw [ho] at hp; cases hp
    | some o =>
      cases hl : pick ops r with
      | none => rw [ho, hl] at hp; cases hp
      | some l =>
        rw [ho, hl] at hp
        simp only [Option.some.injEq] at hp
        subst hp
        rw [ho] at hcalm
        have hi : i ∈ Region.ready md ops listed := by simpa using hr
        obtain ⟨v, hy, hK⟩ := gives_of_quiet (P := P) (ops := ops) (C := C) (a := a) (K := wpQuiet P ops C R l) (o := o) (by simpa using hcalm) h
        have := wpG_quiet hs hQ r l (i :: E) fuel (listed.setIfInBounds i true) (a.put o.dst v) w hl hB' (hcl.set hi) hC hR hK
        exact wpG_first ho (Region.noSelect_spec hs) (fun c a w h => hQ c a w _ _ h) (fuel + r.length) listed a w hcl (Region.free_spec ho hf) hi hy hC this

/-- The post of one operation that acts. -/
def Then (R : Act → World → Prop) (Q : Exit → Act → World → Prop) : Exit → Act → World → Prop
  | .normal, a, w => R a w
  | e, a, w => Q e a w

theorem wpOp_of_list {k : Nat} {o : Oper} {R : Act → World → Prop} {a : Act} {w : World} (ho : ops[k]? = some o) (h : wpList P ops (Then R Q) [o] a w) : wpOp P ops Q k R a w := by
  unfold wpList at h
  unfold wpOp
  simp only [ho]
  have mono : o.wp P a w (wpList P ops (Then R Q) []) (Then R Q) → o.wp P a w R Q := by
    intro h
    unfold Oper.wp at *
    generalize (execOp a.eval o).run P w = r at *
    cases r with
    | ok n w' =>
      cases n <;> simp only [Oper.upon] at h ⊢ <;>
        first
          | exact h
          | exact Calls.mono h (fun e w'' he => by cases e <;> exact he)
    | halt x w' => cases x <;> simp only [Oper.upon] at h ⊢ <;> exact h
  by_cases hw : Region.wanted o (yielded ops a.tmps) = true
  · rw [if_pos hw] at h ⊢
    rcases h with h | h
    · exact .inl (mono h)
    · exact .inr h
  · rw [if_neg hw] at h ⊢
    exact h

theorem wpList_then {R R' : Act → World → Prop} {o : Oper} {a : Act} {w : World} (hR : ∀ a w, R a w → R' a w) (h : wpList P ops (Then R Q) [o] a w) : wpList P ops (Then R' Q) [o] a w := by
  unfold wpList at *
  have mono : o.wp P a w (wpList P ops (Then R Q) []) (Then R Q) → o.wp P a w (wpList P ops (Then R' Q) []) (Then R' Q) := by
    intro h
    unfold Oper.wp at *
    generalize (execOp a.eval o).run P w = r at *
    cases r with
    | ok n w' =>
      cases n <;> simp only [Oper.upon] at h ⊢ <;>
        first
          | exact hR _ _ h
          | exact Calls.mono h (fun e w'' he => by cases e <;> first | exact hR _ _ he | exact he)
          | exact Rows.mono h (fun _ _ he => hR _ _ he)
    | halt x w' => cases x <;> simp only [Oper.upon] at h ⊢ <;> exact h
  by_cases hw : Region.wanted o (yielded ops a.tmps) = true
  · rw [if_pos hw] at h ⊢
    exact h.imp mono id
  · rw [if_neg hw] at h ⊢
    exact hR _ _ h

/-- The one operation that may come up now acts; the class holds behind it. -/
theorem wpG_act {k : Nat} {o : Oper} {fuel : Nat} {listed : Array Bool} {a : Act} {w : World} (ho : ops[k]? = some o) (hr : Region.ready md ops listed = [k])
    (h : wpList P ops (Then (fun a' w' => C w' ∧ wpG P md ops Q C E fuel (listed.setIfInBounds k true) a' w') Q) [o] a w) : wpG P md ops Q C E (fuel + 1) listed a w := by
  refine ⟨fun h0 => (by rw [hr] at h0; cases h0), fun i hi => ?_⟩
  rw [hr] at hi
  simp only [List.mem_singleton] at hi
  subst hi
  exact wpOp_mono (fun a' w' h' => ⟨fun _ => h'.1, h'.2⟩) (wpOp_of_list ho h)

/-- No later operation needs the class: a new one may be chosen behind it. -/
def noneNeeds (md : Region.Mode) (ops : Array Oper) (E : List Nat) (listed : Array Bool) : Bool :=
  (List.range ops.size).all fun j => listed.getD j true || !needs md ops E j

theorem wpG_anew {C' : World → Prop} : ∀ (fuel : Nat) (listed : Array Bool) (a : Act) (w : World), noneNeeds md ops E listed = true → wpAny P md ops Q fuel listed a w → wpG P md ops Q C' E fuel listed a w
  | 0, _, _, _, _, h => h
  | fuel + 1, listed, _, _, hN, h => ⟨h.1, fun i hi => wpOp_mono (fun a' w' h' => by
      have hN' := List.all_eq_true.1 hN
      have hlt : ∀ j, j ∈ Region.ready md ops listed → j < ops.size := fun j hj => by
        obtain ⟨_, oj, ho, _⟩ := mem_ready.1 hj
        exact (Array.getElem?_eq_some_iff.1 ho).1
      refine ⟨fun hn => ?_, wpG_anew fuel _ a' w' ?_ h'⟩
      · have h1 := hN' i (List.mem_range.2 (hlt i hi))
        rw [(mem_ready.1 hi).1, hn] at h1
        cases h1
      · refine List.all_eq_true.2 fun j hj => ?_
        have h1 := hN' j hj
        by_cases hij : i = j
        · subst hij
          have : (listed.setIfInBounds i true).getD i true = true := by
            rcases Nat.lt_or_ge i listed.size with h' | h'
            · simp [h']
            · have := Array.getElem?_eq_none h'
              simp
          simp [this]
        · rw [getD_set_ne true hij]; exact h1) (h.2 i hi)⟩

theorem wpG_end {listed : Array Bool} {a : Act} {w : World} (fuel : Nat) (hr : Region.ready md ops listed = []) (h : Q .normal a w) : wpG P md ops Q C E fuel listed a w := by
  cases fuel with
  | zero => exact ⟨hr, h⟩
  | succ f => exact ⟨fun _ => h, fun i hi => by rw [hr] at hi; cases hi⟩

/-- THE RULES OF A WALK. -/
def RG (P : Program) (ops : Array Oper) (Q : Exit → Act → World → Prop) (C : World → Prop) (E : List Nat) (n : Nat) (listed : Array Bool) (a : Act) (w : World) : Prop :=
  DownClosed .any ops listed → wpG P .any ops Q C E n listed a w

/-- A class of worlds, as the walk sees through it. -/
structure Wd (p : World → Prop) where
  w : World
  ok : p w
def Cls (p : World → Prop) (w : World) : Prop := ∃ x : Wd p, w = x.w
theorem Cls.mk {p : World → Prop} {w : World} (h : p w) : Cls p w := ⟨⟨w, h⟩, rfl⟩
theorem Cls.out {p : World → Prop} {w : World} (h : Cls p w) : p w := by
  obtain ⟨x, rfl⟩ := h
  exact x.ok
theorem Cls.some {p : World → Prop} {w : World} (h : Cls p w) : Nonempty (Wd p) := ⟨⟨w, h.out⟩⟩

/-- Nothing is taken early. -/
def RG0 (P : Program) (ops : Array Oper) (Q : Exit → Act → World → Prop) (n : Nat) (listed : Array Bool) (a : Act) (w : World) : Prop :=
  DownClosed .any ops listed → wpAny P .any ops Q n listed a w

theorem rg_start {id : Nat} {l : List Oper} {a : Act} {w : World} (n : Nat)
    (h : RG0 P l.toArray Q n (Array.replicate n false) a w.drew) (hm : P.follows .mixedOrders = true := by kernel_rfl) (hn : l.length = n := by rfl) : (Code.region id l.toArray true).wp P Q a w := by
  subst hn
  refine wp_region_any hm ?_
  have := h (DownClosed.none _)
  simpa using this

/-- The class of the one world at hand. -/
theorem rg_same {l : List Oper} {n : Nat} {listed : Array Bool} {a : Act} {w : World}
    (h : ∀ p : World → Prop, (∀ x : Wd p, x.w = w) → Nonempty (Wd p) → Cls p w → RG P l.toArray Q (Cls p) [] n listed a w) : RG0 P l.toArray Q n listed a w := fun hcl =>
  wpAny_of_G _ _ _ _ (h (fun w' => w' = w) (fun x => x.ok) ⟨⟨w, rfl⟩⟩ ⟨⟨w, rfl⟩, rfl⟩ hcl)

/-- The class of the worlds in which every old block is as it was. -/
theorem rg_below {l : List Oper} {n : Nat} {listed : Array Bool} {a : Act} {w : World}
    (h : ∀ p : World → Prop, (∀ x : Wd p, ∀ b o s, b < w.heap.size → x.w.cell? ⟨b, o, s⟩ = w.cell? ⟨b, o, s⟩) → Nonempty (Wd p) → Cls p w → (∀ w', RowKit.Below w.heap.size w w' → Cls p w') → RG P l.toArray Q (Cls p) [] n listed a w) :
    RG0 P l.toArray Q n listed a w := fun hcl =>
  wpAny_of_G _ _ _ _ (h (fun w' => RowKit.Below w.heap.size w w') (fun x b o s hb => x.ok.cell (p := ⟨b, o, s⟩) hb) ⟨⟨w, RowKit.Below.refl _ _⟩⟩ (Cls.mk (RowKit.Below.refl _ _)) (fun _ h => Cls.mk h) hcl)

/-- The class of the worlds that differ in the cells of some blocks alone. -/
theorem rg_besides {l : List Oper} {n : Nat} {listed : Array Bool} {a : Act} {w : World} (S : Nat → Prop)
    (h : ∀ p : World → Prop, (∀ x : Wd p, ∀ b o s, b < w.heap.size → ¬ S b → x.w.cell? ⟨b, o, s⟩ = w.cell? ⟨b, o, s⟩) → Nonempty (Wd p) → Cls p w →
      (∀ w1 : World, (∀ k, k < w.heap.size → ¬ S k → w1.heap[k]? = w.heap[k]?) → Cls p w1) → RG P l.toArray Q (Cls p) [] n listed a w) :
    RG0 P l.toArray Q n listed a w := fun hcl =>
  wpAny_of_G _ _ _ _ (h (fun w' => ∀ k, k < w.heap.size → ¬ S k → w'.heap[k]? = w.heap[k]?) (fun x b _ _ hb hs => World.cell?_of_block (w := w) (x.ok b hb hs)) ⟨⟨w, fun _ _ _ => rfl⟩⟩ (Cls.mk fun _ _ _ => rfl) (fun _ h => Cls.mk h) hcl)

def pickD (l : List Oper) (idx : List Nat) : List Oper := idx.map fun i => l.getD i default

theorem pick_pickD (l : List Oper) : ∀ (idx : List Nat), (∀ i ∈ idx, i < l.length) → pick l.toArray idx = some (pickD l idx)
  | [], _ => rfl
  | i :: r, h => by
    have hi := h i (by simp)
    have hr := pick_pickD l r (fun j hj => h j (by simp [hj]))
    unfold pick
    rw [hr]
    simp [pickD, hi]

theorem setAll_closed {listed : Array Bool} : ∀ {idx : List Nat}, quietB md ops listed idx = true → DownClosed md ops listed → DownClosed md ops (setAll listed idx)
  | [], _, h => h
  | i :: r, hB, h => by
    simp only [quietB, Bool.and_eq_true] at hB
    obtain ⟨⟨⟨hr, _⟩, _⟩, hB'⟩ := hB
    exact setAll_closed (listed := listed.setIfInBounds i true) hB' (h.set (by simpa using hr))
termination_by idx => idx.length

theorem rg_quiet {l : List Oper} {n : Nat} {listed : Array Bool} {a : Act} {w : World} (fuel : Nat) (idx : List Nat) (hC : C w)
    (h : wpQuiet P l.toArray C (fun a' => RG P l.toArray Q C (revOnto idx E) fuel (setAll listed idx) a' w) (pickD l idx) a)
    (hs : (Region.noSelect l.toArray && idx.all (fun i => decide (i < l.length)) && quietB .any l.toArray listed idx) = true := by kernel_rfl) (hf : n = fuel + idx.length := by rfl)
    (hQ : ∀ c a w, ∀ d v, Q (.panic c) (Act.put a d v) w → Q (.panic c) a w := by intro c a w d v h; cases d <;> exact h) : RG P l.toArray Q C E n listed a w := by
  subst hf
  simp only [Bool.and_eq_true] at hs
  obtain ⟨⟨hs, hlt⟩, hB⟩ := hs
  intro hcl
  exact wpG_quiet hs hQ idx _ E fuel listed a w (pick_pickD l idx (fun i hi => by simpa using List.all_eq_true.1 hlt i hi)) hB hcl hC (fun a' h => h (setAll_closed hB hcl)) h

theorem rg_act {l : List Oper} {fuel : Nat} {listed : Array Bool} {a : Act} {w : World} (k : Nat) {o : Oper}
    (h : wpList P l.toArray (Then (fun a' w' => C w' ∧ RG P l.toArray Q C E fuel (listed.setIfInBounds k true) a' w') Q) [o] a w)
    (ho : l[k]? = some o := by rfl) (hr : Region.ready .any l.toArray listed = [k] := by kernel_rfl) : RG P l.toArray Q C E (fuel + 1) listed a w := by
  intro hcl
  have hcl' := hcl.set (i := k) (by rw [hr]; simp)
  refine wpG_act (k := k) (o := o) (by simpa using ho) hr ?_
  refine wpList_then (fun a' w' h => ⟨h.1, h.2 hcl'⟩) h

theorem rg_cut {l : List Oper} {fuel : Nat} {listed : Array Bool} {a : Act} {w : World} (k : Nat) {o : Oper}
    (h : wpList P l.toArray (Then (fun a' w' => RG0 P l.toArray Q fuel (listed.setIfInBounds k true) a' w') Q) [o] a w)
    (ho : l[k]? = some o := by rfl) (hr : Region.ready .any l.toArray listed = [k] := by kernel_rfl) (hN : noneNeeds .any l.toArray E listed = true := by kernel_rfl) : RG P l.toArray Q C E (fuel + 1) listed a w := by
  intro hcl
  have hcl' := hcl.set (i := k) (by rw [hr]; simp)
  refine wpG_anew _ _ _ _ hN ?_
  refine ⟨fun h0 => (by rw [hr] at h0; cases h0), fun i hi => ?_⟩
  rw [hr] at hi
  simp only [List.mem_singleton] at hi
  subst hi
  exact wpOp_mono (fun a' w' h' => h' hcl') (wpOp_of_list (by simpa using ho) h)

theorem rg_do {l : List Oper} {fuel : Nat} {listed : Array Bool} {a : Act} {w : World} (k : Nat) {o : Oper}
    (h : wpList P l.toArray (Then (fun a' w' => RG0 P l.toArray Q fuel (listed.setIfInBounds k true) a' w') Q) [o] a w)
    (ho : l[k]? = some o := by rfl) (hr : Region.ready .any l.toArray listed = [k] := by kernel_rfl) : RG0 P l.toArray Q (fuel + 1) listed a w := by
  intro hcl
  have hcl' := hcl.set (i := k) (by rw [hr]; simp)
  refine ⟨fun h0 => (by rw [hr] at h0; cases h0), fun i hi => ?_⟩
  rw [hr] at hi
  simp only [List.mem_singleton] at hi
  subst hi
  exact wpOp_mono (fun a' w' h' => h' hcl') (wpOp_of_list (by simpa using ho) h)

theorem rg_end {l : List Oper} {fuel : Nat} {listed : Array Bool} {a : Act} {w : World} (h : Q .normal a w) (hr : Region.ready .any l.toArray listed = [] := by kernel_rfl) : RG P l.toArray Q C E fuel listed a w :=
  fun _ => wpG_end fuel hr h
theorem rg_end0 {l : List Oper} {fuel : Nat} {listed : Array Bool} {a : Act} {w : World} (h : Q .normal a w) (hr : Region.ready .any l.toArray listed = [] := by kernel_rfl) : RG0 P l.toArray Q fuel listed a w :=
  fun _ => wpAny_of_G (C := fun _ => True) (E := []) _ _ _ _ (wpG_end fuel hr h)

/-- Of several operations that may come up now, each acts. -/
theorem rg_among {l : List Oper} {fuel : Nat} {listed : Array Bool} {a : Act} {w : World} (ks : List Nat)
    (h : ∀ k ∈ ks, wpList P l.toArray (Then (fun a' w' => C w' ∧ RG P l.toArray Q C E fuel (listed.setIfInBounds k true) a' w') Q) [l.getD k default] a w)
    (hk : ks.all (fun k => decide (k < l.length)) = true := by kernel_rfl) (hr : Region.ready .any l.toArray listed = ks := by kernel_rfl) (hne : ks ≠ [] := by intro h; cases h) : RG P l.toArray Q C E (fuel + 1) listed a w := by
  intro hcl
  refine ⟨fun h0 => (by rw [hr] at h0; exact absurd h0 hne), fun i hi => ?_⟩
  have hcl' := hcl.set (i := i) hi
  rw [hr] at hi
  have hlt : i < l.length := by simpa using List.all_eq_true.1 hk i hi
  refine wpOp_mono (fun a' w' h' => ⟨fun _ => h'.1, h'.2 hcl'⟩) (wpOp_of_list (o := l.getD i default) (by simp [hlt]) (h i hi))

/-- A piece of code behind a post of our own. -/
theorem wp_into {P : Program} {c : Code} {Q : Exit → Act → World → Prop} {a : Act} {w : World} (R : Act → World → Act → World → Prop) (h1 : c.wp P (Then (R a w) Q) a w) (h2 : ∀ a' w', R a w a' w' → Q .normal a' w') : c.wp P Q a w :=
  Code.wp_mono (fun e a w h => by cases e <;> first | exact h2 _ _ h | exact h) h1

end
end Go.Proofs.YtgpnfdeneagdbaaGreat
