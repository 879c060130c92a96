/- What an operation of the machine's hangs on; the plan of a region that draws its order. -/
import Derived.Test.YtgpnfdeneagdbaaGreatRf9
namespace Go.Proofs.YtgpnfdeneagdbaaGreat.Rf
open Go Go.RowKit
set_option linter.unusedVariables false
set_option linter.unusedSimpArgs false

variable {P : Program} {ρ : Ren} {W0 W W' : World} {hp hp' : Tr Blk} {n : Nat} {tm tm' : Tr Value} {e : Operand → Value}

theorem evs_congr : ∀ {l : List Operand}, (∀ x ∈ l, ev tm x = ev tm' x) → evs tm l = evs tm' l
  | [], _ => rfl
  | x :: l, h => by simp only [evs, h x (List.mem_cons_self ..), evs_congr fun y hy => h y (List.mem_cons_of_mem _ hy)]

theorem evParts_congr : ∀ {l : List (Nat × Operand)}, (∀ x ∈ l, ev tm x.2 = ev tm' x.2) → evParts tm l = evParts tm' l
  | [], _ => rfl
  | (i, x) :: l, h => by simp only [evParts, h (i, x) (List.mem_cons_self ..), evParts_congr fun y hy => h y (List.mem_cons_of_mem _ hy)]

theorem optNat_congr {x : Option Operand} (h : ∀ y, x = some y → ev tm y = ev tm' y) (d : Nat) : optNat tm x d = optNat tm' x d := by
  cases x with
  | none => rfl
  | some y => simp only [optNat, h y rfl]

theorem bounds_congr {lo hi mx : Option Operand} (h1 : ∀ y, lo = some y → ev tm y = ev tm' y) (h2 : ∀ y, hi = some y → ev tm y = ev tm' y) (h3 : ∀ y, mx = some y → ev tm y = ev tm' y) (len cap : Nat) : bounds tm len cap lo hi mx = bounds tm' len cap lo hi mx := by
  simp only [bounds, optNat_congr h1, optNat_congr h2, optNat_congr h3]

theorem sliceA_congr {lo hi mx : Option Operand} (h1 : ∀ y, lo = some y → ev tm y = ev tm' y) (h2 : ∀ y, hi = some y → ev tm y = ev tm' y) (h3 : ∀ y, mx = some y → ev tm y = ev tm' y) (t : TypeId) (x : Value) : sliceA P tm hp t x lo hi mx = sliceA P tm' hp t x lo hi mx := by
  simp only [sliceA, bounds_congr h1 h2 h3, bounds_congr h1 h2 (mx := none) (tm := tm) (tm' := tm') (by simp)]

theorem evR_congr (o : Oper) (h : ∀ x ∈ o.op.operands, ev tm x = ev tm' x) : evR P tm hp o = evR P tm' hp o := by
  obtain ⟨dst, op, type, pos, after, guard⟩ := o
  simp only at h
  cases op with
  | move x => exact h x (by simp [Op.operands])
  | assign x => exact h x (by simp [Op.operands])
  | pick c a b => simp only [evR, h c (by simp [Op.operands]), h a (by simp [Op.operands]), h b (by simp [Op.operands])]
  | load t a => simp only [evR, h a (by simp [Op.operands])]
  | nilCheck x => simp only [evR, h x (by simp [Op.operands])]
  | fieldAddr s x f => simp only [evR, h x (by simp [Op.operands])]
  | indexAddr t x i => simp only [evR, h x (by simp [Op.operands]), h i (by simp [Op.operands])]
  | field t x f => simp only [evR, h x (by simp [Op.operands])]
  | index t x i => simp only [evR, h x (by simp [Op.operands]), h i (by simp [Op.operands])]
  | build t parts =>
    have := evParts_congr (tm := tm) (tm' := tm') (l := parts.toList) (fun x hx => h x.2 (by simp only [Op.operands]; simp; exact ⟨x.1, by simpa using hx⟩))
    simp only [evR, this]
  | extract t i => simp only [evR, h t (by simp [Op.operands])]
  | makeFunc fn f c =>
    have h1 := evs_congr (tm := tm) (tm' := tm') (l := f.toList) (fun x hx => h x (by simp only [Op.operands]; simp; exact .inl (by simpa using hx)))
    have h2 := evs_congr (tm := tm) (tm' := tm') (l := c.toList) (fun x hx => h x (by simp only [Op.operands]; simp; exact .inr (by simpa using hx)))
    simp only [evR, h1, h2]
  | slice t x lo hi mx =>
    have h1 : ∀ v, sliceA P tm hp t v lo hi mx = sliceA P tm' hp t v lo hi mx := fun v => sliceA_congr (fun y hy => h y (by subst hy; simp [Op.operands])) (fun y hy => h y (by subst hy; simp [Op.operands])) (fun y hy => h y (by subst hy; simp [Op.operands])) t v
    simp only [evR, h x (by simp [Op.operands]), h1]
  | makeInterface t x => simp only [evR, h x (by simp [Op.operands])]
  | binOp op t x y yt => simp only [evR, h x (by simp [Op.operands]), h y (by simp [Op.operands])]
  | unOp op t x => simp only [evR, h x (by simp [Op.operands])]
  | convert s d x => simp only [evR, h x (by simp [Op.operands])]
  | call c =>
    obtain ⟨callee, args, ats⟩ := c
    cases callee with
    | builtin b =>
      have := evs_congr (tm := tm) (tm' := tm') (l := args.toList) (fun x hx => h x (by simp [Op.operands, Call.operands]; simpa using hx))
      simp only [evR, this]
    | _ => rfl
  | _ => rfl

theorem evN_congr (o : Oper) (h : ∀ x ∈ o.op.operands, ev tm x = ev tm' x) : evN P tm o = evN P tm' o := by
  obtain ⟨dst, op, type, pos, after, guard⟩ := o
  simp only at h
  cases op with
  | box t x => simp only [evN, h x (by simp [Op.operands])]
  | buildSlice t len parts =>
    have := evParts_congr (tm := tm) (tm' := tm') (l := parts.toList) (fun x hx => h x.2 (by simp only [Op.operands]; simp; exact ⟨x.1, by simpa using hx⟩))
    simp only [evN, this]
  | makeSlice t l c => simp only [evN, h l (by simp [Op.operands]), h c (by simp [Op.operands])]
  | convert s d x => simp only [evN, h x (by simp [Op.operands])]
  | makeMap t r => cases r <;> rfl
  | _ => rfl

/-- The readers read of more memory what they read. -/
def HSub (hp hp' : Tr Blk) : Prop := ∀ b x, hp.get b = some x → hp'.get b = some x

theorem cellsAt_sub (h : HSub hp hp') {a : Addr} {k : Nat} {c : List Value} (hc : cellsAt hp a k = some c) : cellsAt hp' a k = some c := by
  unfold cellsAt at *
  split at hc
  · rename_i c' g hg
    rw [h _ _ hg]
    exact hc
  · cases hc

theorem roAt_sub (h : HSub hp hp') {g o k : Nat} {c : List Value} (hc : roAt hp g o k = some c) : roAt hp' g o k = some c := by
  unfold roAt at *
  split at hc
  · rename_i c' hg
    rw [h _ _ hg]
    exact hc
  · cases hc

theorem loadA_sub (h : HSub hp hp') {t : TypeId} {x v : Value} (hl : loadA P hp t x = some v) : loadA P hp' t x = some v := by
  unfold loadA at *
  split at hl
  · split at hl
    · split at hl
      · rename_i hc; rw [roAt_sub h hc]; exact hl
      · cases hl
    · split at hl
      · rename_i hc; rw [roAt_sub h hc]; exact hl
      · cases hl
    · cases hl
  · split at hl
    · split at hl
      · rename_i hc; rw [cellsAt_sub h hc]; exact hl
      · cases hl
    · split at hl
      · rename_i hc; rw [cellsAt_sub h hc]; exact hl
      · cases hl
    · cases hl
  · cases hl

theorem cut_sub (h : HSub hp hp') {a : Option Addr} {size l u m : Nat} {td : Bool} {v : Value} (hc : cut hp a size l u m td = some v) : cut hp' a size l u m td = some v := by
  unfold cut at *
  split at hc
  · exact hc
  · exact hc
  · cases td with
    | true => exact hc
    | false =>
      simp only [cond_false] at hc ⊢
      cases hm : m.beq l <;> simp only [hm, cond_true, cond_false] at hc ⊢
      · split at hc
        · rename_i hg; rw [h _ _ hg]; exact hc
        · cases hc
      · exact hc
  · exact hc

theorem sliceA_sub (h : HSub hp hp') {t : TypeId} {x v : Value} {lo hi mx : Option Operand} (hs : sliceA P tm hp t x lo hi mx = some v) : sliceA P tm hp' t x lo hi mx = some v := by
  unfold sliceA at *
  split at hs
  · split at hs
    · cases hmh : (mx.isSome && !hi.isSome) <;> simp only [hmh, cond_true, cond_false] at hs ⊢
      · exact cut_sub h hs
      · cases hs
    · cases hs
  · split at hs
    · cases hmh : (mx.isSome && !hi.isSome) <;> simp only [hmh, cond_true, cond_false] at hs ⊢
      · exact cut_sub h hs
      · cases hs
    · cases hs
  · exact hs
  · cases hs

theorem evR_sub (h : HSub hp hp') {o : Oper} {v : Value} (hr : evR P tm hp o = some v) : evR P tm hp' o = some v := by
  obtain ⟨dst, op, type, pos, after, guard⟩ := o
  cases op with
  | load t a =>
    simp only [evR] at *
    split at hr
    · exact loadA_sub h hr
    · cases hr
  | slice t x lo hi mx =>
    simp only [evR] at *
    split at hr
    · exact sliceA_sub h hr
    · cases hr
  | convert s d x =>
    simp only [evR] at *
    split at hr
    · exact hr
    · split at hr
      · rename_i hc; rw [cellsAt_sub h hc]; simp only [‹P.underlying _ = some (.int .u8)›]; exact hr
      · cases hr
    · split at hr
      · rename_i hg; rw [h _ _ hg]; exact hr
      · cases hr
    · split at hr
      · rename_i hg; rw [h _ _ hg]; exact hr
      · cases hr
    · exact hr
    · cases hr
  | call c =>
    obtain ⟨callee, args, ats⟩ := c
    cases callee <;> exact hr
  | _ => exact hr

theorem mem_names_operand {ops : List Oper} {o : Oper} {t : Tmp} (h : Operand.tmp t ∈ o.op.operands) : t ∈ namesOf ops o := by
  unfold namesOf
  rw [List.mem_append]
  exact .inl (List.mem_filterMap.2 ⟨.tmp t, by simpa using h, rfl⟩)

theorem ev_same {x : Operand} (h : ∀ t, x = .tmp t → tm.get t = tm'.get t) : ev tm x = ev tm' x := by
  cases x with
  | tmp t => simp only [ev, h t rfl]
  | _ => rfl

theorem operands_same {ops : List Oper} {o : Oper} (h : ∀ t ∈ namesOf ops o, tm.get t = tm'.get t) : ∀ x ∈ o.op.operands, ev tm x = ev tm' x :=
  fun x hx => ev_same fun t ht => h t (mem_names_operand (ht ▸ hx))

theorem wantedA_same {ops : List Oper} {o : Oper} (h : ∀ t ∈ namesOf ops o, tm.get t = tm'.get t) : wantedA ops tm o = wantedA ops tm' o := by
  unfold wantedA
  cases hg : o.guard with
  | none => rfl
  | some q =>
    obtain ⟨j, want⟩ := q
    have : yieldedA ops tm j = yieldedA ops tm' j := by
      unfold yieldedA
      cases hj : ops[j]? with
      | none => rfl
      | some g =>
        cases hd : g.dst with
        | none => simp only [hd]
        | some d =>
          have := h d (by
            unfold namesOf
            rw [List.mem_append]
            refine .inr ?_
            simp [hg, hj, hd])
          simp only [hd, this]
    simp only [this]

theorem veq1_eq {a b : Value} (h : veq1 a b = true) : a = b := by
  unfold veq1 at h
  split at h
  · simpa using h
  · simp only [Bool.and_eq_true, beq_iff_eq] at h; rw [h.1, h.2]
  · rename_i a b
    have h : a.data.toList = b.data.toList := by simpa using h
    have : a = b := by
      obtain ⟨⟨l⟩⟩ := a
      obtain ⟨⟨m⟩⟩ := b
      simp only at h
      rw [h]
    rw [this]
  · simp only [beq_iff_eq] at h; rw [h]
  · simp only [Bool.and_eq_true, beq_iff_eq] at h
    obtain ⟨⟨h1, h2⟩, h3⟩ := h
    rw [h1, Nat.eq_of_beq_eq_true h2, Nat.eq_of_beq_eq_true h3]
  · simp only [beq_iff_eq] at h; rw [h]
  · rfl
  · rfl
  · cases h

theorem veqs_eq : ∀ {a b : List Value}, veqs a b = true → a = b
  | [], [], _ => rfl
  | x :: a, y :: b, h => by
    simp only [veqs, Bool.and_eq_true] at h
    rw [veq1_eq h.1, veqs_eq h.2]
  | [], _ :: _, h => by simp [veqs] at h
  | _ :: _, [], h => by simp [veqs] at h

theorem veq_eq {a b : Value} (h : veq a b = true) : a = b := by
  unfold veq at h
  split at h
  · rw [veqs_eq h]
  · simp only [Bool.and_eq_true] at h
    obtain ⟨⟨h1, h2⟩, h3⟩ := h
    rw [Nat.eq_of_beq_eq_true h1, veqs_eq h2, veqs_eq h3]
  · exact veq1_eq h
end Go.Proofs.YtgpnfdeneagdbaaGreat.Rf
