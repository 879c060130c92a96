/- The machine's readers say what the operations do. -/
import Derived.Test.YtgpnfdeneagdbaaGreatRf2
namespace Go.Proofs.YtgpnfdeneagdbaaGreat.Rf
open Go Go.RowKit
set_option linter.unusedVariables false
set_option linter.unusedSimpArgs false

variable {P : Program} {ρ : Ren} {W0 W : World} {hp : Tr Blk} {n : Nat}

theorem pureRun_run {α : Type} (s : Sem α) (a : α) (W : World) (h : pureRun P s = some a) : s.run P W = .ok a W := by
  induction s generalizing W with
  | pure b => simp only [pureRun, Option.some.injEq] at h; subst h; rfl
  | program k ih => exact ih _ _ h
  | mark m k ih => exact ih _ h
  | _ => simp [pureRun] at h

theorem pureV_run {s : Sem Value} {v : Value} (W : World) (h : pureV P s = some v) : s.run P W = .ok v W ∧ VR ρ v v := by
  unfold pureV at h
  split at h
  · rename_i u hu
    cases hp : plain u <;> simp [hp] at h
    subst h
    exact ⟨pureRun_run s _ W hu, .plain hp⟩
  · cases h

theorem Addr.add' (b o j : Nat) : (⟨b, o, none⟩ : Addr).add j = ⟨b, o + j, none⟩ := Addr.add_mid b o j

theorem VR.ptr' {b o o' : Nat} {p : PB} (h : ρ b = some p) (e : o' = o + p.sh) : VR ρ (.pointer (some ⟨b, o, none⟩)) (.pointer (some ⟨p.blk, o', none⟩)) := e ▸ .ptr b o p h
theorem VR.sl' {b o o' l c : Nat} {p : PB} (h : ρ b = some p) (e : o' = o + p.sh) : VR ρ (.slice (some ⟨b, o, none⟩) l c) (.slice (some ⟨p.blk, o', none⟩) l c) := e ▸ .sl b o l c p h

theorem VR.ptr_some {a : Addr} {v' : Value} (h : VR ρ (.pointer (some a)) v') : ∃ a', v' = .pointer (some a') := by
  cases h with
  | flat v h => exact ⟨_, rfl⟩
  | ptr b o p h => exact ⟨_, rfl⟩
  | glob g o => exact ⟨_, rfl⟩
theorem VR.ptr_inv {a : Addr} {v' : Value} (h : VR ρ (.pointer (some a)) v') (hs : a.spot ≠ some 2 := by simp) : ∃ b o p, a = ⟨b, o, none⟩ ∧ ρ b = some p ∧ v' = .pointer (some ⟨p.blk, o + p.sh, none⟩) := by
  cases h with
  | flat v h => simp [Rf.flat] at h
  | ptr b o p h => exact ⟨b, o, p, rfl, h, rfl⟩
  | glob g o => exact absurd rfl hs

/-- a slice that is not nil: where it lies, unless it is one of those that are empty -/
theorem VR.slice_inv {a : Addr} {l c : Nat} {v' : Value} (h : VR ρ (.slice (some a) l c) v') : ∃ a' c', v' = .slice (some a') l c' ∧ a'.spot = none ∧ c ≤ c' ∧
    ((∃ p, ρ a.block = some p ∧ a' = ⟨p.blk, a.off + p.sh, none⟩ ∧ (a.spot = none ∧ c' = c ∨ a.spot = some 0 ∧ ∃ N es, p.room = some (N, es) ∧ a.off + p.sh + c' * es ≤ N)) ∨ (a = ⟨0, 0, some 1⟩ ∧ l = 0 ∧ c = 0)) := by
  cases h with
  | flat v h => simp [Rf.flat] at h
  | sl b o l c p h => exact ⟨_, _, rfl, rfl, Nat.le_refl _, .inl ⟨p, h, rfl, .inl ⟨rfl, rfl⟩⟩⟩
  | slk b o l c c' N es p h hr hc hN => exact ⟨_, _, rfl, rfl, hc, .inl ⟨p, h, rfl, .inr ⟨rfl, N, es, hr, hN⟩⟩⟩
  | emp a' c' hs => exact ⟨_, _, rfl, hs, Nat.zero_le _, .inr ⟨rfl, rfl, rfl⟩⟩

theorem VR.int_inv {k : IntKind} {i : Int} {v' : Value} (h : VR ρ (.int k i) v') : v' = .int k i := VR.of_flat rfl h
theorem VR.bool_inv {b : Bool} {v' : Value} (h : VR ρ (.bool b) v') : v' = .bool b := VR.of_flat rfl h

theorem rangeAt_drop {b s : Nat} {c : List Value} (h : W.rangeAt b s c) (o k : Nat) : W.rangeAt b (o + s) ((c.drop o).take k) := fun j v hv => by
  have h1 : (c.drop o)[j]? = some v := by
    rw [List.getElem?_take] at hv
    split at hv
    · exact hv
    · cases hv
  rw [List.getElem?_drop] at h1
  have := h _ _ h1
  rwa [show s + (o + j) = o + s + j by omega] at this

theorem cellsAt_sound (hw : WR W0 ρ hp n W) {a : Addr} {p : PB} (hb : ρ a.block = some p) {k : Nat} {cs : List Value} (h : cellsAt hp a k = some cs) :
    ∃ cs', VRs ρ cs cs' ∧ W.rangeAt p.blk (a.off + p.sh) cs' ∧ cs.length = k ∧ cs.all Rf.one = true := by
  unfold cellsAt at h
  split at h
  · rename_i c g hg
    obtain ⟨c', hc, hr, _, ho, _⟩ := hw.cells _ _ _ _ hb hg
    obtain ⟨rfl, hl⟩ := takeN_eq _ _ _ h
    exact ⟨_, (hc.drop a.off).take k, rangeAt_drop hr _ _, by simp at hl ⊢; omega, List.all_eq_true.2 fun v hv => List.all_eq_true.1 ho v (List.mem_of_mem_drop (List.mem_of_mem_take hv))⟩
  · cases h

theorem isAggB_run {t : TypeId} {b : Bool} (h : isAggB P t = some b) : ∃ d, P.underlying t = some d ∧ d.isRow = b := by
  unfold isAggB at h
  split at h
  · rename_i x hx; cases h; exact ⟨_, hx, rfl⟩
  · rename_i x hx; cases h; exact ⟨_, hx, rfl⟩
  · rename_i d hd hn hm
    cases h
    refine ⟨d, hm, ?_⟩
    cases d <;> first | rfl | (exact absurd rfl (hd _)) | (exact absurd rfl (hn _ _))
  · cases h

theorem run_isAgg {t : TypeId} {b : Bool} (h : isAggB P t = some b) (W : World) : (isAgg t).run P W = .ok b W := by
  obtain ⟨d, hd, rfl⟩ := isAggB_run h
  unfold isAgg
  rw [Sem.run_bind, run_underlying hd W]
  cases d <;> rfl

/-- the size of a type that is there -/
theorem cellsOf_info {t : TypeId} (h : (P.cellsOf t).beq 0 = false) : ∃ i, P.info? t = some i ∧ i.size = P.cellsOf t := by
  unfold Program.cellsOf at *
  cases hi : P.info? t with
  | none => simp [hi] at h
  | some i => exact ⟨i, rfl, by simp⟩

theorem underlying_info {t : TypeId} {d : TypeDesc} (h : P.underlying t = some d) : ∃ i, P.info? t = some i ∧ i.size = P.cellsOf t := by
  unfold Program.cellsOf
  cases hi : P.info? t with
  | none => simp [Program.underlying, hi] at h
  | some i => exact ⟨i, rfl, by simp⟩

theorem run_sizeOf_info {t : TypeId} {i : TypeInfo} (h : P.info? t = some i) (W : World) : (sizeOf t).run P W = .ok i.size W := by
  simp [sizeOf, typeInfo, program, Sem.run, h]

theorem VR.glob_inv {g o : Nat} {v' : Value} (h : VR ρ (.pointer (some ⟨g, o, some 2⟩)) v') : v' = .pointer (some ⟨g, o, none⟩) := by
  cases h with
  | flat v h => simp [Rf.flat] at h
  | glob g o => rfl
theorem roAt_sound (hw : WR W0 ρ hp n W) {g o k : Nat} {cs : List Value} (h : roAt hp g o k = some cs) : W.rangeAt g o cs ∧ cs.length = k ∧ VRs ρ cs cs := by
  unfold roAt at h
  split at h
  · rename_i c hg
    obtain ⟨h1, h2, h3⟩ := hw.ro g c hg
    obtain ⟨rfl, hl⟩ := takeN_eq _ _ _ h
    refine ⟨fun j v hv => ?_, by simp at hl ⊢; omega, VRs.flat (List.all_eq_true.2 fun v hv => List.all_eq_true.1 h3 v (List.mem_of_mem_drop (List.mem_of_mem_take hv)))⟩
    have hj : j < k := by have := (List.getElem?_eq_some_iff.1 hv).1; simp at this; omega
    rw [hw.below.cell (p := ⟨g, o + j, none⟩) h2]
    rw [List.getElem?_take_of_lt hj, List.getElem?_drop] at hv
    have := h1 (o + j) v hv
    simpa using this
  · cases h
theorem loadA_sound (hw : WR W0 ρ hp n W) {t : TypeId} {x x' v : Value} (hx : VR ρ x x') (h : loadA P hp t x = some v) : ∃ v', (Instr.loadAt t x').run P W = .ok v' W ∧ VR ρ v v' := by
  unfold loadA at h
  split at h
  · rename_i g o
    obtain rfl := hx.glob_inv
    split at h
    · rename_i ha
      split at h
      · rename_i c hc
        cases h
        obtain ⟨hr, hl, hcc⟩ := roAt_sound hw hc
        obtain ⟨d, hd, hrow⟩ := isAggB_run ha
        obtain ⟨i, hi, hs⟩ := underlying_info hd
        have := run_loadAt_mid (P := P) W g o t c d hr hd hrow (by rw [hi]; simp [hs, hl])
        exact ⟨_, this, .ag _ _ hcc⟩
      · cases h
    · rename_i ha
      split at h
      · rename_i u hc
        cases h
        obtain ⟨hr, hl, hcc⟩ := roAt_sound hw hc
        cases hcc with
        | cons _ u' _ vs' hv hvs =>
          have h0 := hr 0 v rfl
          simp only [Nat.add_zero] at h0
          refine ⟨v, ?_, hv⟩
          simp [Instr.loadAt, Instr.sureAddr, loadVar, run_isAgg ha W, run_load, h0]
      · cases h
    · cases h
  · rename_i a hns
    obtain ⟨b, o, p, rfl, hb, rfl⟩ := hx.ptr_inv (fun e => by
      obtain ⟨b, o, s⟩ := a
      simp only at e
      subst e
      exact hns b o rfl)
    split at h
    · rename_i ha
      split at h
      · rename_i c hc
        cases h
        obtain ⟨c', hcc, hr, hl, _⟩ := cellsAt_sound hw hb hc
        obtain ⟨d, hd, hrow⟩ := isAggB_run ha
        obtain ⟨i, hi, hs⟩ := underlying_info hd
        have := run_loadAt_mid (P := P) W p.blk (o + p.sh) t c' d hr hd hrow (by rw [hi]; simp [hs, ← hcc.length, hl])
        exact ⟨_, this, .ag _ _ hcc⟩
      · cases h
    · rename_i ha
      split at h
      · rename_i u hc
        cases h
        obtain ⟨c', hcc, hr, hl, _⟩ := cellsAt_sound hw hb hc
        cases hcc with
        | cons _ u' _ vs' hv hvs =>
          have h0 := hr 0 u' rfl
          simp only [Nat.add_zero] at h0
          refine ⟨u', ?_, hv⟩
          simp [Instr.loadAt, Instr.sureAddr, loadVar, run_isAgg ha W, run_load, h0]
      · cases h
    · cases h
  · cases h

theorem run_value (s : Sem Value) {v' : Value} (h : s.run P W = .ok v' W) : (do pure (Next.value (← s)) : Sem Next).run P W = .ok (.value v') W := by
  simp [h]

theorem partA_sound {t : TypeId} {c c' : List Value} (hc : VRs ρ c c') {off : Nat} {v : Value} (h : partA P t c off = some v) : ∃ v', (part t ⟨c'⟩ off).run P W = .ok v' W ∧ VR ρ v v' := by
  unfold partA at h
  split at h
  · rename_i ha
    split at h
    · rename_i r hr
      cases h
      obtain ⟨rfl, hl⟩ := takeN_eq _ _ _ hr
      obtain ⟨d, hd, hrow⟩ := isAggB_run ha
      obtain ⟨i, hi, hs⟩ := underlying_info hd
      refine ⟨.agg ⟨(c'.drop off).take (P.cellsOf t)⟩, ?_, .ag _ _ ((hc.drop off).take _)⟩
      simp only [part, Sem.run_bind, run_isAgg ha W, Result.andThen_ok, if_true, run_sizeOf_info hi W, Sem.run_pure, hs]
      congr 2
      apply Array.ext'
      simp [Array.toList_extract, List.extract_eq_take_drop]
    · cases h
  · rename_i ha
    split at h
    · rename_i u us hu
      cases h
      have hd := hc.drop off
      rw [hu] at hd
      generalize he : c'.drop off = q at hd
      cases hd with
      | cons _ u' _ vs' hv hvs =>
        refine ⟨u', ?_, hv⟩
        have h1 : (⟨c'⟩ : Array Value)[off]? = some u' := by
          have : (c'.drop off)[0]? = some u' := by rw [he]; rfl
          rw [List.getElem?_drop] at this
          simpa using this
        simp only [part, Sem.run_bind, run_isAgg ha W, Result.andThen_ok, Bool.false_eq_true, if_false, h1, Sem.run_pure]
    · cases h
  · cases h

theorem fieldAt_sound {s : TypeId} {f off : Nat} {ft : TypeId} (h : fieldAt P s f = some (off, ft)) : ∃ fs F, P.underlying s = some (.struct fs) ∧ fs[f]? = some F ∧ F.offset = off ∧ F.type = ft := by
  unfold fieldAt at h
  split at h
  · rename_i fs hfs
    split at h
    · rename_i F hF
      simp only [Option.some.injEq, Prod.mk.injEq] at h
      exact ⟨fs, F, hfs, hF, h.1, h.2⟩
    · cases h
  · cases h

theorem fieldAddr_sound {s : TypeId} {f off : Nat} {ft : TypeId} (h : fieldAt P s f = some (off, ft)) (hz : (P.cellsOf ft).beq 0 = false) {b o : Nat} {p : PB} (hb : ρ b = some p) :
    ∃ v', (Instr.fieldAt s (.pointer (some ⟨p.blk, o + p.sh, none⟩)) f).run P W = .ok v' W ∧ VR ρ (.pointer (some ⟨b, o + off, none⟩)) v' := by
  obtain ⟨fs, F, hs, hF, rfl, rfl⟩ := fieldAt_sound h
  obtain ⟨i, hi, hsz⟩ := cellsOf_info hz
  have h0 : i.size ≠ 0 := by intro e; rw [← hsz, e] at hz; cases hz
  refine ⟨.pointer (some ⟨p.blk, o + p.sh + F.offset, none⟩), ?_, .ptr' hb (by omega)⟩
  simp only [Instr.fieldAt, Sem.run_bind, run_underlying hs W, Result.andThen_ok, hF, Instr.sureAddr, Sem.run_pure, fieldPlace, run_sizeOf_info hi W, if_neg h0, Addr.add']

theorem run_asIntOf (k : IntKind) (i : Int) : (asIntOf (.int k i)).run P W = .ok (k, i) W := rfl

theorem natOf_inv {v v' : Value} {m : Nat} (h : natOf v = some m) (hv : VR ρ v v') : ∃ k, v' = .int k m := by
  unfold natOf at h
  split at h
  · rename_i k q
    simp only [Option.some.injEq] at h
    subst h
    exact ⟨k, hv.int_inv⟩
  · cases h

/-- What the operands stand for. -/
def EV (ρ : Ren) (tm : Tr Value) (e : Operand → Value) (xs : Operand → Prop) : Prop := ∀ x, xs x → ∀ v, ev tm x = some v → VR ρ v (e x)

variable {tm : Tr Value} {e : Operand → Value}

theorem optNat_sound {xs : Operand → Prop} (hE : EV ρ tm e xs) {x : Option Operand} (hx : ∀ y, x = some y → xs y) {d m : Nat} (h : optNat tm x d = some m) :
    (x = none ∧ m = d) ∨ ∃ y k, x = some y ∧ e y = .int k m := by
  unfold optNat at h
  split at h
  · simp only [Option.some.injEq] at h; exact .inl ⟨rfl, h.symm⟩
  · rename_i y
    split at h
    · rename_i v hv
      obtain ⟨k, hk⟩ := natOf_inv h (hE y (hx y rfl) v hv)
      exact .inr ⟨y, k, rfl, hk⟩
    · cases h

theorem run_sliceBound {k : IntKind} {m y : Nat} (h : m ≤ y) (code : BoundsCode) : (Instr.sliceBound (.int k m) y code).run P W = .ok m W := by
  have : (0 : Int) ≤ m ∧ (m : Int) ≤ y := ⟨by omega, by omega⟩
  simp only [Instr.sliceBound, Sem.run_bind, run_asIntOf, Result.andThen_ok]
  rw [if_pos this]
  rfl

theorem bounds_sound {xs : Operand → Prop} (hE : EV ρ tm e xs) {lo hi mx : Option Operand} (h1 : ∀ y, lo = some y → xs y) (h2 : ∀ y, hi = some y → xs y) (h3 : ∀ y, mx = some y → xs y)
    {len cap cap' l h m : Nat} (hc : cap ≤ cap') (hb : bounds tm len cap lo hi mx = some (l, h, m)) (hmh : mx.isSome = true → hi.isSome = true) (isS : Bool) :
    l ≤ h ∧ h ≤ m ∧ m ≤ cap ∧ (mx = none → m = cap) ∧ (Instr.sliceBounds isS len cap' (lo.map e) (hi.map e) (mx.map e)).run P W = .ok (l, h, if mx.isSome then m else cap') W := by
  unfold bounds at hb
  split at hb
  · cases hb
  · rename_i m' hm
    split at hb
    · cases hb
    · rename_i h' hh
      split at hb
      · cases hb
      · rename_i l' hl
        cases hcond : (l'.ble h' && h'.ble m' && m'.ble cap) <;> simp only [hcond, cond_true, cond_false] at hb
        · cases hb
        simp only [Option.some.injEq, Prod.mk.injEq] at hb
        obtain ⟨rfl, rfl, rfl⟩ := hb
        simp only [Bool.and_eq_true, Nat.ble_eq] at hcond
        obtain ⟨⟨a1, a2⟩, a3⟩ := hcond
        have sm := optNat_sound hE h3 hm
        have sh := optNat_sound hE h2 hh
        have sl := optNat_sound hE h1 hl
        refine ⟨a1, a2, a3, fun e => ?_, ?_⟩
        · rcases sm with ⟨_, r⟩ | ⟨y, k, r, _⟩
          · exact r
          · rw [e] at r; cases r
        · rcases sm with ⟨rfl, r⟩ | ⟨ym, km, rfl, em⟩
          · rcases sh with ⟨rfl, rh⟩ | ⟨yh, kh, rfl, eh⟩
            · rcases sl with ⟨rfl, rl⟩ | ⟨yl, kl, rfl, el⟩
              · subst rl; subst rh; simp [Instr.sliceBounds]
              · subst rh; simp [Instr.sliceBounds, el, run_sliceBound a1]
            · rcases sl with ⟨rfl, rl⟩ | ⟨yl, kl, rfl, el⟩
              · subst rl; simp [Instr.sliceBounds, eh, run_sliceBound (show h' ≤ cap' by omega)]
              · simp [Instr.sliceBounds, eh, run_sliceBound (show h' ≤ cap' by omega), el, run_sliceBound a1]
          · rcases sh with ⟨rfl, rh⟩ | ⟨yh, kh, rfl, eh⟩
            · simp at hmh
            · rcases sl with ⟨rfl, rl⟩ | ⟨yl, kl, rfl, el⟩
              · subst rl; simp [Instr.sliceBounds, em, run_sliceBound (show m' ≤ cap' by omega), eh, run_sliceBound a2]
              · simp [Instr.sliceBounds, em, run_sliceBound (show m' ≤ cap' by omega), eh, run_sliceBound a2, el, run_sliceBound a1]

/-- the run's own way to lay a cut slice -/
def cutR (a : Option Addr) (size l h m : Nat) : Value := .slice (if m = l then a else a.map (·.add (l * size))) (h - l) (m - l)

theorem cut_sound (hw : WR W0 ρ hp n W) {a : Option Addr} {len cap : Nat} {v' : Value} (hv : VR ρ (.slice a len cap) v') {size l u m : Nat} {td : Bool} {v : Value}
    (hl : l ≤ u) (hh : u ≤ m) (hm : m ≤ cap) (hmc : td = false → m = cap) (hc : cut hp a size l u m td = some v) :
    ∃ a' cap', v' = .slice a' len cap' ∧ cap ≤ cap' ∧ VR ρ v (cutR a' size l u (if td then m else cap')) := by
  unfold cut at hc
  split at hc
  · simp only [Option.some.injEq] at hc
    subst hc
    have e := VR.of_flat (by rfl) hv
    subst e
    refine ⟨none, cap, rfl, Nat.le_refl _, ?_⟩
    have : (if td then m else cap) = m := by cases td <;> simp_all
    rw [this]
    unfold cutR
    simp only [Option.map_none, ite_self]
    exact .flat _ rfl
  · rename_i b o
    simp only [Option.some.injEq] at hc
    subst hc
    cases hv with
    | flat v h => simp [Rf.flat] at h
    | sl b o l c p h =>
      refine ⟨_, _, rfl, Nat.le_refl _, ?_⟩
      have : (if td then m else cap) = m := by cases td <;> simp_all
      rw [this]
      unfold cutR
      by_cases hml : m = l
      · subst hml
        simp only [Nat.beq_refl, cond_true, if_true]
        exact .sl _ _ _ _ _ h
      · rw [beq_ne hml, if_neg hml]
        simp only [cond_false, Option.map_some, Addr.add']
        exact .sl' h (by omega)
  · rename_i b o
    cases hv with
    | flat v h => simp [Rf.flat] at h
    | slk b o l' c c' N es p h hr hcc hN =>
      refine ⟨_, _, rfl, hcc, ?_⟩
      cases td with
      | true =>
        simp only [cond_true, Option.some.injEq] at hc
        subst hc
        simp only [if_true]
        unfold cutR
        by_cases hml : m = l
        · subst hml
          simp only [Nat.beq_refl, cond_true, if_true]
          exact .sl _ _ _ _ _ h
        · rw [beq_ne hml, if_neg hml]
          simp only [cond_false, Option.map_some, Addr.add']
          exact .sl' h (by omega)
      | false =>
        have hmc := hmc rfl
        subst hmc
        simp only [cond_false] at hc
        simp only [Bool.false_eq_true, if_false]
        by_cases hml : m = l
        · subst hml
          simp only [Nat.beq_refl, cond_true, Option.some.injEq] at hc
          subst hc
          have : u = m := by omega
          subst this
          unfold cutR
          rw [Nat.sub_self]
          split
          · exact .emp _ _ rfl
          · simp only [Option.map_some, Addr.add']; exact .emp _ _ rfl
        · rw [beq_ne hml] at hc
          simp only [cond_false] at hc
          split at hc
          · rename_i c2 es2 e2 x2 hg
            cases hes : es2.beq size <;> simp only [hes, cond_true, cond_false] at hc
            · cases hc
            simp only [Option.some.injEq] at hc
            subst hc
            have hes := Nat.eq_of_beq_eq_true hes
            subst hes
            obtain ⟨_, _, _, _, _, hroom⟩ := hw.cells _ _ _ _ h hg
            obtain ⟨N', hN', _⟩ := hroom es2 e2 x2 rfl
            rw [hr] at hN'
            simp only [Option.some.injEq, Prod.mk.injEq] at hN'
            obtain ⟨rfl, rfl⟩ := hN'
            unfold cutR
            rw [if_neg (by omega)]
            simp only [Option.map_some, Addr.add']
            have hN2 : o + l * es + p.sh + (c' - l) * es ≤ N := by
              have : l * es + (c' - l) * es = c' * es := by rw [← Nat.add_mul]; congr 1; omega
              omega
            have := VR.slk (ρ := ρ) b (o + l * es) (u - l) (m - l) (c' - l) N es p h hr (by omega) hN2
            rwa [show o + l * es + p.sh = o + p.sh + l * es by omega] at this
          · cases hc
  · rename_i b o k
    cases hv with
    | flat v h => simp [Rf.flat] at h
    | emp a' c' hs =>
      refine ⟨_, _, rfl, Nat.zero_le _, ?_⟩
      cases hcond : (u.beq 0 && m.beq 0) <;> simp only [hcond, cond_true, cond_false] at hc
      · cases hc
      simp only [Option.some.injEq] at hc
      subst hc
      have e1 : u = 0 := by omega
      have e2 : l = 0 := by omega
      have e3 : m = 0 := by omega
      subst e1; subst e2; subst e3
      unfold cutR
      simp only [Nat.zero_mul, Nat.sub_zero]
      have ha : a'.add 0 = a' := by simp [Addr.add]
      simp only [Option.map_some, ha, ite_self]
      exact .emp _ _ hs
    | slk b o l' c c' N es p h hr hcc hN => rename_i hk; exact absurd rfl (by assumption)
end Go.Proofs.YtgpnfdeneagdbaaGreat.Rf
