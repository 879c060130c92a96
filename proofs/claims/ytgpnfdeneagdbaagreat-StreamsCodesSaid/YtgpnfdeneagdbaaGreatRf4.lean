/- The machine's readers, all of them. -/
import Derived.Test.YtgpnfdeneagdbaaGreatRf3
import Derived.Lib.Builder
import Derived.Lib.UnsafeStr
namespace Go.Proofs.YtgpnfdeneagdbaaGreat.Rf
open Go Go.RowKit
set_option linter.unusedVariables false
set_option linter.unusedSimpArgs false

variable {P : Program} {ρ : Ren} {W0 W : World} {hp : Tr Blk} {n : Nat} {tm : Tr Value} {e : Operand → Value}

theorem evs_sound {xs : Operand → Prop} (hE : EV ρ tm e xs) : ∀ {l : List Operand} {vs : List Value}, (∀ x ∈ l, xs x) → evs tm l = some vs → VRs ρ vs (l.map e)
  | [], vs, _, h => by simp only [evs, Option.some.injEq] at h; subst h; exact .nil
  | x :: l, vs, hx, h => by
    simp only [evs] at h
    split at h
    · cases h
    · rename_i v hv
      split at h
      · cases h
      · rename_i ws hws
        simp only [Option.some.injEq] at h
        subst h
        exact .cons _ _ _ _ (hE x (hx x (List.mem_cons_self ..)) v hv) (evs_sound hE (fun y hy => hx y (List.mem_cons_of_mem _ hy)) hws)

theorem layOver_eq : ∀ (vs c acc r : List Value), layOver vs c acc = some r → r = acc.reverse ++ vs ++ c.drop vs.length ∧ vs.length ≤ c.length
  | [], c, acc, r, h => by simp [layOver, revOnto_eq] at h; simp [← h]
  | _ :: _, [], acc, r, h => by simp [layOver] at h
  | v :: vs, x :: c, acc, r, h => by
    obtain ⟨rfl, hl⟩ := layOver_eq vs c (v :: acc) r h
    exact ⟨by simp, by simpa using hl⟩

theorem setGo_eq : ∀ (o : Nat) (c vs acc r : List Value), setGo o c vs acc = some r → r = acc.reverse ++ c.take o ++ vs ++ c.drop (o + vs.length) ∧ o + vs.length ≤ c.length
  | 0, c, vs, acc, r, h => by
    obtain ⟨rfl, hl⟩ := layOver_eq vs c acc r h
    exact ⟨by simp, by simpa using hl⟩
  | o + 1, [], vs, acc, r, h => by simp [setGo] at h
  | o + 1, x :: c, vs, acc, r, h => by
    obtain ⟨rfl, hl⟩ := setGo_eq o c vs (x :: acc) r h
    refine ⟨?_, by simp at hl ⊢; omega⟩
    rw [show o + 1 + vs.length = (o + vs.length) + 1 by omega]
    simp

theorem setAt_eq (c : List Value) (o : Nat) (vs r : List Value) (h : setAt c o vs = some r) : r = c.take o ++ vs ++ c.drop (o + vs.length) ∧ o + vs.length ≤ c.length := by
  have := setGo_eq o c vs [] r h
  simpa using this

def put1 (off : Nat) (cs : Array Value) (x : Value × Nat) : Array Value := cs.setIfInBounds (off + x.2) x.1

/-- the parts laid one by one -/
theorem fold_set (off : Nat) : ∀ (vs : List Value) (k : Nat) (c : List Value), off + k + vs.length ≤ c.length →
    (vs.zipIdx k).foldl (fun cs (x : Value × Nat) => cs.setIfInBounds (off + x.2) x.1) (⟨c⟩ : Array Value) = ⟨c.take (off + k) ++ vs ++ c.drop (off + k + vs.length)⟩
  | [], k, c, h => by simp
  | v :: vs, k, c, h => by
    simp only [List.zipIdx_cons, List.foldl_cons]
    have hl : off + k < c.length := by simp at h; omega
    have e1 : ((⟨c⟩ : Array Value).setIfInBounds (off + k) v) = ⟨c.set (off + k) v⟩ := by
      apply Array.ext'
      simp
    rw [e1, fold_set off vs (k + 1) _ (by simp at h ⊢; omega)]
    congr 1
    simp only [List.length_cons]
    rw [show off + (k + 1) = off + k + 1 by omega, show off + k + 1 + vs.length = off + k + (vs.length + 1) by omega]
    rw [List.drop_set_of_lt (by omega)]
    have : (c.set (off + k) v).take (off + k + 1) = c.take (off + k) ++ [v] := by
      rw [List.take_succ_eq_append_getElem (by simpa using hl), List.take_set, List.set_eq_of_length_le (by simp; omega)]
      simp
    rw [this]
    simp

theorem zip_fold {cells : Array Value} (v : Value) (off : Nat) (h : off + v.cells.size ≤ cells.size) :
    (v.cells.zipIdx.foldl (fun cs (x : Value × Nat) => cs.setIfInBounds (off + x.2) x.1) cells) = ⟨cells.toList.take off ++ listOf v ++ cells.toList.drop (off + (listOf v).length)⟩ := by
  have h2 := fold_set off (listOf v) 0 cells.toList (by rw [← listOf_cells]; simpa using h)
  rw [← Array.foldl_toList, Array.toList_zipIdx, listOf_cells]
  simpa using h2

inductive PRs (ρ : Ren) : List (Nat × Value) → List (Nat × Value) → Prop
  | nil : PRs ρ [] []
  | cons (i : Nat) (v v' : Value) (vs vs' : List (Nat × Value)) (h : VR ρ v v') (hs : PRs ρ vs vs') : PRs ρ ((i, v) :: vs) ((i, v') :: vs')

theorem evParts_sound {xs : Operand → Prop} (hE : EV ρ tm e xs) : ∀ {l : List (Nat × Operand)} {vs : List (Nat × Value)}, (∀ x ∈ l, xs x.2) → evParts tm l = some vs →
    PRs ρ vs (l.map fun p => (p.1, e p.2))
  | [], vs, _, h => by simp only [evParts, Option.some.injEq] at h; subst h; exact .nil
  | (i, x) :: l, vs, hx, h => by
    simp only [evParts] at h
    split at h
    · cases h
    · rename_i v hv
      split at h
      · cases h
      · rename_i ws hws
        simp only [Option.some.injEq] at h
        subst h
        exact .cons _ _ _ _ _ (hE x (hx (i, x) (List.mem_cons_self ..)) v hv) (evParts_sound hE (fun y hy => hx y (List.mem_cons_of_mem _ hy)) hws)

theorem lay_sound {places : Nat → Option (Nat × Nat)} : ∀ {ps ps' : List (Nat × Value)}, PRs ρ ps ps' → ∀ {c c' r : List Value}, VRs ρ c c' → lay places c ps = some r →
    ∃ r', Instr.fill places ⟨c'⟩ ps' = some ⟨r'⟩ ∧ VRs ρ r r'
  | _, _, .nil, c, c', r, hc, h => by
    simp only [lay, Option.some.injEq] at h
    subst h
    exact ⟨c', rfl, hc⟩
  | _, _, .cons i v v' ps ps' hv hs, c, c', r, hc, h => by
    simp only [lay] at h
    split at h
    · cases h
    · rename_i off size hpl
      cases hsz : (listOf v).length.beq size <;> simp only [hsz, cond_true, cond_false] at h
      · cases h
      have hsz := Nat.eq_of_beq_eq_true hsz
      split at h
      · rename_i q hq
        obtain ⟨rfl, hl⟩ := setAt_eq _ _ _ _ hq
        have hlen := hv.listOf.length
        have hcl := hc.length
        obtain ⟨r', h1, h2⟩ := lay_sound hs (c' := c'.take off ++ listOf v' ++ c'.drop (off + (listOf v).length)) (((hc.take off).append hv.listOf).append (hc.drop _)) h
        refine ⟨r', ?_, h2⟩
        have hs1 : v'.cells.size = (listOf v').length := by rw [← listOf_cells]; simp
        have hs2 : (⟨c'⟩ : Array Value).size = c'.length := rfl
        simp only [Instr.fill, hpl]
        rw [if_neg (by simp only [hs1, hs2]; simp; omega)]
        have := zip_fold (cells := ⟨c'⟩) v' off (by rw [hs1, hs2]; omega)
        simp only at this
        rw [this, ← hlen]
        exact h1
      · cases h

theorem zeroOf_sound {t : TypeId} {z : List Value} (h : zeroOf P t = some z) : ∃ i v, P.info? t = some i ∧ i.zero = some v ∧ v.cells = ⟨z⟩ ∧ z.length = i.size ∧ i.size = P.cellsOf t ∧ z.all flat = true := by
  unfold zeroOf at h
  split at h
  · rename_i i hi
    split at h
    · rename_i v hv
      cases hc : ((listOf v).all flat && (listOf v).length.beq i.size) <;> simp only [hc, cond_true, cond_false] at h
      · cases h
      simp only [Option.some.injEq] at h
      subst h
      simp only [Bool.and_eq_true] at hc
      exact ⟨i, v, hi, hv, by apply Array.ext'; rw [listOf_cells], Nat.eq_of_beq_eq_true hc.2, by simp [Program.cellsOf, hi], hc.1⟩
    · cases h
  · cases h

theorem run_zero {t : TypeId} {i : TypeInfo} {v : Value} (hi : P.info? t = some i) (hz : i.zero = some v) (W : World) : (zeroValue t).run P W = .ok v W := by
  simp [zeroValue, typeInfo, program, Sem.run, hi, hz]

theorem run_mapM_sizes (fs : Array Field) (W : World) (h : ∀ f ∈ fs, ∃ i, P.info? f.type = some i) :
    (fs.mapM fun f => do pure (f.offset, ← sizeOf f.type) : Sem (Array (Nat × Nat))).run P W = .ok (fs.map fun f => (f.offset, P.cellsOf f.type)) W := by
  have key : ∀ (l : List Field), (∀ f ∈ l, ∃ i, P.info? f.type = some i) → (l.mapM fun f => do pure (f.offset, ← sizeOf f.type) : Sem (List (Nat × Nat))).run P W = .ok (l.map fun f => (f.offset, P.cellsOf f.type)) W := by
    intro l
    induction l with
    | nil => intro _; rfl
    | cons f l ih =>
      intro hl
      obtain ⟨i, hi⟩ := hl f (List.mem_cons_self ..)
      have := ih fun g hg => hl g (List.mem_cons_of_mem _ hg)
      rw [List.mapM_cons]
      simp only [Sem.run_bind, run_sizeOf_info hi W, Result.andThen_ok, Sem.run_pure, this, List.map_cons]
      simp [Program.cellsOf, hi]
  have h2 := key fs.toList (fun f hf => h f (by simpa using hf))
  rw [Array.mapM_eq_mapM_toList]
  simp only [Sem.run_map, h2, Result.andThen_ok]
  congr 1
  apply Array.ext'
  simp

theorem bytesOf_sound : ∀ {c c' : List Value} {l : List UInt8}, VRs ρ c c' → bytesOf c = some l → ∃ ns : List Int, c' = ns.map (Value.int .u8) ∧ ∀ s : ByteArray,
    ns.foldl (fun r n => r.push (UInt8.ofNat n.toNat)) s = ⟨⟨s.data.toList ++ l⟩⟩
  | [], _, l, .nil, h => by
    simp only [bytesOf, Option.some.injEq] at h
    subst h
    exact ⟨[], rfl, fun s => by simp⟩
  | v :: c, _, l, .cons _ v' _ c' hv hs, h => by
    unfold bytesOf at h
    split at h
    · cases ‹_ :: _ = []›
    · rename_i x n vs heq
      cases heq
      split at h
      · rename_i q hq
        simp only [Option.some.injEq] at h
        subst h
        obtain ⟨ns, rfl, ih⟩ := bytesOf_sound hs hq
        obtain rfl := hv.int_inv
        refine ⟨n :: ns, rfl, fun s => ?_⟩
        rw [List.foldl_cons, ih]
        simp [ByteArray.push]
      · cases h
    · cases h

theorem run_loadCells_range {b o k : Nat} {cs : List Value} (h : W.rangeAt b o cs) (hk : cs.length = k) : (loadCells ⟨b, o, none⟩ k).run P W = .ok ⟨cs⟩ W := by
  subst hk
  exact run_loadCells_list (P := P) W ⟨b, o, none⟩ cs (fun j v hv => by rw [Addr.add_mid]; exact h j v hv)

theorem equal_run {t : TypeId} {a b : Value} {r : Bool} {W : World} (h : ∀ d : Nat, (Op.equalIn (d + 1) t a b).run P W = .ok r W) : (Op.equal t a b).run P W = .ok r W := h 9999

theorem eql_run {t : TypeId} {a b : Value} {r : Bool} {W : World} {x y : Operand} (h : (Op.equal t a b).run P W = .ok r W) (hg : (eqGuard .eql t x y a b).run P W = .ok () W) (hb : binOp .eql t a b = (do pure (.bool (← Op.equal t a b)))) :
    (do eqGuard .eql t x y a b; binOp .eql t a b : Sem Value).run P W = .ok (.bool r) W := by
  simp only [Sem.run_bind, hg, Result.andThen_ok, hb, h, Sem.run_pure]
theorem neq_run {t : TypeId} {a b : Value} {r : Bool} {W : World} {x y : Operand} (h : (Op.equal t a b).run P W = .ok r W) (hg : (eqGuard .neq t x y a b).run P W = .ok () W) (hb : binOp .neq t a b = (do pure (.bool (!(← Op.equal t a b))))) :
    (do eqGuard .neq t x y a b; binOp .neq t a b : Sem Value).run P W = .ok (.bool !r) W := by
  simp only [Sem.run_bind, hg, Result.andThen_ok, hb, h, Sem.run_pure]

theorem info_of_cells {t : TypeId} (h : (P.cellsOf t).beq 0 = false) : ∃ j, P.info? t = some j ∧ j.size ≠ 0 := by
  have h0 : P.cellsOf t ≠ 0 := by intro e; rw [e] at h; cases h
  cases hj : P.info? t with
  | none => exact absurd (by simp [Program.cellsOf, hj]) h0
  | some j => exact ⟨j, rfl, by intro e; exact h0 (by simp [Program.cellsOf, hj, e])⟩
theorem eqP_sound {t : TypeId} {a b a' b' : Value} (ha : VR ρ a a') (hb : VR ρ b b') (h : eqP P (P.underlying t) a b = some true) (x y : Operand) (W : World) :
    (do eqGuard .neq t x y a' b'; binOp .neq t a' b' : Sem Value).run P W = .ok (.bool false) W := by
  unfold eqP at h
  split at h
  · rename_i el b1 o1 b2 o2 hu
    cases h0 : (P.cellsOf el).beq 0 <;> simp only [h0, cond_true, cond_false] at h
    · cases h1 : (b1.beq b2 && o1.beq o2) <;> simp only [h1, cond_true, cond_false] at h
      · cases h
      simp only [Bool.and_eq_true] at h1
      obtain rfl := Nat.eq_of_beq_eq_true h1.1
      obtain rfl := Nat.eq_of_beq_eq_true h1.2
      obtain ⟨_, _, p, e1, hp, rfl⟩ := ha.ptr_inv
      obtain ⟨_, _, q, e2, hq, rfl⟩ := hb.ptr_inv
      simp only [Addr.mk.injEq] at e1 e2
      obtain ⟨rfl, rfl, _⟩ := e1
      obtain ⟨rfl, rfl, _⟩ := e2
      rw [hp] at hq
      cases hq
      obtain ⟨j, hj, _⟩ := info_of_cells h0
      exact neq_run (r := true) (equal_run fun d => by simp [Op.equalIn, run_underlying hu, sizeOf, typeInfo, hj, run_sameAddr_same]) rfl rfl
    · cases h
  · cases h
set_option maxHeartbeats 4000000 in
theorem eqA_sound {t : TypeId} {a b a' b' : Value} {r : Bool} (ha : VR ρ a a') (hb : VR ρ b b') (h : eqA (P.underlying t) a b = some r) (x y : Operand) (W : World) :
    (do eqGuard .eql t x y a' b'; binOp .eql t a' b' : Sem Value).run P W = .ok (.bool r) W ∧ (do eqGuard .neq t x y a' b'; binOp .neq t a' b' : Sem Value).run P W = .ok (.bool !r) W := by
  unfold eqA at h
  split at h
  case h_1 el b hu =>
    simp only [Option.some.injEq] at h; subst h
    obtain rfl := VR.of_flat rfl ha
    cases b with
    | none => obtain rfl := VR.of_flat rfl hb; exact ⟨eql_run (equal_run fun d => by simp [Op.equalIn, run_underlying hu]) rfl rfl, neq_run (equal_run fun d => by simp [Op.equalIn, run_underlying hu]) rfl rfl⟩
    | some q => obtain ⟨_, rfl⟩ := hb.ptr_some; exact ⟨eql_run (equal_run fun d => by simp [Op.equalIn, run_underlying hu]) rfl rfl, neq_run (equal_run fun d => by simp [Op.equalIn, run_underlying hu]) rfl rfl⟩
  case h_2 el b hn hu =>
    simp only [Option.some.injEq] at h; subst h
    obtain rfl := VR.of_flat rfl hb
    cases b with
    | none => obtain rfl := VR.of_flat rfl ha; exact ⟨eql_run (equal_run fun d => by simp [Op.equalIn, run_underlying hu]) rfl rfl, neq_run (equal_run fun d => by simp [Op.equalIn, run_underlying hu]) rfl rfl⟩
    | some q => obtain ⟨_, rfl⟩ := ha.ptr_some; exact ⟨eql_run (equal_run fun d => by simp [Op.equalIn, run_underlying hu]) rfl rfl, neq_run (equal_run fun d => by simp [Op.equalIn, run_underlying hu]) rfl rfl⟩
  case h_3 el l c b l' c' hu =>
    simp only [Option.some.injEq] at h; subst h
    obtain rfl := VR.of_flat rfl ha
    cases b with
    | none => obtain rfl := VR.of_flat rfl hb; exact ⟨eql_run (equal_run fun d => by simp [Op.equalIn, run_underlying hu]) rfl rfl, neq_run (equal_run fun d => by simp [Op.equalIn, run_underlying hu]) rfl rfl⟩
    | some q => obtain ⟨_, _, rfl, _⟩ := hb.slice_inv; exact ⟨eql_run (equal_run fun d => by simp [Op.equalIn, run_underlying hu]) rfl rfl, neq_run (equal_run fun d => by simp [Op.equalIn, run_underlying hu]) rfl rfl⟩
  case h_4 el b l c l' c' hn hu =>
    simp only [Option.some.injEq] at h; subst h
    obtain rfl := VR.of_flat rfl hb
    cases b with
    | none => obtain rfl := VR.of_flat rfl ha; exact ⟨eql_run (equal_run fun d => by simp [Op.equalIn, run_underlying hu]) rfl rfl, neq_run (equal_run fun d => by simp [Op.equalIn, run_underlying hu]) rfl rfl⟩
    | some q => obtain ⟨_, _, rfl, _⟩ := ha.slice_inv; exact ⟨eql_run (equal_run fun d => by simp [Op.equalIn, run_underlying hu]) rfl rfl, neq_run (equal_run fun d => by simp [Op.equalIn, run_underlying hu]) rfl rfl⟩
  case h_5 k el b hu =>
    simp only [Option.some.injEq] at h; subst h
    obtain rfl := VR.of_flat rfl ha
    cases b with
    | none => obtain rfl := VR.of_flat rfl hb; exact ⟨eql_run (equal_run fun d => by simp [Op.equalIn, run_underlying hu]) rfl rfl, neq_run (equal_run fun d => by simp [Op.equalIn, run_underlying hu]) rfl rfl⟩
    | some q => cases hb with
      | flat _ h => simp [Rf.flat] at h
      | mp _ p h => exact ⟨eql_run (equal_run fun d => by simp [Op.equalIn, run_underlying hu]) rfl rfl, neq_run (equal_run fun d => by simp [Op.equalIn, run_underlying hu]) rfl rfl⟩
  case h_6 k el b hn hu =>
    simp only [Option.some.injEq] at h; subst h
    obtain rfl := VR.of_flat rfl hb
    cases b with
    | none => obtain rfl := VR.of_flat rfl ha; exact ⟨eql_run (equal_run fun d => by simp [Op.equalIn, run_underlying hu]) rfl rfl, neq_run (equal_run fun d => by simp [Op.equalIn, run_underlying hu]) rfl rfl⟩
    | some q => cases ha with
      | flat _ h => simp [Rf.flat] at h
      | mp _ p h => exact ⟨eql_run (equal_run fun d => by simp [Op.equalIn, run_underlying hu]) rfl rfl, neq_run (equal_run fun d => by simp [Op.equalIn, run_underlying hu]) rfl rfl⟩
  case h_7 hu =>
    simp only [Option.some.injEq] at h; subst h
    obtain rfl := VR.of_flat rfl ha
    cases hb with
    | flat _ h => simp [Rf.flat] at h
    | fn _ _ _ _ _ _ _ => exact ⟨eql_run (equal_run fun d => by simp [Op.equalIn, run_underlying hu]) rfl rfl, neq_run (equal_run fun d => by simp [Op.equalIn, run_underlying hu]) rfl rfl⟩
  case h_8 hu =>
    simp only [Option.some.injEq] at h; subst h
    obtain rfl := VR.of_flat rfl hb
    cases ha with
    | flat _ h => simp [Rf.flat] at h
    | fn _ _ _ _ _ _ _ => exact ⟨eql_run (equal_run fun d => by simp [Op.equalIn, run_underlying hu]) rfl rfl, neq_run (equal_run fun d => by simp [Op.equalIn, run_underlying hu]) rfl rfl⟩
  case h_9 hu =>
    simp only [Option.some.injEq] at h; subst h
    obtain rfl := VR.of_flat rfl ha
    cases hb with
    | flat _ h => simp [Rf.flat] at h
    | ifc _ _ _ _ => exact ⟨eql_run (equal_run fun d => by simp [Op.equalIn, run_underlying hu]) rfl rfl, neq_run (equal_run fun d => by simp [Op.equalIn, run_underlying hu]) rfl rfl⟩
  case h_10 hu =>
    simp only [Option.some.injEq] at h; subst h
    obtain rfl := VR.of_flat rfl hb
    cases ha with
    | flat _ h => simp [Rf.flat] at h
    | ifc _ _ _ _ => exact ⟨eql_run (equal_run fun d => by simp [Op.equalIn, run_underlying hu]) rfl rfl, neq_run (equal_run fun d => by simp [Op.equalIn, run_underlying hu]) rfl rfl⟩
  case h_11 => cases h

theorem esz_sound {t : TypeId} {k : Nat} (h : esz P t = some k) : ∃ i, P.info? t = some i ∧ i.size = k ∧ 0 < k := by
  unfold esz at h
  cases hz : (P.cellsOf t).beq 0 <;> simp only [hz, cond_true, cond_false] at h
  · obtain ⟨i, hi, hs⟩ := cellsOf_info hz
    simp only [Option.some.injEq] at h
    refine ⟨i, hi, hs.trans h, ?_⟩
    rcases Nat.eq_zero_or_pos k with h0 | h0
    · rw [h, h0] at hz; cases hz
    · exact h0
  · cases h

theorem sliceA_sound {x : Value} {t : TypeId} {xs : Operand → Prop} (hw : WR W0 ρ hp n W) (hE : EV ρ tm e xs) {lo hi mx : Option Operand} (h1 : ∀ y, lo = some y → xs y) (h2 : ∀ y, hi = some y → xs y) (h3 : ∀ y, mx = some y → xs y)
    {x' v : Value} (hx : VR ρ x x') (h : sliceA P tm hp t x lo hi mx = some v) :
    ∃ v', (Instr.sliceAt t x' (lo.map e) (hi.map e) (mx.map e)).run P W = .ok v' W ∧ VR ρ v v' := by
  unfold sliceA at h
  split at h
  · rename_i k el b o hu
    split at h
    · rename_i z l u m hz hb
      cases hmh : (mx.isSome && !hi.isSome) <;> simp only [hmh, cond_true, cond_false] at h
      · have hmh : mx.isSome = true → hi.isSome = true := fun e1 => by rw [e1] at hmh; simpa using hmh
        obtain ⟨b', o', p, heq, hρ, rfl⟩ := hx.ptr_inv
        cases heq
        obtain ⟨a1, a2, a3, a4, hr⟩ := bounds_sound (P := P) (W := W) hE h1 h2 h3 (Nat.le_refl _) hb hmh false
        obtain ⟨a', c', heq, _, hv⟩ := cut_sound hw (.sl b o k k p hρ) a1 a2 a3 (fun e => a4 (by simpa using e)) h
        simp only [Value.slice.injEq, true_and] at heq
        obtain ⟨rfl, rfl⟩ := heq
        obtain ⟨i, hi, hs, h0⟩ := esz_sound hz
        refine ⟨_, ?_, hv⟩
        simp only [Instr.sliceAt, Sem.run_bind, run_underlying hu W, Result.andThen_ok, Instr.sureAddr, Sem.run_pure, hr, run_sizeOf_info hi W, hs]
        unfold cutR
        generalize (if mx.isSome = true then m else k) = q
        by_cases hq : q = l
        · simp only [if_pos hq]
        · simp only [if_neg hq, Option.map_some]
      · cases h
    · cases h
  · rename_i el a len cap hu
    split at h
    · rename_i z l u m hz hb
      cases hmh : (mx.isSome && !hi.isSome) <;> simp only [hmh, cond_true, cond_false] at h
      · have hmh : mx.isSome = true → hi.isSome = true := fun e1 => by rw [e1] at hmh; simpa using hmh
        have h0 := bounds_sound (P := P) (W := W) hE h1 h2 h3 (Nat.le_refl _) hb hmh true
        obtain ⟨a', c', rfl, hcc, hv⟩ := cut_sound hw hx h0.1 h0.2.1 h0.2.2.1 (fun e => h0.2.2.2.1 (by simpa using e)) h
        obtain ⟨a1, a2, a3, a4, hr⟩ := bounds_sound (P := P) (W := W) hE h1 h2 h3 hcc hb hmh true
        obtain ⟨i, hi, hs, h0⟩ := esz_sound hz
        refine ⟨_, ?_, hv⟩
        simp only [Instr.sliceAt, Sem.run_bind, run_underlying hu W, Result.andThen_ok, Instr.slice, Sem.run_pure, hr, run_sizeOf_info hi W, hs]
        rfl
      · cases h
    · cases h
  · rename_i s hu
    split at h
    · rename_i l u m hb
      simp only [Option.some.injEq] at h
      subst h
      obtain rfl := VR.of_flat rfl hx
      obtain ⟨a1, a2, a3, a4, hr⟩ := bounds_sound (P := P) (W := W) hE h1 h2 (mx := none) (by simp) (Nat.le_refl _) hb (by simp) false
      refine ⟨_, ?_, .flat _ rfl⟩
      simp only [Option.map_none] at hr
      simp [Instr.sliceAt, run_underlying hu W, Instr.slice, hr]
    · cases h
  · cases h

theorem resolve_builtin (c : Call) (b : Builtin) (hc : c.callee = .builtin b) (ty : TypeId) (W : World) :
    (do let d ← resolve e c ty; invoke d.target d.args : Sem Next).run P W = (builtin b c.argTypes ty (c.args.map fun | .const _ => true | _ => false) (c.args.map e)).run P W := by
  obtain ⟨callee, args, ats⟩ := c
  simp only at hc
  subst hc
  rfl

theorem argTypes0 {ats : Array TypeId} {t : TypeId} (h : ats[0]? = some t) : ats[0]? = some t := h

theorem len_sound {ats : Array TypeId} {t ty : TypeId} (h0 : ats[0]? = some t) {x x' v : Value} (hx : VR ρ x x')
    (h : lenA (P.underlying t) x = some v) : (Builtin.len_ ats ty #[x']).run P W = .ok v W ∧ VR ρ v v := by
  unfold lenA at h
  split at h
  · rename_i el a n c hu
    simp only [Option.some.injEq] at h
    subst h
    have : ∃ a' c', x' = .slice a' n c' := by
      cases a with
      | none => exact ⟨_, _, VR.of_flat rfl hx⟩
      | some a => obtain ⟨a', c', rfl, _⟩ := hx.slice_inv; exact ⟨_, _, rfl⟩
    obtain ⟨a', c', rfl⟩ := this
    refine ⟨?_, .flat _ rfl⟩
    simp [Builtin.len_, h0, run_underlying hu W]
  · rename_i s hu
    simp only [Option.some.injEq] at h
    subst h
    obtain rfl := VR.of_flat rfl hx
    refine ⟨?_, .flat _ rfl⟩
    simp [Builtin.len_, h0, run_underlying hu W]
  · rename_i n el hu
    simp only [Option.some.injEq] at h
    subst h
    refine ⟨?_, .flat _ rfl⟩
    simp [Builtin.len_, h0, run_underlying hu W]
  · cases h

theorem cap_sound {ats : Array TypeId} {t ty : TypeId} (h0 : ats[0]? = some t) {x x' v : Value} (hx : VR ρ x x')
    (h : capA (P.underlying t) x = some v) : (Builtin.cap_ ats ty #[x']).run P W = .ok v W ∧ VR ρ v v := by
  unfold capA at h
  split at h
  · rename_i el l n hu
    simp only [Option.some.injEq] at h
    subst h
    obtain rfl := VR.of_flat rfl hx
    refine ⟨?_, .flat _ rfl⟩
    simp [Builtin.cap_, h0, run_underlying hu W]
  · rename_i el b o l n hu
    simp only [Option.some.injEq] at h
    subst h
    cases hx with
    | flat v h => simp [Rf.flat] at h
    | sl b o l c p h =>
      refine ⟨?_, .flat _ rfl⟩
      simp [Builtin.cap_, h0, run_underlying hu W]
  · cases h

theorem value_run {s : Sem Value} {v : Value} (h : s.run P W = .ok v W) : (s >>= fun a => pure (Next.value a)).run P W = .ok (.value v) W := by simp [h]

theorem indexArr_sound {t el : TypeId} {k i z : Nat} {q : IntKind} (hu : P.underlying t = some (.array k el)) (hz : esz P el = some z) (hi : i < k) {b o : Nat} {p : PB} (hb : ρ b = some p) :
    ∃ v', (Instr.indexAt t (.pointer (some ⟨p.blk, o + p.sh, none⟩)) (.int q i)).run P W = .ok v' W ∧ VR ρ (.pointer (some ⟨b, o + i * z, none⟩)) v' := by
  obtain ⟨I, hI, hs, h0⟩ := esz_sound hz
  refine ⟨.pointer (some ⟨p.blk, o + p.sh + i * z, none⟩), ?_, .ptr' hb (by omega)⟩
  have hc : (0 : Int) ≤ i ∧ (i : Int) < k := ⟨by omega, by omega⟩
  simp only [Instr.indexAt, Sem.run_bind, run_asIntOf, Result.andThen_ok, run_underlying hu W, Instr.sureAddr, Sem.run_pure]
  rw [if_pos hc]
  simp only [Sem.run_bind, run_sizeOf_info hI W, Result.andThen_ok, Sem.run_pure, Int.toNat_natCast, hs, Addr.add']

theorem indexSl_sound {t el : TypeId} {k i z c' : Nat} {q : IntKind} (hu : P.underlying t = some (.slice el)) (hz : esz P el = some z) (hi : i < k) {b o : Nat} {p : PB} (hb : ρ b = some p) :
    ∃ v', (Instr.indexAt t (.slice (some ⟨p.blk, o + p.sh, none⟩) k c') (.int q i)).run P W = .ok v' W ∧ VR ρ (.pointer (some ⟨b, o + i * z, none⟩)) v' := by
  obtain ⟨I, hI, hs, h0⟩ := esz_sound hz
  refine ⟨.pointer (some ⟨p.blk, o + p.sh + i * z, none⟩), ?_, .ptr' hb (by omega)⟩
  have hc : (0 : Int) ≤ i ∧ (i : Int) < k := ⟨by omega, by omega⟩
  simp only [Instr.indexAt, Sem.run_bind, run_asIntOf, Result.andThen_ok, run_underlying hu W, Sem.run_pure]
  rw [if_pos hc]
  simp only [Sem.run_bind, run_sizeOf_info hI W, Result.andThen_ok, Sem.run_pure, Int.toNat_natCast, hs, Addr.add']

theorem index_sound {t el : TypeId} {k i z : Nat} {q : IntKind} (hu : P.underlying t = some (.array k el)) (hz : esz P el = some z) (hi : i < k) {c c' : List Value} (hc : VRs ρ c c') {v : Value} (h : partA P el c (i * z) = some v) :
    ∃ v', (Instr.index t (.agg ⟨c'⟩) (.int q i)).run P W = .ok v' W ∧ VR ρ v v' := by
  obtain ⟨I, hI, hs, h0⟩ := esz_sound hz
  obtain ⟨v', h1, h2⟩ := partA_sound (W := W) hc h
  refine ⟨v', ?_, h2⟩
  have hc : (0 : Int) ≤ i ∧ (i : Int) < k := ⟨by omega, by omega⟩
  simp only [Instr.index, Sem.run_bind, run_asIntOf, Result.andThen_ok, run_underlying hu W]
  rw [if_pos hc]
  simp only [Sem.run_bind, run_sizeOf_info hI W, Result.andThen_ok, Int.toNat_natCast, hs, h1]

theorem indexStr_sound {t : TypeId} {i : Nat} {q : IntKind} {s : ByteArray} {b : UInt8} {r : List UInt8} (hu : P.underlying t = some .string) (h : s.data.toList.drop i = b :: r) :
    (Instr.index t (.string s) (.int q i)).run P W = .ok (.int .u8 b.toNat) W := by
  have h1 : s[i]? = some b := by
    have : (s.data.toList.drop i)[0]? = some b := by rw [h]; rfl
    rw [List.getElem?_drop] at this
    simp only [Nat.add_zero] at this
    have hlt : i < s.data.toList.length := (List.getElem?_eq_some_iff.1 this).1
    have hlt' : i < s.size := by simpa using hlt
    rw [getElem?_pos s i hlt']
    rw [List.getElem?_eq_getElem hlt] at this
    show some s.data[i] = some b
    simpa using this
  simp only [Instr.index, Sem.run_bind, run_asIntOf, Result.andThen_ok, run_underlying hu W]
  simp [h1]

theorem build_sound {t : TypeId} {places : Nat → Option (Nat × Nat)} {ps ps' : List (Nat × Value)} {z r : List Value} (hps : PRs ρ ps ps') (hz : zeroOf P t = some z)
    (hd : (∃ fs, P.underlying t = some (.struct fs) ∧ (fs.toList.all fun f => (P.info? f.type).isSome) = true ∧ places = fun i => match fs[i]? with | some f => some (f.offset, P.cellsOf f.type) | none => none) ∨
      ∃ k el m, P.underlying t = some (.array m el) ∧ esz P el = some k ∧ places = fun i => some (i * k, k)) (h : lay places z ps = some r) :
    ∃ v', (Instr.build t ⟨ps'⟩).run P W = .ok v' W ∧ VR ρ (.agg ⟨r⟩) v' := by
  obtain ⟨I, zv, hI, hzv, hzc, hzl, hsz, hfl⟩ := zeroOf_sound hz
  obtain ⟨r', h1, h2⟩ := lay_sound hps (VRs.flat hfl) h
  refine ⟨.agg ⟨r'⟩, ?_, .ag _ _ h2⟩
  rcases hd with ⟨fs, hu, hall, rfl⟩ | ⟨k, el, m, hu, hk, rfl⟩
  · have hm := run_mapM_sizes (P := P) fs W (fun f hf => by
      have := List.all_eq_true.1 hall f (by simpa using hf)
      exact Option.isSome_iff_exists.1 this)
    have hp : (fun i : Nat => (fs.map fun (f : Field) => (f.offset, P.cellsOf f.type))[i]?) = fun i => match fs[i]? with | some f => some (f.offset, P.cellsOf f.type) | none => none := by
      funext i
      rw [Array.getElem?_map]
      cases fs[i]? <;> rfl
    simp only [Instr.build, Sem.run_bind, run_zero hI hzv W, Result.andThen_ok, run_underlying hu W, hm, hp, hzc, h1, Sem.run_pure]
  · obtain ⟨J, hJ, hs, h0⟩ := esz_sound hk
    simp only [Instr.build, Sem.run_bind, run_zero hI hzv W, Result.andThen_ok, run_underlying hu W, run_sizeOf_info hJ W, hs, hzc, h1, Sem.run_pure]

theorem bytesStr_sound {src dst el : TypeId} (hs : P.underlying src = some (.slice el)) (he : P.underlying el = some (.int .u8)) (hd : P.underlying dst = some .string) {a : Addr} {len cap : Nat} {x' : Value}
    (hw : WR W0 ρ hp n W) (hx : VR ρ (.slice (some a) len cap) x') {c : List Value} (hc : cellsAt hp a len = some c) {l : List UInt8} (hl : bytesOf c = some l) :
    (convert src dst x').run P W = .ok (.string ⟨⟨l⟩⟩) W := by
  obtain ⟨a', c', rfl, hsp, hcc, ⟨p, hρ, rfl, _⟩ | ⟨rfl, _, _⟩⟩ := hx.slice_inv
  · obtain ⟨cs', h1, h2, h3, _⟩ := cellsAt_sound hw hρ hc
    obtain ⟨ns, rfl, hf⟩ := bytesOf_sound h1 hl
    rw [run_convert_bytes_string W src dst el _ _ _ hs he hd, run_bytesToString (P := P) W _ len c' ns (run_loadCells_range h2 (by rw [← h1.length, h3]))]
    congr 2
    exact hf ByteArray.empty
  · unfold cellsAt at hc
    rw [hw.zero] at hc
    cases hc

set_option maxHeartbeats 1000000 in
/-- THE READERS. -/
theorem evR_sound (o : Oper) (hw : WR W0 ρ hp n W) (hE : EV ρ tm e (· ∈ o.op.operands)) {v : Value} (h : evR P tm hp o = some v) :
    ∃ v', (execOp e o).run P W = .ok (.value v') W ∧ VR ρ v v' := by
  obtain ⟨dst, op, type, pos, after, guard⟩ := o
  unfold evR at h
  simp only at hE h
  cases op with
  | move x => exact ⟨e x, rfl, hE x (by simp [Op.operands]) v h⟩
  | assign x => exact ⟨e x, rfl, hE x (by simp [Op.operands]) v h⟩
  | pick c a b =>
    simp only at h
    split at h
    · rename_i hc
      have := hE c (by simp [Op.operands]) _ hc
      exact ⟨e a, by simp [execOp, this.bool_inv, asBool], hE a (by simp [Op.operands]) v h⟩
    · rename_i hc
      have := hE c (by simp [Op.operands]) _ hc
      exact ⟨e b, by simp [execOp, this.bool_inv, asBool], hE b (by simp [Op.operands]) v h⟩
    · cases h
  | load t a =>
    simp only at h
    split at h
    · rename_i x hx
      obtain ⟨v', h1, h2⟩ := loadA_sound hw (hE a (by simp [Op.operands]) x hx) h
      exact ⟨v', value_run h1, h2⟩
    · cases h
  | nilCheck x =>
    simp only at h
    split at h
    · rename_i a hx
      simp only [Option.some.injEq] at h
      subst h
      have hv := hE x (by simp [Op.operands]) _ hx
      obtain ⟨a', h2⟩ := hv.ptr_some
      rw [h2] at hv
      exact ⟨_, by simp only [execOp, h2]; rfl, hv⟩
    · rename_i f a b hx
      simp only [Option.some.injEq] at h
      subst h
      have hv := hE x (by simp [Op.operands]) _ hx
      have hy : ∃ a' b', e x = .func (.func f) a' b' := by
        generalize e x = y at hv
        cases hv with
        | flat v h => simp [Rf.flat] at h
        | fn g f' f2 c c2 h1 h2 => exact ⟨_, _, rfl⟩
      obtain ⟨a', b', hy⟩ := hy
      rw [hy] at hv
      exact ⟨_, by simp only [execOp, hy]; rfl, hv⟩
    · cases h
  | fieldAddr s x f =>
    simp only at h
    split at h
    · rename_i b o off ft hx hf
      cases hz : (P.cellsOf ft).beq 0 <;> simp only [hz, cond_true, cond_false] at h
      · simp only [Option.some.injEq] at h
        subst h
        obtain ⟨b', o', p, heq, hb, h2⟩ := (hE x (by simp [Op.operands]) _ hx).ptr_inv
        cases heq
        obtain ⟨v', h3, h4⟩ := fieldAddr_sound (W := W) hf hz (o := o) hb
        exact ⟨v', by simp only [execOp, h2]; exact value_run h3, h4⟩
      · cases h
    · rename_i g o off ft hx hf
      cases hz : (P.cellsOf ft).beq 0 <;> simp only [hz, cond_true, cond_false] at h
      · simp only [Option.some.injEq] at h
        subst h
        have h2 := (hE x (by simp [Op.operands]) _ hx).glob_inv
        obtain ⟨v', h3, h4⟩ := fieldAddr_sound (ρ := fun _ => some ⟨g, 0, none⟩) (W := W) (b := 0) (p := ⟨g, 0, none⟩) hf hz (o := o) rfl
        obtain ⟨_, _, p, heq, hp, rfl⟩ := h4.ptr_inv
        cases heq
        cases hp
        exact ⟨_, by simp only [execOp, h2]; exact value_run h3, .glob g _⟩
      · cases h
    · cases h
  | indexAddr t x i =>
    simp only at h
    split at h
    · rename_i b o q i' k el hx hi hu
      split at h
      · rename_i z hz
        cases hlt : i'.blt k <;> simp only [hlt, cond_true, cond_false] at h
        · cases h
        simp only [Option.some.injEq] at h
        subst h
        have hlt : i' < k := by have := hlt; simp [Nat.blt] at this; omega
        obtain ⟨b', o', p, heq, hb, h2⟩ := (hE x (by simp [Op.operands]) _ hx).ptr_inv
        cases heq
        have h5 := (hE i (by simp [Op.operands]) _ hi).int_inv
        obtain ⟨v', h3, h4⟩ := indexArr_sound (W := W) (q := q) hu hz hlt (o := o) hb
        exact ⟨v', by simp only [execOp, h2, h5]; exact value_run h3, h4⟩
      · cases h
    · rename_i g o q i' k el hx hi hu
      split at h
      · rename_i z hz
        cases hlt : i'.blt k <;> simp only [hlt, cond_true, cond_false] at h
        · cases h
        simp only [Option.some.injEq] at h
        subst h
        have hlt : i' < k := by have := hlt; simp [Nat.blt] at this; omega
        have h2 := (hE x (by simp [Op.operands]) _ hx).glob_inv
        have h5 := (hE i (by simp [Op.operands]) _ hi).int_inv
        obtain ⟨v', h3, h4⟩ := indexArr_sound (ρ := fun _ => some ⟨g, 0, none⟩) (W := W) (q := q) (b := 0) (p := ⟨g, 0, none⟩) hu hz hlt (o := o) rfl
        obtain ⟨_, _, p, heq, hp, rfl⟩ := h4.ptr_inv
        cases heq
        cases hp
        exact ⟨_, by simp only [execOp, h2, h5]; exact value_run h3, .glob g _⟩
      · cases h
    · rename_i b o sp k cp q i' el hx hi hu
      split at h
      · rename_i z hz
        cases hlt : i'.blt k <;> simp only [hlt, cond_true, cond_false] at h
        · cases h
        simp only [Option.some.injEq] at h
        subst h
        have hlt : i' < k := by have := hlt; simp [Nat.blt] at this; omega
        obtain ⟨a', c', h2, hsp, hcc, ⟨p, hρ, rfl, _⟩ | ⟨heq, hk, _⟩⟩ := (hE x (by simp [Op.operands]) _ hx).slice_inv
        · have h5 := (hE i (by simp [Op.operands]) _ hi).int_inv
          obtain ⟨v', h3, h4⟩ := indexSl_sound (W := W) (q := q) (c' := c') hu hz hlt (o := o) hρ
          exact ⟨v', by simp only [execOp, h2, h5]; exact value_run h3, h4⟩
        · omega
      · cases h
    · cases h
  | field t x f =>
    simp only at h
    split at h
    · rename_i c off ft hx hf
      obtain ⟨fs, F, hs, hF, rfl, rfl⟩ := fieldAt_sound hf
      have hv := hE x (by simp [Op.operands]) _ hx
      have hy : ∃ c', e x = .agg ⟨c'⟩ ∧ VRs ρ c c' := by
        generalize e x = y at hv
        cases hv with
        | flat v h => simp [Rf.flat] at h
        | ag c c' h => exact ⟨c', rfl, h⟩
      obtain ⟨c', hy, hc⟩ := hy
      obtain ⟨v', h1, h2⟩ := partA_sound (W := W) hc h
      refine ⟨v', ?_, h2⟩
      simp only [execOp, hy]
      refine value_run ?_
      simp only [Instr.field, Sem.run_bind, run_underlying hs W, Result.andThen_ok, hF, asAgg, Sem.run_pure, h1]
    · cases h
  | index t x i =>
    simp only at h
    split at h
    · rename_i c q i' k el hx hi hu
      split at h
      · rename_i z hz
        cases hlt : i'.blt k <;> simp only [hlt, cond_true, cond_false] at h
        · cases h
        have hlt : i' < k := by have := hlt; simp [Nat.blt] at this; omega
        have hv := hE x (by simp [Op.operands]) _ hx
        have h5 := (hE i (by simp [Op.operands]) _ hi).int_inv
        have hy : ∃ c', e x = .agg ⟨c'⟩ ∧ VRs ρ c c' := by
          generalize e x = y at hv
          cases hv with
          | flat v h => simp [Rf.flat] at h
          | ag c c' h => exact ⟨c', rfl, h⟩
        obtain ⟨c', hy, hc⟩ := hy
        obtain ⟨v', h1, h2⟩ := index_sound (W := W) (q := q) hu hz hlt hc h
        exact ⟨v', by simp only [execOp, hy, h5]; exact value_run h1, h2⟩
      · cases h
    · rename_i s q i' hx hi hu
      split at h
      · rename_i b r hd
        simp only [Option.some.injEq] at h
        subst h
        have h4 := VR.of_flat rfl (hE x (by simp [Op.operands]) _ hx)
        have h5 := (hE i (by simp [Op.operands]) _ hi).int_inv
        exact ⟨_, by simp only [execOp, h4, h5]; exact value_run (indexStr_sound hu hd), .flat _ rfl⟩
      · cases h
    · cases h
  | build t parts =>
    simp only at h
    have hpm : ∀ ps, evParts tm parts.toList = some ps → PRs ρ ps (parts.toList.map fun q => (q.1, e q.2)) := fun ps hps =>
      evParts_sound hE (fun y hy => by simp only [Op.operands]; simp; exact ⟨y.1, by simpa using hy⟩) hps
    have harr : (parts.map fun (i, x) => (i, e x)) = ⟨parts.toList.map fun q => (q.1, e q.2)⟩ := by apply Array.ext'; simp
    split at h
    · rename_i ps z fs hps hz hu
      cases hall : (fs.toList.all fun f => (P.info? f.type).isSome) <;> simp only [hall, Bool.not_false, Bool.not_true, cond_true, cond_false] at h
      · cases h
      split at h
      · rename_i c hc
        simp only [Option.some.injEq] at h
        subst h
        obtain ⟨v', h1, h2⟩ := build_sound (W := W) (hpm _ hps) hz (.inl ⟨fs, hu, hall, rfl⟩) hc
        exact ⟨v', by simp only [execOp, harr]; exact value_run h1, h2⟩
      · cases h
    · rename_i ps z k el hps hz hu
      split at h
      · rename_i k' hk
        split at h
        · rename_i c hc
          simp only [Option.some.injEq] at h
          subst h
          obtain ⟨v', h1, h2⟩ := build_sound (W := W) (hpm _ hps) hz (.inr ⟨k', el, k, hu, hk, rfl⟩) hc
          exact ⟨v', by simp only [execOp, harr]; exact value_run h1, h2⟩
        · cases h
      · cases h
    · cases h
  | extract t i =>
    simp only at h
    split at h
    · rename_i vs hx
      split at h
      · rename_i u us hd
        simp only [Option.some.injEq] at h
        subst h
        have hv := hE t (by simp [Op.operands]) _ hx
        have hy : ∃ c', e t = .tuple ⟨c'⟩ ∧ VRs ρ vs c' := by
          generalize e t = y at hv
          cases hv with
          | flat v h => simp [Rf.flat] at h
          | tu c c' h => exact ⟨c', rfl, h⟩
        obtain ⟨c', hy, hc⟩ := hy
        have hdr := hc.drop i
        rw [hd] at hdr
        generalize hq : c'.drop i = q at hdr
        cases hdr with
        | cons _ u' _ us' h1 h2 =>
          have h3 : (⟨c'⟩ : Array Value)[i]? = some u' := by
            have : (c'.drop i)[0]? = some u' := by rw [hq]; rfl
            rw [List.getElem?_drop] at this
            simpa using this
          exact ⟨u', by simp only [execOp, hy, Instr.extract, h3]; rfl, h1⟩
      · cases h
    · cases h
  | makeFunc fn f c =>
    simp only at h
    split at h
    · rename_i f' c' hf hc
      simp only [Option.some.injEq] at h
      subst h
      have h1 := evs_sound hE (l := f.toList) (fun x hx => by simp only [Op.operands]; simp; exact .inl (by simpa using hx)) hf
      have h2 := evs_sound hE (l := c.toList) (fun x hx => by simp only [Op.operands]; simp; exact .inr (by simpa using hx)) hc
      refine ⟨.func fn ⟨f.toList.map e⟩ ⟨c.toList.map e⟩, ?_, .fn _ _ _ _ _ h1 h2⟩
      have e1 : f.map e = ⟨f.toList.map e⟩ := by apply Array.ext'; simp
      have e2 : c.map e = ⟨c.toList.map e⟩ := by apply Array.ext'; simp
      simp only [execOp, Instr.makeFunc, e1, e2]
      rfl
    · cases h
  | slice t x lo hi mx =>
    simp only at h
    split at h
    · rename_i x' hx
      obtain ⟨v', h1, h2⟩ := sliceA_sound hw hE (lo := lo) (hi := hi) (mx := mx) (fun y hy => by subst hy; simp [Op.operands]) (fun y hy => by subst hy; simp [Op.operands]) (fun y hy => by subst hy; simp [Op.operands]) (hE x (by simp [Op.operands]) _ hx) h
      exact ⟨v', value_run h1, h2⟩
    · cases h
  | makeInterface t x =>
    simp only at h
    split at h
    · cases h
    · rename_i v0 d hn hx hu
      simp only [Option.some.injEq] at h
      subst h
      refine ⟨.iface t (e x), ?_, .ifc _ _ _ (hE x (by simp [Op.operands]) _ hx)⟩
      simp only [execOp]
      refine value_run ?_
      simp only [Instr.makeInterface, Sem.run_bind, run_underlying hu W, Result.andThen_ok]
      cases d <;> first | rfl | (simp_all; done)
    · cases h
  | binOp op t x y yt =>
    simp only at h
    split at h
    · rename_i a b ha hb
      have h1 := hE x (by simp [Op.operands]) _ ha
      have h2 := hE y (by simp [Op.operands]) _ hb
      cases hp : (plain a && plain b) <;> simp only [hp, cond_true, cond_false] at h
      · split at h
        · rename_i r heq
          simp only [Option.some.injEq] at h
          subst h
          have := (eqA_sound h1 h2 heq x y W).1
          exact ⟨_, by simp only [execOp]; exact value_run this, .flat _ rfl⟩
        · rename_i r heq
          simp only [Option.some.injEq] at h
          subst h
          have := (eqA_sound h1 h2 heq x y W).2
          exact ⟨_, by simp only [execOp]; exact value_run this, .flat _ rfl⟩
        · split at h
          · rename_i heq2
            simp only [Option.some.injEq] at h
            subst h
            have := eqP_sound h1 h2 heq2 x y W
            exact ⟨_, by simp only [execOp]; exact value_run this, .flat _ rfl⟩
          · cases h
        · cases h
      · simp only [Bool.and_eq_true] at hp
        have e1 := h1.of_plain hp.1
        have e2 := h2.of_plain hp.2
        obtain ⟨h3, h4⟩ := pureV_run (ρ := ρ) W h
        exact ⟨v, by simp only [execOp, e1, e2]; exact value_run h3, h4⟩
    · cases h
  | unOp op t x =>
    simp only at h
    split at h
    · rename_i a ha
      have h1 := hE x (by simp [Op.operands]) _ ha
      cases hp : plain a <;> simp only [hp, cond_true, cond_false] at h
      · cases h
      have e1 := h1.of_plain hp
      obtain ⟨h3, h4⟩ := pureV_run (ρ := ρ) W h
      exact ⟨v, by simp only [execOp, e1]; exact value_run h3, h4⟩
    · cases h
  | convert src dst x =>
    simp only at h
    split at h
    · rename_i l c el hx hs hd
      split at h
      · rename_i he
        simp only [Option.some.injEq] at h
        subst h
        have e1 := VR.of_flat rfl (hE x (by simp [Op.operands]) _ hx)
        refine ⟨_, ?_, .flat _ rfl⟩
        simp only [execOp, e1]
        refine value_run ?_
        simp [convert, run_underlying hs, run_underlying hd, run_underlying he, Conv.bytesToString]
      · cases h
    · rename_i a len c el hx hs hd
      split at h
      · rename_i cs he hc
        split at h
        · rename_i l hl
          simp only [Option.some.injEq] at h
          subst h
          exact ⟨_, value_run (bytesStr_sound hs he hd hw (hE x (by simp [Op.operands]) _ hx) hc hl), .flat _ rfl⟩
        · cases h
      · cases h
    · rename_i b o t hx hs hd
      split at h
      · rename_i cs es el hg
        cases hc : (o.blt cs.length && (P.info? t).isSome && !(P.cellsOf t).beq 0) <;> simp only [hc, cond_true, cond_false] at h
        · cases h
        simp only [Bool.and_eq_true, Bool.not_eq_true'] at hc
        simp only [Option.some.injEq] at h
        subst h
        have hv := hE x (by simp [Op.operands]) _ hx
        obtain ⟨_, _, p, e1, hp, hex⟩ := hv.ptr_inv
        simp only [Addr.mk.injEq] at e1
        obtain ⟨rfl, rfl, _⟩ := e1
        obtain ⟨_, _, _, _, _, hroom⟩ := hw.cells _ _ _ _ hp hg
        obtain ⟨N, _, _, hsh, hx2⟩ := hroom _ _ _ rfl
        obtain ⟨hsh0, hN⟩ := hx2 rfl
        obtain ⟨j, hj, hjs⟩ := info_of_cells hc.2
        have hol : o < cs.length := Nat.le_of_ble_eq_true hc.1.1
        refine ⟨e x, ?_, hv⟩
        simp only [execOp, hex]
        exact value_run (Lib.run_to_unsafe W _ hs hd hj hjs hsh (by simp only; omega))
      · cases h
    · rename_i b o u hx hs hd
      split at h
      · rename_i cs es el hg
        cases hc : ((P.info? u).isSome && liesAt P P.depth el (cs.length / P.cellsOf el) o u 1) <;> simp only [hc, cond_true, cond_false] at h
        · cases h
        simp only [Bool.and_eq_true] at hc
        simp only [Option.some.injEq] at h
        subst h
        have hv := hE x (by simp [Op.operands]) _ hx
        obtain ⟨_, _, p, e1, hp, hex⟩ := hv.ptr_inv
        simp only [Addr.mk.injEq] at e1
        obtain ⟨rfl, rfl, _⟩ := e1
        obtain ⟨_, _, _, _, _, hroom⟩ := hw.cells _ _ _ _ hp hg
        obtain ⟨N, _, _, hsh, hx2⟩ := hroom _ _ _ rfl
        obtain ⟨hsh0, hN⟩ := hx2 rfl
        obtain ⟨j, hj⟩ := Option.isSome_iff_exists.1 hc.1
        refine ⟨e x, ?_, hv⟩
        simp only [execOp, hex]
        exact value_run (Lib.run_from_unsafe W _ hs hd hj hsh (by subst hN; simpa [hsh0] using hc.2))
      · cases h
    · rename_i a ha _ _ _ _
      cases hp : plain a <;> simp only [hp, cond_true, cond_false] at h
      · cases h
      have e1 := (hE x (by simp [Op.operands]) _ ha).of_plain hp
      obtain ⟨h3, h4⟩ := pureV_run (ρ := ρ) W h
      exact ⟨v, by simp only [execOp, e1]; exact value_run h3, h4⟩
    · cases h
  | call c =>
    obtain ⟨callee, args, ats⟩ := c
    cases callee with
    | builtin b =>
      have hops : ∀ x ∈ args.toList, x ∈ (Op.call ⟨.builtin b, args, ats⟩).operands := fun x hx => by simp [Op.operands, Call.operands]; simpa using hx
      have harr : args.map e = ⟨args.toList.map e⟩ := by apply Array.ext'; simp
      simp only at h
      have hrun : (execOp e ⟨dst, .call ⟨.builtin b, args, ats⟩, type, pos, after, guard⟩).run P W = (builtin b ats type (args.map fun | .const _ => true | _ => false) ⟨args.toList.map e⟩).run P W := by
        rw [← harr]; exact resolve_builtin ⟨.builtin b, args, ats⟩ b rfl type W
      rw [hrun]
      split at h
      · rename_i x hxs
        have hv := evs_sound hE hops hxs
        split at h
        · rename_i t ht
          generalize args.toList.map e = q at hv
          cases hv with
          | cons _ x' _ _ hx hn =>
            cases hn
            obtain ⟨h1, h2⟩ := len_sound (ty := type) (W := W) ht hx h
            exact ⟨v, value_run h1, h2⟩
        · cases h
      · rename_i x hxs
        have hv := evs_sound hE hops hxs
        split at h
        · rename_i t ht
          generalize args.toList.map e = q at hv
          cases hv with
          | cons _ x' _ _ hx hn =>
            cases hn
            obtain ⟨h1, h2⟩ := cap_sound (ty := type) (W := W) ht hx h
            exact ⟨v, value_run h1, h2⟩
        · cases h
      · rename_i l c hxs
        have hv := evs_sound hE hops hxs
        simp only [Option.some.injEq] at h
        subst h
        generalize args.toList.map e = q at hv
        cases hv with
        | cons _ x' _ _ hx hn =>
          cases hn
          rw [VR.of_flat rfl hx]
          exact ⟨_, value_run (Lib.run_unsafeSliceData_nil W ats type l c), .flat _ rfl⟩
      · rename_i b o sp l c hxs
        have hv := evs_sound hE hops hxs
        cases hc : c.beq 0 <;> simp only [hc, cond_true, cond_false] at h
        · simp only [Option.some.injEq] at h
          subst h
          generalize args.toList.map e = q at hv
          cases hv with
          | cons _ x' _ _ hx hn =>
            cases hn
            obtain ⟨a', c', rfl, _, hcc, ⟨p, hρ, rfl, _⟩ | ⟨_, _, rfl⟩⟩ := hx.slice_inv
            · have hc0 : c ≠ 0 := by intro e; rw [e] at hc; cases hc
              exact ⟨_, value_run (Lib.run_unsafeSliceData_row W ats type _ l c' (by omega)), .ptr b o p hρ⟩
            · cases hc
        · cases h
      · rename_i xs hxs
        have hv := evs_sound hE hops hxs
        cases hp : xs.all Rf.flat <;> simp only [hp, cond_true, cond_false] at h
        · cases h
        rw [VRs.of_flat hp hv]
        obtain ⟨h3, h4⟩ := pureV_run (ρ := ρ) W h
        exact ⟨v, value_run h3, h4⟩
      · rename_i xs hxs
        have hv := evs_sound hE hops hxs
        cases hp : xs.all Rf.flat <;> simp only [hp, cond_true, cond_false] at h
        · cases h
        rw [VRs.of_flat hp hv]
        obtain ⟨h3, h4⟩ := pureV_run (ρ := ρ) W h
        exact ⟨v, value_run h3, h4⟩
      · cases h
    | _ => cases h
  | _ => cases h
end Go.Proofs.YtgpnfdeneagdbaaGreat.Rf
