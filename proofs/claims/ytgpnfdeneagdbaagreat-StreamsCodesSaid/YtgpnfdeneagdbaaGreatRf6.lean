/- The machine's makers: operations that lay a new block. -/
import Derived.Test.YtgpnfdeneagdbaaGreatRf5
import Derived.Laws.IdiomStrings
import Derived.Laws.MakeOwn
namespace Go.Proofs.YtgpnfdeneagdbaaGreat.Rf
open Go Go.RowKit
set_option linter.unusedVariables false
set_option linter.unusedSimpArgs false

variable {P : Program} {ρ : Ren} {W0 W W' : World} {hp hp' : Tr Blk} {n : Nat} {tm : Tr Value} {e : Operand → Value}

theorem rep_get (z : List Value) (hz : 0 < z.length) : ∀ (k j : Nat), j < k * z.length → (rep k z)[j]? = z[j % z.length]?
  | 0, j, h => by simp at h
  | k + 1, j, h => by
    unfold rep
    rw [Nat.add_mul, Nat.one_mul] at h
    by_cases h1 : j < z.length
    · rw [List.getElem?_append_left h1, Nat.mod_eq_of_lt h1]
    · rw [List.getElem?_append_right (by omega), rep_get z hz k (j - z.length) (by omega)]
      congr 1
      exact (Nat.mod_eq_sub_mod (by omega)).symm

theorem rep_length (z : List Value) : ∀ k, (rep k z).length = k * z.length
  | 0 => by simp [rep]
  | k + 1 => by simp [rep, rep_length z k, Nat.add_mul]; omega

theorem rep_all (z : List Value) (f : Value → Bool) (h : z.all f = true) : ∀ k, (rep k z).all f = true
  | 0 => rfl
  | k + 1 => by simp only [rep, List.all_append, h, rep_all z f h k, Bool.and_self]

theorem flat_one {v : Value} (h : Rf.flat v = true) : Rf.one v = true := by cases v <;> simp_all [Rf.flat, Rf.one]
theorem flat_all_one {z : List Value} (h : z.all Rf.flat = true) : z.all Rf.one = true := by
  rw [List.all_eq_true] at h ⊢; exact fun v hv => flat_one (h v hv)

/-- the zero cells of a row -/
theorem range_rep (z : List Value) (hz : 0 < z.length) (k : Nat) : (Array.range (k * z.length)).map (fun i => (⟨z⟩ : Array Value)[i % (⟨z⟩ : Array Value).size]!) = ⟨rep k z⟩ := by
  apply Array.ext'
  apply List.ext_getElem?
  intro j
  simp only [Array.toList_map, Array.toList_range, List.getElem?_map]
  by_cases hj : j < k * z.length
  · rw [List.getElem?_range hj, rep_get z hz k j hj]
    have hm : j % z.length < z.length := Nat.mod_lt _ hz
    simp [hm]
  · rw [List.getElem?_eq_none (by simpa using hj), List.getElem?_eq_none (by rw [rep_length]; omega)]
    rfl

theorem zeroCells_rep (z : List Value) (hz : 0 < z.length) (k : Nat) : Builtin.zeroCells ⟨z⟩ k = ⟨rep k z⟩ := range_rep z hz k

/-- what a new row of cells gives -/
theorem new_row {V : World} {c' rest : List Value} {t : TypeId} {fz : Nat × Nat} (hf : fz = (0, 0) ∨ (c' ++ rest).length ≤ fz.1) :
    Below V.heap.size V (V.alloc (.cells ⟨c' ++ rest⟩ t fz)) ∧ (V.alloc (.cells ⟨c' ++ rest⟩ t fz)).rangeAt V.heap.size 0 c' ∧ (V.alloc (.cells ⟨c' ++ rest⟩ t fz)).there V.heap.size 0 (c' ++ rest).length := by
  have hcell : ∀ o, (V.alloc (.cells ⟨c' ++ rest⟩ t fz)).cell? ⟨V.heap.size, o, none⟩ = (c' ++ rest)[o]? := fun o => by
    show (match (V.heap.push (.cells ⟨c' ++ rest⟩ t fz))[V.heap.size]? with | some (.cells c _ _) => if (none : Option Nat).isSome then none else c[o]? | _ => none) = _
    rw [Array.getElem?_push_size]
    simp
  refine ⟨(Below.refl _ _).alloc (Nat.le_refl _) _, fun j v hv => ?_, fun j hj => ⟨?_, ?_⟩⟩
  · rw [hcell]
    simp only [Nat.zero_add]
    rw [List.getElem?_append_left (List.getElem?_eq_some_iff.1 hv).1]
    exact hv
  · rw [hcell]
    simp only [Nat.zero_add]
    rw [List.getElem?_eq_getElem hj]
    rfl
  · show (match (V.heap.push (.cells ⟨c' ++ rest⟩ t fz))[V.heap.size]? with | some (.cells _ _ (lo, hi)) => decide (lo ≤ 0 + j) && decide (0 + j < hi) | _ => false) = false
    rw [Array.getElem?_push_size, Nat.zero_add]
    obtain ⟨lo, hi⟩ := fz
    rcases hf with hf | hf
    · cases hf; simp
    · simp only at hf
      simp only [Bool.and_eq_false_imp, decide_eq_true_eq, decide_eq_false_iff_not]
      intro; omega

theorem alloc_size (V : World) (o : Obj) : (V.alloc o).heap.size = V.heap.size + 1 := Array.size_push _
theorem alloc_new (V : World) (o : Obj) : (V.alloc o).heap[V.heap.size]? = some o := Array.getElem?_push_size

/-- a row of its own: the machine's block is bound to it -/
theorem bind_row (hw : WR W0 ρ hp n W) {b : Nat} (h0 : 0 < b) (hn : b < n) (hb : ρ b = none) {c : List Value} {g : Option Row} (hc : hp.get b = some (.cells c g)) {c' rest : List Value} (hcc : VRs ρ c c') (h1 : c.all Rf.one = true)
    {t : TypeId} {fz : Nat × Nat} (hf : fz = (0, 0) ∨ (c' ++ rest).length ≤ fz.1) {d : Nat} {room : Option (Nat × Nat)} (hr : ∀ es e x, g = some (es, e, x) → room = some ((c' ++ rest).length, es) ∧ e = t ∧ (x = true → rest = [])) :
    WR W0 (ρ.set b ⟨W.heap.size, 0, room⟩) hp n (World.alloc { W with drawn := d } (.cells ⟨c' ++ rest⟩ t fz)) := by
  have hd := hw.drew d
  obtain ⟨a1, a2, a3⟩ := new_row (V := { W with drawn := d }) (t := t) hf
  refine WR.bind hd h0 hn hb rfl (by rw [alloc_size]; exact Nat.lt_succ_self _) a1 (fun c2 g2 hc2 => ?_) (fun es k hm => ?_) (fun _ C e fz2 hC => ?_)
  · rw [hc] at hc2
    cases hc2
    refine ⟨c', hcc, a2, fun j hj => a3 j (by have := hcc.length; simp; omega), h1, fun es e x he => ?_⟩
    obtain ⟨r1, r2, r3⟩ := hr es e x he
    refine ⟨_, r1, a3, ?_, fun hx => ⟨rfl, by rw [r3 hx, List.append_nil]; exact hcc.length.symm⟩⟩
    have := alloc_new { W with drawn := d } (.cells ⟨c' ++ rest⟩ t fz)
    rw [show (({ W with drawn := d } : World).heap.size) = W.heap.size from rfl] at this
    unfold World.shape?
    rw [this, r2]
    rfl
  · rw [hc] at hm; cases hm
  · have := alloc_new { W with drawn := d } (.cells ⟨c' ++ rest⟩ t fz)
    rw [show (({ W with drawn := d } : World).heap.size) = W.heap.size from rfl] at this
    rw [this] at hC
    simp only [Option.some.injEq, Obj.cells.injEq] at hC
    obtain ⟨rfl, _, rfl⟩ := hC
    rcases hf with rfl | hf
    · exact .inl rfl
    · exact .inr hf

theorem bytesRow_eq (s : ByteArray) (cap : Nat) : ∃ rest, bytesRow s cap = ⟨(s.data.toList.map fun b => Value.int .u8 b.toNat) ++ rest⟩ := by
  refine ⟨List.replicate (cap - s.size) (.int .u8 0), ?_⟩
  unfold bytesRow
  apply Array.ext'
  simp

theorem bytes_flat (l : List UInt8) : (l.map fun b => Value.int .u8 (b.toNat : Int)).all Rf.flat = true := by
  rw [List.all_eq_true]
  intro v hv
  obtain ⟨b, _, rfl⟩ := List.mem_map.1 hv
  rfl

theorem bif_some {b : Bool} {y z : Blk × (Nat → Value)} (h : (bif b then some y else none) = some z) : y = z := by cases b <;> simp_all
theorem evN_ro {o : Oper} {x : Blk} {mk : Nat → Value} (h : evN P tm o = some (x, mk)) (c : List Value) : x ≠ .ro c := by
  rintro rfl
  unfold evN at h
  (repeat' split at h) <;> first | (cases h; done) | (have h2 := bif_some h; cases h2)
/-- THE MAKERS. -/
theorem evN_sound (o : Oper) (hw : WR W0 ρ hp n W) (hE : EV ρ tm e (· ∈ o.op.operands)) {x : Blk} {mk : Nat → Value} (h : evN P tm o = some (x, mk)) {b : Nat} (h0 : 0 < b) (hn : b < n) (hb : ρ b = none) (hx : hp.get b = some x) :
    ∃ v' W' p, (execOp e o).run P W = .ok (.value v') W' ∧ WR W0 (ρ.set b p) hp n W' ∧ VR (ρ.set b p) (mk b) v' := by
  obtain ⟨dst, op, type, pos, after, guard⟩ := o
  unfold evN at h
  simp only at hE h
  have hs : ∀ p, ρ.set b p b = some p := fun p => Ren.set_same _ _ _
  cases op with
  | alloc t =>
    simp only at h
    split at h
    · rename_i z hz
      simp only [Option.some.injEq, Prod.mk.injEq] at h
      obtain ⟨rfl, rfl⟩ := h
      obtain ⟨I, zv, hI, hzv, hzc, hzl, hsz, hfl⟩ := zeroOf_sound hz
      have hbind := bind_row hw h0 hn hb hx (VRs.flat hfl) (flat_all_one hfl) (rest := []) (t := t) (fz := (0, 0)) (.inl rfl) (d := W.drawn) (room := some ((z ++ []).length, z.length)) (fun es e x he => by cases he; exact ⟨rfl, rfl, fun _ => rfl⟩)
      rw [List.append_nil] at hbind
      refine ⟨_, _, _, ?_, hbind, .ptr' (hs _) rfl⟩
      simp only [execOp]
      refine (Sem.run_bind _ _ _ _).trans ?_
      simp only [Instr.alloc, Sem.run_bind, run_zero hI hzv W, Result.andThen_ok, newVar, newRow, hzc, run_newObj_alloc, Sem.run_pure]
    · cases h
  | box t y =>
    simp only at h
    split at h
    · rename_i v hv
      cases ho : (listOf v).all Rf.one <;> simp only [ho, cond_true, cond_false] at h
      · cases h
      simp only [Option.some.injEq, Prod.mk.injEq] at h
      obtain ⟨rfl, rfl⟩ := h
      have hvr := hE y (by simp [Op.operands]) v hv
      have hbind := bind_row hw h0 hn hb hx hvr.listOf ho (rest := []) (t := t) (fz := (0, 0)) (.inl rfl) (d := W.drawn) (room := none) (fun es e x he => by cases he)
      simp only [List.append_nil] at hbind
      refine ⟨_, _, _, ?_, hbind, .ptr' (hs _) rfl⟩
      have hcl : (e y).cells = ⟨listOf (e y)⟩ := by apply Array.ext'; rw [listOf_cells]
      simp only [execOp]
      refine (Sem.run_bind _ _ _ _).trans ?_
      simp only [Instr.box, Sem.run_bind, Result.andThen_ok, newVar, newRow, hcl, run_newObj_alloc, Sem.run_pure]
    · cases h
  | buildSlice t len parts =>
    simp only at h
    have hpm : ∀ ps, evParts tm parts.toList = some ps → PRs ρ ps (parts.toList.map fun q => (q.1, e q.2)) := fun ps hps =>
      evParts_sound hE (fun y hy => by simp only [Op.operands]; simp; exact ⟨y.1, by simpa using hy⟩) hps
    have harr : (parts.map fun (i, x) => (i, e x)) = ⟨parts.toList.map fun q => (q.1, e q.2)⟩ := by apply Array.ext'; simp
    split at h
    · rename_i ps el hps hu
      split at h
      · rename_i z k hz hk
        split at h
        · rename_i c hc
          cases ho : (c.all Rf.one && (len * k).ble 16777216) <;> simp only [ho, cond_true, cond_false] at h
          · cases h
          simp only [Option.some.injEq, Prod.mk.injEq] at h
          obtain ⟨rfl, rfl⟩ := h
          simp only [Bool.and_eq_true, Nat.ble_eq] at ho
          obtain ⟨I, zv, hI, hzv, hzc, hzl, hsz, hfl⟩ := zeroOf_sound hz
          obtain ⟨J, hJ, hJs, hJ0⟩ := esz_sound hk
          rw [hI] at hJ
          cases hJ
          have hzk : z.length = k := hzl.trans hJs
          obtain ⟨c', h1, h2⟩ := lay_sound (hpm _ hps) (VRs.flat (rep_all z _ hfl len)) hc
          have hbind := bind_row hw h0 hn hb hx h2 ho.1 (rest := []) (t := el) (fz := (0, 0)) (.inl rfl) (d := W.drawn) (room := none) (fun es e x he => by cases he)
          simp only [List.append_nil] at hbind
          refine ⟨_, _, _, ?_, hbind, .sl' (hs _) rfl⟩
          simp only [execOp, harr]
          refine (Sem.run_bind _ _ _ _).trans ?_
          have hti : (typeInfo el).run P W = .ok I W := by simp [typeInfo, program, Sem.run, hI]
          by_cases h3 : len * k = 0
          · have hl0 : len = 0 := by rcases Nat.mul_eq_zero.1 h3 with h | h <;> omega
            subst hl0
            have h1' : Instr.fill (fun i => some (i * k, k)) #[] (parts.toList.map fun q => (q.1, e q.2)) = some ⟨c'⟩ := h1
            simp [Instr.buildSlice, run_underlying hu, sizeOf, hti, newRow, hJs, h1', Array.range_zero']
          · have hrow := range_rep z (by omega) len
            rw [hzk] at hrow
            simp only [Instr.buildSlice, Sem.run_bind, run_underlying hu W, Result.andThen_ok, run_sizeOf_info hI W, hJs]
            rw [if_neg (by omega), if_neg h3]
            simp only [Sem.run_bind, Sem.run_pure, Result.andThen_ok, pure_bind, run_zero hI hzv W, hzc, hrow, h1, newRow, run_newObj_alloc]
        · cases h
      · cases h
    · cases h
  | makeSlice t l c =>
    simp only at h
    split at h
    · rename_i q l' q' c' el hl hc hu
      split at h
      · rename_i z k hz hk
        cases ho : (l'.ble c' && c'.ble 1000000 && (P.bytesOf el * c').ble 140737488355328) <;> simp only [ho, cond_true, cond_false] at h
        · cases h
        simp only [Option.some.injEq, Prod.mk.injEq] at h
        obtain ⟨rfl, rfl⟩ := h
        simp only [Bool.and_eq_true, Nat.ble_eq] at ho
        obtain ⟨⟨o1, o2⟩, o3⟩ := ho
        obtain ⟨I, zv, hI, hzv, hzc, hzl, hsz, hfl⟩ := zeroOf_sound hz
        obtain ⟨J, hJ, hJs, hJ0⟩ := esz_sound hk
        rw [hI] at hJ
        cases hJ
        have hzk : z.length = k := hzl.trans hJs
        have e1 := (hE l (by simp [Op.operands]) _ hl).int_inv
        have e2 := (hE c (by simp [Op.operands]) _ hc).int_inv
        have hbind := bind_row hw h0 hn hb hx (VRs.flat (rep_all z _ hfl c')) (flat_all_one (rep_all z _ hfl c')) (rest := []) (t := el) (fz := (0, 0)) (.inl rfl) (d := W.drawn) (room := none) (fun es e x he => by cases he)
        simp only [List.append_nil] at hbind
        refine ⟨_, _, _, ?_, hbind, .sl' (hs _) rfl⟩
        have hby : P.bytesOf el = I.bytes := by simp [Program.bytesOf, hI]
        have hr := run_make (P := P) W t el I zv hu hI hzv q q' l' c' (by omega) (by omega) (by rw [← Int.natCast_mul, ← hby]; omega) (by omega)
        have hmc : madeCells zv.cells ((c' : Int).toNat * I.size) = ⟨rep c' z⟩ := by
          rw [hzc, Int.toNat_natCast, hJs, ← hzk]
          exact range_rep z (by omega) c'
        rw [hmc] at hr
        simp only [execOp, e1, e2]
        exact (Sem.run_bind _ _ _ _).trans (by rw [show (Int.ofNat l') = (l' : Int) from rfl, show (Int.ofNat c') = (c' : Int) from rfl, hr]; rfl)
      · cases h
    · cases h
  | makeMap t r =>
    cases r with
    | none =>
      simp only [Option.some.injEq, Prod.mk.injEq] at h
      obtain ⟨rfl, rfl⟩ := h
      refine ⟨.map (some W.heap.size), W.alloc (.map #[] 0), ⟨W.heap.size, 0, none⟩, ?_, ?_, .mp _ _ (hs _)⟩
      · simp [execOp, Instr.makeMap]
      · refine WR.bind hw h0 hn hb rfl (by rw [alloc_size]; exact Nat.lt_succ_self _) ((Below.refl _ _).alloc (Nat.le_refl _) _) (fun c g hc => by rw [hx] at hc; cases hc) (fun es k hm => ?_) (fun _ C e fz hC => by rw [alloc_new] at hC; cases hC)
        rw [hx] at hm
        cases hm
        exact ⟨[], .nil, alloc_new _ _⟩
    | some r => cases h
  | convert src dst2 y =>
    simp only at h
    split at h
    · rename_i s el hy hsrc hdst
      split at h
      · rename_i k he hk
        cases ho : k.beq 1 <;> simp only [ho, cond_true, cond_false] at h
        · cases h
        simp only [Option.some.injEq, Prod.mk.injEq] at h
        obtain ⟨rfl, rfl⟩ := h
        have e1 := VR.of_flat rfl (hE y (by simp [Op.operands]) _ hy)
        obtain ⟨rest, hrow⟩ := bytesRow_eq s (grownCap W s.size 0 el)
        have hrun := run_bytes_of_string (P := P) W src dst2 el s hsrc hdst he
        rw [hrow] at hrun
        have hsz : (⟨(s.data.toList.map fun b => Value.int .u8 (b.toNat : Int)) ++ rest⟩ : Array Value).size = ((s.data.toList.map fun b => Value.int .u8 (b.toNat : Int)) ++ rest).length := rfl
        have hbind := bind_row hw h0 hn hb hx (VRs.flat (bytes_flat s.data.toList)) (flat_all_one (bytes_flat s.data.toList)) (rest := rest) (t := el)
          (fz := ((⟨(s.data.toList.map fun b => Value.int .u8 (b.toNat : Int)) ++ rest⟩ : Array Value).size, (⟨(s.data.toList.map fun b => Value.int .u8 (b.toNat : Int)) ++ rest⟩ : Array Value).size + 1)) (.inr (Nat.le_refl _)) (d := W.drawn + 1)
          (room := some (((s.data.toList.map fun b => Value.int .u8 (b.toNat : Int)) ++ rest).length, 1)) (fun es e x he => by cases he; exact ⟨rfl, rfl, fun h => by cases h⟩)
        refine ⟨.slice (some ⟨W.heap.size, 0, none⟩) s.size (grownCap W s.size 0 el), _, _, ?_, hbind, ?_⟩
        rotate_left
        · have hcap : s.size ≤ grownCap W s.size 0 el := grownCap_ge _ _ _ _
          have hlen : ((s.data.toList.map fun b => Value.int .u8 (b.toNat : Int)) ++ rest).length = grownCap W s.size 0 el := by
            have := congrArg Array.size hrow
            rw [hsz] at this
            rw [← this]
            simp [bytesRow]
            have : s.data.size = s.size := rfl
            omega
          exact .slk b 0 s.size s.size (grownCap W s.size 0 el) _ 1 _ (hs _) rfl hcap (by simp only [hlen]; omega)
        · simp only [execOp, e1]
          exact (Sem.run_bind _ _ _ _).trans (by rw [hrun]; rfl)
      · cases h
    · cases h
  | _ => cases h
end Go.Proofs.YtgpnfdeneagdbaaGreat.Rf
