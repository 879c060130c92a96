/- Slices of whole numbers, of bytes above all: what they hold; cut, read as text, set. -/
import Derived.Test.YthangjgdjhhfgaaGreatDoorOwn
import Derived.Laws.BytesArg
namespace Go.Proofs.YthangjgdjhhfgaaGreatDoor
open Go.RowKit
set_option linter.unusedVariables false

/-- The slice (a, L.length, cap) holds L. -/
structure Sl (kd : IntKind) (w : World) (a : Option Addr) (cap : Nat) (L : List Int) : Prop where
  ints : IntsAt kd w a L
  nul : a = none → cap = 0
  le : L.length ≤ cap
  max : cap ≤ maxLen

section
variable {kd : IntKind} {w w' : World} {a : Option Addr} {cap : Nat} {L : List Int}
theorem Sl.below (h : Sl kd w a cap L) (hb : Below w.heap.size w w') : Sl kd w' a cap L := ⟨h.ints.below hb, h.nul, h.le, h.max⟩
theorem Sl.only {S : Nat → Prop} (h : Sl kd w a cap L) (hb : Only S w w') (hs : ∀ x, a = some x → 0 < L.length → ¬ S x.block) : Sl kd w' a cap L := ⟨h.ints.only hb hs, h.nul, h.le, h.max⟩
theorem Sl.src (h : Sl kd w a cap L) : SrcAt w a L.length cap 1 (L.map (Value.int kd)) := SrcAt.ints h.ints h.nul
theorem Sl.wf (h : Sl kd w a cap L) : ∀ n ∈ L, (Lit.int kd n).wf = true := h.ints.wf
theorem Sl.nil (kd : IntKind) (w : World) : Sl kd w none 0 [] := ⟨IntsAt.nil _ _ _, fun _ => rfl, by simp, by simp⟩
theorem Sl.len (h : Sl kd w a cap L) : L.length ≤ maxLen := Nat.le_trans h.le h.max
theorem Sl.cut (h : Sl kd w a cap L) (l m : Nat) (h1 : l ≤ m) (h2 : m ≤ L.length) : Sl kd w (if cap = l then a else a.map (·.add (l * 1))) (cap - l) ((L.drop l).take (m - l)) := by
  have hle := h.le
  refine ⟨fun i hi => ?_, fun ha => ?_, ?_, Nat.le_trans (Nat.sub_le _ _) h.max⟩
  · simp at hi
    obtain ⟨b, off, rfl, hb, hc, hw⟩ := h.ints (l + i) (by omega)
    have hne : cap ≠ l := by omega
    have e : ((L.drop l).take (m - l)).getD i 0 = L.getD (l + i) 0 := by
      simp only [List.getD_eq_getElem?_getD]
      rw [List.getElem?_take_of_lt (by omega), List.getElem?_drop]
    refine ⟨b, off + l, ?_, hb, ?_, ?_⟩
    · rw [if_neg hne]; simp [addr_add]
    · rw [e, Nat.add_assoc]; exact hc
    · rw [e]; exact hw
  · have : a = none := by
      split at ha
      · exact ha
      · exact Option.map_eq_none_iff.1 ha
    rw [h.nul this]; omega
  · simp; omega
theorem Sl.cut_block (l : Nat) (x : Addr) (hx : (if cap = l then a else a.map (·.add (l * 1))) = some x) : ∃ y, a = some y ∧ x.block = y.block := by
  split at hx
  · exact ⟨x, hx, rfl⟩
  · obtain ⟨y, h1, h2⟩ := Option.map_eq_some_iff.1 hx
    refine ⟨y, h1, ?_⟩
    subst h2
    unfold Addr.add
    split <;> rfl
/-- A slice of the call's own, as what it holds. -/
theorem OwnS.sl {base : Nat} {e : TypeId} {n : Nat} (h : OwnS w base e 1 a n cap (L.map (Value.int kd))) (hw : ∀ x ∈ L, (Lit.int kd x).wf = true) : n = L.length ∧ Sl kd w a cap L := by
  obtain ⟨h1, h2⟩ := h.ints hw
  exact ⟨h1, h2, fun ha => (h.none_of ha).2, by rw [← h1]; exact h.caps.1, h.caps.2⟩
/-- One cell of it is set. -/
theorem OwnS.set {base : Nat} {e : TypeId} {n : Nat} {xs : List Value} (h : OwnS w base e 1 a n cap xs) (g : Nat) (ha : a = some ⟨g, 0, none⟩) (i : Nat) (v : Value) : OwnS (w.setCell ⟨g, i, none⟩ v) base e 1 a n cap (xs.set i v) := by
  obtain ⟨hl, h2⟩ := h
  refine ⟨by simpa using hl, ?_⟩
  rcases h2 with ⟨h1, h3⟩ | ⟨g', c, cur, h1, h3, h4, h5, h6, h7, h8⟩
  · rw [ha] at h1; cases h1
  · rw [ha] at h1
    cases h1
    have hb : Blk w g cur e := h4
    refine .inr ⟨g, cap, _, by rw [ha], h3, hb.set i v, h5, h6, by simpa using h7, ?_⟩
    rw [← h8]
    simp [List.take_set]
end

section
variable {P : Program} {ops : Array Oper} {rest : List Oper} {o : Oper} {a : Act} {w : World} {Q : Exit → Act → World → Prop}

theorem stop_cut {d : Option Tmp} {t : TypeId} {x : Operand} {lo hi mx : Option Operand} {ty : TypeId} {pos : String} {aft : Array Edge} {g : Option (Nat × Bool)}
    (h : Stop (wpList P ops Q (⟨d, .slice t x lo hi mx, ty, pos, aft, g⟩ :: rest) a w)) : wpList P ops Q (⟨d, .slice t x lo hi mx, ty, pos, aft, g⟩ :: rest) a w := h

theorem ET.elem {t e : TypeId} {size bytes : Nat} (h : ET P t e size bytes) : P.underlying t = some (.slice (P.elem t)) ∧ ∀ w : World, (sizeOf (P.elem t)).run P w = .ok size w := by
  obtain ⟨i, z, ht, hi, hz, h1, h2, h3, h4⟩ := h
  have he : P.elem t = e := by simp [Program.elem, ht]
  rw [he]
  exact ⟨ht, fun w => by rw [run_sizeOf w hi]; simp [Program.cellsOf, hi, h1]⟩

theorem wpList_cut {kd : IntKind} {t e : TypeId} {bytes : Nat} (hE : ET P t e 1 bytes) (hgd : o.guard = none) {x lo hi : Operand} (ho : o.op = .slice t x (some lo) (some hi) none)
    {av : Option Addr} {n cap : Nat} {L : List Int} {kl kh : IntKind} {li hj : Int} (hx : a.eval x = .slice av n cap) (hlo : a.eval lo = .int kl li) (hhi : a.eval hi = .int kh hj)
    (hs : Sl kd w av cap L) (l m : Nat) (e1 : li = l) (e2 : hj = m) (h1 : l ≤ m) (h2 : m ≤ L.length)
    (h : ∀ a', Sl kd w a' (cap - l) ((L.drop l).take (m - l)) → (∀ y, a' = some y → ∃ z, av = some z ∧ y.block = z.block) → wpList P ops Q rest (a.put o.dst (.slice a' (m - l) (cap - l))) w) : wpList P ops Q (o :: rest) a w := by
  refine wpList_plain hgd fun K hK' => ?_
  have hk := h _ (hs.cut l m h1 h2) (fun y hy => Sl.cut_block l y hy)
  have hle := hs.le
  subst e1 e2
  unfold Oper.wp
  obtain ⟨ht, hz⟩ := hE.elem
  have hr : (Instr.sliceAt t (.slice av n cap) (some (.int kl l)) (some (.int kh m)) none).run P w = .ok (sliced av l m cap 1) w := by
    rw [run_sliceAt_slice (h := ht), run_slice_lh (ht := ht) (h0 := by omega) (h1 := by omega) (h2 := by omega), hz]
    simp [Result.andThen]
  simp [execOp, ho, hx, hlo, hhi, hr, Result.andThen, sliced]
  exact hK' _ _ (by simpa using hk)
theorem wpList_cut_h {kd : IntKind} {t e : TypeId} {bytes : Nat} (hE : ET P t e 1 bytes) (hgd : o.guard = none) {x hi : Operand} (ho : o.op = .slice t x none (some hi) none)
    {av : Option Addr} {n cap : Nat} {L : List Int} {kh : IntKind} {hj : Int} (hx : a.eval x = .slice av n cap) (hhi : a.eval hi = .int kh hj)
    (hs : Sl kd w av cap L) (m : Nat) (e2 : hj = m) (h2 : m ≤ L.length)
    (h : ∀ a', Sl kd w a' cap (L.take m) → (∀ y, a' = some y → ∃ z, av = some z ∧ y.block = z.block) → wpList P ops Q rest (a.put o.dst (.slice a' m cap)) w) : wpList P ops Q (o :: rest) a w := by
  refine wpList_plain hgd fun K hK' => ?_
  have hk := h _ (by simpa using hs.cut 0 m (by omega) h2) (fun y hy => Sl.cut_block 0 y (by simpa using hy))
  have hle := hs.le
  subst e2
  unfold Oper.wp
  obtain ⟨ht, hz⟩ := hE.elem
  have hr : (Instr.sliceAt t (.slice av n cap) none (some (.int kh m)) none).run P w = .ok (sliced av 0 m cap 1) w := by
    rw [run_sliceAt_slice (h := ht), run_slice_h (ht := ht) (h0 := by omega) (h2 := by omega), hz]
    simp [Result.andThen]
  simp [execOp, ho, hx, hhi, hr, Result.andThen, sliced]
  exact hK' _ _ (by simpa using hk)
theorem wpList_cut_l {kd : IntKind} {t e : TypeId} {bytes : Nat} (hE : ET P t e 1 bytes) (hgd : o.guard = none) {x lo : Operand} (ho : o.op = .slice t x (some lo) none none)
    {av : Option Addr} {n cap : Nat} {L : List Int} {kl : IntKind} {li : Int} (hx : a.eval x = .slice av n cap) (hlo : a.eval lo = .int kl li) (hn : n = L.length)
    (hs : Sl kd w av cap L) (l : Nat) (e1 : li = l) (h1 : l ≤ L.length)
    (h : ∀ a', Sl kd w a' (cap - l) (L.drop l) → (∀ y, a' = some y → ∃ z, av = some z ∧ y.block = z.block) → wpList P ops Q rest (a.put o.dst (.slice a' (L.drop l).length (cap - l))) w) : wpList P ops Q (o :: rest) a w := by
  refine wpList_plain hgd fun K hK' => ?_
  have e3 : (L.drop l).take (L.length - l) = L.drop l := List.take_of_length_le (by simp)
  have hk := h _ (by have := hs.cut l L.length h1 (Nat.le_refl _); rw [e3] at this; exact this) (fun y hy => Sl.cut_block l y hy)
  have hle := hs.le
  subst e1 hn
  unfold Oper.wp
  obtain ⟨ht, hz⟩ := hE.elem
  have hr : (Instr.sliceAt t (.slice av L.length cap) (some (.int kl l)) none none).run P w = .ok (sliced av l L.length cap 1) w := by
    rw [run_sliceAt_slice (h := ht), run_slice_l (ht := ht) (h0 := by omega) (h1 := by omega), hz]
    simp [Result.andThen]
  simp [execOp, ho, hx, hlo, hr, Result.andThen, sliced]
  exact hK' _ _ (by simpa using hk)

theorem stop_str {d : Option Tmp} {src dst : TypeId} {x : Operand} {ty : TypeId} {pos : String} {aft : Array Edge} {g : Option (Nat × Bool)}
    (h : Stop (wpList P ops Q (⟨d, .convert src dst x, ty, pos, aft, g⟩ :: rest) a w)) : wpList P ops Q (⟨d, .convert src dst x, ty, pos, aft, g⟩ :: rest) a w := h

theorem wpList_str {src dst e : TypeId} (hsrc : P.underlying src = some (.slice e)) (he : P.underlying e = some (.int .u8)) (hd : P.underlying dst = some .string) (hgd : Region.wanted o (yielded ops a.tmps) = true) {x : Operand} (ho : o.op = .convert src dst x)
    {av : Option Addr} {n cap : Nat} {L : List Int} (hx : a.eval x = .slice av n cap) (hn : n = L.length) (hs : IntsAt .u8 w av L)
    (h : wpList P ops Q rest (a.put o.dst (.string (strOfNums L))) w) : wpList P ops Q (o :: rest) a w := by
  refine BigFrame.wpList_want hgd fun K hK' => ?_
  have hr : (convert src dst (.slice av n cap)).run P w = .ok (.string (strOfNums L)) w := by
    cases L with
    | nil =>
      cases av with
      | none => exact run_convert_bytes_nil w src e hsrc he n cap dst hd
      | some y =>
        obtain ⟨b, off, sp⟩ := y
        subst hn
        rw [run_convert_bytes_string w src dst e _ _ cap hsrc he hd]
        have := run_bytesToString (P := P) w ⟨b, off, sp⟩ 0 cap [] (by simp [loadCells, loadCellsFrom, Sem.run_pure])
        simp only [List.foldl_nil] at this
        exact this
    | cons z L =>
      obtain ⟨b, off, rfl, _⟩ := hs 0 (by simp)
      exact run_convert_bytes_arg w src e hsrc he b off n cap (z :: L) hn.symm (fun i hi => by
        obtain ⟨b', off', h1, _, h2, _⟩ := hs i (by omega)
        cases h1; exact h2) dst hd
  unfold Oper.wp
  simp [execOp, ho, hx, hr, Result.andThen]
  exact hK' _ _ h
end

section
variable {P : Program} {ops : Array Oper} {rest : List Oper} {o : Oper} {a : Act} {w : World} {Q : Exit → Act → World → Prop}
/-- A text is itself. -/
theorem wpList_same {t ty : TypeId} (hgd : Region.wanted o (yielded ops a.tmps) = true) {x y : Operand} (ho : o.op = .binOp .eql t x y ty) {s : ByteArray} (hx : a.eval x = .string s) (hy : a.eval y = .string s)
    (h : wpList P ops Q rest (a.put o.dst (.bool true)) w) : wpList P ops Q (o :: rest) a w := by
  refine BigFrame.wpList_want hgd fun K hK' => ?_
  have hr : binOp .eql t (.string s) (.string s) = pure (.bool true) := by rw [binOp_string_eql]; simp only [BEq.rfl]
  have hr2 : eqGuard .eql t x y (.string s) (.string s) = pure () := eqGuard_at_string ..
  unfold Oper.wp
  simp only [execOp, ho, hx, hy, hr, hr2]
  simp []
  exact hK' _ _ h
/-- The greater of two numbers, in the prover's own words. -/
theorem wpList_max {ts : Array TypeId} (hgd : Region.wanted o (yielded ops a.tmps) = true) {x y : Operand} (ho : o.op = .call { callee := .builtin .max, args := #[x, y], argTypes := ts }) {k k' : IntKind} {i j : Int} (v : Int) (hx : a.eval x = .int k i) (hy : a.eval y = .int k' j) (hv : v = max i j)
    (h : wpList P ops Q rest (a.put o.dst (.int k v)) w) : wpList P ops Q (o :: rest) a w := by
  refine BigFrame.wpList_want hgd fun K hK' => ?_
  have hr : (Builtin.max_ ts o.type #[.int k i, .int k' j]).run P w = .ok (.int k v) w := by rw [hv]; exact run_max2 P ts _ k k' i j w
  obtain ⟨d, op, ty, pos, aft, g⟩ := o
  simp only at ho hr
  subst ho
  unfold Oper.wp
  simp [BigFrame.execOp_builtin, BigFrame.builtin_max, hx, hy, hr, Result.andThen]
  exact hK' _ _ h
theorem stop_max {d : Option Tmp} {xs : Array Operand} {ts : Array TypeId} {ty : TypeId} {pos : String} {aft : Array Edge} {g : Option (Nat × Bool)}
    (h : Stop (wpList P ops Q (⟨d, .call { callee := .builtin .max, args := xs, argTypes := ts }, ty, pos, aft, g⟩ :: rest) a w)) : wpList P ops Q (⟨d, .call { callee := .builtin .max, args := xs, argTypes := ts }, ty, pos, aft, g⟩ :: rest) a w := h
theorem wpList_unsame {t ty : TypeId} (hgd : Region.wanted o (yielded ops a.tmps) = true) {x y : Operand} (ho : o.op = .binOp .neq t x y ty) {s : ByteArray} (hx : a.eval x = .string s) (hy : a.eval y = .string s)
    (h : wpList P ops Q rest (a.put o.dst (.bool false)) w) : wpList P ops Q (o :: rest) a w := by
  refine BigFrame.wpList_want hgd fun K hK' => ?_
  have hr : binOp .neq t (.string s) (.string s) = pure (.bool false) := by rw [binOp_string_neq]; simp only [BEq.rfl, Bool.not_true]
  have hr2 : eqGuard .neq t x y (.string s) (.string s) = pure () := eqGuard_at_string ..
  unfold Oper.wp
  simp only [execOp, ho, hx, hy, hr, hr2]
  simp []
  exact hK' _ _ h
end

theorem str_append (L M : List Int) : strOfNums L ++ strOfNums M = strOfNums (L ++ M) := by
  apply ByteArray.ext
  simp [strOfNums, ByteArray.data_append]

end Go.Proofs.YthangjgdjhhfgaaGreatDoor
