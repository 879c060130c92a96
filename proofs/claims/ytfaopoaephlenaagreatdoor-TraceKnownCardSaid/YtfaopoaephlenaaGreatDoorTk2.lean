/- Lines of events: plain Lean; the document's Words and Line. -/
import Derived.Test.YtfaopoaephlenaaGreatDoorTk1
import Derived.Test.YtfaopoaephlenaaGreatDoorTr2
namespace Go.Proofs.YtfaopoaephlenaaGreatDoor
open Go.RowKit
set_option linter.unusedVariables false

def wordsL : List UInt8 := [45, 32, 112, 104, 97, 115, 101, 32, 110, 117, 109, 98, 101, 114, 32, 104, 101, 97, 114, 100, 32, 103, 111, 110, 101, 32, 111, 112, 101, 110, 32, 119, 114, 111, 116, 101, 32, 114, 101, 97, 100, 32, 115, 104, 117, 116, 32, 119, 105, 110, 100, 111, 119, 32, 112, 116, 111]
def kwT : List (List UInt8) := [[112, 104, 97, 115, 101], [110, 117, 109, 98, 101, 114], [104, 101, 97, 114, 100], [103, 111, 110, 101], [111, 112, 101, 110], [119, 114, 111, 116, 101], [114, 101, 97, 100], [115, 104, 117, 116], [119, 105, 110, 100, 111, 119], [112, 116, 111]]
def kw : List (List UInt8) := [45] :: kwT
def rw_ : List (List UInt8) := [] :: kwT
theorem words_pcs : pcs 32 wordsL = kw := by decide
theorem kw_len (k : Nat) : (kw.getD k []).length ≤ 6 := by
  rcases Nat.lt_or_ge k 11 with h | h
  · have : ∀ k, k < 11 → (kw.getD k []).length ≤ 6 := by decide
    exact this k h
  · rw [List.getD_eq_getElem?_getD, List.getElem?_eq_none (by simpa [kw, kwT] using h)]; simp
def strCs (L : List (List UInt8)) : Array Value := (L.map fun p => Value.string (tx p)).toArray
theorem strCs_get (L : List (List UInt8)) (k : Nat) (h : k < L.length) : (strCs L)[k]? = some (.string (tx (L.getD k []))) := by
  simp [strCs, h]
def lineL (e : Ev) : List UInt8 := dig e.at_ ++ [32] ++ kw.getD e.kind [] ++ [32] ++ dig e.a ++ [32] ++ dig e.b
def goodK (k : Nat) : Bool := decide (1 ≤ k) && decide (k ≤ 10)
def lineV (e : Ev) : List UInt8 := bif goodK e.kind then lineL e else []
theorem lineL_len (e : Ev) (h : EvOk e) : (lineL e).length ≤ 75 := by
  have h1 := dig_len h.1
  have h2 := dig_len h.2.1
  have h3 := dig_len h.2.2.1
  have h4 := kw_len e.kind
  simp only [lineL, List.length_append, List.length_singleton]; omega
theorem rw_kw {k : Nat} (h : 1 ≤ k) : rw_.getD k [] = kw.getD k [] := by
  obtain ⟨k, rfl⟩ : ∃ m, k = m + 1 := ⟨k - 1, by omega⟩
  rfl

section
variable {P : Program} {md : Region.Mode} {ops : Array Oper} {Q : Exit → Act → World → Prop} {E : List Nat}
theorem wpG_mono {C C' : World → Prop} (hC : ∀ w, C' w → C w) : ∀ (fuel : Nat) (listed : Array Bool) (a : Act) (w : World), wpG P md ops Q C' E fuel listed a w → wpG P md ops Q C E fuel listed a w
  | 0, _, _, _, h => h
  | fuel + 1, _, _, _, h => ⟨h.1, fun i hi => wpOp_mono (fun a' w' h' => ⟨fun hn => hC _ (h'.1 hn), wpG_mono hC fuel _ a' w' h'.2⟩) (h.2 i hi)⟩
/-- A narrower class from here on: what is there now stays. -/
theorem rg_more {C : World → Prop} {n : Nat} {listed : Array Bool} {a : Act} {w : World} (hC : ∀ w', RowKit.Below w.heap.size w w' → C w')
    (h : ∀ p : World → Prop, (∀ x : Wd p, ∀ b o s, b < w.heap.size → x.w.cell? ⟨b, o, s⟩ = w.cell? ⟨b, o, s⟩) → Nonempty (Wd p) → Cls p w → (∀ w', RowKit.Below w.heap.size w w' → Cls p w') → RG P ops Q (Cls p) E n listed a w) : RG P ops Q C E n listed a w := fun hcl =>
  wpG_mono (fun w' (hw : Cls (fun w' => RowKit.Below w.heap.size w w') w') => hC w' hw.out) _ _ _ _ (h (fun w' => RowKit.Below w.heap.size w w') (fun x b o s hb => x.ok.cell (p := ⟨b, o, s⟩) hb) ⟨⟨w, RowKit.Below.refl _ _⟩⟩ (Cls.mk (RowKit.Below.refl _ _)) (fun _ h => Cls.mk h) hcl)
end

/-- The pieces of a text. -/
def linesL (L : List Ev) : List UInt8 := L.flatMap fun e => lineL e ++ [10]
def goodL (L : List Ev) : Bool := L.all fun e => goodK e.kind
theorem linesL_len (L : List Ev) (h : ∀ e ∈ L, EvOk e) : (linesL L).length ≤ 76 * L.length := by
  induction L with
  | nil => simp [linesL]
  | cons e L ih =>
    have h1 := lineL_len e (h e (by simp))
    have h2 := ih (fun x hx => h x (by simp [hx]))
    have : linesL (e :: L) = lineL e ++ [10] ++ linesL L := by simp [linesL]
    rw [this]
    simp only [List.length_append, List.length_cons, List.length_nil]; omega
theorem linesL_snoc (L : List Ev) (e : Ev) : linesL (L ++ [e]) = linesL L ++ (lineL e ++ [10]) := by simp [linesL]
/-- What Print tells. -/
def printV (L : List Ev) : Value := bif goodL L then .tuple #[.string (tx (linesL L)), .int .i64 0] else .tuple #[.string (tx []), .int .i64 2]
theorem Bd.below {B b : Nat} {l : List UInt8} {w w' : World} (h : Bd B b l w) (hb : Below w.heap.size w w') : Bd B b l w' := by
  unfold Bd Lib.IsBuilderF Lib.BuilderAtF World.ownsRowF at *
  have own : ∀ v, (Lib.byteCells l).length = (Lib.byteCells l).length * 1 ∧ (v = Value.slice none 0 0 ∧ (Lib.byteCells l).length = 0 ∨ ∃ g cap cur fz, v = Value.slice (some { block := g, off := 0 }) (Lib.byteCells l).length cap ∧ B ≤ g ∧ w.heap[g]? = some (Obj.cells cur 5 fz) ∧ fz.snd ≤ (Lib.byteCells l).length * 1 ∧ (Lib.byteCells l).length ≤ cap ∧ cap ≤ maxLen ∧ cur.size = cap * 1 ∧ List.take ((Lib.byteCells l).length * 1) cur.toList = Lib.byteCells l) → (Lib.byteCells l).length = (Lib.byteCells l).length * 1 ∧ (v = Value.slice none 0 0 ∧ (Lib.byteCells l).length = 0 ∨ ∃ g cap cur fz, v = Value.slice (some { block := g, off := 0 }) (Lib.byteCells l).length cap ∧ B ≤ g ∧ w'.heap[g]? = some (Obj.cells cur 5 fz) ∧ fz.snd ≤ (Lib.byteCells l).length * 1 ∧ (Lib.byteCells l).length ≤ cap ∧ cap ≤ maxLen ∧ cur.size = cap * 1 ∧ List.take ((Lib.byteCells l).length * 1) cur.toList = Lib.byteCells l) := by
    rintro v ⟨h1, h2 | ⟨g, cap, cur, fz, h2, h3, h4, h5⟩⟩
    · exact ⟨h1, .inl h2⟩
    · exact ⟨h1, .inr ⟨g, cap, cur, fz, h2, h3, by rw [hb.block g (lt_of_block h4)]; exact h4, h5⟩⟩
  rcases h with ⟨h0, v, h1, h2, h3⟩ | ⟨h0, v, h1, h2, h3⟩
  · exact .inl ⟨h0, v, by rw [hb.block b (lt_of_block h1)]; exact h1, own v h2, h3⟩
  · exact .inr ⟨h0, v, by rw [hb.block b (lt_of_block h1)]; exact h1, own v h2, h3⟩
end Go.Proofs.YtfaopoaephlenaaGreatDoor
