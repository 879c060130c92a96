/- Lines of events: plain Lean; the document's Words and Line. -/
import Derived.Test.YtfaopoaephlenaaDoorTx1
import Derived.Test.YtfaopoaephlenaaDoorTr2
namespace Go.Proofs.YtfaopoaephlenaaDoor
open Go.RowKit
set_option linter.unusedVariables false

def wordsL : List UInt8 := [45, 32, 112, 104, 97, 115, 101, 32, 110, 117, 109, 98, 101, 114, 32, 104, 101, 97, 114, 100, 32, 103, 111, 110, 101, 32, 111, 112, 101, 110, 32, 119, 114, 111, 116, 101, 32, 114, 101, 97, 100, 32, 115, 104, 117, 116, 32, 119, 105, 110, 100, 111, 119, 32, 112, 116, 111]
def kwT : List (List UInt8) := [[112, 104, 97, 115, 101], [110, 117, 109, 98, 101, 114], [104, 101, 97, 114, 100], [103, 111, 110, 101], [111, 112, 101, 110], [119, 114, 111, 116, 101], [114, 101, 97, 100], [115, 104, 117, 116], [119, 105, 110, 100, 111, 119], [112, 116, 111]]
def kw : List (List UInt8) := [45] :: kwT
def rw_ : List (List UInt8) := [] :: kwT
theorem words_pcs : pcs 32 wordsL = kw := by decide
theorem kw_len (k : Nat) : (kw.getD k []).length ≤ 6 := by
  rcases Nat.lt_or_ge k 11 with h | h
  · have : ∀ k, k < 11 → (kw.getD k []).length ≤ 6 := by decide
    exact this k h
  · rw [List.getD_eq_getElem?_getD, List.getElem?_eq_none (by simpa [kw, kwT] using h)]; simp
def strCs (L : List (List UInt8)) : Array Value := (L.map fun p => Value.string (tx p)).toArray
theorem strCs_get (L : List (List UInt8)) (k : Nat) (h : k < L.length) : (strCs L)[k]? = some (.string (tx (L.getD k []))) := by
  simp [strCs, h]
def lineL (e : Ev) : List UInt8 := dig e.at_ ++ [32] ++ kw.getD e.kind [] ++ [32] ++ dig e.a ++ [32] ++ dig e.b
def goodK (k : Nat) : Bool := decide (1 ≤ k) && decide (k ≤ 10)
def lineV (e : Ev) : List UInt8 := bif goodK e.kind then lineL e else []
theorem lineL_len (e : Ev) (h : EvOk e) : (lineL e).length ≤ 75 := by
  have h1 := dig_len h.1
  have h2 := dig_len h.2.1
  have h3 := dig_len h.2.2.1
  have h4 := kw_len e.kind
  simp only [lineL, List.length_append, List.length_singleton]; omega
theorem rw_kw {k : Nat} (h : 1 ≤ k) : rw_.getD k [] = kw.getD k [] := by
  obtain ⟨k, rfl⟩ : ∃ m, k = m + 1 := ⟨k - 1, by omega⟩
  rfl

section
variable {P : Program} {md : Region.Mode} {ops : Array Oper} {Q : Exit → Act → World → Prop} {E : List Nat}
theorem wpG_mono {C C' : World → Prop} (hC : ∀ w, C' w → C w) : ∀ (fuel : Nat) (listed : Array Bool) (a : Act) (w : World), wpG P md ops Q C' E fuel listed a w → wpG P md ops Q C E fuel listed a w
  | 0, _, _, _, h => h
  | fuel + 1, _, _, _, h => ⟨h.1, fun i hi => wpOp_mono (fun a' w' h' => ⟨fun hn => hC _ (h'.1 hn), wpG_mono hC fuel _ a' w' h'.2⟩) (h.2 i hi)⟩
/-- A narrower class from here on: what is there now stays. -/
theorem rg_more {C : World → Prop} {n : Nat} {listed : Array Bool} {a : Act} {w : World} (hC : ∀ w', RowKit.Below w.heap.size w w' → C w')
    (h : ∀ p : World → Prop, (∀ x : Wd p, ∀ b o s, b < w.heap.size → x.w.cell? ⟨b, o, s⟩ = w.cell? ⟨b, o, s⟩) → Nonempty (Wd p) → Cls p w → (∀ w', RowKit.Below w.heap.size w w' → Cls p w') → RG P ops Q (Cls p) E n listed a w) : RG P ops Q C E n listed a w := fun hcl =>
  wpG_mono (fun w' (hw : Cls (fun w' => RowKit.Below w.heap.size w w') w') => hC w' hw.out) _ _ _ _ (h (fun w' => RowKit.Below w.heap.size w w') (fun x b o s hb => x.ok.cell (p := ⟨b, o, s⟩) hb) ⟨⟨w, RowKit.Below.refl _ _⟩⟩ (Cls.mk (RowKit.Below.refl _ _)) (fun _ h => Cls.mk h) hcl)
end

theorem words_any (w : World) : Calls Tryd.prog 14 #[] w fun e w' => e = .returned (.slice (some ⟨w.heap.size, 0, none⟩) 11 11) ∧ w' = w.alloc (.cells (strCs rw_) 9) := by
  go_enter Tryd.func14, Tryd.ntmps14
  go_wp2_with (fail)
  go_returns
  exact ⟨rfl, rfl⟩
set_option maxRecDepth 100000 in
set_option maxHeartbeats 4000000 in
theorem line_any (e : Ev) (w : World) (he : EvOk e) :
    Calls Tryd.prog 6 #[.agg #[.int .u64 e.at_, .int .u64 e.a, .int .u64 e.b, .int .u8 e.kind]] w fun x w' => x = .returned (.string (tx (lineV e))) ∧ Below w.heap.size w w' := by
  obtain ⟨at_, a, b, k⟩ := e
  have q1 : at_ ≤ 18446744073709551615 := he.1
  have q2 : a ≤ 18446744073709551615 := he.2.1
  have q3 : b ≤ 18446744073709551615 := he.2.2.1
  have bx : Below w.heap.size w (w.alloc (.cells #[.int .u64 at_, .int .u64 a, .int .u64 b, .int .u8 k] 28)) := (Below.refl _ _).alloc (Nat.le_refl _) _
  have BX := Lib.hid bx
  clear he bx
  by_cases hk : goodK k = true
  · have hk' : 1 ≤ k ∧ k ≤ 10 := by simpa [goodK] using hk
    have d1 : ¬ (k : Int) < 1 := by omega
    have d2 : ¬ (k : Int) > 10 := by omega
    have d3 : (k : Int) < 11 := by omega
    have hv : lineV ⟨at_, a, b, k⟩ = lineL ⟨at_, a, b, k⟩ := by simp [lineV, hk]
    rw [hv]
    clear hk hv
    have l1 := dig_len q1
    have l2 := dig_len q2
    have l3 := dig_len q3
    have l4 := kw_len k
    have a1 : ∀ W, (Op.stringOp .add (tx (dig at_)) (tx [32])).run Tryd.prog W = .ok (.string (tx (dig at_ ++ [32]))) W := fun W => run_add _ _ _ _ (by simp; omega)
    have a2 : ∀ W, (Op.stringOp .add (tx (dig at_ ++ [32])) (tx (kw.getD k []))).run Tryd.prog W = .ok (.string (tx (dig at_ ++ [32] ++ kw.getD k []))) W := fun W => run_add _ _ _ _ (by simp at l4 ⊢; omega)
    have a3 : ∀ W, (Op.stringOp .add (tx (dig at_ ++ [32] ++ kw.getD k [])) (tx [32])).run Tryd.prog W = .ok (.string (tx (dig at_ ++ [32] ++ kw.getD k [] ++ [32]))) W := fun W => run_add _ _ _ _ (by simp at l4 ⊢; omega)
    have a4 : ∀ W, (Op.stringOp .add (tx (dig at_ ++ [32] ++ kw.getD k [] ++ [32])) (tx (dig a))).run Tryd.prog W = .ok (.string (tx (dig at_ ++ [32] ++ kw.getD k [] ++ [32] ++ dig a))) W := fun W => run_add _ _ _ _ (by simp at l4 ⊢; omega)
    have a5 : ∀ W, (Op.stringOp .add (tx (dig at_ ++ [32] ++ kw.getD k [] ++ [32] ++ dig a)) (tx [32])).run Tryd.prog W = .ok (.string (tx (dig at_ ++ [32] ++ kw.getD k [] ++ [32] ++ dig a ++ [32]))) W := fun W => run_add _ _ _ _ (by simp at l4 ⊢; omega)
    have a6 : ∀ W, (Op.stringOp .add (tx (dig at_ ++ [32] ++ kw.getD k [] ++ [32] ++ dig a ++ [32])) (tx (dig b))).run Tryd.prog W = .ok (.string (tx (lineL ⟨at_, a, b, k⟩))) W := fun W => run_add _ _ _ _ (by simp at l4 ⊢; omega)
    clear l1 l2 l3 l4
    obtain ⟨x1, hx1⟩ : ∃ x, dig at_ ++ [32] = x := ⟨_, rfl⟩
    rw [hx1] at a1 a2 a3 a4 a5 a6
    obtain ⟨x2, hx2⟩ : ∃ x, x1 ++ kw.getD k [] = x := ⟨_, rfl⟩
    rw [hx2] at a2 a3 a4 a5 a6
    obtain ⟨x3, hx3⟩ : ∃ x, x2 ++ [32] = x := ⟨_, rfl⟩
    rw [hx3] at a3 a4 a5 a6
    obtain ⟨x4, hx4⟩ : ∃ x, x3 ++ dig a = x := ⟨_, rfl⟩
    rw [hx4] at a4 a5 a6
    obtain ⟨x5, hx5⟩ : ∃ x, x4 ++ [32] = x := ⟨_, rfl⟩
    rw [hx5] at a5 a6
    obtain ⟨kk, hkk⟩ : ∃ x, kw.getD k [] = x := ⟨_, rfl⟩
    have cw : (strCs rw_)[k]? = some (.string (tx kk)) := by rw [strCs_get _ _ (by simp [rw_, kwT]; omega), rw_kw hk'.1, hkk]
    have CW := Lib.hid cw
    rw [hkk] at a2
    obtain ⟨y1, hy1⟩ : ∃ x, dig at_ = x := ⟨_, rfl⟩
    obtain ⟨y2, hy2⟩ : ∃ x, dig a = x := ⟨_, rfl⟩
    obtain ⟨y3, hy3⟩ : ∃ x, dig b = x := ⟨_, rfl⟩
    obtain ⟨y, hy⟩ : ∃ x, lineL ⟨at_, a, b, k⟩ = x := ⟨_, rfl⟩
    rw [hy1] at a1
    rw [hy2] at a4
    rw [hy3, hy] at a6
    rw [hy]
    have t1 := Lib.hid (fun W => digits_any at_ at_ W (Nat.le_refl _) q1)
    have t2 := Lib.hid (fun W => digits_any a a W (Nat.le_refl _) q2)
    have t3 := Lib.hid (fun W => digits_any b b W (Nat.le_refl _) q3)
    rw [hy1] at t1
    rw [hy2] at t2
    rw [hy3] at t3
    clear hx1 hx2 hx3 hx4 hx5 hkk hy1 hy2 hy3 hy cw hk'
    go_enter Tryd.func6, Tryd.ntmps6
    go_wp2_with (fail)
    refine rg_start 21 ?_
    refine rg_below fun p hx hne hC hbel => ?_
    have hs0 : (w.alloc (.cells #[.int .u64 at_, .int .u64 a, .int .u64 b, .int .u8 k] 28)).drew.heap.size = w.heap.size + 1 := by simp
    have k0 : ∀ z : Wd p, z.w.cell? ⟨w.heap.size, 0, none⟩ = some (.int .u64 at_) := fun z => (hx z _ _ _ (by rw [hs0]; omega)).trans (by rw [World.cell?_drew, World.cell?_alloc_new]; rfl)
    have k1 : ∀ z : Wd p, z.w.cell? ⟨w.heap.size, 1, none⟩ = some (.int .u64 a) := fun z => (hx z _ _ _ (by rw [hs0]; omega)).trans (by rw [World.cell?_drew, World.cell?_alloc_new]; rfl)
    have k2 : ∀ z : Wd p, z.w.cell? ⟨w.heap.size, 2, none⟩ = some (.int .u64 b) := fun z => (hx z _ _ _ (by rw [hs0]; omega)).trans (by rw [World.cell?_drew, World.cell?_alloc_new]; rfl)
    have k3 : ∀ z : Wd p, z.w.cell? ⟨w.heap.size, 3, none⟩ = some (.int .u8 k) := fun z => (hx z _ _ _ (by rw [hs0]; omega)).trans (by rw [World.cell?_drew, World.cell?_alloc_new]; rfl)
    refine rg_quiet 13 [0,1,5,6,11,12,16,17] hC ?_
    simp only [pickD, List.map_cons, List.map_nil, List.getD_cons_zero, List.getD_cons_succ]; repeat (go_big_quiet_step (fail))
    refine wpQuiet_nil ?_
    refine rg_act 2 ?_
    go_wp2_with (fail)
    refine (t1.out _).mono ?_
    rintro e w1 ⟨rfl, hb1⟩
    have HB1 := Lib.hid hb1
    clear hb1
    go_wp2_with (fail)
    have hC1 := hbel _ HB1.out
    refine ⟨hC1, ?_⟩
    refine rg_quiet 11 [3] hC1 ?_
    simp only [pickD, List.map_cons, List.map_nil, List.getD_cons_zero, List.getD_cons_succ]; repeat (go_big_quiet_step (fail))
    refine wpQuiet_nil ?_
    refine rg_act 4 ?_
    go_wp2_with (fail)
    refine (words_any _).mono ?_
    rintro e w2 ⟨rfl, rfl⟩
    go_wp2_with (fail)
    have hb2 := HB1.out.alloc HB1.out.size (.cells (strCs rw_) 9)
    have HB2 := Lib.hid hb2
    clear hb2
    refine ⟨hbel _ HB2.out, ?_⟩
    refine rg_more (fun w' h' => hbel _ (below_on HB2.out h' HB2.out.size)) fun p2 hx2 hne2 hCC hbel2 => ?_
    have k0 : ∀ z : Wd p2, z.w.cell? ⟨w1.heap.size, k, none⟩ = some (.string (tx kk)) := fun z => (hx2 z _ _ _ (by simp)).trans (by rw [World.cell?_alloc_new]; exact CW.out)
    clear hx2 hx
    refine rg_quiet 6 [7,8,9,10] hCC ?_
    simp only [pickD, List.map_cons, List.map_nil, List.getD_cons_zero, List.getD_cons_succ]; repeat (go_big_quiet_step (fail))
    refine wpQuiet_nil ?_
    refine rg_act 13 ?_
    go_wp2_with (fail)
    refine (t2.out _).mono ?_
    rintro e w3 ⟨rfl, hb3⟩
    have HB3 := Lib.hid hb3
    clear hb3
    go_wp2_with (fail)
    have hC3 := hbel2 _ HB3.out
    refine ⟨hC3, ?_⟩
    refine rg_quiet 3 [14,15] hC3 ?_
    simp only [pickD, List.map_cons, List.map_nil, List.getD_cons_zero, List.getD_cons_succ]; repeat (go_big_quiet_step (fail))
    refine wpQuiet_nil ?_
    refine rg_act 18 ?_
    go_wp2_with (fail)
    refine (t3.out _).mono ?_
    rintro e w4 ⟨rfl, hb4⟩
    have HB4 := Lib.hid (below_on HB3.out hb4 HB3.out.size)
    clear hb4
    go_wp2_with (fail)
    have hC4 := hbel2 _ HB4.out
    refine ⟨hC4, ?_⟩
    refine rg_quiet 0 [19,20] hC4 ?_
    simp only [pickD, List.map_cons, List.map_nil, List.getD_cons_zero, List.getD_cons_succ]; repeat (go_big_quiet_step (fail))
    refine wpQuiet_nil ?_
    refine rg_end ?_
    go_wp2_with (fail)
    go_returns
    exact ⟨rfl, below_on BX.out.drew (below_on HB2.out HB4.out HB2.out.size) (by simp)⟩
  · have hk' : k < 1 ∨ 10 < k := by
      simp [goodK] at hk; omega
    have hv : lineV ⟨at_, a, b, k⟩ = [] := by simp [lineV, hk]
    rw [hv]
    clear hk hv
    rcases hk' with h | h
    · have d1 : (k : Int) < 1 := by omega
      go_enter Tryd.func6, Tryd.ntmps6
      go_wp2_with (fail)
      go_returns
      exact ⟨rfl, BX.out⟩
    · have d1 : ¬ (k : Int) < 1 := by omega
      have d2 : (k : Int) > 10 := by omega
      go_enter Tryd.func6, Tryd.ntmps6
      go_wp2_with (fail)
      go_returns
      exact ⟨rfl, BX.out⟩
/-- The pieces of a text. -/
def linesL (L : List Ev) : List UInt8 := L.flatMap fun e => lineL e ++ [10]
def goodL (L : List Ev) : Bool := L.all fun e => goodK e.kind
theorem linesL_len (L : List Ev) (h : ∀ e ∈ L, EvOk e) : (linesL L).length ≤ 76 * L.length := by
  induction L with
  | nil => simp [linesL]
  | cons e L ih =>
    have h1 := lineL_len e (h e (by simp))
    have h2 := ih (fun x hx => h x (by simp [hx]))
    have : linesL (e :: L) = lineL e ++ [10] ++ linesL L := by simp [linesL]
    rw [this]
    simp only [List.length_append, List.length_cons, List.length_nil]; omega
theorem linesL_snoc (L : List Ev) (e : Ev) : linesL (L ++ [e]) = linesL L ++ (lineL e ++ [10]) := by simp [linesL]
/-- What Print tells. -/
def printV (L : List Ev) : Value := bif goodL L then .tuple #[.string (tx (linesL L)), .int .i64 0] else .tuple #[.string (tx []), .int .i64 2]
theorem Bd.below {B b : Nat} {l : List UInt8} {w w' : World} (h : Bd B b l w) (hb : Below w.heap.size w w') : Bd B b l w' := by
  unfold Bd Lib.IsBuilderF Lib.BuilderAtF World.ownsRowF at *
  have own : ∀ v, (Lib.byteCells l).length = (Lib.byteCells l).length * 1 ∧ (v = Value.slice none 0 0 ∧ (Lib.byteCells l).length = 0 ∨ ∃ g cap cur fz, v = Value.slice (some { block := g, off := 0 }) (Lib.byteCells l).length cap ∧ B ≤ g ∧ w.heap[g]? = some (Obj.cells cur 5 fz) ∧ fz.snd ≤ (Lib.byteCells l).length * 1 ∧ (Lib.byteCells l).length ≤ cap ∧ cap ≤ maxLen ∧ cur.size = cap * 1 ∧ List.take ((Lib.byteCells l).length * 1) cur.toList = Lib.byteCells l) → (Lib.byteCells l).length = (Lib.byteCells l).length * 1 ∧ (v = Value.slice none 0 0 ∧ (Lib.byteCells l).length = 0 ∨ ∃ g cap cur fz, v = Value.slice (some { block := g, off := 0 }) (Lib.byteCells l).length cap ∧ B ≤ g ∧ w'.heap[g]? = some (Obj.cells cur 5 fz) ∧ fz.snd ≤ (Lib.byteCells l).length * 1 ∧ (Lib.byteCells l).length ≤ cap ∧ cap ≤ maxLen ∧ cur.size = cap * 1 ∧ List.take ((Lib.byteCells l).length * 1) cur.toList = Lib.byteCells l) := by
    rintro v ⟨h1, h2 | ⟨g, cap, cur, fz, h2, h3, h4, h5⟩⟩
    · exact ⟨h1, .inl h2⟩
    · exact ⟨h1, .inr ⟨g, cap, cur, fz, h2, h3, by rw [hb.block g (lt_of_block h4)]; exact h4, h5⟩⟩
  rcases h with ⟨h0, v, h1, h2, h3⟩ | ⟨h0, v, h1, h2, h3⟩
  · exact .inl ⟨h0, v, by rw [hb.block b (lt_of_block h1)]; exact h1, own v h2, h3⟩
  · exact .inr ⟨h0, v, by rw [hb.block b (lt_of_block h1)]; exact h1, own v h2, h3⟩
end Go.Proofs.YtfaopoaephlenaaDoor
