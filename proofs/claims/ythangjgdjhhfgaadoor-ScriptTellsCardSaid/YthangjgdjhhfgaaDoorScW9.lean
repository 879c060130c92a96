/- Halves of bytes: script.hex. -/
import Derived.Test.YthangjgdjhhfgaaDoorScW8
namespace Go.Proofs.YthangjgdjhhfgaaDoor
open Go.RowKit
set_option linter.unusedVariables false
theorem Bd.below {B b : Nat} {l : List UInt8} {w w' : World} (h : Bd B b l w) (hb : Below w.heap.size w w') : Bd B b l w' := by
  unfold Bd Lib.IsBuilderF Lib.BuilderAtF World.ownsRowF at *
  have own : ∀ v, (Lib.byteCells l).length = (Lib.byteCells l).length * 1 ∧ (v = Value.slice none 0 0 ∧ (Lib.byteCells l).length = 0 ∨ ∃ g cap cur fz, v = Value.slice (some { block := g, off := 0 }) (Lib.byteCells l).length cap ∧ B ≤ g ∧ w.heap[g]? = some (Obj.cells cur 5 fz) ∧ fz.snd ≤ (Lib.byteCells l).length * 1 ∧ (Lib.byteCells l).length ≤ cap ∧ cap ≤ maxLen ∧ cur.size = cap * 1 ∧ List.take ((Lib.byteCells l).length * 1) cur.toList = Lib.byteCells l) → (Lib.byteCells l).length = (Lib.byteCells l).length * 1 ∧ (v = Value.slice none 0 0 ∧ (Lib.byteCells l).length = 0 ∨ ∃ g cap cur fz, v = Value.slice (some { block := g, off := 0 }) (Lib.byteCells l).length cap ∧ B ≤ g ∧ w'.heap[g]? = some (Obj.cells cur 5 fz) ∧ fz.snd ≤ (Lib.byteCells l).length * 1 ∧ (Lib.byteCells l).length ≤ cap ∧ cap ≤ maxLen ∧ cur.size = cap * 1 ∧ List.take ((Lib.byteCells l).length * 1) cur.toList = Lib.byteCells l) := by
    rintro v ⟨h1, h2 | ⟨g, cap, cur, fz, h2, h3, h4, h5⟩⟩
    · exact ⟨h1, .inl h2⟩
    · exact ⟨h1, .inr ⟨g, cap, cur, fz, h2, h3, by rw [hb.block g (lt_of_block h4)]; exact h4, h5⟩⟩
  rcases h with ⟨h0, v, h1, h2, h3⟩ | ⟨h0, v, h1, h2, h3⟩
  · exact .inl ⟨h0, v, by rw [hb.block b (lt_of_block h1)]; exact h1, own v h2, h3⟩
  · exact .inr ⟨h0, v, by rw [hb.block b (lt_of_block h1)]; exact h1, own v h2, h3⟩
theorem wbyte_any (B b : Nat) (l : List UInt8) (c : UInt8) (w : World) (h : Bd B b l w) (hlen : l.length + 1 ≤ 140737488355328) (hB : B ≤ w.heap.size) :
    Calls Tryd.prog 45 #[.pointer (some ⟨b, 0, none⟩), .int .u8 c.toNat] w fun e w' => e = .returned .nilIface ∧ Bd B b (l ++ [c]) w' ∧ Below B w w' := by
  refine (Any.Builder_WriteByte_k L.lays167 L.Builder_Extra_167 B b (Lib.byteCells l) c.toNat w h (by simpa [Lib.byteCells] using hlen) hB).mono ?_
  rintro e w' ⟨rfl, h1, h2, h3⟩
  refine ⟨rfl, .inr ?_, h2⟩
  have e1 : Lib.byteCells l ++ [.int .u8 c.toNat] = Lib.byteCells (l ++ [c]) := by simp [Lib.byteCells]
  rw [e1] at h1
  exact h1
theorem hexT_at (i : Nat) (hi : i < 16) (h : i < (⟨#[48, 49, 50, 51, 52, 53, 54, 55, 56, 57, 97, 98, 99, 100, 101, 102]⟩ : ByteArray).size) : (⟨#[48, 49, 50, 51, 52, 53, 54, 55, 56, 57, 97, 98, 99, 100, 101, 102]⟩ : ByteArray)[i]'h = hexT.getD i 0 := by
  have key : ∀ j : Fin 16, (⟨#[48, 49, 50, 51, 52, 53, 54, 55, 56, 57, 97, 98, 99, 100, 101, 102]⟩ : ByteArray)[j.val]'(by have := j.isLt; simp [ByteArray.size]) = hexT.getD j.val 0 := by decide
  exact key ⟨i, hi⟩
theorem hexD_len (L : List UInt8) : (L.flatMap hexD).length = 2 * L.length := by
  induction L with
  | nil => rfl
  | cons c L ih => simp only [List.flatMap_cons, List.length_append, ih, List.length_cons, hexD, List.length_nil]; omega
theorem take_one (l : List UInt8) (k : Nat) (c : UInt8) (hk : k < l.length) (h : l.getD k 0 = c) : l.take (k + 1) = l.take k ++ [c] := by
  rw [List.take_add_one, List.getElem?_eq_getElem hk]
  simp [List.getD, hk] at h
  rw [h]; rfl
set_option maxRecDepth 100000 in
set_option maxHeartbeats 8000000 in
theorem hex_any (l : List UInt8) (a : Option Addr) (n cap : Nat) (w : World) (h : BR w a n l) (hl : l.length ≤ 4000000) :
    Calls Tryd.prog 26 #[.slice a n cap] w fun e w' => e = .returned (.string (tx (hexS l))) ∧ Below w.heap.size w w' := by
  have hn := h.len
  by_cases h0 : n = 0
  · subst h0
    have : l = [] := List.length_eq_zero_iff.1 hn.symm
    subst this
    clear hn
    go_enter Tryd.func26, Tryd.ntmps26
    go_wp2_with (fail)
    go_returns
    exact ⟨rfl, Below.refl _ _⟩
  · have hq0 : ((n : Int) == 0) = false := by simp; omega
    have hnb : n ≤ 4000000 := by omega
    have HN := Lib.hid hn
    have HL := Lib.hid hl
    have HI := Lib.hid h.ints
    have hb0 : Below w.heap.size w (w.alloc (.cells #[.pointer none, .slice none 0 0] 63)) := (Below.refl _ _).alloc (Nat.le_refl _) _
    have HB0 := Lib.hid (Bd.new w)
    have hne : l ≠ [] := fun e => h0 (by rw [hn, e]; rfl)
    have hxs : l.flatMap hexD = hexS l := by rw [hexS, if_neg hne]
    have HX := Lib.hid hxs
    clear hn hl h hne hxs
    go_enter Tryd.func26, Tryd.ntmps26
    go_wp2_with (fail)
    go_loopw [5, 11] (fun _ i wr => ∃ k : Nat, i = .int .i64 k ∧ k ≤ n ∧ Hid (Bd w.heap.size w.heap.size ((l.take k).flatMap hexD) wr) ∧ Hid (Below w.heap.size w wr)) (fun _ i _ => n - (intOf i).toNat)
    case atStart => exact ⟨0, rfl, by omega, HB0, Lib.hid hb0⟩
    case round =>
      obtain ⟨k, rfl, hk, hbd, bw⟩ := hrel
      by_cases hlt : k < n
      · have hki : (k : Int) < (n : Int) := by omega
        obtain ⟨g, o, rfl, hg, hc, hw⟩ := (HI.out.below bw.out) k (by simpa [i8, ← HN.out] using hlt)
        obtain ⟨c, hcl⟩ : ∃ c, l.getD k 0 = c := ⟨_, rfl⟩
        rw [show (i8 l).getD k 0 = (c.toNat : Int) by rw [i8, ← hcl]; have := HN.out; simp [List.getD, (show k < l.length by omega)]] at hc
        clear hw
        have hlt256 := c.toNat_lt
        have HCL := Lib.hid hcl
        clear hcl
        have hd1 := hexT_at (c.toNat / 16) (by omega)
        have hd2 := hexT_at (c.toNat % 16) (by omega)
        obtain ⟨x1, hx1⟩ : ∃ x, hexT.getD (c.toNat / 16) 0 = x := ⟨_, rfl⟩
        obtain ⟨x2, hx2⟩ : ∃ x, hexT.getD (c.toNat % 16) 0 = x := ⟨_, rfl⟩
        have HXD := Lib.hid (show hexD c = [x1, x2] by rw [hexD, hx1, hx2])
        rw [hx1] at hd1
        rw [hx2] at hd2
        clear hx1 hx2
        go_wp2_with (fail)
        refine (wbyte_any _ _ _ x1 wr hbd.out (by rw [hexD_len]; have := HL.out; simp only [List.length_take]; omega) bw.out.size).mono ?_
        rintro e w2 ⟨rfl, hbd2, hb2⟩
        have HBD2 := Lib.hid hbd2
        have BW2 := Lib.hid (bw.out.trans hb2)
        clear hbd2 hb2
        go_wp2_with (fail)
        refine (wbyte_any _ _ _ x2 w2 HBD2.out (by rw [List.length_append, hexD_len]; have := HL.out; simp only [List.length_take, List.length_cons, List.length_nil]; omega) BW2.out.size).mono ?_
        rintro e w3 ⟨rfl, hbd3, hb3⟩
        have HBD3 : Hid (Bd w.heap.size w.heap.size ((l.take (k + 1)).flatMap hexD) w3) := Lib.hid (by
          rw [take_one l k c (by have := HN.out; omega) HCL.out, List.flatMap_append]
          rw [List.append_assoc] at hbd3
          rw [List.flatMap_cons, List.flatMap_nil, HXD.out]
          exact hbd3)
        have BW3 := Lib.hid (BW2.out.trans hb3)
        clear hbd3 hb3
        go_wp2_with (fail)
        exact ⟨⟨k + 1, by go_num, by omega, HBD3, BW3⟩, by simp [intOf]; omega⟩
      · obtain rfl : k = n := by omega
        go_wp2_with (fail)
        refine (bstr_any _ _ _ wr hbd.out bw.out.size).mono ?_
        rintro e w2 ⟨rfl, hb2⟩
        go_wp2_with (fail)
        go_returns
        rw [← HX.out, List.take_of_length_le (by rw [HN.out]; exact Nat.le_refl _)]
        exact ⟨rfl, bw.out.trans hb2⟩
end Go.Proofs.YthangjgdjhhfgaaDoor
