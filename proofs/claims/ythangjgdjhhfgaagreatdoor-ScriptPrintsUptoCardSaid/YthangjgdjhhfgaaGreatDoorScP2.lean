/- Words of a line in plain Lean: what FieldsFunc makes of a text at blanks. No program here. -/
import Derived.Test.YthangjgdjhhfgaaGreatDoorScP1
import Derived.Lib.FieldsP
import Derived.Lib.TrimUEq
namespace Go.Proofs.YthangjgdjhhfgaaGreatDoor
set_option linter.unusedVariables false

/-- The words of a text between blanks; the one under way first. -/
def wdsA (acc : List UInt8) : List UInt8 → List (List UInt8)
  | [] => if acc = [] then [] else [acc]
  | x :: l => if x = 32 then (if acc = [] then wdsA [] l else acc :: wdsA [] l) else wdsA (acc ++ [x]) l
def wds (l : List UInt8) : List (List UInt8) := wdsA [] l
theorem wdsA_end {acc : List UInt8} (h : acc ≠ []) : wdsA acc [] = [acc] := by rw [wdsA, if_neg h]
theorem wdsA_sp {acc l : List UInt8} (h : acc ≠ []) : wdsA acc (32 :: l) = acc :: wdsA [] l := by rw [wdsA, if_pos rfl, if_neg h]
theorem wdsA_run : ∀ (r acc l : List UInt8), (∀ x ∈ r, x ≠ 32) → wdsA acc (r ++ l) = wdsA (acc ++ r) l
  | [], acc, l, _ => by simp
  | x :: r, acc, l, h => by
    have h1 : x ≠ 32 := h x (by simp)
    rw [List.cons_append, wdsA, if_neg h1, wdsA_run r (acc ++ [x]) l (fun y hy => h y (by simp [hy]))]
    simp
theorem decode_low (l : List UInt8) (pos : Nat) (h : pos < l.length) (hb : (l.getD pos 0).toNat < 128) : Utf8.decode ⟨l.toArray⟩ pos = ((l.getD pos 0).toNat, 1) := by
  have e : (⟨l.toArray⟩ : ByteArray).data.toList = l := rfl
  rw [Lib.decode_N, e]
  unfold Lib.decodeN
  rw [if_pos hb]
theorem decode_high (l : List UInt8) (pos : Nat) (h : pos < l.length) (hb : 128 ≤ (l.getD pos 0).toNat) :
    (Utf8.decode ⟨l.toArray⟩ pos).1 ≠ 32 ∧ 1 ≤ (Utf8.decode ⟨l.toArray⟩ pos).2 ∧ pos + (Utf8.decode ⟨l.toArray⟩ pos).2 ≤ l.length ∧ ∀ k, k < (Utf8.decode ⟨l.toArray⟩ pos).2 → 128 ≤ (l.getD (pos + k) 0).toNat := by
  have e : (⟨l.toArray⟩ : ByteArray).data.toList = l := rfl
  rw [Lib.decode_N, e]
  generalize h0 : (l.getD pos 0).toNat = b0 at *
  generalize h1 : (l.getD (pos + 1) 0).toNat = b1
  generalize h2 : (l.getD (pos + 2) 0).toNat = b2
  generalize h3 : (l.getD (pos + 3) 0).toNat = b3
  have hk : ∀ k w, k < w → (w = 1 ∨ (w = 2 ∧ b1 / 64 = 2) ∨ (w = 3 ∧ b1 / 64 = 2 ∧ b2 / 64 = 2) ∨ (w = 4 ∧ b1 / 64 = 2 ∧ b2 / 64 = 2 ∧ b3 / 64 = 2)) → 128 ≤ (l.getD (pos + k) 0).toNat := by
    intro k w hkw hw
    have : k = 0 ∨ k = 1 ∨ k = 2 ∨ k = 3 := by omega
    rcases this with rfl | rfl | rfl | rfl
    · rw [Nat.add_zero, h0]; exact hb
    · rw [h1]; omega
    · rw [h2]; omega
    · rw [h3]; omega
  unfold Lib.decodeN
  rw [if_neg (by omega)]
  split
  · rename_i hc
    split
    · exact ⟨by simp only; omega, by simp, by simp only; omega, fun k hkk => hk k 2 hkk (.inr (.inl ⟨rfl, hc.2.2⟩))⟩
    · exact ⟨by simp, by simp, by simp only; omega, fun k hkk => hk k 1 hkk (.inl rfl)⟩
  · split
    · rename_i hc
      split
      · exact ⟨by simp only; omega, by simp, by simp only; omega, fun k hkk => hk k 3 hkk (.inr (.inr (.inl ⟨rfl, hc.2.1.2, hc.2.2.2⟩)))⟩
      · exact ⟨by simp, by simp, by simp only; omega, fun k hkk => hk k 1 hkk (.inl rfl)⟩
    · split
      · rename_i hc
        split
        · exact ⟨by simp only; omega, by simp, by simp only; omega, fun k hkk => hk k 4 hkk (.inr (.inr (.inr ⟨rfl, hc.2.1.2, hc.2.2.1.2, hc.2.2.2.2⟩)))⟩
        · exact ⟨by simp, by simp, by simp only; omega, fun k hkk => hk k 1 hkk (.inl rfl)⟩
      · exact ⟨by simp, by simp, by simp only; omega, fun k hkk => hk k 1 hkk (.inl rfl)⟩
def blank (r : Nat) : Bool := decide (r = 32)
/-- The word under way. -/
def curW (l : List UInt8) (st : Option Nat) (pos : Nat) : List UInt8 := match st with
  | none => []
  | some a => (l.drop a).take (pos - a)
theorem cut_tx (l : List UInt8) (a b : Nat) : (⟨l.toArray⟩ : ByteArray).extract a b = ⟨((l.drop a).take (b - a)).toArray⟩ := by
  apply ByteArray.ext
  simp [ByteArray.data_extract]
theorem drop_cons {s : List UInt8} {i : Nat} (h : i < s.length) : s.drop i = s.getD i 0 :: s.drop (i + 1) := by
  rw [List.drop_eq_getElem_cons h]; simp [h]
theorem spans_wds (l : List UInt8) : ∀ (f pos : Nat) (st : Option Nat) (acc : List (Nat × Nat)), l.length - pos ≤ f → pos ≤ l.length → (∀ a, st = some a → a < pos) →
    (Lib.closeSpans ⟨l.toArray⟩ (Lib.spansFromP blank ⟨l.toArray⟩ f pos st acc)).map (fun x => (⟨l.toArray⟩ : ByteArray).extract x.1 x.2) =
      acc.map (fun x => (⟨l.toArray⟩ : ByteArray).extract x.1 x.2) ++ (wdsA (curW l st pos) (l.drop pos)).map fun p => ⟨p.toArray⟩ := by
  have hsz : (⟨l.toArray⟩ : ByteArray).size = l.length := by simp [ByteArray.size]
  have hend : ∀ (st : Option Nat) (acc : List (Nat × Nat)) (pos : Nat), pos = l.length → (∀ a, st = some a → a < pos) →
      (Lib.closeSpans ⟨l.toArray⟩ (acc, st)).map (fun x => (⟨l.toArray⟩ : ByteArray).extract x.1 x.2) = acc.map (fun x => (⟨l.toArray⟩ : ByteArray).extract x.1 x.2) ++ (wdsA (curW l st pos) (l.drop pos)).map fun p => ⟨p.toArray⟩ := by
    intro st acc pos hp hst
    subst hp
    rw [List.drop_length]
    cases st with
    | none => simp [Lib.closeSpans, curW, wdsA]
    | some a =>
      have ha := hst a rfl
      have hne : (l.drop a).take (l.length - a) ≠ [] := by
        intro h
        have := congrArg List.length h
        simp at this; omega
      rw [wdsA_end (acc := curW l (some a) l.length) hne]
      simp only [Lib.closeSpans, List.map_append, List.map_cons, List.map_nil]
      rw [cut_tx, hsz]
      rfl
  intro f
  induction f with
  | zero =>
    intro pos st acc hf hp hst
    exact hend st acc pos (by omega) hst
  | succ f ih =>
    intro pos st acc hf hp hst
    unfold Lib.spansFromP
    rw [hsz]
    by_cases hlt : pos < l.length
    · rw [if_pos hlt]
      by_cases hb : (l.getD pos 0).toNat < 128
      · rw [decode_low l pos hlt hb]
        by_cases h32 : (l.getD pos 0) = 32
        · have hbl : blank (l.getD pos 0).toNat = true := by rw [h32]; rfl
          simp only [hbl, if_true]
          have hdr : l.drop pos = 32 :: l.drop (pos + 1) := by rw [drop_cons hlt, h32]
          cases st with
          | none =>
            simp only
            rw [ih (pos + 1) none acc (by omega) (by omega) (fun a h => by cases h), hdr]
            simp [curW, wdsA]
          | some a =>
            have ha := hst a rfl
            have hne : (l.drop a).take (pos - a) ≠ [] := by
              intro h
              have := congrArg List.length h
              simp at this; omega
            simp only
            rw [ih (pos + 1) none _ (by omega) (by omega) (fun a h => by cases h), hdr]
            rw [wdsA_sp (acc := curW l (some a) pos) hne]
            simp only [List.map_append, List.map_cons, List.map_nil, List.append_assoc, List.singleton_append]
            rw [cut_tx]
            rfl
        · have hbl : blank (l.getD pos 0).toNat = false := by
            unfold blank
            rw [decide_eq_false_iff_not]
            intro e
            exact h32 (UInt8.toNat_inj.1 e)
          simp only [hbl, Bool.false_eq_true, if_false]
          cases st with
          | none =>
            simp only
            rw [ih (pos + 1) (some pos) acc (by omega) (by omega) (fun a h => by cases h; omega), drop_cons hlt]
            simp only [curW, wdsA, if_neg h32, List.nil_append]
            rw [drop_cons hlt, show pos + 1 - pos = 1 by omega]
            rfl
          | some a =>
            have ha := hst a rfl
            simp only
            rw [ih (pos + 1) (some a) acc (by omega) (by omega) (fun b h => by cases h; omega), drop_cons hlt]
            simp only [curW, wdsA, if_neg h32]
            have : (l.drop a).take (pos + 1 - a) = (l.drop a).take (pos - a) ++ [l.getD pos 0] := by
              rw [show pos + 1 - a = (pos - a) + 1 by omega, List.take_add_one]
              simp [show a + (pos - a) = pos by omega, hlt]
            rw [this]
      · obtain ⟨h1, h2, h3, h4⟩ := decode_high l pos hlt (by omega)
        generalize Utf8.decode ⟨l.toArray⟩ pos = rw_ at *
        obtain ⟨r, wd⟩ := rw_
        simp only at h1 h2 h3 h4
        have hbl : blank r = false := by simp [blank, h1]
        simp only [hbl, Bool.false_eq_true, if_false]
        have hrun : l.drop pos = (l.drop pos).take wd ++ l.drop (pos + wd) := by
          rw [← List.drop_drop, List.take_append_drop]
        have hall : ∀ x ∈ (l.drop pos).take wd, x ≠ 32 := by
          intro x hx
          obtain ⟨k, hk, rfl⟩ := List.getElem_of_mem hx
          have hk' : k < wd := by simp at hk; omega
          have := h4 k hk'
          have e : ((l.drop pos).take wd)[k] = l.getD (pos + k) 0 := by simp [show pos + k < l.length by omega]
          rw [e]
          intro e2
          rw [e2] at this
          simp at this
        cases st with
        | none =>
          simp only
          rw [ih (pos + wd) (some pos) acc (by omega) (by omega) (fun a h => by cases h; omega)]
          conv => rhs; rw [hrun]
          simp only [curW]
          rw [wdsA_run _ _ _ hall, show pos + wd - pos = wd by omega]
          rfl
        | some a =>
          have ha := hst a rfl
          simp only
          rw [ih (pos + wd) (some a) acc (by omega) (by omega) (fun b h => by cases h; omega)]
          conv => rhs; rw [hrun]
          simp only [curW]
          rw [wdsA_run _ _ _ hall]
          have : (l.drop a).take (pos + wd - a) = (l.drop a).take (pos - a) ++ (l.drop pos).take wd := by
            rw [show pos + wd - a = (pos - a) + wd by omega, List.take_add]
            rw [List.drop_drop, show a + (pos - a) = pos by omega]
          rw [this]
    · rw [if_neg hlt]
      exact hend st acc pos (by omega) hst
/-- WHAT FieldsFunc MAKES OF A TEXT AT BLANKS. -/
theorem fields_wds (l : List UInt8) : Lib.goFieldsP blank ⟨l.toArray⟩ = (wds l).map fun p => (⟨p.toArray⟩ : ByteArray) := by
  have h := spans_wds l l.length 0 none [] (by omega) (by omega) (fun a h => by cases h)
  unfold Lib.goFieldsP Lib.spansOfP
  rw [show (⟨l.toArray⟩ : ByteArray).size = l.length by simp [ByteArray.size]]
  rw [h]
  simp [curW, wds]
end Go.Proofs.YthangjgdjhhfgaaGreatDoor
