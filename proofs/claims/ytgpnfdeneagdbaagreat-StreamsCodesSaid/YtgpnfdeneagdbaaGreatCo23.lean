/- Streams: the set at first. -/
import Derived.Test.YtgpnfdeneagdbaaGreatCo22
namespace Go.Proofs.YtgpnfdeneagdbaaGreat
open Go.RowKit
set_option linter.unusedVariables false
section
variable {sv : Bool} {q r : Nat → Nat} {ow pe : List Value}
theorem setV_len (h1 : ow.length = 28) (h2 : pe.length = 28) : (setV sv q r ow pe).length = 71 := by simp [setV, h1, h2]
theorem setV_own (h1 : ow.length = 28) (j : Nat) (hj : j < 28) : (setV sv q r ow pe)[14 + j]? = ow[j]? := by
  unfold setV
  rw [List.getElem?_append_right (by simp), List.getElem?_append_left (by simp; omega)]
  congr 1; simp
theorem setV_peer (h1 : ow.length = 28) (h2 : pe.length = 28) (j : Nat) (hj : j < 28) : (setV sv q r ow pe)[42 + j]? = pe[j]? := by
  unfold setV
  rw [List.getElem?_append_right (by simp; omega), List.getElem?_append_right (by simp; omega), List.getElem?_append_left (by simp; omega)]
  congr 1; simp; omega
theorem setV_row (h1 : ow.length = 28) (h2 : pe.length = 28) : (setV sv q r ow pe)[70]? = some (.slice none 0 0) := by
  unfold setV
  rw [List.getElem?_append_right (by simp), List.getElem?_append_right (by simp; omega), List.getElem?_append_right (by simp; omega)]
  simp [h1, h2]
def mayF (sv : Bool) (q r : Nat → Nat) (c : Nat) : Nat := if c % 2 = me sv then r (7 + c / 2) else q (7 + c / 2)
theorem heavy_le (h : heavyB q = false) : q 3 ≤ 1048576 ∧ q 7 ≤ 20 ∧ q 8 ≤ 20 := by
  unfold heavyB at h
  simp only [Bool.or_eq_false_iff, decide_eq_false_iff_not] at h
  omega
theorem of_set {w : World} {s base : Nat} (hs : s < base) (hbs : base ≤ w.heap.size) (h1 : PaW ow q) (h2 : PaW pe r) (g1 : heavyB q = false) (g2 : heavyB r = false) (hb : Blk w s (setV sv q r ow pe).toArray 54) :
    SetIs (fun _ => True) w s base sv (fun k => q (4 + k)) (fun k => r (4 + k)) (mayF sv q r) (fun _ => 0) := by
  obtain ⟨q3, q7, q8⟩ := heavy_le g1
  obtain ⟨r3, r7, r8⟩ := heavy_le g2
  have hm := me_lt sv
  have e1 : ∀ k, k < 2 → mayF sv q r (me sv + 2 * k) = r (7 + k) := fun k hk => by
    unfold mayF
    rw [if_pos (by omega)]; congr 1; omega
  have e2 : ∀ k, k < 2 → mayF sv q r (1 - me sv + 2 * k) = q (7 + k) := fun k hk => by
    unfold mayF
    rw [if_neg (by omega)]; congr 1; omega
  refine ⟨(setV sv q r ow pe).toArray, none, 0, 0, [], ⟨hb, rfl, fun k hk => ?_, fun k hk => ?_, ?_, OwnS.nil _ _ _ _, rfl, hs, hbs⟩, ⟨⟨q 3, rfl, q3⟩, rfl, rfl, fun k hk => ?_, fun k hk => ?_, fun k hk => ?_, fun k hk => ?_, fun c hc => Nat.zero_le _, fun c hc => ?_⟩, OpI.nil, fun _ _ => trivial⟩
  · obtain ⟨c1, c2⟩ := h1.c (4 + k) (by omega) (by omega)
    refine ⟨?_, c2⟩
    have := setV_own (sv := sv) (q := q) (r := r) (pe := pe) h1.len (4 + k) (by omega)
    rw [← Nat.add_assoc] at this
    simpa using this.trans c1
  · obtain ⟨c1, c2⟩ := h2.c (4 + k) (by omega) (by omega)
    refine ⟨?_, c2⟩
    have := setV_peer (sv := sv) (q := q) (r := r) h1.len h2.len (4 + k) (by omega)
    rw [← Nat.add_assoc] at this
    simpa using this.trans c1
  · simpa using setV_row (sv := sv) (q := q) (r := r) h1.len h2.len
  · rcases (by omega : k = 0 ∨ k = 1) with rfl | rfl <;> rfl
  · rw [e1 k hk]; rcases (by omega : k = 0 ∨ k = 1) with rfl | rfl <;> rfl
  · rcases (by omega : k = 0 ∨ k = 1) with rfl | rfl <;> rfl
  · rw [e2 k hk]; rcases (by omega : k = 0 ∨ k = 1) with rfl | rfl <;> rfl
  · unfold mayF
    rcases (by omega : c / 2 = 0 ∨ c / 2 = 1) with h | h <;> rw [h] <;> split <;> simp <;> omega
end
theorem SetIs.blkOnly {Q : Nat → Prop} {w w' : World} {s base o : Nat} {sv : Bool} {own peer may cn : Nat → Nat} (h : SetIs Q w s base sv own peer may cn) (ho : Only (· = o) w w') (hs : s ≠ o) (hb : o < base) : SetIs Q w' s base sv own peer may cn := by
  obtain ⟨cs, a, n, cap, L, h1, h2, h3, h4⟩ := h
  exact ⟨cs, a, n, cap, L, h1.blkOnly ho hs (fun y hy e => by have := (h1.row.block hy).1; omega), h2, h3, h4⟩
theorem SetIs.below {Q : Nat → Prop} {w w' : World} {s base : Nat} {sv : Bool} {own peer may cn : Nat → Nat} (h : SetIs Q w s base sv own peer may cn) (hb : Below w.heap.size w w') : SetIs Q w' s base sv own peer may cn := by
  obtain ⟨cs, a, n, cap, L, h1, h2, h3, h4⟩ := h
  exact ⟨cs, a, n, cap, L, h1.below hb, h2, h3, h4⟩
/-- What stands between the rounds. -/
structure LawI (w W : World) (s o base : Nat) (sv : Bool) (own peer may cn : Nat → Nat) : Prop where
  set : SetIs (fun _ => True) W s base sv own peer may cn
  op : OpAt W o may cn
  bel : Below w.heap.size w W
theorem LawI.below {w W W' : World} {s o base : Nat} {sv : Bool} {own peer may cn : Nat → Nat} (h : LawI w W s o base sv own peer may cn) (hb : Below W.heap.size W W') : LawI w W' s o base sv own peer may cn :=
  ⟨h.set.below hb, Blk.below h.op hb, below_on h.bel hb h.bel.size⟩
theorem LawI.drew {w W : World} {s o base : Nat} {sv : Bool} {own peer may cn : Nat → Nat} (h : LawI w W s o base sv own peer may cn) : LawI w W.drew s o base sv own peer may cn :=
  ⟨h.set.below (Below.refl _ _).drew, h.op, h.bel.drew⟩
theorem LawI.stor {w W : World} {s o base : Nat} {sv : Bool} {own peer may cn : Nat → Nat} (hop : OpAt W o may cn) (hbel : Below w.heap.size w W) (c m : Nat) (hc : c < 4) (hs : SetIs (fun _ => True) W s base sv own peer may (bump cn c m)) (hso : s ≠ o) (hob : o < base) (hw : w.heap.size ≤ o) :
    LawI w (W.setCell ⟨o, 4 + (c % 2 * 2 + c / 2), none⟩ (.int .u64 (m : Nat))) s o base sv own peer may (bump cn c m) :=
  ⟨hs.blkOnly ((Only.refl _ _).set _ _) hso hob, op_set hop c m hc, hbel.setCell hw _⟩
theorem works_any (W : World) : Calls Tryz.prog 6 #[] W fun e W' => e = .returned (.bool true) ∧ Below W.heap.size W W' := Rf.runs_true mixedS (k := 100000) (by kernel_rfl) W
end Go.Proofs.YtgpnfdeneagdbaaGreat
