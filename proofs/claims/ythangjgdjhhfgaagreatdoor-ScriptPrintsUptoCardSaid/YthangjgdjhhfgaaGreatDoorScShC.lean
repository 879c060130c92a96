/- The library's functions in our own words: Split, Cut, Count, Index, ParseUint, and the Builder. -/
import Derived.Test.YthangjgdjhhfgaaGreatDoorScSh
import Derived.Test.YthangjgdjhhfgaaGreatDoorTxP
import Derived.Test.YthangjgdjhhfgaaGreatDoorBase
namespace Go.Proofs.YthangjgdjhhfgaaGreatDoor
open Go.RowKit
set_option linter.unusedVariables false

abbrev tx (l : List UInt8) : ByteArray := ⟨l.toArray⟩
theorem tx_size (l : List UInt8) : (tx l).size = l.length := by simp [ByteArray.size]
theorem tx_data (l : List UInt8) : (tx l).data.toList = l := by simp []
theorem tx_of (s : ByteArray) : s = tx s.data.toList := by simp [tx]
theorem tx_inj {a b : List UInt8} : tx a = tx b ↔ a = b := by
  constructor
  · intro h
    have := congrArg (fun s : ByteArray => s.data.toList) h
    simpa [tx] using this
  · rintro rfl; rfl
theorem tx_append (a b : List UInt8) : tx a ++ tx b = tx (a ++ b) := by
  apply ByteArray.ext
  simp [tx]
theorem below_drewN' {B : Nat} {a w : World} (h : Below B a w) (n : Nat) : Below B a (w.drewN n) := h.trans ⟨rfl, rfl, rfl, Nat.le_refl _, fun _ _ => rfl⟩
def MaxLenAt (w : World) : Prop := ∃ m : Int, w.cell? ⟨0, 0, none⟩ = some (.int .i64 m)
theorem MaxLenAt.of {w : World} (h : w.ShapedOpen Tryz.prog) : MaxLenAt w := L.laysM145.s1_3 w h
theorem MaxLenAt.below {w w' : World} (h : MaxLenAt w) {n : Nat} (hn : 0 < n) (hb : Below n w w') : MaxLenAt w' := by
  obtain ⟨m, hm⟩ := h
  exact ⟨m, (hb.cell (p := ⟨0, 0, none⟩) hn).trans hm⟩
theorem pcs_pos (c : UInt8) : ∀ (l acc : List UInt8), 0 < (pcsA c acc l).length
  | [], acc => by simp [pcsA]
  | x :: l, acc => by
    rw [pcsA]; split
    · simp
    · exact pcs_pos c l _
theorem splitB_pcs (l : List UInt8) (c : UInt8) : (Lib.splitB (tx [c]) 0 (Lib.countB (tx l) (tx [c])) (tx l)) = (pcs c l).map tx := by
  have h := Lib.splitB_data (tx [c]) 0 (Lib.countB (tx l) (tx [c])) (tx l)
  simp only [] at h
  have h2 : Lib.splitK [c] 0 (Lib.countB (tx l) (tx [c])) l = pcs c l := by
    have := split_pcs c l.length l (Nat.le_refl _)
    unfold Lib.split at this
    have e : Lib.countB (tx l) (tx [c]) = Lib.count l [c] := by simp [Lib.countB]
    rw [e]; exact this
  rw [h2] at h
  have h3 := congrArg (List.map tx) h
  rw [List.map_map] at h3
  rw [← h3]
  conv => lhs; rw [← List.map_id (Lib.splitB _ _ _ _)]
  apply List.map_congr_left
  intro s _
  exact tx_of s
theorem split_any (l : List UInt8) (c : UInt8) (w : World) (hs : l.length < 4294967281) (hm : MaxLenAt w) :
    Calls Tryz.prog 22 #[.string (tx l), .string (tx [c])] w fun e w' =>
      e = .returned (.slice (some ⟨w.heap.size, 0, none⟩) (pcs c l).length (pcs c l).length) ∧ w' = w.alloc (.cells ((pcs c l).map fun p => Value.string (tx p)).toArray 9) := by
  obtain ⟨m, hm⟩ := hm
  refine (Any.strings_Split L.lays146 (by kernel_rfl) (tx l) (tx [c]) m w (by rw [tx_size]; exact hs) hm (by rw [tx_size]; simp)).mono ?_
  rintro e w' ⟨rfl, rfl⟩
  have h1 := splitB_pcs l c
  have h2 := Lib.splitB_all (tx [c]) (by rw [tx_size]; simp) 0 _ (tx l) rfl
  rw [h1, List.length_map] at h2
  rw [h1, ← h2, List.map_map]
  exact ⟨rfl, rfl⟩
/-- What stands ahead of the first c, and behind it. -/
def hdc (c : UInt8) (l : List UInt8) : List UInt8 := l.takeWhile (· ≠ c)
def tlc (c : UInt8) (l : List UInt8) : List UInt8 := l.drop ((hdc c l).length + 1)
theorem hdc_none {c : UInt8} {l : List UInt8} (h : c ∉ l) : hdc c l = l := by
  unfold hdc
  induction l with
  | nil => rfl
  | cons x l ih =>
    have h1 : x ≠ c := fun e => h (by simp [e])
    rw [List.takeWhile_cons_of_pos (by simpa using h1), ih (fun hh => h (List.mem_cons_of_mem _ hh))]
theorem cut_any (l : List UInt8) (c : UInt8) (w : World) (hs : l.length < 4294967281) (hm : MaxLenAt w) :
    Calls Tryz.prog 23 #[.string (tx l), .string (tx [c])] w fun e w' =>
      e = .returned (.tuple #[.string (tx (hdc c l)), .string (tx (tlc c l)), .bool (decide (c ∈ l))]) ∧ Below w.heap.size w w' := by
  obtain ⟨m, hm⟩ := hm
  refine (Any.strings_Cut { L.laysM145 with } (tx l) (tx [c]) m w (by rw [tx_size]; exact hs) hm).mono ?_
  rintro e w' ⟨rfl, n, rfl⟩
  refine ⟨?_, below_drewN' (Below.refl _ _) n⟩
  have e1 : (tx l).data.toList = l := tx_data l
  have e2 : (tx [c]).data.toList = [c] := tx_data [c]
  have hc : Lib.cut l [c] = (hdc c l, tlc c l, decide (c ∈ l)) := by
    unfold Lib.cut
    rw [index_one]
    by_cases h : c ∈ l
    · rw [if_pos h, if_pos (by omega)]
      simp only [Int.toNat_natCast, List.length_singleton, h, decide_true]
      rw [show hdc c l = l.take (l.takeWhile (· ≠ c)).length from List.prefix_iff_eq_take.1 (List.takeWhile_prefix _)]
      rfl
    · rw [if_neg h, if_neg (by omega)]
      simp only [h, decide_false]
      rw [hdc_none h, tlc, hdc_none h, List.drop_of_length_le (by omega)]
  rw [e1, e2, hc]
theorem count_any (l : List UInt8) (c : UInt8) (w : World) :
    Calls Tryz.prog 38 #[.string (tx l), .string (tx [c])] w fun e w' => e = .returned (.int .i64 (l.count c)) ∧ w' = w := by
  refine (Any.strings_Count_one L.lays138 (tx l) c w).mono ?_
  rintro e w' ⟨rfl, rfl⟩
  refine ⟨?_, rfl⟩
  have e1 : (tx l).data.toList = l := tx_data l
  rw [e1]; rfl
theorem dec_dig (u : Nat) (h : u < 10 ^ 40) : Lib.decDigits u = dig u := by
  induction u using Nat.strongRecOn with
  | _ u ih =>
    by_cases h1 : u < 10
    · rw [Lib.decDigits, dif_pos h1, dig_small h1, dg1, Nat.mod_eq_of_lt h1]
    · rw [Lib.decDigits, dif_neg h1, dig_big h1 h, ih (u / 10) (by omega) (by omega)]; rfl
/-- ParseUint of 64 bits: the number, or an error that is not nil. -/
def ErrAt (w : World) : Prop := (∃ v, w.cell? ⟨4, 0, none⟩ = some v ∧ (v = .nilIface ∨ ∃ te pe, v = .iface te pe)) ∧ (∃ v, w.cell? ⟨5, 0, none⟩ = some v ∧ (v = .nilIface ∨ ∃ te pe, v = .iface te pe))
theorem ErrAt.below {w w' : World} (h : ErrAt w) {n : Nat} (hn : 4 < n ∧ 5 < n) (hb : Below n w w') : ErrAt w' := by
  obtain ⟨⟨v, h1, h2⟩, v', h3, h4⟩ := h
  exact ⟨⟨v, (hb.cell (p := ⟨4, 0, none⟩) hn.1).trans h1, h2⟩, v', (hb.cell (p := ⟨5, 0, none⟩) hn.2).trans h3, h4⟩
theorem below_bytes (w : World) (t : TypeId) (s : ByteArray) : Below w.heap.size w (Lib.bytesWorld w t s) := by
  unfold Lib.bytesWorld
  exact Lib.below_freeze ((Below.drew (Below.refl _ _)).alloc (Nat.le_refl _) _) (Nat.le_refl _) _
theorem puint_ok (l : List UInt8) (u : Nat) (w : World) (hs : l.length < 4294967281) (h : Lib.parseUintB 64 l = .ok u) :
    Calls Tryz.prog 62 #[.string (tx l), .int .i64 10, .int .i64 64] w fun e w' => e = .returned (.tuple #[.int .u64 u, .nilIface]) ∧ Below w.heap.size w w' := by
  refine (Any.strconv_ParseUint_10_at64_ok L.laysPu14 (tx l) (by rw [tx_size]; omega) u (by rw [tx_data]; exact h) w).mono ?_
  rintro e w' ⟨rfl, rfl | rfl⟩
  · exact ⟨rfl, Below.refl _ _⟩
  · exact ⟨rfl, below_bytes _ _ _⟩
theorem puint_no (l : List UInt8) (w : World) (hs : l.length < 4294967281) (hE : ErrAt w) (h : ∀ u, Lib.parseUintB 64 l ≠ .ok u) :
    Calls Tryz.prog 62 #[.string (tx l), .int .i64 10, .int .i64 64] w fun e w' => ∃ n p t, e = .returned (.tuple #[.int .u64 (n : Nat), .iface t p]) ∧ Below w.heap.size w w' := by
  obtain ⟨⟨v, h1, h2⟩, v', h3, h4⟩ := hE
  cases hp : Lib.parseUintB 64 l with
  | ok u => exact absurd hp (h u)
  | range =>
    refine (Any.strconv_ParseUint_10_at64_range L.laysPu14 (tx l) (by rw [tx_size]; omega) (by rw [tx_data]; exact hp) v' w h3 h4).mono ?_
    rintro e w' ⟨N, rfl, _, _, hb⟩
    exact ⟨18446744073709551615, _, _, rfl, hb⟩
  | _ =>
    refine (Any.strconv_ParseUint_10_at64_syntax L.laysPu14 (tx l) (by rw [tx_size]; omega) (by rw [tx_data]; exact hp) v w h1 h2).mono ?_
    rintro e w' ⟨N, rfl, _, _, hb⟩
    exact ⟨0, _, _, rfl, hb⟩
/-! ### The Builder -/
def Bd (B b : Nat) (l : List UInt8) (w : World) : Prop := Lib.IsBuilderF 45 5 B b (Lib.byteCells l) w
theorem wstr_any (B b : Nat) (l s : List UInt8) (w : World) (h : Bd B b l w) (hlen : l.length + s.length ≤ 140737488355328) (hB : B ≤ w.heap.size) :
    Calls Tryz.prog 13 #[.pointer (some ⟨b, 0, none⟩), .string (tx s)] w fun e w' => e = .returned (.tuple #[.int .i64 s.length, .nilIface]) ∧ Bd B b (l ++ s) w' ∧ Below B w w' := by
  refine (Any.Builder_WriteString_k L.lays166 L.Builder_Extra_166 B b (Lib.byteCells l) (tx s) w h (by rw [tx_size]; simpa [Lib.byteCells] using hlen) hB).mono ?_
  rintro e w' ⟨rfl, h1, h2, h3⟩
  refine ⟨by rw [tx_size], .inr ?_, h2⟩
  have e1 : Lib.byteCells l ++ Lib.strCells (tx s) = Lib.byteCells (l ++ s) := by simp [Lib.byteCells, Lib.strCells]
  rw [e1] at h1
  exact h1
theorem bstr_any (B b : Nat) (l : List UInt8) (w : World) (h : Bd B b l w) (hB : B ≤ w.heap.size) :
    Calls Tryz.prog 14 #[.pointer (some ⟨b, 0, none⟩)] w fun e w' => e = .returned (.string (tx l)) ∧ Below B w w' := by
  refine (Any.Builder_String_any_k L.lays169 L.Builder_Extra_169 B b l w h hB).mono ?_
  rintro e w' ⟨rfl, _, h2, _⟩
  exact ⟨rfl, h2⟩
theorem Bd.new (w : World) : Bd w.heap.size w.heap.size [] (w.alloc (.cells #[.pointer none, .slice none 0 0] 45)) := by
  refine .inl (Lib.BuilderAtF.of ⟨Nat.le_refl _, _, Blk.new w _ _, World.ownsRow_nil _ _ _ _, fun h => by cases h⟩)
end Go.Proofs.YthangjgdjhhfgaaGreatDoor
