/- Append of layer 1: what is appended. -/
import Derived.Test.YtjeolfnmheofeaaVar2
namespace Go.Proofs.Ytjeolfnmheofeaa
open Go.RowKit
set_option linter.unusedVariables false
namespace Var

def encs (N : List Int) : List Int := N.flatMap enc
theorem encs_take (N : List Int) (k : Nat) (h : k < N.length) : encs (N.take (k + 1)) = encs (N.take k) ++ enc (N.getD k 0) := by
  unfold encs
  rw [List.take_succ_eq_append_getElem h, List.flatMap_append]
  simp [List.getD_eq_getElem?_getD, h]
theorem size_le (n : Int) : sizeF n ≤ 8 := by
  unfold sizeF
  split
  · have := class_le n
    rcases (by omega : classF n = 0 ∨ classF n = 1 ∨ classF n = 2 ∨ classF n = 3) with h | h | h | h <;> rw [h] <;> decide
  · omega
theorem encs_len (N : List Int) (h : ∀ n ∈ N, 0 ≤ n) : (encs N).length ≤ 8 * N.length := by
  induction N with
  | nil => simp [encs]
  | cons n N ih =>
    have h1 := ih (fun m hm => h m (by simp [hm]))
    have h2 := enc_length n (h n (by simp))
    have h3 := size_le n
    unfold encs at *
    simp only [List.flatMap_cons, List.length_append, List.length_cons]
    omega
theorem encs_bytes (N : List Int) (h : ∀ n ∈ N, 0 ≤ n) : ∀ x ∈ encs N, Byte x := by
  intro x hx
  obtain ⟨n, hn, hx⟩ := List.mem_flatMap.1 hx
  exact enc_bytes n (h n hn) x hx
theorem or64 (y : Int) (c : Nat) (h0 : 0 ≤ y) (h1 : y < 64) (hc : c ≤ 3) : bits .or .u8 y (c * 64) = y + c * 64 := by
  have hx : bits .or .u8 y (c * 64) = bits .or .u8 (c * 64) y := by simp only [bits, BitVec.or_comm]
  rw [hx, bits_join .u8 8 (by decide) wraps_u8 6 (c * 64) y (by omega) (by omega) (by omega) h0 (by omega) (by omega)]
  omega
theorem wf_byte {x : Int} (h : Byte x) : (Lit.int .u8 x).wf = true := WalkArith.wf_u8 h

/-- Each of them has a class. -/
def Fits (N : List Int) : Prop := ∀ x ∈ N, x ≤ 4611686018427387903

set_option maxHeartbeats 4000000 in
theorem append_any (a : Option Addr) (n cap : Nat) (B : List Int) (c : Option Addr) (m ccap : Nat) (N : List Int) (w : World) (hn : n = B.length) (hm : m = N.length) (hsz : B.length + 8 * N.length ≤ 70368744177664)
    (hB : Sl .u8 w a cap B) (hN : Sl .u64 w c ccap N) :
    Calls Try.prog 20 #[.slice a n cap, .slice c m ccap] w fun e w' => Below w.heap.size w w' ∧
      (Fits N → ∃ a' cap', e = .returned (.tuple #[.slice a' (B ++ encs N).length cap', .int .i64 0]) ∧ OwnS w' w.heap.size 5 1 a' (B ++ encs N).length cap' ((B ++ encs N).map (Value.int .u8)))
      ∧ (¬ Fits N → e = .returned (.tuple #[.slice none 0 0, .int .i64 5])) := by
  subst hn
  subst hm
  have hb : ∀ y ∈ B, Byte y := fun y hy => by have := bounds_u8 (hB.wf y hy); exact this
  have hn : ∀ y ∈ N, 0 ≤ y ∧ y ≤ 18446744073709551615 := fun y hy => by have := bounds_u64 (hN.wf y hy); exact this
  have HB := Lib.hid hB
  have HN := Lib.hid hN
  have HBB := Lib.hid hb
  have HNN := Lib.hid hn
  clear hB hN hb hn
  go_enter Try.func20, Try.ntmps20
  go_wp2_with (at_builtin; refine Stop.mk ?_)
  refine Stop.out ?_
  refine wpList_app bytes_et rfl rfl rfl rfl (OwnS.nil w w.heap.size _ _) HB.out.src (by unfold maxLen; omega) (by omega) (Nat.le_refl _) ?_
  intro a1 cap1 w1 ho1 hon1 hat1
  simp only [Nat.zero_add, List.nil_append] at ho1 ⊢
  have k1 : Below w.heap.size w w1 := below_of_only hon1 (Nat.le_refl _) (by rintro k _ ⟨y, hy, _⟩; cases hy)
  clear hon1 hat1
  have HO := Lib.hid ho1
  clear ho1
  go_wp2_with (fail)
  go_loopw [6, 8, 9, 10, 11, 16] (fun o _ _ _ _ i wr => ∃ (k : Nat) (a' : Option Addr) (cap' : Nat), i = .int .i64 k ∧ k ≤ N.length ∧ (∀ j, j < k → N.getD j 0 ≤ 4611686018427387903) ∧ o = .slice a' (B ++ encs (N.take k)).length cap' ∧ Hid (OwnS wr w.heap.size 5 1 a' (B ++ encs (N.take k)).length cap' ((B ++ encs (N.take k)).map (Value.int .u8))) ∧ Below w.heap.size w wr) (fun _ _ _ _ _ i _ => N.length - (intOf i).toNat)
  case atStart => exact ⟨0, a1, cap1, rfl, by omega, fun j hj => by omega, by simp [encs], by simpa [encs] using HO, k1⟩
  case round =>
    obtain ⟨k, a', cap', rfl, hk, hall, rfl, ho, kb⟩ := hrel
    by_cases hlt : k < N.length
    · obtain ⟨b1, off, rfl, hb1, hcell, hwf⟩ := HN.out.ints k hlt
      have hcell := (kb.cell (p := ⟨b1, off + k, none⟩) hb1).trans hcell
      have hx := bounds_u64 hwf
      clear hwf
      have het := Lib.hid (encs_take N k hlt)
      have hgx : N.getD k 0 ∈ N := by simp [List.getD_eq_getElem?_getD, hlt]
      have hD : Hid (∀ y ∈ B ++ encs (N.take k), Byte y) := Lib.hid (fun y hy => by
        rcases List.mem_append.1 hy with hy | hy
        · exact HBB.out y hy
        · exact encs_bytes _ (fun n hn => (HNN.out n (List.mem_of_mem_take hn)).1) y hy)
      have hDl : (B ++ encs (N.take k)).length ≤ B.length + 8 * N.length := by
        have := encs_len (N.take k) (fun n hn => (HNN.out n (List.mem_of_mem_take hn)).1)
        simp at this ⊢; omega
      generalize hxe : N.getD k 0 = x at *
      generalize hDe : B ++ encs (N.take k) = D at *
      have hle := class_le x
      go_wp2_with (fail)
      refine (class_any x _ hx.1 hx.2).mono ?_
      rintro e w2 ⟨rfl, rfl⟩
      by_cases hc : classF x < 4
      · have hce := be_enc x hx.1 (by rcases class_cases x hx.1 with h | h | h | h | h <;> omega)
        have hW : 1 ≤ 2 ^ classF x ∧ 2 ^ classF x ≤ 8 := by
          rcases (by omega : classF x = 0 ∨ classF x = 1 ∨ classF x = 2 ∨ classF x = 3) with h | h | h | h <;> rw [h] <;> decide
        have hxm : x ≤ 4611686018427387903 := by rcases class_cases x hx.1 with h | h | h | h | h <;> omega
        go_wp2_with (fail)
        refine (width_any (classF x) _ (by omega) (by omega)).mono ?_
        rintro e w2 ⟨rfl, rfl⟩
        simp only [Int.toNat_natCast]
        generalize classF x = cl at *
        generalize 2 ^ cl = W at *
        have HCE := Lib.hid hce
        clear hce
        have hbl := be_length W x
        go_wp2_with (fail)
        have hne : ((cl : Int) == 4) = false := by simp; omega
        simp only [hne]
        go_loopw [6, 11] (fun o i wr => ∃ (j : Nat) (a2 : Option Addr) (cap2 : Nat), i = .int .i64 (W - 1 - j) ∧ j ≤ W ∧ o = .slice a2 (D.length + j) cap2 ∧ Hid (OwnS wr w.heap.size 5 1 a2 (D.length + j) cap2 ((D ++ (be W x).take j).map (Value.int .u8))) ∧ Below w.heap.size w wr) (fun _ i _ => (intOf i + 1).toNat)
        case atStart => exact ⟨0, a', cap', by go_num, by omega, rfl, by simpa using ho, kb⟩
        case round =>
          obtain ⟨j, a2, cap2, rfl, hj, rfl, ho2, kb2⟩ := hrel
          by_cases hjl : j < W
          · have hbt := be_take W x j hjl
            have HBT := Lib.hid hbt
            clear hbt
            go_wp2_with (at_builtin; refine Stop.mk ?_)
            refine Stop.out ?_
            refine wpList_app bytes_et rfl rfl rfl rfl (ho2.out.below ((Below.refl _ _).alloc (Nat.le_refl _) _)) (SrcAt.one _ _ _ rfl) (by unfold maxLen; omega) (by omega) (by have := kb2.size; simp; omega) ?_
            intro a3 cap3 w3 ho3 hon3 hat3
            have k3 : Below w.heap.size w w3 := below_onto (kb2.alloc kb2.size _) hon3 (by have := kb2.size; simp; omega) (by rintro z hz ⟨y, hy, rfl⟩; have := (ho2.out.block hy).1; omega)
            have ho3 : OwnS w3 w.heap.size 5 1 a3 (D.length + (j + 1)) cap3 ((D ++ (be W x).take (j + 1)).map (Value.int .u8)) := by
              rw [← HBT.out, ← List.append_assoc, List.map_append (l₁ := D ++ _)]; exact ho3
            have HO3 := Lib.hid ho3
            clear ho3 hat3 hon3
            go_wp2_with (fail)
            exact ⟨⟨j + 1, a3, cap3, by go_num, by omega, rfl, HO3, k3⟩, by simp [intOf]; omega⟩
          · obtain rfl : j = W := by omega
            have ho3 := ho2.out
            rw [List.take_of_length_le (by omega)] at ho3
            obtain ⟨g, rfl, hg0, hgl, hc, hf⟩ := ho3.at_ (i := D.length) (by simp [hbl]; omega)
            have hy : ((D ++ be j x).map (Value.int .u8))[D.length]? = some (.int .u8 ((be j x).getD 0 0)) := by
              rw [List.map_append, List.getElem?_append_right (by simp)]
              simp [List.getD_eq_getElem?_getD, hbl, List.getElem?_eq_getElem (show 0 < (be j x).length by omega)]
            rw [hy] at hc
            have hyb := be_byte j x ((be j x).getD 0 0) (by simp [List.getD_eq_getElem?_getD, hbl, List.getElem?_eq_getElem (show 0 < (be j x).length by omega)])
            unfold Byte at hyb
            have hy64 := HCE.out.2
            have he := HCE.out.1
            have HO4 := Lib.hid ho3
            clear ho3 ho2 hy
            generalize hye : (be j x).getD 0 0 = y at *
            go_wp2_with (fail)
            rw [or64 y cl hyb.1 hy64 (by omega)]
            have ho5 := OwnS.set HO4.out g rfl D.length (Value.int .u8 (y + cl * 64))
            have e5 : ((D ++ be j x).map (Value.int .u8)).set D.length (Value.int .u8 (y + cl * 64)) = (B ++ encs (N.take (k + 1))).map (Value.int .u8) := by
              rw [het.out, ← List.append_assoc, hDe, he, Int.mul_comm, ← List.map_set, List.set_append_right _ _ (Nat.le_refl _), Nat.sub_self]
            have e6 : D.length + j = (B ++ encs (N.take (k + 1))).length := by
              have := congrArg List.length e5; simpa [hbl] using this
            rw [e5, e6] at ho5
            refine ⟨⟨k + 1, _, cap2, by go_num, by omega, ?_, by rw [e6], Lib.hid ho5, kb2.setCell (by omega) _⟩, by simp [intOf]; omega⟩
            intro i hi
            by_cases hik : i = k
            · rw [hik, hxe]; exact hxm
            · exact hall i (by omega)
      · obtain hc4 : classF x = 4 := by omega
        have hxm : Hid (¬ x ≤ 4611686018427387903) := Lib.hid (by rcases class_cases x hx.1 with h | h | h | h | h <;> omega)
        rw [hc4]
        clear hc4 hc hle hD hDl het hxe hDe hall ho
        go_wp2_with (fail)
        go_returns
        refine ⟨kb, ?_⟩
        have hno : ¬ Fits N := fun h => by have h1 := h x hgx; have h2 := hxm.out; omega
        exact ⟨fun h => absurd h hno, fun _ => rfl⟩
    · have hek := Lib.hid (show k = N.length by omega)
      have hnl : decide ((k : Int) < N.length) = false := by simp; omega
      go_wp2_with (fail)
      go_returns
      refine ⟨kb, ?_⟩
      have hyes : Fits N := by
        intro x hx
        obtain ⟨i, hi, rfl⟩ := List.getElem_of_mem hx
        have := hall i (by have := hek.out; omega)
        simpa [List.getD_eq_getElem?_getD, hi] using this
      rw [hek.out, List.take_length] at ho
      exact ⟨fun _ => ⟨a', cap', by rw [hek.out, List.take_length]; rfl, ho.out⟩, fun h => absurd hyes h⟩

end Var
end Go.Proofs.Ytjeolfnmheofeaa
