import Derived.Test.YtcpjehgoeibbeaaVar
import Derived.Laws.OwnMore
import Derived.OwnWalk
/- Take: what is taken. -/
namespace Go.Proofs.Ytcpjehgoeibbeaa
open Go.RowKit
set_option linter.unusedVariables false
namespace Var

theorem fold_take {α β : Type} (f : β → α → β) (s : β) (l : List α) (d : α) (k : Nat) (h : k < l.length) : (l.take (k + 1)).foldl f s = f ((l.take k).foldl f s) (l.getD k d) := by
  rw [List.take_succ_eq_append_getElem h, List.foldl_append]
  simp [List.getD_eq_getElem?_getD, h]
theorem or256 (m c : Int) (h0 : 0 ≤ m) (h1 : m < 72057594037927936) (h2 : 0 ≤ c) (h3 : c ≤ 255) : bits .or .u64 (m * 256) c = m * 256 + c :=
  bits_join .u64 64 (by decide) (fun n h0 h1 => by rw [IntKind.wrap_u64]; omega) 8 (m * 256) c (by omega) (by omega) (by omega) h2 (by omega) (by omega)
def takeN (L : List Int) : Int := ((takeF L).map (·.1)).getD 0
def takeU (L : List Int) : Nat := ((takeF L).map (·.2)).getD 0

set_option maxHeartbeats 1000000 in
theorem take_any (a : Option Addr) (n cap : Nat) (L : List Int) (w : World) (hn : n = L.length) (hS : Sl .u8 w a cap L) :
    Calls Try.prog 58 #[.slice a n cap] w fun e w' => e = .returned (.tuple #[.int .u64 (takeN L), .int .i64 (takeU L), .bool (takeF L).isSome]) ∧ w = w' := by
  subst hn
  have hlen := hS.len
  unfold maxLen at hlen
  cases L with
  | nil =>
    go_enter Try.func58, Try.ntmps58
    go_wp2_with (fail)
    go_returns
    exact ⟨rfl, rfl⟩
  | cons x r =>
    have hb : ∀ y ∈ x :: r, Byte y := fun y hy => by have := bounds_u8 (hS.wf y hy); exact this
    have hx := hb x (by simp)
    unfold Byte at hx
    obtain ⟨b1, off, rfl, hb1, hcell, hwf⟩ := hS.ints 0 (by simp)
    have HS := Lib.hid hS
    have HB := Lib.hid hb
    clear hS hb
    simp only [List.getD_cons_zero, Nat.add_zero] at hcell hwf
    simp only [List.length_cons] at hlen ⊢
    go_enter Try.func58, Try.ntmps58
    go_wp2_with (fail)
    refine (width_any (x / 64) _ (by omega) (by omega)).mono ?_
    rintro e w1 ⟨rfl, rfl⟩
    have hW : 1 ≤ 2 ^ (x / 64).toNat ∧ 2 ^ (x / 64).toNat ≤ 8 := by
      rcases (by omega : (x / 64).toNat = 0 ∨ (x / 64).toNat = 1 ∨ (x / 64).toNat = 2 ∨ (x / 64).toNat = 3) with h | h | h | h <;> rw [h] <;> decide
    have e1 : takeF (x :: r) = if r.length + 1 < 2 ^ (x / 64).toNat then none else some ((r.take (2 ^ (x / 64).toNat - 1)).foldl (fun a c => a * 256 + c) (x % 64), 2 ^ (x / 64).toNat) := by simp [takeF]
    generalize 2 ^ (x / 64).toNat = W at *
    by_cases hle : r.length + 1 < W
    · rw [if_pos hle] at e1
      go_wp2_with (fail)
      go_returns
      exact ⟨by simp [takeN, takeU, e1], rfl⟩
    · rw [if_neg hle] at e1
      have E1 := Lib.hid e1
      clear e1
      go_wp2_with (with_reducible refine stop_cut ?_)
      refine Stop.out ?_
      refine wpList_cut bytes_et rfl rfl rfl rfl rfl HS.out 1 W rfl rfl (by omega) (by simp; omega) ?_
      intro a2 hS2 hbl2
      simp only [List.drop_succ_cons, List.drop_zero] at hS2
      have hT : (r.take (W - 1)).length = W - 1 := by simp; omega
      have hTb : ∀ y ∈ r.take (W - 1), Byte y := fun y hy => HB.out y (by simp [List.mem_of_mem_take hy])
      generalize r.take (W - 1) = T at *
      have H2 := Lib.hid hS2
      have HTB := Lib.hid hTb
      clear hS2 hTb
      go_wp2_with (fail)
      go_loop [2, 6, 29] (fun m _ i => ∃ k : Nat, i = .int .i64 k ∧ k ≤ W - 1 ∧ m = .int .u64 ((T.take k).foldl (fun a c => a * 256 + c) (x % 64))) (fun _ _ i => W - (intOf i).toNat)
      case atStart => exact ⟨0, rfl, by omega, by simp⟩
      case round =>
        obtain ⟨k, rfl, hk, rfl⟩ := hrel
        by_cases hlt : k < W - 1
        · obtain ⟨b2, off2, rfl, hb2, hcell2, hwf2⟩ := H2.out.ints k (by omega)
          have hc2 := bounds_u8 hwf2
          have hf := fold_take (fun a c => a * 256 + c) (x % 64) T 0 k (by omega)
          have hbd := fold_bd (T.take k) (x % 64) (fun y hy => HTB.out y (List.mem_of_mem_take hy)) (by omega)
          have hbd2 : (T.take k).foldl (fun a c => a * 256 + c) (x % 64) < 72057594037927936 := by
            refine Int.lt_of_lt_of_le hbd.2 ?_
            have hp : (256 : Int) ^ (T.take k).length ≤ 281474976710656 := by
              have e : (T.take k).length ≤ 6 := by simp; omega
              rcases (by omega : (T.take k).length = 0 ∨ (T.take k).length = 1 ∨ (T.take k).length = 2 ∨ (T.take k).length = 3 ∨ (T.take k).length = 4 ∨ (T.take k).length = 5 ∨ (T.take k).length = 6) with h | h | h | h | h | h | h <;> rw [h] <;> decide
            have := Int.mul_le_mul_of_nonneg_left hp (by omega : (0 : Int) ≤ x % 64 + 1)
            omega
          have hbd1 : 0 ≤ (T.take k).foldl (fun a c => a * 256 + c) (x % 64) := by
            have hp : (0 : Int) < 256 ^ (T.take k).length := Int.pow_pos (by omega)
            have := Int.mul_nonneg (by omega : (0 : Int) ≤ x % 64) (Int.le_of_lt hp)
            omega
          clear hbd
          generalize (T.take k).foldl (fun a c => a * 256 + c) (x % 64) = m at *
          generalize T.getD k 0 = c at *
          have H3 := Lib.hid hf
          clear hf
          go_wp2_with (fail)
          rw [or256 m c hbd1 hbd2 hc2.1 hc2.2]
          exact ⟨⟨k + 1, by go_num, by omega, by rw [H3.out]⟩, by simp [intOf]; omega⟩
        · obtain rfl : k = W - 1 := by omega
          go_wp2_with (fail)
          go_returns
          rw [List.take_of_length_le (by omega)]
          exact ⟨by simp [takeN, takeU, E1.out], rfl⟩

theorem take_ok {L : List Int} (hb : ∀ y ∈ L, Byte y) {n : Int} {u : Nat} (h : takeF L = some (n, u)) : u ≤ L.length ∧ 0 ≤ n ∧ n ≤ 4611686018427387903 ∧ sizeF n ≤ u ∧ 1 ≤ u ∧ u ≤ 8 := by
  cases L with
  | nil => simp [takeF] at h
  | cons x r =>
    obtain ⟨h1, h2, h3, h4, h5, h6, h7⟩ := take_bd x r (hb x (by simp)) (fun y hy => hb y (by simp [hy])) n u h
    exact ⟨by simpa using h2, h3, h4, h5, h6, h7⟩

end Var
end Go.Proofs.Ytcpjehgoeibbeaa

/- Append of layer 1: what is appended. -/
namespace Go.Proofs.Ytcpjehgoeibbeaa
open Go.RowKit
set_option linter.unusedVariables false
namespace Var

def encs (N : List Int) : List Int := N.flatMap enc
theorem encs_take (N : List Int) (k : Nat) (h : k < N.length) : encs (N.take (k + 1)) = encs (N.take k) ++ enc (N.getD k 0) := by
  unfold encs
  rw [List.take_succ_eq_append_getElem h, List.flatMap_append]
  simp [List.getD_eq_getElem?_getD, h]
theorem size_le (n : Int) : sizeF n ≤ 8 := by
  unfold sizeF
  split
  · have := class_le n
    rcases (by omega : classF n = 0 ∨ classF n = 1 ∨ classF n = 2 ∨ classF n = 3) with h | h | h | h <;> rw [h] <;> decide
  · omega
theorem encs_len (N : List Int) (h : ∀ n ∈ N, 0 ≤ n) : (encs N).length ≤ 8 * N.length := by
  induction N with
  | nil => simp [encs]
  | cons n N ih =>
    have h1 := ih (fun m hm => h m (by simp [hm]))
    have h2 := enc_length n (h n (by simp))
    have h3 := size_le n
    unfold encs at *
    simp only [List.flatMap_cons, List.length_append, List.length_cons]
    omega
theorem encs_bytes (N : List Int) (h : ∀ n ∈ N, 0 ≤ n) : ∀ x ∈ encs N, Byte x := by
  intro x hx
  obtain ⟨n, hn, hx⟩ := List.mem_flatMap.1 hx
  exact enc_bytes n (h n hn) x hx
theorem or64 (y : Int) (c : Nat) (h0 : 0 ≤ y) (h1 : y < 64) (hc : c ≤ 3) : bits .or .u8 y (c * 64) = y + c * 64 := by
  have hx : bits .or .u8 y (c * 64) = bits .or .u8 (c * 64) y := by simp only [bits, BitVec.or_comm]
  rw [hx, bits_join .u8 8 (by decide) wraps_u8 6 (c * 64) y (by omega) (by omega) (by omega) h0 (by omega) (by omega)]
  omega
theorem wf_byte {x : Int} (h : Byte x) : (Lit.int .u8 x).wf = true := WalkArith.wf_u8 h

/-- Each of them has a class. -/
def Fits (N : List Int) : Prop := ∀ x ∈ N, x ≤ 4611686018427387903

set_option maxHeartbeats 4000000 in
theorem append_any (a : Option Addr) (n cap : Nat) (B : List Int) (c : Option Addr) (m ccap : Nat) (N : List Int) (w : World) (hn : n = B.length) (hm : m = N.length) (hsz : B.length + 8 * N.length ≤ 70368744177664)
    (hB : Sl .u8 w a cap B) (hN : Sl .u64 w c ccap N) :
    Calls Try.prog 36 #[.slice a n cap, .slice c m ccap] w fun e w' => Below w.heap.size w w' ∧
      (Fits N → ∃ a' cap', e = .returned (.tuple #[.slice a' (B ++ encs N).length cap', .int .i64 0]) ∧ OwnS w' w.heap.size 5 1 a' (B ++ encs N).length cap' ((B ++ encs N).map (Value.int .u8)))
      ∧ (¬ Fits N → e = .returned (.tuple #[.slice none 0 0, .int .i64 5])) := by
  subst hn
  subst hm
  have hb : ∀ y ∈ B, Byte y := fun y hy => by have := bounds_u8 (hB.wf y hy); exact this
  have hn : ∀ y ∈ N, 0 ≤ y ∧ y ≤ 18446744073709551615 := fun y hy => by have := bounds_u64 (hN.wf y hy); exact this
  have HB := Lib.hid hB
  have HN := Lib.hid hN
  have HBB := Lib.hid hb
  have HNN := Lib.hid hn
  clear hB hN hb hn
  go_enter Try.func36, Try.ntmps36
  go_wp2_with (at_builtin; refine Stop.mk ?_)
  refine Stop.out ?_
  refine wpList_app bytes_et rfl rfl rfl rfl (OwnS.nil w w.heap.size _ _) HB.out.src (by unfold maxLen; omega) (by omega) (Nat.le_refl _) ?_
  intro a1 cap1 w1 ho1 hon1 hat1
  simp only [Nat.zero_add, List.nil_append] at ho1 ⊢
  have k1 : Below w.heap.size w w1 := below_of_only hon1 (Nat.le_refl _) (by rintro k _ ⟨y, hy, _⟩; cases hy)
  clear hon1 hat1
  have HO := Lib.hid ho1
  clear ho1
  go_wp2_with (fail)
  go_loopw [6, 8, 9, 10, 11, 16] (fun o _ _ _ _ i wr => ∃ (k : Nat) (a' : Option Addr) (cap' : Nat), i = .int .i64 k ∧ k ≤ N.length ∧ (∀ j, j < k → N.getD j 0 ≤ 4611686018427387903) ∧ o = .slice a' (B ++ encs (N.take k)).length cap' ∧ Hid (OwnS wr w.heap.size 5 1 a' (B ++ encs (N.take k)).length cap' ((B ++ encs (N.take k)).map (Value.int .u8))) ∧ Below w.heap.size w wr) (fun _ _ _ _ _ i _ => N.length - (intOf i).toNat)
  case atStart => exact ⟨0, a1, cap1, rfl, by omega, fun j hj => by omega, by simp [encs], by simpa [encs] using HO, k1⟩
  case round =>
    obtain ⟨k, a', cap', rfl, hk, hall, rfl, ho, kb⟩ := hrel
    by_cases hlt : k < N.length
    · obtain ⟨b1, off, rfl, hb1, hcell, hwf⟩ := HN.out.ints k hlt
      have hcell := (kb.cell (p := ⟨b1, off + k, none⟩) hb1).trans hcell
      have hx := bounds_u64 hwf
      clear hwf
      have het := Lib.hid (encs_take N k hlt)
      have hgx : N.getD k 0 ∈ N := by simp [List.getD_eq_getElem?_getD, hlt]
      have hD : Hid (∀ y ∈ B ++ encs (N.take k), Byte y) := Lib.hid (fun y hy => by
        rcases List.mem_append.1 hy with hy | hy
        · exact HBB.out y hy
        · exact encs_bytes _ (fun n hn => (HNN.out n (List.mem_of_mem_take hn)).1) y hy)
      have hDl : (B ++ encs (N.take k)).length ≤ B.length + 8 * N.length := by
        have := encs_len (N.take k) (fun n hn => (HNN.out n (List.mem_of_mem_take hn)).1)
        simp at this ⊢; omega
      generalize hxe : N.getD k 0 = x at *
      generalize hDe : B ++ encs (N.take k) = D at *
      have hle := class_le x
      go_wp2_with (fail)
      refine (class_any x _ hx.1 hx.2).mono ?_
      rintro e w2 ⟨rfl, rfl⟩
      by_cases hc : classF x < 4
      · have hce := be_enc x hx.1 (by rcases class_cases x hx.1 with h | h | h | h | h <;> omega)
        have hW : 1 ≤ 2 ^ classF x ∧ 2 ^ classF x ≤ 8 := by
          rcases (by omega : classF x = 0 ∨ classF x = 1 ∨ classF x = 2 ∨ classF x = 3) with h | h | h | h <;> rw [h] <;> decide
        have hxm : x ≤ 4611686018427387903 := by rcases class_cases x hx.1 with h | h | h | h | h <;> omega
        go_wp2_with (fail)
        refine (width_any (classF x) _ (by omega) (by omega)).mono ?_
        rintro e w2 ⟨rfl, rfl⟩
        simp only [Int.toNat_natCast]
        generalize classF x = cl at *
        generalize 2 ^ cl = W at *
        have HCE := Lib.hid hce
        clear hce
        have hbl := be_length W x
        go_wp2_with (fail)
        have hne : ((cl : Int) == 4) = false := by simp; omega
        simp only [hne]
        go_loopw [6, 11] (fun o i wr => ∃ (j : Nat) (a2 : Option Addr) (cap2 : Nat), i = .int .i64 (W - 1 - j) ∧ j ≤ W ∧ o = .slice a2 (D.length + j) cap2 ∧ Hid (OwnS wr w.heap.size 5 1 a2 (D.length + j) cap2 ((D ++ (be W x).take j).map (Value.int .u8))) ∧ Below w.heap.size w wr) (fun _ i _ => (intOf i + 1).toNat)
        case atStart => exact ⟨0, a', cap', by go_num, by omega, rfl, by simpa using ho, kb⟩
        case round =>
          obtain ⟨j, a2, cap2, rfl, hj, rfl, ho2, kb2⟩ := hrel
          by_cases hjl : j < W
          · have hbt := be_take W x j hjl
            have HBT := Lib.hid hbt
            clear hbt
            go_wp2_with (at_builtin; refine Stop.mk ?_)
            refine Stop.out ?_
            refine wpList_app bytes_et rfl rfl rfl rfl (ho2.out.below ((Below.refl _ _).alloc (Nat.le_refl _) _)) (SrcAt.one _ _ _ rfl) (by unfold maxLen; omega) (by omega) (by have := kb2.size; simp; omega) ?_
            intro a3 cap3 w3 ho3 hon3 hat3
            have k3 : Below w.heap.size w w3 := below_onto (kb2.alloc kb2.size _) hon3 (by have := kb2.size; simp; omega) (by rintro z hz ⟨y, hy, rfl⟩; have := (ho2.out.block hy).1; omega)
            have ho3 : OwnS w3 w.heap.size 5 1 a3 (D.length + (j + 1)) cap3 ((D ++ (be W x).take (j + 1)).map (Value.int .u8)) := by
              rw [← HBT.out, ← List.append_assoc, List.map_append (l₁ := D ++ _)]; exact ho3
            have HO3 := Lib.hid ho3
            clear ho3 hat3 hon3
            go_wp2_with (fail)
            exact ⟨⟨j + 1, a3, cap3, by go_num, by omega, rfl, HO3, k3⟩, by simp [intOf]; omega⟩
          · obtain rfl : j = W := by omega
            have ho3 := ho2.out
            rw [List.take_of_length_le (by omega)] at ho3
            obtain ⟨g, rfl, hg0, hgl, hc, hf⟩ := ho3.at_ (i := D.length) (by simp [hbl]; omega)
            have hy : ((D ++ be j x).map (Value.int .u8))[D.length]? = some (.int .u8 ((be j x).getD 0 0)) := by
              rw [List.map_append, List.getElem?_append_right (by simp)]
              simp [List.getD_eq_getElem?_getD, List.getElem?_eq_getElem (show 0 < (be j x).length by omega)]
            rw [hy] at hc
            have hyb := be_byte j x ((be j x).getD 0 0) (by simp [List.getD_eq_getElem?_getD, List.getElem?_eq_getElem (show 0 < (be j x).length by omega)])
            unfold Byte at hyb
            have hy64 := HCE.out.2
            have he := HCE.out.1
            have HO4 := Lib.hid ho3
            clear ho3 ho2 hy
            generalize hye : (be j x).getD 0 0 = y at *
            go_wp2_with (fail)
            rw [or64 y cl hyb.1 hy64 (by omega)]
            have ho5 := OwnS.set HO4.out g rfl D.length (Value.int .u8 (y + cl * 64))
            have e5 : ((D ++ be j x).map (Value.int .u8)).set D.length (Value.int .u8 (y + cl * 64)) = (B ++ encs (N.take (k + 1))).map (Value.int .u8) := by
              rw [het.out, ← List.append_assoc, hDe, he, Int.mul_comm, ← List.map_set, List.set_append_right _ _ (Nat.le_refl _), Nat.sub_self]
            have e6 : D.length + j = (B ++ encs (N.take (k + 1))).length := by
              have := congrArg List.length e5; simpa [hbl] using this
            rw [e5, e6] at ho5
            refine ⟨⟨k + 1, _, cap2, by go_num, by omega, ?_, by rw [e6], Lib.hid ho5, kb2.setCell (by omega) _⟩, by simp [intOf]; omega⟩
            intro i hi
            by_cases hik : i = k
            · rw [hik, hxe]; exact hxm
            · exact hall i (by omega)
      · obtain hc4 : classF x = 4 := by omega
        have hxm : Hid (¬ x ≤ 4611686018427387903) := Lib.hid (by rcases class_cases x hx.1 with h | h | h | h | h <;> omega)
        rw [hc4]
        clear hc4 hc hle hD hDl het hxe hDe hall ho
        go_wp2_with (fail)
        go_returns
        refine ⟨kb, ?_⟩
        have hno : ¬ Fits N := fun h => by have h1 := h x hgx; have h2 := hxm.out; omega
        exact ⟨fun h => absurd h hno, fun _ => rfl⟩
    · have hek := Lib.hid (show k = N.length by omega)
      have hnl : decide ((k : Int) < N.length) = false := by simp; omega
      go_wp2_with (fail)
      go_returns
      refine ⟨kb, ?_⟩
      have hyes : Fits N := by
        intro x hx
        obtain ⟨i, hi, rfl⟩ := List.getElem_of_mem hx
        have := hall i (by have := hek.out; omega)
        simpa [List.getD_eq_getElem?_getD, hi] using this
      rw [hek.out, List.take_length] at ho
      exact ⟨fun _ => ⟨a', cap', by rw [hek.out, List.take_length]; rfl, ho.out⟩, fun h => absurd hyes h⟩

end Var
end Go.Proofs.Ytcpjehgoeibbeaa

/- The document's bytes of a number. -/
namespace Go.Proofs.Ytcpjehgoeibbeaa
open Go.RowKit
set_option linter.unusedVariables false
namespace Var

theorem pow4 {c : Int} (h0 : 0 ≤ c) (h3 : c ≤ 3) : (c = 0 ∧ 2 ^ c.toNat = 1) ∨ (c = 1 ∧ 2 ^ c.toNat = 2) ∨ (c = 2 ∧ 2 ^ c.toNat = 4) ∨ (c = 3 ∧ 2 ^ c.toNat = 8) := by
  rcases (by omega : c = 0 ∨ c = 1 ∨ c = 2 ∨ c = 3) with rfl | rfl | rfl | rfl <;> simp

section
variable {P : Program} {ops : Array Oper} {rest : List Oper} {a : Act} {w : World} {Q : Exit → Act → World → Prop}
theorem stop_bstr {d : Option Tmp} {x : Operand} {ty : TypeId} {pos : String} {aft : Array Edge}
    (h : Stop (wpList P ops Q (⟨d, .convert 23 9 x, ty, pos, aft, none⟩ :: rest) a w)) : wpList P ops Q (⟨d, .convert 23 9 x, ty, pos, aft, none⟩ :: rest) a w := h
theorem stop_eql {d : Option Tmp} {x y : Operand} {t2 ty : TypeId} {pos : String} {aft : Array Edge} {g : Option (Nat × Bool)}
    (h : Stop (wpList P ops Q (⟨d, .binOp .eql 9 x y t2, ty, pos, aft, g⟩ :: rest) a w)) : wpList P ops Q (⟨d, .binOp .eql 9 x y t2, ty, pos, aft, g⟩ :: rest) a w := h
theorem stop_neq {d : Option Tmp} {x y : Operand} {t2 ty : TypeId} {pos : String} {aft : Array Edge} {g : Option (Nat × Bool)}
    (h : Stop (wpList P ops Q (⟨d, .binOp .neq 9 x y t2, ty, pos, aft, g⟩ :: rest) a w)) : wpList P ops Q (⟨d, .binOp .neq 9 x y t2, ty, pos, aft, g⟩ :: rest) a w := h
theorem stop_bstr_g {d : Option Tmp} {x : Operand} {ty : TypeId} {pos : String} {aft : Array Edge} {g : Nat × Bool}
    (h : Stop (wpList P ops Q (⟨d, .convert 23 9 x, ty, pos, aft, some g⟩ :: rest) a w)) : wpList P ops Q (⟨d, .convert 23 9 x, ty, pos, aft, some g⟩ :: rest) a w := h
end

/-- A block that has just been made, of these numbers. -/
theorem sl_new (kd : IntKind) (w : World) (T : TypeId) (L : List Int) (cs : Array Value) (h : cs = (L.map (Value.int kd)).toArray) (hw : ∀ n ∈ L, (Lit.int kd n).wf = true) (hl : L.length ≤ maxLen) :
    Sl kd (w.alloc (.cells cs T)) (some ⟨w.heap.size, 0, none⟩) L.length L := by
  subst h
  exact ⟨IntsAt.of_map (Blk.new w _ T) hw, by simp, Nat.le_refl _, hl⟩


theorem u8_zero : ((Try.prog).info? 5).bind (·.zero) = some (.int .u8 0) := by kernel_rfl
theorem own_cell {kd : IntKind} {w : World} {base : Nat} {e : TypeId} {a : Option Addr} {n cap : Nat} {L : List Int} (h : OwnS w base e 1 a n cap (L.map (Value.int kd))) {i : Nat} (hi : i < L.length) :
    ∃ g, a = some ⟨g, 0, none⟩ ∧ base ≤ g ∧ g < w.heap.size ∧ w.cell? ⟨g, i, none⟩ = some (.int kd (L.getD i 0)) ∧ w.frozen? ⟨g, i, none⟩ = false := by
  obtain ⟨g, h1, h2, h3, h4, h5⟩ := h.at_ (i := i) (by simpa using hi)
  exact ⟨g, h1, h2, h3, by rw [h4]; simp [List.getD_eq_getElem?_getD, hi], h5⟩
theorem tail_step (E : List Int) (m : Nat) (hm : m < E.length) : (List.replicate (m + 1) 0 ++ E.drop (m + 1)).set m (E.getD m 0) = List.replicate m 0 ++ E.drop m := by
  rw [List.drop_eq_getElem_cons hm, List.replicate_succ', List.append_assoc, List.set_append_right _ _ (by simp)]
  simp [List.getD_eq_getElem?_getD, hm]
theorem byte_fits {c : Nat} (hc : c ≤ 3) (x : Int) (k : Nat) : x / 2 ^ (8 * k) / 256 = x / 2 ^ (8 * (k + 1)) := by
  rw [Int.ediv_ediv_of_nonneg (Int.le_of_lt (Int.pow_pos (by decide)))]
  congr 1
  rw [Nat.mul_add, Int.pow_add]; rfl

set_option maxHeartbeats 4000000 in
theorem rbytes_any (x : Int) (w : World) (h0 : 0 ≤ x) (h1 : x ≤ 4611686018427387903) :
    Calls Try.prog 61 #[.int .u64 x, .int .i64 (sizeF x)] w fun e w' => ∃ a' cap', e = .returned (.slice a' (enc x).length cap') ∧ OwnS w' w.heap.size 5 1 a' (enc x).length cap' ((enc x).map (Value.int .u8)) ∧ Below w.heap.size w w' := by
  have hlen := enc_length x h0
  have hc : classF x ≤ 3 := by rcases class_cases x h0 with h | h | h | h | h <;> omega
  have hsz : sizeF x = 2 ^ classF x := by unfold sizeF; rw [if_pos (by omega)]
  have hce := be_enc x h0 h1
  have hW := pow4 (c := classF x) (by omega) (by omega)
  simp only [Int.toNat_natCast] at hW
  rw [hlen, hsz]
  generalize classF x = cl at *
  generalize 2 ^ cl = W at *
  have hbl := be_length W x
  have hWb : 1 ≤ W ∧ W ≤ 8 := by omega
  have HW := Lib.hid hW
  have HCE := Lib.hid hce
  have HSZ := Lib.hid hsz
  have HLE := Lib.hid hlen
  clear hW hce hsz hlen
  go_enter Try.func61, Try.ntmps61
  go_wp2_with (at_make; refine Stop.mk ?_)
  refine Stop.out ?_
  obtain ⟨i, z, q1, q2, q3, q4, q5, q6, q7⟩ := bytes_et
  refine wpList_make_full _ rfl _ _ 23 rfl w.heap.size 5 i z 1 q1 q2 q3 q4 .i64 .i64 _ _ W rfl rfl rfl rfl (by rw [q5]; omega) (by unfold maxLen; omega) (Nat.le_refl _) ?_
  have hz : z = .int .u8 0 := by have := u8_zero; rw [q2] at this; simp only [Option.bind_some, q3, Option.some.injEq] at this; exact this
  subst hz
  intro w1 hr hg
  have ho1 : OwnS w1 w.heap.size 5 1 (some ⟨w.heap.size, 0, none⟩) W W ((List.replicate W (0 : Int)).map (Value.int .u8)) := by
    have e : (madeCells (Value.int .u8 0).cells (W * 1)).toList = (List.replicate W (0 : Int)).map (Value.int .u8) := by
      rw [Nat.mul_one, show (Value.int IntKind.u8 0).cells = #[Value.int IntKind.u8 0] from rfl, toList_madeCells_one, List.map_replicate]
    rw [← e]; exact hr
  have hb1 : Below w.heap.size w w1 := ⟨hg.os, hg.tape, hg.output, hg.size, fun k hk => hg.block k hk (by simp)⟩
  have HO1 := Lib.hid ho1
  clear hr hg ho1 q1 q2 q3 q4 q5 q6 q7
  go_wp2_with (fail)
  go_loopw [0, 6] (fun n i wr => ∃ j : Nat, i = .int .i64 (W - 1 - j) ∧ n = .int .u64 (x / 2 ^ (8 * j)) ∧ j ≤ W ∧ Hid (OwnS wr w.heap.size 5 1 (some ⟨w.heap.size, 0, none⟩) W W ((List.replicate (W - j) (0 : Int) ++ (be W x).drop (W - j)).map (Value.int .u8))) ∧ Below w.heap.size w wr) (fun _ i _ => (intOf i + 1).toNat)
  case atStart => exact ⟨0, by go_num, by simp, by omega, by rw [Nat.sub_zero, List.drop_of_length_le (by omega), List.append_nil]; exact HO1, hb1⟩
  case round =>
    obtain ⟨j, rfl, rfl, hj, ho, hb⟩ := hrel
    by_cases hjl : j < W
    · obtain ⟨g, hg, hg0, hgl, hc0, hf⟩ := own_cell ho.out (i := W - 1 - j) (by simp; omega)
      cases hg
      generalize hy : (List.replicate (W - j) (0 : Int) ++ (be W x).drop (W - j)).getD (W - 1 - j) 0 = y at hc0
      clear hy
      have hxj : 0 ≤ x / 2 ^ (8 * j) ∧ x / 2 ^ (8 * j) ≤ x := ⟨Int.ediv_nonneg h0 (Int.le_of_lt (Int.pow_pos (by decide))), Int.ediv_le_self _ h0⟩
      have hbf := Lib.hid (byte_fits hc x j)
      have hbg := Lib.hid (be_get W x (W - 1 - j) (by omega))
      generalize hn : x / 2 ^ (8 * j) = n at *
      have hidx : (W : Int) - 1 - j = ((W - 1 - j : Nat) : Int) := by omega
      rw [hidx]
      go_wp2_with (fail)
      have ho5 := OwnS.set ho.out w.heap.size rfl (W - 1 - j) (.int .u8 (n % 256))
      have e5 : ((List.replicate (W - j) (0 : Int) ++ (be W x).drop (W - j)).map (Value.int .u8)).set (W - 1 - j) (.int .u8 (n % 256)) = (List.replicate (W - (j + 1)) (0 : Int) ++ (be W x).drop (W - (j + 1))).map (Value.int .u8) := by
        have t := tail_step (be W x) (W - 1 - j) (by omega)
        rw [hbg.out, show W - 1 - (W - 1 - j) = j by omega, hn, show W - 1 - j + 1 = W - j by omega] at t
        rw [← List.map_set, t, show W - (j + 1) = W - 1 - j by omega]
      rw [e5] at ho5
      exact ⟨⟨j + 1, by congr 1; omega, by rw [hbf.out], by omega, Lib.hid ho5, hb.setCell (by omega) _⟩, by simp [intOf] <;> omega⟩
    · obtain rfl : j = W := by omega
      have ho2 := ho.out
      rw [Nat.sub_self, List.replicate_zero, List.nil_append, List.drop_zero] at ho2
      have HO2 := Lib.hid ho2
      clear ho ho2
      go_wp2_with (fail)
      go_loop [7, 8] (fun c k => ∃ (q r : Nat), c = .int .i64 q ∧ k = .int .i64 r ∧ q ≤ cl ∧ Hid (q = 0 ∧ r = 1 ∨ q = 1 ∧ r = 2 ∨ q = 2 ∧ r = 4 ∨ q = 3 ∧ r = 8)) (fun c _ => 4 - (intOf c).toNat)
      case atStart => exact ⟨0, 1, rfl, rfl, by omega, by simp [Hid]⟩
      case round =>
        obtain ⟨q, r, rfl, rfl, hq, hqr⟩ := hrel
        have hb8 : r ≤ 8 ∧ q ≤ 3 := by have := hqr.out; omega
        by_cases hlt : r < j
        · go_wp2_with (fail)
          exact ⟨⟨q + 1, 2 * r, by go_num, by go_num, by have := hqr.out; have := HW.out; omega, Lib.hid (by have := hqr.out; have := HW.out; omega)⟩, by simp [intOf]; omega⟩
        · obtain rfl : q = cl := by have := hqr.out; have := HW.out; omega
          obtain ⟨g, hg, hg0, hgl, hc0, hf⟩ := own_cell HO2.out (i := 0) (by omega)
          cases hg
          have hyb := be_byte j x ((be j x).getD 0 0) (by simp [List.getD_eq_getElem?_getD, List.getElem?_eq_getElem (show 0 < (be j x).length by omega)])
          unfold Byte at hyb
          have hy64 := HCE.out.2
          have he := Lib.hid HCE.out.1
          generalize (be j x).getD 0 0 = y at *
          go_wp2_with (fail)
          go_returns
          have ho5 := OwnS.set HO2.out w.heap.size rfl 0 (.int .u8 (y + 64 * q))
          rw [← List.map_set, ← he.out] at ho5
          exact ⟨_, _, rfl, ho5, hb.setCell (Nat.le_refl _) _⟩

/-- A number's shortest bytes. -/
theorem rshort_any (x : Int) (w : World) (h0 : 0 ≤ x) (h1 : x ≤ 18446744073709551615) :
    Calls Try.prog 54 #[.int .u64 x] w fun e w' => ∃ a' cap', e = .returned (.slice a' (enc x).length cap') ∧ OwnS w' w.heap.size 5 1 a' (enc x).length cap' ((enc x).map (Value.int .u8)) ∧ Below w.heap.size w w' := by
  have hlen := enc_length x h0
  by_cases hx : x ≤ 4611686018427387903
  · have hs : 1 ≤ sizeF x := by
      unfold sizeF
      rw [if_pos (by rcases class_cases x h0 with h | h | h | h | h <;> omega)]
      exact Nat.one_le_two_pow
    have HL := Lib.hid hlen
    clear hlen
    go_enter Try.func54, Try.ntmps54
    go_wp2_with (fail)
    refine (rsize_any x _ h0 h1).mono ?_
    rintro e w1 ⟨rfl, rfl⟩
    go_wp2_with (fail)
    refine (rbytes_any x _ h0 hx).mono ?_
    rintro e w1 ⟨a', cap', rfl, ho, hb⟩
    have HO := Lib.hid ho
    clear ho
    go_wp2_with (fail)
    go_returns
    exact ⟨a', cap', rfl, HO.out, hb⟩
  · have hs : sizeF x = 0 := by
      unfold sizeF
      rw [if_neg (by rcases class_cases x h0 with h | h | h | h | h <;> omega)]
    have hE : enc x = [] := List.length_eq_zero_iff.1 (by rw [hlen, hs])
    rw [hE]
    clear hlen hE
    go_enter Try.func54, Try.ntmps54
    go_wp2_with (fail)
    refine (rsize_any x _ h0 h1).mono ?_
    rw [hs]
    rintro e w1 ⟨rfl, rfl⟩
    go_wp2_with (fail)
    go_returns
    exact ⟨none, 0, rfl, OwnS.nil _ _ _ _, Below.refl _ _⟩

end Var
end Go.Proofs.Ytcpjehgoeibbeaa
