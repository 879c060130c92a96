/- Take: what is taken. -/
import Derived.Test.YtjeolfnmheofeaaVar
namespace Go.Proofs.Ytjeolfnmheofeaa
open Go.RowKit
set_option linter.unusedVariables false
namespace Var

theorem fold_take {α β : Type} (f : β → α → β) (s : β) (l : List α) (d : α) (k : Nat) (h : k < l.length) : (l.take (k + 1)).foldl f s = f ((l.take k).foldl f s) (l.getD k d) := by
  rw [List.take_succ_eq_append_getElem h, List.foldl_append]
  simp [List.getD_eq_getElem?_getD, h]
theorem or256 (m c : Int) (h0 : 0 ≤ m) (h1 : m < 72057594037927936) (h2 : 0 ≤ c) (h3 : c ≤ 255) : bits .or .u64 (m * 256) c = m * 256 + c :=
  bits_join .u64 64 (by decide) (fun n h0 h1 => by rw [IntKind.wrap_u64]; omega) 8 (m * 256) c (by omega) (by omega) (by omega) h2 (by omega) (by omega)
def takeN (L : List Int) : Int := ((takeF L).map (·.1)).getD 0
def takeU (L : List Int) : Nat := ((takeF L).map (·.2)).getD 0

set_option maxHeartbeats 1000000 in
theorem take_any (a : Option Addr) (n cap : Nat) (L : List Int) (w : World) (hn : n = L.length) (hS : Sl .u8 w a cap L) :
    Calls Try.prog 13 #[.slice a n cap] w fun e w' => e = .returned (.tuple #[.int .u64 (takeN L), .int .i64 (takeU L), .bool (takeF L).isSome]) ∧ w = w' := by
  subst hn
  have hlen := hS.len
  unfold maxLen at hlen
  cases L with
  | nil =>
    go_enter Try.func13, Try.ntmps13
    go_wp2_with (fail)
    go_returns
    exact ⟨rfl, rfl⟩
  | cons x r =>
    have hb : ∀ y ∈ x :: r, Byte y := fun y hy => by have := bounds_u8 (hS.wf y hy); exact this
    have hx := hb x (by simp)
    unfold Byte at hx
    obtain ⟨b1, off, rfl, hb1, hcell, hwf⟩ := hS.ints 0 (by simp)
    have HS := Lib.hid hS
    have HB := Lib.hid hb
    clear hS hb
    simp only [List.getD_cons_zero, Nat.add_zero] at hcell hwf
    simp only [List.length_cons] at hlen ⊢
    go_enter Try.func13, Try.ntmps13
    go_wp2_with (fail)
    refine (width_any (x / 64) _ (by omega) (by omega)).mono ?_
    rintro e w1 ⟨rfl, rfl⟩
    have hW : 1 ≤ 2 ^ (x / 64).toNat ∧ 2 ^ (x / 64).toNat ≤ 8 := by
      rcases (by omega : (x / 64).toNat = 0 ∨ (x / 64).toNat = 1 ∨ (x / 64).toNat = 2 ∨ (x / 64).toNat = 3) with h | h | h | h <;> rw [h] <;> decide
    have e1 : takeF (x :: r) = if r.length + 1 < 2 ^ (x / 64).toNat then none else some ((r.take (2 ^ (x / 64).toNat - 1)).foldl (fun a c => a * 256 + c) (x % 64), 2 ^ (x / 64).toNat) := by simp [takeF]
    generalize 2 ^ (x / 64).toNat = W at *
    by_cases hle : r.length + 1 < W
    · rw [if_pos hle] at e1
      go_wp2_with (fail)
      go_returns
      exact ⟨by simp [takeN, takeU, e1], rfl⟩
    · rw [if_neg hle] at e1
      have E1 := Lib.hid e1
      clear e1
      go_wp2_with (with_reducible refine stop_cut ?_)
      refine Stop.out ?_
      refine wpList_cut bytes_et rfl rfl rfl rfl rfl HS.out 1 W rfl rfl (by omega) (by simp; omega) ?_
      intro a2 hS2 hbl2
      simp only [List.drop_succ_cons, List.drop_zero] at hS2
      have hT : (r.take (W - 1)).length = W - 1 := by simp; omega
      have hTb : ∀ y ∈ r.take (W - 1), Byte y := fun y hy => HB.out y (by simp [List.mem_of_mem_take hy])
      generalize r.take (W - 1) = T at *
      have H2 := Lib.hid hS2
      have HTB := Lib.hid hTb
      clear hS2 hTb
      go_wp2_with (fail)
      go_loop [2, 6, 29] (fun m _ i => ∃ k : Nat, i = .int .i64 k ∧ k ≤ W - 1 ∧ m = .int .u64 ((T.take k).foldl (fun a c => a * 256 + c) (x % 64))) (fun _ _ i => W - (intOf i).toNat)
      case atStart => exact ⟨0, rfl, by omega, by simp⟩
      case round =>
        obtain ⟨k, rfl, hk, rfl⟩ := hrel
        by_cases hlt : k < W - 1
        · obtain ⟨b2, off2, rfl, hb2, hcell2, hwf2⟩ := H2.out.ints k (by omega)
          have hc2 := bounds_u8 hwf2
          have hf := fold_take (fun a c => a * 256 + c) (x % 64) T 0 k (by omega)
          have hbd := fold_bd (T.take k) (x % 64) (fun y hy => HTB.out y (List.mem_of_mem_take hy)) (by omega)
          have hbd2 : (T.take k).foldl (fun a c => a * 256 + c) (x % 64) < 72057594037927936 := by
            refine Int.lt_of_lt_of_le hbd.2 ?_
            have hp : (256 : Int) ^ (T.take k).length ≤ 281474976710656 := by
              have e : (T.take k).length ≤ 6 := by simp; omega
              rcases (by omega : (T.take k).length = 0 ∨ (T.take k).length = 1 ∨ (T.take k).length = 2 ∨ (T.take k).length = 3 ∨ (T.take k).length = 4 ∨ (T.take k).length = 5 ∨ (T.take k).length = 6) with h | h | h | h | h | h | h <;> rw [h] <;> decide
            have := Int.mul_le_mul_of_nonneg_left hp (by omega : (0 : Int) ≤ x % 64 + 1)
            omega
          have hbd1 : 0 ≤ (T.take k).foldl (fun a c => a * 256 + c) (x % 64) := by
            have hp : (0 : Int) < 256 ^ (T.take k).length := Int.pow_pos (by omega)
            have := Int.mul_nonneg (by omega : (0 : Int) ≤ x % 64) (Int.le_of_lt hp)
            omega
          clear hbd
          generalize (T.take k).foldl (fun a c => a * 256 + c) (x % 64) = m at *
          generalize T.getD k 0 = c at *
          have H3 := Lib.hid hf
          clear hf
          go_wp2_with (fail)
          rw [or256 m c hbd1 hbd2 hc2.1 hc2.2]
          exact ⟨⟨k + 1, by go_num, by omega, by rw [H3.out]⟩, by simp [intOf]; omega⟩
        · obtain rfl : k = W - 1 := by omega
          go_wp2_with (fail)
          go_returns
          rw [List.take_of_length_le (by omega)]
          exact ⟨by simp [takeN, takeU, E1.out], rfl⟩

theorem take_ok {L : List Int} (hb : ∀ y ∈ L, Byte y) {n : Int} {u : Nat} (h : takeF L = some (n, u)) : u ≤ L.length ∧ 0 ≤ n ∧ n ≤ 4611686018427387903 ∧ sizeF n ≤ u ∧ 1 ≤ u ∧ u ≤ 8 := by
  cases L with
  | nil => simp [takeF] at h
  | cons x r =>
    obtain ⟨h1, h2, h3, h4, h5, h6, h7⟩ := take_bd x r (hb x (by simp)) (fun y hy => hb y (by simp [hy])) n u h
    exact ⟨by simpa using h2, h3, h4, h5, h6, h7⟩

/-- Bytes behind how many they are. -/
def bytesF (L : List Int) : Option (List Int × Nat) :=
  match takeF L with
  | some (n, u) => if n ≤ (L.length : Int) - u then some ((L.drop u).take n.toNat, u + n.toNat) else none
  | none => none
def bytesL (L : List Int) : List Int := ((bytesF L).map (·.1)).getD []
def bytesU (L : List Int) : Nat := ((bytesF L).map (·.2)).getD 0

set_option maxHeartbeats 1000000 in
theorem bytes_any (a : Option Addr) (n cap : Nat) (L : List Int) (w : World) (hn : n = L.length) (hsz : L.length ≤ 70368744177664) (hS : Sl .u8 w a cap L) :
    Calls Try.prog 15 #[.slice a n cap] w fun e w' => ∃ a' cap', e = .returned (.tuple #[.slice a' (bytesL L).length cap', .int .i64 (bytesU L), .bool (bytesF L).isSome])
      ∧ OwnS w' w.heap.size 5 1 a' (bytesL L).length cap' ((bytesL L).map (Value.int .u8)) ∧ Below w.heap.size w w' := by
  subst hn
  have hlen := hS.len
  unfold maxLen at hlen
  have hb : ∀ y ∈ L, Byte y := fun y hy => by have := bounds_u8 (hS.wf y hy); exact this
  have HS := Lib.hid hS
  clear hS
  cases ht : takeF L with
  | none =>
    have e1 : bytesF L = none := by simp [bytesF, ht]
    go_enter Try.func15, Try.ntmps15
    go_wp2_with (fail)
    refine (take_any a _ cap L _ rfl HS.out).mono ?_
    unfold takeN takeU
    rw [ht]
    rintro e w1 ⟨rfl, rfl⟩
    go_wp2_with (fail)
    go_returns
    unfold bytesL bytesU
    rw [e1]
    exact ⟨none, 0, rfl, OwnS.nil _ _ _ _, Below.refl _ _⟩
  | some v =>
    obtain ⟨m, u⟩ := v
    obtain ⟨k1, k2, k3, k4, k5, k6⟩ := take_ok hb ht
    by_cases hle : m ≤ (L.length : Int) - u
    · have e1 : bytesF L = some ((L.drop u).take m.toNat, u + m.toNat) := by simp [bytesF, ht, hle]
      have HT := Lib.hid ht
      have E1 := Lib.hid e1
      clear ht e1
      go_enter Try.func15, Try.ntmps15
      go_wp2_with (fail)
      refine (take_any a _ cap L _ rfl HS.out).mono ?_
      unfold takeN takeU
      rw [HT.out]
      rintro e w1 ⟨rfl, rfl⟩
      simp only [Option.map_some, Option.getD_some, Option.isSome_some]
      obtain ⟨M, rfl⟩ := Int.eq_ofNat_of_zero_le k2
      go_wp2_with (with_reducible refine stop_cut ?_)
      refine Stop.out ?_
      refine wpList_cut bytes_et rfl rfl rfl rfl rfl HS.out u (u + M) rfl (by simp) (by omega) (by omega) ?_
      intro a2 hS2 hbl2
      have e3 : u + M - u = M := by omega
      rw [e3] at hS2 ⊢
      have hl2 : ((L.drop u).take M).length = M := by simp; omega
      generalize hT2 : (L.drop u).take M = T at *
      have hs2 := hS2.src
      rw [hl2] at hs2
      go_wp2_with (at_builtin; refine Stop.mk ?_)
      refine Stop.out ?_
      refine wpList_app bytes_et rfl rfl rfl rfl (OwnS.nil w w.heap.size _ _) hs2 (by unfold maxLen; omega) (by omega) (Nat.le_refl _) ?_
      intro a3 cap3 w3 ho3 hon3 hat3
      simp only [Nat.zero_add, List.nil_append] at ho3 ⊢
      go_wp2_with (fail)
      go_returns
      unfold bytesL bytesU
      rw [E1.out]
      simp only [Option.map_some, Option.getD_some, Option.isSome_some, Int.toNat_natCast, hT2]
      refine ⟨a3, cap3, by rw [hl2]; simp, by rw [hl2]; exact ho3, below_of_only hon3 (Nat.le_refl _) (by rintro k _ ⟨y, hy, _⟩; cases hy)⟩
    · have e1 : bytesF L = none := by simp [bytesF, ht, hle]
      go_enter Try.func15, Try.ntmps15
      go_wp2_with (fail)
      refine (take_any a _ cap L _ rfl HS.out).mono ?_
      unfold takeN takeU
      rw [ht]
      rintro e w1 ⟨rfl, rfl⟩
      simp only [Option.map_some, Option.getD_some, Option.isSome_some]
      go_wp2_with (fail)
      go_returns
      unfold bytesL bytesU
      rw [e1]
      exact ⟨none, 0, rfl, OwnS.nil _ _ _ _, Below.refl _ _⟩

end Var
end Go.Proofs.Ytjeolfnmheofeaa
