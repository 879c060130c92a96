/- The document's answer for layer 1: what each does. -/
import Derived.Test.YtjeolfnmheofeaaVar3
namespace Go.Proofs.Ytjeolfnmheofeaa
open Go.RowKit
set_option linter.unusedVariables false
namespace Var

theorem pow4 {c : Int} (h0 : 0 ≤ c) (h3 : c ≤ 3) : (c = 0 ∧ 2 ^ c.toNat = 1) ∨ (c = 1 ∧ 2 ^ c.toNat = 2) ∨ (c = 2 ∧ 2 ^ c.toNat = 4) ∨ (c = 3 ∧ 2 ^ c.toNat = 8) := by
  rcases (by omega : c = 0 ∨ c = 1 ∨ c = 2 ∨ c = 3) with rfl | rfl | rfl | rfl <;> simp
theorem fold_lt (T : List Int) (x : Int) (hb : ∀ y ∈ T, Byte y) (hx0 : 0 ≤ x) (hx : x ≤ 63) (hl : T.length ≤ 6) : 0 ≤ T.foldl (fun a c => a * 256 + c) x ∧ T.foldl (fun a c => a * 256 + c) x < 72057594037927936 := by
  have hbd := fold_bd T x hb hx0
  have hp0 : (0 : Int) < 256 ^ T.length := Int.pow_pos (by omega)
  constructor
  · exact Int.le_trans (Int.mul_nonneg hx0 (Int.le_of_lt hp0)) hbd.1
  · refine Int.lt_of_lt_of_le hbd.2 ?_
    have hp : (256 : Int) ^ T.length ≤ 281474976710656 := by
      rcases (by omega : T.length = 0 ∨ T.length = 1 ∨ T.length = 2 ∨ T.length = 3 ∨ T.length = 4 ∨ T.length = 5 ∨ T.length = 6) with h | h | h | h | h | h | h <;> rw [h] <;> decide
    have := Int.mul_le_mul_of_nonneg_left hp (by omega : (0 : Int) ≤ x + 1)
    omega

set_option maxHeartbeats 1000000 in
theorem rtake_any (a : Option Addr) (n cap : Nat) (L : List Int) (w : World) (hn : n = L.length) (hS : Sl .u8 w a cap L) :
    Calls Try.prog 14 #[.slice a n cap, .int .i64 0] w fun e w' => e = .returned (.tuple #[.int .u64 (takeN L), .int .i64 (((takeF L).map fun v => (v.2 : Int)).getD (-1))]) ∧ w = w' := by
  subst hn
  have hlen := hS.len
  unfold maxLen at hlen
  cases L with
  | nil =>
    go_enter Try.func14, Try.ntmps14
    go_wp2_with (fail)
    go_returns
    exact ⟨rfl, rfl⟩
  | cons x r =>
    have hb : ∀ y ∈ x :: r, Byte y := fun y hy => by have := bounds_u8 (hS.wf y hy); exact this
    have hx := hb x (by simp)
    unfold Byte at hx
    have hca := hS.ints 0 (by simp)
    obtain ⟨b1, off, rfl, hb1, hcell, hwf⟩ := hca
    have HS := Lib.hid hS
    have HB := Lib.hid hb
    clear hS hb
    simp only [List.getD_cons_zero, Nat.add_zero] at hcell hwf
    simp only [List.length_cons] at hlen ⊢
    have hW := pow4 (c := x / 64) (by omega) (by omega)
    have e1 : takeF (x :: r) = if r.length + 1 < 2 ^ (x / 64).toNat then none else some ((r.take (2 ^ (x / 64).toNat - 1)).foldl (fun a c => a * 256 + c) (x % 64), 2 ^ (x / 64).toNat) := by simp [takeF]
    generalize 2 ^ (x / 64).toNat = W at *
    have hWb : 1 ≤ W ∧ W ≤ 8 := by omega
    have HW := Lib.hid hW
    have E1 := Lib.hid e1
    clear hW e1
    go_enter Try.func14, Try.ntmps14
    go_wp2_with (fail)
    go_loop [6, 7] (fun m i => ∃ (k : Nat) (q : Nat), i = .int .i64 k ∧ m = .int .i64 q ∧ k ≤ x / 64 ∧ Hid (k = 0 ∧ q = 1 ∨ k = 1 ∧ q = 2 ∨ k = 2 ∧ q = 4 ∨ k = 3 ∧ q = 8)) (fun _ i => 4 - (intOf i).toNat)
    case atStart => exact ⟨0, 1, rfl, rfl, by omega, by simp [Hid]⟩
    case round =>
      obtain ⟨k, q, rfl, rfl, hk, hq⟩ := hrel
      have hkq : k ≤ 3 ∧ q ≤ 8 := by have := hq.out; omega
      by_cases hlt : k < x / 64
      · go_wp2_with (fail)
        exact ⟨⟨k + 1, 2 * q, by go_num, by go_num, by omega, Lib.hid (by have := hq.out; omega)⟩, by simp [intOf]; omega⟩
      · obtain rfl : q = W := by have := hq.out; have := HW.out; omega
        clear hq hkq
        by_cases hle : r.length + 1 < q
        · go_wp2_with (fail)
          go_returns
          have e1 := E1.out
          rw [if_pos hle] at e1
          exact ⟨by simp [takeN, e1], rfl⟩
        · have hT : (r.take (q - 1)).length = q - 1 := by simp; omega
          have HTB : Hid (∀ y ∈ r.take (q - 1), Byte y) := Lib.hid fun y hy => HB.out y (by simp [List.mem_of_mem_take hy])
          have e1 := E1.out
          rw [if_neg hle] at e1
          have E2 := Lib.hid e1
          have HG : Hid (∀ k, k < q - 1 → (r.take (q - 1)).getD k 0 = (x :: r).getD (1 + k) 0) := Lib.hid fun k hk => by
            simp only [List.getD_eq_getElem?_getD]
            rw [List.getElem?_take_of_lt hk, Nat.add_comm, List.getElem?_cons_succ]
          clear e1 E1
          generalize r.take (q - 1) = T at *
          go_wp2_with (fail)
          go_loop [8, 9] (fun m i => ∃ j : Nat, i = .int .i64 (1 + j) ∧ j ≤ q - 1 ∧ m = .int .u64 ((T.take j).foldl (fun a c => a * 256 + c) (x % 64))) (fun _ i => q - (intOf i).toNat)
          case atStart => exact ⟨0, by go_num, by omega, by simp⟩
          case round =>
            obtain ⟨j, rfl, hj, rfl⟩ := hrel
            by_cases hjl : j < q - 1
            · have hf := Lib.hid (fold_take (fun a c => a * 256 + c) (x % 64) T 0 j (by omega))
              obtain ⟨b2, off2, h0, hb2, hcell2, hwf2⟩ := HS.out.ints (1 + j) (by simp; omega)
              cases h0
              have hc2 := bounds_u8 hwf2
              have hbd := fold_lt (T.take j) (x % 64) (fun y hy => HTB.out y (List.mem_of_mem_take hy)) (by omega) (by omega) (by simp; omega)
              rw [← HG.out j hjl] at hcell2 hc2
              generalize (T.take j).foldl (fun a c => a * 256 + c) (x % 64) = m at *
              generalize T.getD j 0 = c at *
              clear hwf2
              go_wp2_with (fail)
              exact ⟨⟨j + 1, by go_num, by omega, by rw [hf.out, Int.mul_comm]⟩, by simp [intOf]; omega⟩
            · obtain rfl : j = q - 1 := by omega
              go_wp2_with (fail)
              go_returns
              rw [List.take_of_length_le (by omega)]
              exact ⟨by simp [takeN, E2.out], rfl⟩

set_option maxHeartbeats 1000000 in
theorem rpart_any (a : Option Addr) (n cap : Nat) (L : List Int) (at_ m : Int) (w : World) (hn : n = L.length) (hsz : L.length ≤ 70368744177664) (hS : Sl .u8 w a cap L) (hat : at_ ≤ L.length) (hm : 0 ≤ m) (hm2 : m ≤ 18446744073709551615) (hat1 : -1 ≤ at_) :
    Calls Try.prog 44 #[.slice a n cap, .int .i64 at_, .int .u64 m] w fun e w' => ∃ a' cap' M, e = .returned (.tuple #[.slice a' M.length cap', .int .i64 (if 0 ≤ at_ ∧ m ≤ L.length - at_ then at_ + m else -1)])
      ∧ M = (if 0 ≤ at_ ∧ m ≤ L.length - at_ then (L.drop at_.toNat).take m.toNat else [])
      ∧ OwnS w' w.heap.size 5 1 a' M.length cap' (M.map (Value.int .u8)) ∧ Below w.heap.size w w' := by
  subst hn
  have HS := Lib.hid hS
  clear hS
  by_cases h0 : 0 ≤ at_
  · by_cases hle : m ≤ L.length - at_
    · obtain ⟨u, rfl⟩ := Int.eq_ofNat_of_zero_le h0
      obtain ⟨M, rfl⟩ := Int.eq_ofNat_of_zero_le hm
      have hif : ((0 : Int) ≤ u ∧ (M : Int) ≤ L.length - u) := ⟨h0, hle⟩
      simp only [if_pos hif]
      clear hif
      go_enter Try.func44, Try.ntmps44
      have ho0 := OwnS.new w w.heap.size (Nat.le_refl _) 5 1 0 #[] (by simp) rfl
      go_wp2_with (with_reducible refine stop_cut ?_)
      refine Stop.out ?_
      refine wpList_cut bytes_et rfl rfl rfl rfl rfl (HS.out.below ((Below.refl _ _).alloc (Nat.le_refl _) _)) u (u + M) rfl (by simp) (by omega) (by omega) ?_
      intro a2 hS2 hbl2
      have e3 : u + M - u = M := by omega
      rw [e3] at hS2 ⊢
      have hl2 : ((L.drop u).take M).length = M := by simp; omega
      simp only [Int.toNat_natCast]
      generalize hT2 : (L.drop u).take M = T at *
      have hs2 := hS2.src
      rw [hl2] at hs2
      go_wp2_with (at_builtin; refine Stop.mk ?_)
      refine Stop.out ?_
      refine wpList_app bytes_et rfl rfl rfl rfl ho0 hs2 (by unfold maxLen; omega) (by omega) (by simp) ?_
      intro a3 cap3 w3 ho3 hon3 hat3
      simp only [Nat.zero_add, List.nil_append] at ho3 ⊢
      have k3 : Below w.heap.size w w3 := below_onto ((Below.refl _ _).alloc (Nat.le_refl _) _) hon3 (by simp) (by rintro z hz ⟨y, hy, rfl⟩; cases hy; simp at hz)
      go_wp2_with (fail)
      go_returns
      exact ⟨a3, cap3, T, by rw [hl2]; rfl, by simpa using hT2.symm, by rw [hl2]; exact ho3, k3⟩
    · have hif : ¬ ((0 : Int) ≤ at_ ∧ m ≤ L.length - at_) := fun h => hle h.2
      simp only [if_neg hif]
      clear hif
      go_enter Try.func44, Try.ntmps44
      go_wp2_with (fail)
      go_returns
      exact ⟨none, 0, [], rfl, rfl, OwnS.nil _ _ _ _, Below.refl _ _⟩
  · have hif : ¬ ((0 : Int) ≤ at_ ∧ m ≤ L.length - at_) := fun h => h0 h.1
    simp only [if_neg hif]
    clear hif
    go_enter Try.func44, Try.ntmps44
    go_wp2_with (fail)
    go_returns
    exact ⟨none, 0, [], rfl, rfl, OwnS.nil _ _ _ _, Below.refl _ _⟩

theorem sl_byte {a : Option Addr} {cap : Nat} {L : List Int} {w : World} (hS : Sl .u8 w a cap L) : ∀ y ∈ L, Byte y := fun y hy => by have := bounds_u8 (hS.wf y hy); exact this

set_option maxHeartbeats 1000000 in
theorem rsized_any (a : Option Addr) (n cap : Nat) (L : List Int) (w : World) (hn : n = L.length) (hsz : L.length ≤ 70368744177664) (hS : Sl .u8 w a cap L) :
    Calls Try.prog 16 #[.slice a n cap, .int .i64 0] w fun e w' => ∃ a' cap', e = .returned (.tuple #[.slice a' (bytesL L).length cap', .int .i64 (((bytesF L).map fun v => (v.2 : Int)).getD (-1))])
      ∧ OwnS w' w.heap.size 5 1 a' (bytesL L).length cap' ((bytesL L).map (Value.int .u8)) ∧ Below w.heap.size w w' := by
  subst hn
  have hb := sl_byte hS
  have HS := Lib.hid hS
  clear hS
  have hN : 0 ≤ takeN L ∧ takeN L ≤ 4611686018427387903 := by
    unfold takeN
    cases ht : takeF L with
    | none => simp
    | some v => obtain ⟨m, u⟩ := v; have := take_ok hb ht; simp; omega
  have hA : ((takeF L).map fun v => (v.2 : Int)).getD (-1) ≤ L.length ∧ -1 ≤ ((takeF L).map fun v => (v.2 : Int)).getD (-1) := by
    cases ht : takeF L with
    | none => simp
    | some v => obtain ⟨m, u⟩ := v; have := take_ok hb ht; simp; omega
  have eq : (if 0 ≤ ((takeF L).map fun v => (v.2 : Int)).getD (-1) ∧ takeN L ≤ L.length - ((takeF L).map fun v => (v.2 : Int)).getD (-1) then ((takeF L).map fun v => (v.2 : Int)).getD (-1) + takeN L else -1) = ((bytesF L).map fun v => (v.2 : Int)).getD (-1)
      ∧ (if 0 ≤ ((takeF L).map fun v => (v.2 : Int)).getD (-1) ∧ takeN L ≤ L.length - ((takeF L).map fun v => (v.2 : Int)).getD (-1) then (L.drop (((takeF L).map fun v => (v.2 : Int)).getD (-1)).toNat).take (takeN L).toNat else []) = bytesL L := by
    unfold bytesL bytesF takeN
    cases ht : takeF L with
    | none => simp
    | some v =>
      obtain ⟨m, u⟩ := v
      have := take_ok hb ht
      simp only [Option.map_some, Option.getD_some]
      by_cases hle : m ≤ (L.length : Int) - u
      · have hc : (0 : Int) ≤ (u : Int) ∧ m ≤ (L.length : Int) - u := ⟨by omega, hle⟩
        simp only [if_pos hc, if_pos hle]
        simp; omega
      · have hc : ¬ ((0 : Int) ≤ (u : Int) ∧ m ≤ (L.length : Int) - u) := fun h => hle h.2
        simp only [if_neg hc, if_neg hle]
        simp
  have EQ := Lib.hid eq
  clear eq hb
  go_enter Try.func16, Try.ntmps16
  go_wp2_with (fail)
  refine (rtake_any a _ cap L _ rfl HS.out).mono ?_
  rintro e w1 ⟨rfl, rfl⟩
  generalize hAt : ((takeF L).map fun v => (v.2 : Int)).getD (-1) = at_ at *
  generalize hNt : takeN L = m at *
  go_wp2_with (fail)
  refine (rpart_any a _ cap L at_ m _ rfl hsz HS.out hA.1 hN.1 (by omega) hA.2).mono ?_
  rintro e w1 ⟨a', cap', M, rfl, rfl, ho, hbl⟩
  rw [EQ.out.1, EQ.out.2]
  rw [EQ.out.2] at ho
  have HO := Lib.hid ho
  clear ho
  go_wp2_with (fail)
  go_returns
  exact ⟨a', cap', rfl, HO.out, hbl⟩

end Var
end Go.Proofs.Ytjeolfnmheofeaa
