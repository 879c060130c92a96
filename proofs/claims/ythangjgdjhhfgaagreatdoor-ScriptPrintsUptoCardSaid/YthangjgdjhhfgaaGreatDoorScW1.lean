/- script.form, script.kind. -/
import Derived.Test.YthangjgdjhhfgaaGreatDoorScT1
import Derived.Test.YthangjgdjhhfgaaGreatDoorScP3
namespace Go.Proofs.YthangjgdjhhfgaaGreatDoor
open Go.RowKit
set_option linter.unusedVariables false
def strCs (L : List (List UInt8)) : Array Value := (L.map fun p => Value.string (tx p)).toArray
theorem strCs_get (L : List (List UInt8)) (k : Nat) (h : k < L.length) : (strCs L)[k]? = some (.string (tx (L.getD k []))) := by
  simp [strCs, h]
def formP : List (List UInt8) := formT.map fun x => if x.2 = [] then x.1 else x.1 ++ 32 :: x.2
theorem formP_cut : ∀ k, k < 26 → hdc 32 (formP.getD k []) = wordK (k + 1) ∧ tlc 32 (formP.getD k []) = letK (k + 1) ∧ (formP.getD k []).length < 20 := by decide
def formV (k : Nat) : Value := if isK k then .tuple #[.string (tx (wordK k)), .string (tx (letK k)), .bool true] else .tuple #[.string (tx []), .string (tx []), .bool false]
set_option maxRecDepth 100000 in
set_option maxHeartbeats 4000000 in
theorem form_any (k : Nat) (w : World) (hk : k ≤ 255) (hm : MaxLenAt w) (hg : 0 < w.heap.size) :
    Calls Tryz.prog 15 #[.int .u8 k] w fun e w' => e = .returned (formV k) ∧ Below w.heap.size w w' := by
  have HM := Lib.hid hm
  have HG := Lib.hid hg
  clear hm hg
  by_cases hi : isK k = true
  · have hk' : 1 ≤ k ∧ k ≤ 26 := by simpa [isK] using hi
    have hv : formV k = .tuple #[.string (tx (wordK k)), .string (tx (letK k)), .bool true] := if_pos hi
    rw [hv]
    clear hv
    obtain ⟨hc1, hc2, hc3⟩ := formP_cut (k - 1) (by omega)
    rw [show k - 1 + 1 = k by omega] at hc1 hc2
    have d1 : ¬ (k : Int) < 1 := by omega
    have d2 : ¬ (k : Int) > 26 := by omega
    have e3 : ((k : Int) - 1) % 256 = ((k - 1 : Nat) : Int) := by omega
    obtain ⟨p, hp⟩ : ∃ p, formP.getD (k - 1) [] = p := ⟨_, rfl⟩
    rw [hp] at hc1 hc2 hc3
    obtain ⟨k1, hk1⟩ : ∃ k1, k - 1 = k1 := ⟨_, rfl⟩
    have hk1b : k1 < 26 := by omega
    rw [hk1] at e3 hp
    have HK1 := Lib.hid hk1
    have HP := Lib.hid hp
    have HC1 := Lib.hid hc1
    have HC2 := Lib.hid hc2
    have HC3 := Lib.hid hc3
    clear hc1 hc2 hc3 hp hi hk1
    go_enter Tryz.func15, Tryz.ntmps15
    go_wp2_with (fail)
    refine (split_any formsL 124 w (by decide) HM.out).mono ?_
    rintro e w1 ⟨rfl, rfl⟩
    rw [forms_pcs]
    rw [show (List.map (fun x : List UInt8 × List UInt8 => if x.snd = [] then x.fst else x.fst ++ 32 :: x.snd) formT).length = 26 from rfl]
    have hlit : (List.map (fun p => Value.string (tx p)) (List.map (fun x : List UInt8 × List UInt8 => if x.snd = [] then x.fst else x.fst ++ 32 :: x.snd) formT)).toArray = strCs formP := rfl
    rw [hlit]
    have hb1 : Below w.heap.size w (w.alloc (.cells (strCs formP) 9)) := (Below.refl _ _).alloc (Nat.le_refl _) _
    have hn1 := (Blk.new w (strCs formP) 9).cell k1 _ (strCs_get formP k1 hk1b)
    rw [HP.out] at hn1
    rw [← HK1.out] at hn1
    obtain ⟨w1, hw1⟩ : ∃ w1, w.alloc (.cells (strCs formP) 9) = w1 := ⟨_, rfl⟩
    rw [hw1] at hb1 hn1 ⊢
    have B1 := Lib.hid hb1
    have hk26 : (k1 : Int) < 26 := by omega
    clear hlit hw1 hb1
    go_wp2_with (fail)
    refine (cut_any p 32 w1 (by have := HC3.out; omega) (HM.out.below HG.out B1.out)).mono ?_
    rintro e w2 ⟨rfl, hb2⟩
    have B2 := Lib.hid (below_on B1.out hb2 B1.out.size)
    rw [HC1.out, HC2.out]
    clear hb2
    go_wp2_with (fail)
    go_returns
    exact ⟨rfl, B2.out⟩
  · have hv : formV k = .tuple #[.string (tx []), .string (tx []), .bool false] := if_neg hi
    rw [hv]
    have hk' : k < 1 ∨ 26 < k := by simp [isK] at hi; omega
    clear hv hi
    have hb1 : Below w.heap.size w (w.alloc (.cells (strCs formP) 9)) := (Below.refl _ _).alloc (Nat.le_refl _) _
    have B1 := Lib.hid hb1
    rcases hk' with h | h
    · have d1 : (k : Int) < 1 := by omega
      clear hb1
      go_enter Tryz.func15, Tryz.ntmps15
      go_wp2_with (fail)
      refine (split_any formsL 124 w (by decide) HM.out).mono ?_
      rintro e w1 ⟨rfl, rfl⟩
      rw [forms_pcs]
      rw [show (List.map (fun x : List UInt8 × List UInt8 => if x.snd = [] then x.fst else x.fst ++ 32 :: x.snd) formT).length = 26 from rfl]
      have hlit : (List.map (fun p => Value.string (tx p)) (List.map (fun x : List UInt8 × List UInt8 => if x.snd = [] then x.fst else x.fst ++ 32 :: x.snd) formT)).toArray = strCs formP := rfl
      rw [hlit]
      go_wp2_with (fail)
      go_returns
      exact ⟨rfl, B1.out⟩
    · have d1 : ¬ (k : Int) < 1 := by omega
      have d2 : (k : Int) > 26 := by omega
      clear hb1
      go_enter Tryz.func15, Tryz.ntmps15
      go_wp2_with (fail)
      refine (split_any formsL 124 w (by decide) HM.out).mono ?_
      rintro e w1 ⟨rfl, rfl⟩
      rw [forms_pcs]
      rw [show (List.map (fun x : List UInt8 × List UInt8 => if x.snd = [] then x.fst else x.fst ++ 32 :: x.snd) formT).length = 26 from rfl]
      have hlit : (List.map (fun p => Value.string (tx p)) (List.map (fun x : List UInt8 × List UInt8 => if x.snd = [] then x.fst else x.fst ++ 32 :: x.snd) formT)).toArray = strCs formP := rfl
      rw [hlit]
      go_wp2_with (fail)
      go_returns
      exact ⟨rfl, B1.out⟩
/-! ### kind -/
theorem kindF_step (word : List UInt8) (f k : Nat) (hk : isK k = true) (hne : wordK k ≠ word) : kindF word (f + 1) k = kindF word f (k + 1) := by rw [kindF, if_pos hk, if_neg hne]
set_option maxRecDepth 100000 in
set_option maxHeartbeats 4000000 in
theorem kind_any (word : List UInt8) (w : World) (hm : MaxLenAt w) (hg : 0 < w.heap.size) :
    Calls Tryz.prog 37 #[.string (tx word)] w fun e w' => e = .returned (.int .u8 (kindW word)) ∧ Below w.heap.size w w' := by
  have HM := Lib.hid hm
  have HG := Lib.hid hg
  have HST : Hid (kindF word 30 1 = kindW word) := Lib.hid rfl
  obtain ⟨R, hR⟩ : ∃ R, kindW word = R := ⟨_, rfl⟩
  rw [hR] at HST ⊢
  have hR26 : R ≤ 26 := by rw [← hR]; exact kindW_le word
  clear hm hg hR
  go_enter Tryz.func37, Tryz.ntmps37
  go_wp2_with (fail)
  go_loopw [3, 4, 5, 6] (fun k _ _ _ wr => ∃ (n f : Nat), k = .int .u8 n ∧ 1 ≤ n ∧ n + f = 31 ∧ n ≤ 27 ∧ Hid (kindF word f n = R) ∧ Hid (Below w.heap.size w wr)) (fun k _ _ _ _ => 31 - (intOf k).toNat)
  case atStart => exact ⟨1, 30, rfl, by omega, by omega, by omega, HST, Lib.hid (Below.refl _ _)⟩
  case round =>
    obtain ⟨n, f, rfl, h1, h2, h3, hk, hb⟩ := hrel
    obtain ⟨f, rfl⟩ : ∃ f', f = f' + 1 := ⟨f - 1, by omega⟩
    go_wp2_with (fail)
    refine (form_any n wr (by omega) (HM.out.below HG.out hb.out) (Nat.lt_of_lt_of_le HG.out hb.out.size)).mono ?_
    rintro e w2 ⟨rfl, hb2⟩
    have B2 := Lib.hid (below_on hb.out hb2 hb.out.size)
    clear hb2
    by_cases hi : isK n = true
    · have hn26 : n ≤ 26 := by simp [isK] at hi; omega
      rw [show formV n = .tuple #[.string (tx (wordK n)), .string (tx (letK n)), .bool true] from if_pos hi]
      have hkk := hk.out
      obtain ⟨x, hx⟩ : ∃ x, wordK n = x := ⟨_, rfl⟩
      rw [hx]
      by_cases hw : x = word
      · have q1 : (x == word) = true := by simpa using hw
        have q2 : (word == x) = true := by simpa using hw.symm
        rw [kindF, if_pos hi, if_pos (by rw [hx]; exact hw)] at hkk
        subst hkk
        clear hw hx
        go_wp2_with (fail)
        go_returns
        exact ⟨rfl, B2.out⟩
      · have q1 : (x == word) = false := by simpa using hw
        have q2 : (word == x) = false := by simpa using fun h => hw h.symm
        rw [kindF_step word f n hi (by rw [hx]; exact hw)] at hkk
        have HKK := Lib.hid hkk
        have e8 : ((n : Int) + 1) % 256 = ((n + 1 : Nat) : Int) := by omega
        clear hw hx hkk hi
        go_wp2_with (fail)
        exact ⟨⟨n + 1, f, by go_num, by omega, by omega, by omega, HKK, B2⟩, by simp [intOf]; omega⟩
    · rw [show formV n = .tuple #[.string (tx []), .string (tx []), .bool false] from if_neg hi]
      have hkk := hk.out
      rw [kindF, if_neg hi] at hkk
      subst hkk
      go_wp2_with (fail)
      go_returns
      exact ⟨rfl, B2.out⟩
end Go.Proofs.YthangjgdjhhfgaaGreatDoor
