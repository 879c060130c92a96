/- The document's streams: who opens, who sends, what is wrong. -/
import Derived.Test.YtgpnfdeneagdbaaGreatCo19
namespace Go.Proofs.YtgpnfdeneagdbaaGreat
open Go.RowKit
set_option linter.unusedVariables false
set_option linter.unusedSimpArgs false
def opV (may cn : Nat → Nat) : List Value := [.int .u64 (may 0 : Nat), .int .u64 (may 2 : Nat), .int .u64 (may 1 : Nat), .int .u64 (may 3 : Nat), .int .u64 (cn 0 : Nat), .int .u64 (cn 2 : Nat), .int .u64 (cn 1 : Nat), .int .u64 (cn 3 : Nat)]
def OpAt (w : World) (o : Nat) (may cn : Nat → Nat) : Prop := Blk w o (opV may cn).toArray 38
set_option maxRecDepth 100000 in
theorem who_any (id : Nat) (w : World) (h : id < 18446744073709551616) : Calls Tryz.prog 27 #[.int .u64 id] w fun e w' => w' = w ∧ e = .returned (.tuple #[.int .i64 (id % 2 : Nat), .int .i64 (id / 2 % 2 : Nat), .int .u64 (id / 4 : Nat)]) := by
  obtain ⟨a, ha⟩ : ∃ a : Nat, id % 2 = a := ⟨_, rfl⟩
  obtain ⟨b, hb⟩ : ∃ b : Nat, id / 2 % 2 = b := ⟨_, rfl⟩
  obtain ⟨c, hc⟩ : ∃ c : Nat, id / 4 = c := ⟨_, rfl⟩
  obtain ⟨d, hd⟩ : ∃ d : Nat, id / 2 = d := ⟨_, rfl⟩
  have e1 : (id : Int) % 2 = (a : Int) := by omega
  have e2 : (id : Int) / 2 = (d : Int) := by omega
  have e3 : (d : Int) % 2 = (b : Int) := by omega
  have e4 : (id : Int) / 4 = (c : Int) := by omega
  have a2 : a < 2 := by omega
  have b2 : b < 2 := by omega
  have d2 : d < 18446744073709551616 := by omega
  rw [ha, hb, hc]
  clear ha hb hc hd
  go_enter Tryz.func27, Tryz.ntmps27
  go_wp2_with (fail)
  go_returns
  exact ⟨rfl, rfl⟩
def sendsN (side id : Nat) : Bool := decide (id / 2 % 2 = 0) || decide (id % 2 = side)
theorem sendsN_me {sv : Bool} {id : Nat} : sendsN (me sv) id = sendsB sv id := by
  unfold sendsN sendsB uniB
  rw [mine_mod]
  rcases (by omega : id / 2 % 2 = 0 ∨ id / 2 % 2 = 1) with h | h <;> simp [h]
theorem sendsN_you {sv : Bool} {id : Nat} : sendsN (1 - me sv) id = recvB sv id := by
  unfold sendsN recvB uniB
  rw [mine_mod]
  have := me_lt sv
  have e : decide (id % 2 = 1 - me sv) = !decide (id % 2 = me sv) := by
    rw [Bool.eq_iff_iff]; simp; omega
  rw [e]
  rcases (by omega : id / 2 % 2 = 0 ∨ id / 2 % 2 = 1) with h | h <;> simp [h]
set_option maxRecDepth 100000 in
theorem rsends_any (side id : Nat) (w : World) (hs : side < 2) (h : id < 18446744073709551616) : Calls Tryz.prog 26 #[.int .i64 side, .int .u64 id] w fun e w' => w' = w ∧ e = .returned (.bool (sendsN side id)) := by
  have HW := Lib.hid (who_any id w h)
  obtain ⟨r, hr⟩ : ∃ r, sendsN side id = r := ⟨_, rfl⟩
  rw [hr]
  unfold sendsN at hr
  obtain ⟨a, ha⟩ : ∃ a : Nat, id % 2 = a := ⟨_, rfl⟩
  obtain ⟨b, hb⟩ : ∃ b : Nat, id / 2 % 2 = b := ⟨_, rfl⟩
  obtain ⟨c, hc⟩ : ∃ c : Nat, id / 4 = c := ⟨_, rfl⟩
  rw [ha, hb, hc] at HW
  rw [ha, hb] at hr
  have a2 : a < 2 := by omega
  have b2 : b < 2 := by omega
  clear ha hb hc
  rcases (by omega : a = 0 ∨ a = 1) with rfl | rfl <;> rcases (by omega : b = 0 ∨ b = 1) with rfl | rfl <;> rcases (by omega : side = 0 ∨ side = 1) with rfl | rfl <;> simp at hr <;> subst hr
  all_goals
    go_enter Tryz.func26, Tryz.ntmps26
    go_wp2_with (fail)
    refine HW.out.mono ?_
    rintro e w1 ⟨rfl, rfl⟩
    go_wp2_with (fail)
    go_returns
    exact ⟨rfl, rfl⟩
set_option maxRecDepth 100000 in
theorem rrecv_any (side id : Nat) (w : World) (hs : side < 2) (h : id < 18446744073709551616) : Calls Tryz.prog 25 #[.int .i64 side, .int .u64 id] w fun e w' => w' = w ∧ e = .returned (.bool (sendsN (1 - side) id)) := by
  have HW := Lib.hid (rsends_any (1 - side) id w (by omega) h)
  obtain ⟨r, hr⟩ : ∃ r, sendsN (1 - side) id = r := ⟨_, rfl⟩
  rw [hr] at HW ⊢
  clear hr
  rcases (by omega : side = 0 ∨ side = 1) with rfl | rfl
  all_goals
    go_enter Tryz.func25, Tryz.ntmps25
    go_wp2_with (fail)
    refine HW.out.mono ?_
    rintro e w1 ⟨rfl, rfl⟩
    go_wp2_with (fail)
    go_returns
    exact ⟨rfl, rfl⟩
def CodePost (o : Nat) (sv : Bool) (may cn : Nat → Nat) (ok : Bool) (id : Nat) (w : World) (e : Ending) (w' : World) : Prop :=
  e = .returned (.int .u64 (thereC sv may cn ok id : Nat)) ∧ OpAt w' o may (thereN sv may cn ok id) ∧ Only (· = o) w w'
theorem op_set {w : World} {o : Nat} {may cn : Nat → Nat} (h : OpAt w o may cn) (c m : Nat) (hc : c < 4) : OpAt (w.setCell ⟨o, 4 + (c % 2 * 2 + c / 2), none⟩ (.int .u64 (m : Nat))) o may (bump cn c m) := by
  have := Blk.set h (4 + (c % 2 * 2 + c / 2)) (.int .u64 (m : Nat))
  unfold OpAt
  refine this.congr ?_
  rcases (by omega : c = 0 ∨ c = 1 ∨ c = 2 ∨ c = 3) with rfl | rfl | rfl | rfl <;> simp [opV, bump]
theorem op_at {w : World} {o : Nat} {may cn : Nat → Nat} (h : OpAt w o may cn) (c : Nat) (hc : c < 4) : w.cell? ⟨o, c % 2 * 2 + c / 2, none⟩ = some (.int .u64 (may c : Nat)) ∧ w.cell? ⟨o, 4 + (c % 2 * 2 + c / 2), none⟩ = some (.int .u64 (cn c : Nat)) := by
  rcases (by omega : c = 0 ∨ c = 1 ∨ c = 2 ∨ c = 3) with rfl | rfl | rfl | rfl
  · exact ⟨h.cell 0 _ rfl, h.cell 4 _ rfl⟩
  · exact ⟨h.cell 2 _ rfl, h.cell 6 _ rfl⟩
  · exact ⟨h.cell 1 _ rfl, h.cell 5 _ rfl⟩
  · exact ⟨h.cell 3 _ rfl, h.cell 7 _ rfl⟩
set_option maxRecDepth 100000 in
set_option maxHeartbeats 8000000 in
theorem code_false_true (o : Nat) (may cn : Nat → Nat) (id : Nat) (w : World) (h : OpAt w o may cn) (hl : ∀ c, c < 4 → cn c ≤ may c) (h20 : ∀ c, c < 4 → may c ≤ 20) (hid : id < 18446744073709551616) :
    Calls Tryz.prog 9 #[.pointer (some ⟨o, 0, none⟩), .int .i64 0, .int .u64 id, .bool true] w fun e w' => CodePost o false may cn (recvB false id) id w e w' := by
  have HW := Lib.hid (who_any id w hid)
  have hr := rrecv_any 0 id w (by omega) hid
  rw [show 1 - 0 = 1 - me false from rfl, sendsN_you] at hr
  have HRv := Lib.hid hr
  have hmi : mineB false id = decide (id % 2 = 0) := mine_mod
  have HO := Lib.hid h
  obtain ⟨hm, hc⟩ := op_at h (id % 4) (by omega)
  have fz := Blk.free h (4 + (id % 4 % 2 * 2 + id % 4 / 2))
  have HST := Lib.hid (fun m => op_set h (id % 4) m (by omega))
  have hle := hl (id % 4) (by omega)
  have hm20 := h20 (id % 4) (by omega)
  clear h hr hl h20
  obtain ⟨ok, hok⟩ : ∃ ok, recvB false id = ok := ⟨_, rfl⟩
  rw [hok] at HRv ⊢
  unfold CodePost
  obtain ⟨C, hC⟩ : ∃ C, thereC false may cn ok id = C := ⟨_, rfl⟩
  have HN := Lib.hid (show thereN false may cn ok id = if C = 0 then bump cn (id % 4) (max (cn (id % 4)) (id / 4 + 1)) else cn by unfold thereN; rw [hC])
  obtain ⟨N, hN⟩ : ∃ N, thereN false may cn ok id = N := ⟨_, rfl⟩
  rw [hC, hN]
  rw [hN] at HN
  unfold thereC at hC
  rw [hmi] at hC
  clear hmi hN hok
  obtain ⟨c, hcc⟩ : ∃ c : Nat, id % 4 = c := ⟨_, rfl⟩
  have hA : id % 2 = c % 2 := by omega
  have hB : id / 2 % 2 = c / 2 := by omega
  obtain ⟨q, hq⟩ : ∃ q : Nat, id / 4 = q := ⟨_, rfl⟩
  rw [hA, hB, hq] at HW
  rw [hcc] at hm hc fz HST hle hm20 HN hC
  rw [hA] at hC
  rw [hq] at HN hC
  have hc4 : c < 4 := by omega
  have hq64 : q < 18446744073709551615 := by omega
  obtain ⟨M, hMM⟩ : ∃ M, may c = M := ⟨_, rfl⟩
  obtain ⟨d, hdd⟩ : ∃ d, cn c = d := ⟨_, rfl⟩
  rw [hMM] at hm hle hm20 hC
  have HDD := Lib.hid hdd
  rw [hdd] at hc hle HN hC
  clear hA hB hq hcc hMM hdd
  cases ok with
  | false =>
    simp only [Bool.not_false, if_true] at hC
    subst hC
    obtain rfl : N = cn := by rw [HN.out, if_neg (by omega)]
    go_enter Tryz.func9, Tryz.ntmps9
    go_wp2_with (fail)
    refine HRv.out.mono ?_
    rintro e w1 ⟨e1, rfl⟩
    obtain rfl : w = w1 := e1.symm
    go_wp2_with (fail)
    go_returns
    exact ⟨rfl, HO.out, Only.refl _ _⟩
  | true =>
    simp only [Bool.not_true, Bool.false_eq_true, if_false] at hC
    rcases (by omega : c = 0 ∨ c = 1 ∨ c = 2 ∨ c = 3) with rfl | rfl | rfl | rfl
    · simp only [Nat.reduceMod, Nat.reduceDiv, Nat.reduceMul, Nat.reduceAdd] at hm hc fz HST HW
      simp at hC
      by_cases hdq : d ≤ q
      · rw [if_pos hdq] at hC
        subst hC
        obtain rfl : N = cn := by rw [HN.out, if_neg (by omega)]
        have hdq' : (d : Int) ≤ (q : Int) := by omega
        go_enter Tryz.func9, Tryz.ntmps9
        go_wp2_with (fail)
        refine HRv.out.mono ?_
        rintro e w1 ⟨e1, rfl⟩
        obtain rfl : w = w1 := e1.symm
        go_wp2_with (fail)
        refine HW.out.mono ?_
        rintro e w1 ⟨e1, rfl⟩
        obtain rfl : w = w1 := e1.symm
        go_wp2_with (fail)
        go_returns
        exact ⟨rfl, HO.out, Only.refl _ _⟩
      · rw [if_neg hdq] at hC
        subst hC
        obtain rfl : N = cn := by rw [HN.out, if_pos rfl, show max d (q + 1) = cn 0 by rw [HDD.out]; omega, bump_same]
        have hdq' : ¬ (d : Int) ≤ (q : Int) := by omega
        go_enter Tryz.func9, Tryz.ntmps9
        go_wp2_with (fail)
        refine HRv.out.mono ?_
        rintro e w1 ⟨e1, rfl⟩
        obtain rfl : w = w1 := e1.symm
        go_wp2_with (fail)
        refine HW.out.mono ?_
        rintro e w1 ⟨e1, rfl⟩
        obtain rfl : w = w1 := e1.symm
        go_wp2_with (fail)
        go_returns
        exact ⟨rfl, HO.out, Only.refl _ _⟩
    · simp only [Nat.reduceMod, Nat.reduceDiv, Nat.reduceMul, Nat.reduceAdd] at hm hc fz HST HW
      simp at hC
      by_cases hMq : M ≤ q
      · rw [if_pos hMq] at hC
        subst hC
        obtain rfl : N = cn := by rw [HN.out, if_neg (by omega)]
        have hMq' : (M : Int) ≤ (q : Int) := by omega
        go_enter Tryz.func9, Tryz.ntmps9
        go_wp2_with (fail)
        refine HRv.out.mono ?_
        rintro e w1 ⟨e1, rfl⟩
        obtain rfl : w = w1 := e1.symm
        go_wp2_with (fail)
        refine HW.out.mono ?_
        rintro e w1 ⟨e1, rfl⟩
        obtain rfl : w = w1 := e1.symm
        go_wp2_with (fail)
        go_returns
        exact ⟨rfl, HO.out, Only.refl _ _⟩
      · rw [if_neg hMq] at hC
        subst hC
        have hMq' : ¬ (M : Int) ≤ (q : Int) := by omega
        by_cases hdq : d ≤ q
        · have hN : N = bump cn 1 (q + 1) := by rw [HN.out, if_pos rfl, show max d (q + 1) = q + 1 by omega]
          subst hN
          have hdq' : (d : Int) ≤ (q : Int) := by omega
          go_enter Tryz.func9, Tryz.ntmps9
          go_wp2_with (fail)
          refine HRv.out.mono ?_
          rintro e w1 ⟨e1, rfl⟩
          obtain rfl : w = w1 := e1.symm
          go_wp2_with (fail)
          refine HW.out.mono ?_
          rintro e w1 ⟨e1, rfl⟩
          obtain rfl : w = w1 := e1.symm
          go_wp2_with (fail)
          go_returns
          exact ⟨rfl, HST.out (q + 1), (Only.refl (· = o) _).set _ _⟩
        · obtain rfl : N = cn := by rw [HN.out, if_pos rfl, show max d (q + 1) = cn 1 by rw [HDD.out]; omega, bump_same]
          have hdq' : ¬ (d : Int) ≤ (q : Int) := by omega
          go_enter Tryz.func9, Tryz.ntmps9
          go_wp2_with (fail)
          refine HRv.out.mono ?_
          rintro e w1 ⟨e1, rfl⟩
          obtain rfl : w = w1 := e1.symm
          go_wp2_with (fail)
          refine HW.out.mono ?_
          rintro e w1 ⟨e1, rfl⟩
          obtain rfl : w = w1 := e1.symm
          go_wp2_with (fail)
          go_returns
          exact ⟨rfl, HO.out, Only.refl _ _⟩
    · simp only [Nat.reduceMod, Nat.reduceDiv, Nat.reduceMul, Nat.reduceAdd] at hm hc fz HST HW
      simp at hC
      by_cases hdq : d ≤ q
      · rw [if_pos hdq] at hC
        subst hC
        obtain rfl : N = cn := by rw [HN.out, if_neg (by omega)]
        have hdq' : (d : Int) ≤ (q : Int) := by omega
        go_enter Tryz.func9, Tryz.ntmps9
        go_wp2_with (fail)
        refine HRv.out.mono ?_
        rintro e w1 ⟨e1, rfl⟩
        obtain rfl : w = w1 := e1.symm
        go_wp2_with (fail)
        refine HW.out.mono ?_
        rintro e w1 ⟨e1, rfl⟩
        obtain rfl : w = w1 := e1.symm
        go_wp2_with (fail)
        go_returns
        exact ⟨rfl, HO.out, Only.refl _ _⟩
      · rw [if_neg hdq] at hC
        subst hC
        obtain rfl : N = cn := by rw [HN.out, if_pos rfl, show max d (q + 1) = cn 2 by rw [HDD.out]; omega, bump_same]
        have hdq' : ¬ (d : Int) ≤ (q : Int) := by omega
        go_enter Tryz.func9, Tryz.ntmps9
        go_wp2_with (fail)
        refine HRv.out.mono ?_
        rintro e w1 ⟨e1, rfl⟩
        obtain rfl : w = w1 := e1.symm
        go_wp2_with (fail)
        refine HW.out.mono ?_
        rintro e w1 ⟨e1, rfl⟩
        obtain rfl : w = w1 := e1.symm
        go_wp2_with (fail)
        go_returns
        exact ⟨rfl, HO.out, Only.refl _ _⟩
    · simp only [Nat.reduceMod, Nat.reduceDiv, Nat.reduceMul, Nat.reduceAdd] at hm hc fz HST HW
      simp at hC
      by_cases hMq : M ≤ q
      · rw [if_pos hMq] at hC
        subst hC
        obtain rfl : N = cn := by rw [HN.out, if_neg (by omega)]
        have hMq' : (M : Int) ≤ (q : Int) := by omega
        go_enter Tryz.func9, Tryz.ntmps9
        go_wp2_with (fail)
        refine HRv.out.mono ?_
        rintro e w1 ⟨e1, rfl⟩
        obtain rfl : w = w1 := e1.symm
        go_wp2_with (fail)
        refine HW.out.mono ?_
        rintro e w1 ⟨e1, rfl⟩
        obtain rfl : w = w1 := e1.symm
        go_wp2_with (fail)
        go_returns
        exact ⟨rfl, HO.out, Only.refl _ _⟩
      · rw [if_neg hMq] at hC
        subst hC
        have hMq' : ¬ (M : Int) ≤ (q : Int) := by omega
        by_cases hdq : d ≤ q
        · have hN : N = bump cn 3 (q + 1) := by rw [HN.out, if_pos rfl, show max d (q + 1) = q + 1 by omega]
          subst hN
          have hdq' : (d : Int) ≤ (q : Int) := by omega
          go_enter Tryz.func9, Tryz.ntmps9
          go_wp2_with (fail)
          refine HRv.out.mono ?_
          rintro e w1 ⟨e1, rfl⟩
          obtain rfl : w = w1 := e1.symm
          go_wp2_with (fail)
          refine HW.out.mono ?_
          rintro e w1 ⟨e1, rfl⟩
          obtain rfl : w = w1 := e1.symm
          go_wp2_with (fail)
          go_returns
          exact ⟨rfl, HST.out (q + 1), (Only.refl (· = o) _).set _ _⟩
        · obtain rfl : N = cn := by rw [HN.out, if_pos rfl, show max d (q + 1) = cn 3 by rw [HDD.out]; omega, bump_same]
          have hdq' : ¬ (d : Int) ≤ (q : Int) := by omega
          go_enter Tryz.func9, Tryz.ntmps9
          go_wp2_with (fail)
          refine HRv.out.mono ?_
          rintro e w1 ⟨e1, rfl⟩
          obtain rfl : w = w1 := e1.symm
          go_wp2_with (fail)
          refine HW.out.mono ?_
          rintro e w1 ⟨e1, rfl⟩
          obtain rfl : w = w1 := e1.symm
          go_wp2_with (fail)
          go_returns
          exact ⟨rfl, HO.out, Only.refl _ _⟩
set_option maxRecDepth 100000 in
set_option maxHeartbeats 8000000 in
theorem code_false_false (o : Nat) (may cn : Nat → Nat) (id : Nat) (w : World) (h : OpAt w o may cn) (hl : ∀ c, c < 4 → cn c ≤ may c) (h20 : ∀ c, c < 4 → may c ≤ 20) (hid : id < 18446744073709551616) :
    Calls Tryz.prog 9 #[.pointer (some ⟨o, 0, none⟩), .int .i64 0, .int .u64 id, .bool false] w fun e w' => CodePost o false may cn (sendsB false id) id w e w' := by
  have HW := Lib.hid (who_any id w hid)
  have hr := rsends_any 0 id w (by omega) hid
  rw [show sendsN 0 id = sendsB false id from sendsN_me (sv := false)] at hr
  have HSn := Lib.hid hr
  have hmi : mineB false id = decide (id % 2 = 0) := mine_mod
  have HO := Lib.hid h
  obtain ⟨hm, hc⟩ := op_at h (id % 4) (by omega)
  have fz := Blk.free h (4 + (id % 4 % 2 * 2 + id % 4 / 2))
  have HST := Lib.hid (fun m => op_set h (id % 4) m (by omega))
  have hle := hl (id % 4) (by omega)
  have hm20 := h20 (id % 4) (by omega)
  clear h hr hl h20
  obtain ⟨ok, hok⟩ : ∃ ok, sendsB false id = ok := ⟨_, rfl⟩
  rw [hok] at HSn ⊢
  unfold CodePost
  obtain ⟨C, hC⟩ : ∃ C, thereC false may cn ok id = C := ⟨_, rfl⟩
  have HN := Lib.hid (show thereN false may cn ok id = if C = 0 then bump cn (id % 4) (max (cn (id % 4)) (id / 4 + 1)) else cn by unfold thereN; rw [hC])
  obtain ⟨N, hN⟩ : ∃ N, thereN false may cn ok id = N := ⟨_, rfl⟩
  rw [hC, hN]
  rw [hN] at HN
  unfold thereC at hC
  rw [hmi] at hC
  clear hmi hN hok
  obtain ⟨c, hcc⟩ : ∃ c : Nat, id % 4 = c := ⟨_, rfl⟩
  have hA : id % 2 = c % 2 := by omega
  have hB : id / 2 % 2 = c / 2 := by omega
  obtain ⟨q, hq⟩ : ∃ q : Nat, id / 4 = q := ⟨_, rfl⟩
  rw [hA, hB, hq] at HW
  rw [hcc] at hm hc fz HST hle hm20 HN hC
  rw [hA] at hC
  rw [hq] at HN hC
  have hc4 : c < 4 := by omega
  have hq64 : q < 18446744073709551615 := by omega
  obtain ⟨M, hMM⟩ : ∃ M, may c = M := ⟨_, rfl⟩
  obtain ⟨d, hdd⟩ : ∃ d, cn c = d := ⟨_, rfl⟩
  rw [hMM] at hm hle hm20 hC
  have HDD := Lib.hid hdd
  rw [hdd] at hc hle HN hC
  clear hA hB hq hcc hMM hdd
  cases ok with
  | false =>
    simp only [Bool.not_false, if_true] at hC
    subst hC
    obtain rfl : N = cn := by rw [HN.out, if_neg (by omega)]
    go_enter Tryz.func9, Tryz.ntmps9
    go_wp2_with (fail)
    refine HSn.out.mono ?_
    rintro e w1 ⟨e1, rfl⟩
    obtain rfl : w = w1 := e1.symm
    go_wp2_with (fail)
    go_returns
    exact ⟨rfl, HO.out, Only.refl _ _⟩
  | true =>
    simp only [Bool.not_true, Bool.false_eq_true, if_false] at hC
    rcases (by omega : c = 0 ∨ c = 1 ∨ c = 2 ∨ c = 3) with rfl | rfl | rfl | rfl
    · simp only [Nat.reduceMod, Nat.reduceDiv, Nat.reduceMul, Nat.reduceAdd] at hm hc fz HST HW
      simp at hC
      by_cases hdq : d ≤ q
      · rw [if_pos hdq] at hC
        subst hC
        obtain rfl : N = cn := by rw [HN.out, if_neg (by omega)]
        have hdq' : (d : Int) ≤ (q : Int) := by omega
        go_enter Tryz.func9, Tryz.ntmps9
        go_wp2_with (fail)
        refine HSn.out.mono ?_
        rintro e w1 ⟨e1, rfl⟩
        obtain rfl : w = w1 := e1.symm
        go_wp2_with (fail)
        refine HW.out.mono ?_
        rintro e w1 ⟨e1, rfl⟩
        obtain rfl : w = w1 := e1.symm
        go_wp2_with (fail)
        go_returns
        exact ⟨rfl, HO.out, Only.refl _ _⟩
      · rw [if_neg hdq] at hC
        subst hC
        obtain rfl : N = cn := by rw [HN.out, if_pos rfl, show max d (q + 1) = cn 0 by rw [HDD.out]; omega, bump_same]
        have hdq' : ¬ (d : Int) ≤ (q : Int) := by omega
        go_enter Tryz.func9, Tryz.ntmps9
        go_wp2_with (fail)
        refine HSn.out.mono ?_
        rintro e w1 ⟨e1, rfl⟩
        obtain rfl : w = w1 := e1.symm
        go_wp2_with (fail)
        refine HW.out.mono ?_
        rintro e w1 ⟨e1, rfl⟩
        obtain rfl : w = w1 := e1.symm
        go_wp2_with (fail)
        go_returns
        exact ⟨rfl, HO.out, Only.refl _ _⟩
    · simp only [Nat.reduceMod, Nat.reduceDiv, Nat.reduceMul, Nat.reduceAdd] at hm hc fz HST HW
      simp at hC
      by_cases hMq : M ≤ q
      · rw [if_pos hMq] at hC
        subst hC
        obtain rfl : N = cn := by rw [HN.out, if_neg (by omega)]
        have hMq' : (M : Int) ≤ (q : Int) := by omega
        go_enter Tryz.func9, Tryz.ntmps9
        go_wp2_with (fail)
        refine HSn.out.mono ?_
        rintro e w1 ⟨e1, rfl⟩
        obtain rfl : w = w1 := e1.symm
        go_wp2_with (fail)
        refine HW.out.mono ?_
        rintro e w1 ⟨e1, rfl⟩
        obtain rfl : w = w1 := e1.symm
        go_wp2_with (fail)
        go_returns
        exact ⟨rfl, HO.out, Only.refl _ _⟩
      · rw [if_neg hMq] at hC
        subst hC
        have hMq' : ¬ (M : Int) ≤ (q : Int) := by omega
        by_cases hdq : d ≤ q
        · have hN : N = bump cn 1 (q + 1) := by rw [HN.out, if_pos rfl, show max d (q + 1) = q + 1 by omega]
          subst hN
          have hdq' : (d : Int) ≤ (q : Int) := by omega
          go_enter Tryz.func9, Tryz.ntmps9
          go_wp2_with (fail)
          refine HSn.out.mono ?_
          rintro e w1 ⟨e1, rfl⟩
          obtain rfl : w = w1 := e1.symm
          go_wp2_with (fail)
          refine HW.out.mono ?_
          rintro e w1 ⟨e1, rfl⟩
          obtain rfl : w = w1 := e1.symm
          go_wp2_with (fail)
          go_returns
          exact ⟨rfl, HST.out (q + 1), (Only.refl (· = o) _).set _ _⟩
        · obtain rfl : N = cn := by rw [HN.out, if_pos rfl, show max d (q + 1) = cn 1 by rw [HDD.out]; omega, bump_same]
          have hdq' : ¬ (d : Int) ≤ (q : Int) := by omega
          go_enter Tryz.func9, Tryz.ntmps9
          go_wp2_with (fail)
          refine HSn.out.mono ?_
          rintro e w1 ⟨e1, rfl⟩
          obtain rfl : w = w1 := e1.symm
          go_wp2_with (fail)
          refine HW.out.mono ?_
          rintro e w1 ⟨e1, rfl⟩
          obtain rfl : w = w1 := e1.symm
          go_wp2_with (fail)
          go_returns
          exact ⟨rfl, HO.out, Only.refl _ _⟩
    · simp only [Nat.reduceMod, Nat.reduceDiv, Nat.reduceMul, Nat.reduceAdd] at hm hc fz HST HW
      simp at hC
      by_cases hdq : d ≤ q
      · rw [if_pos hdq] at hC
        subst hC
        obtain rfl : N = cn := by rw [HN.out, if_neg (by omega)]
        have hdq' : (d : Int) ≤ (q : Int) := by omega
        go_enter Tryz.func9, Tryz.ntmps9
        go_wp2_with (fail)
        refine HSn.out.mono ?_
        rintro e w1 ⟨e1, rfl⟩
        obtain rfl : w = w1 := e1.symm
        go_wp2_with (fail)
        refine HW.out.mono ?_
        rintro e w1 ⟨e1, rfl⟩
        obtain rfl : w = w1 := e1.symm
        go_wp2_with (fail)
        go_returns
        exact ⟨rfl, HO.out, Only.refl _ _⟩
      · rw [if_neg hdq] at hC
        subst hC
        obtain rfl : N = cn := by rw [HN.out, if_pos rfl, show max d (q + 1) = cn 2 by rw [HDD.out]; omega, bump_same]
        have hdq' : ¬ (d : Int) ≤ (q : Int) := by omega
        go_enter Tryz.func9, Tryz.ntmps9
        go_wp2_with (fail)
        refine HSn.out.mono ?_
        rintro e w1 ⟨e1, rfl⟩
        obtain rfl : w = w1 := e1.symm
        go_wp2_with (fail)
        refine HW.out.mono ?_
        rintro e w1 ⟨e1, rfl⟩
        obtain rfl : w = w1 := e1.symm
        go_wp2_with (fail)
        go_returns
        exact ⟨rfl, HO.out, Only.refl _ _⟩
    · simp only [Nat.reduceMod, Nat.reduceDiv, Nat.reduceMul, Nat.reduceAdd] at hm hc fz HST HW
      simp at hC
      by_cases hMq : M ≤ q
      · rw [if_pos hMq] at hC
        subst hC
        obtain rfl : N = cn := by rw [HN.out, if_neg (by omega)]
        have hMq' : (M : Int) ≤ (q : Int) := by omega
        go_enter Tryz.func9, Tryz.ntmps9
        go_wp2_with (fail)
        refine HSn.out.mono ?_
        rintro e w1 ⟨e1, rfl⟩
        obtain rfl : w = w1 := e1.symm
        go_wp2_with (fail)
        refine HW.out.mono ?_
        rintro e w1 ⟨e1, rfl⟩
        obtain rfl : w = w1 := e1.symm
        go_wp2_with (fail)
        go_returns
        exact ⟨rfl, HO.out, Only.refl _ _⟩
      · rw [if_neg hMq] at hC
        subst hC
        have hMq' : ¬ (M : Int) ≤ (q : Int) := by omega
        by_cases hdq : d ≤ q
        · have hN : N = bump cn 3 (q + 1) := by rw [HN.out, if_pos rfl, show max d (q + 1) = q + 1 by omega]
          subst hN
          have hdq' : (d : Int) ≤ (q : Int) := by omega
          go_enter Tryz.func9, Tryz.ntmps9
          go_wp2_with (fail)
          refine HSn.out.mono ?_
          rintro e w1 ⟨e1, rfl⟩
          obtain rfl : w = w1 := e1.symm
          go_wp2_with (fail)
          refine HW.out.mono ?_
          rintro e w1 ⟨e1, rfl⟩
          obtain rfl : w = w1 := e1.symm
          go_wp2_with (fail)
          go_returns
          exact ⟨rfl, HST.out (q + 1), (Only.refl (· = o) _).set _ _⟩
        · obtain rfl : N = cn := by rw [HN.out, if_pos rfl, show max d (q + 1) = cn 3 by rw [HDD.out]; omega, bump_same]
          have hdq' : ¬ (d : Int) ≤ (q : Int) := by omega
          go_enter Tryz.func9, Tryz.ntmps9
          go_wp2_with (fail)
          refine HSn.out.mono ?_
          rintro e w1 ⟨e1, rfl⟩
          obtain rfl : w = w1 := e1.symm
          go_wp2_with (fail)
          refine HW.out.mono ?_
          rintro e w1 ⟨e1, rfl⟩
          obtain rfl : w = w1 := e1.symm
          go_wp2_with (fail)
          go_returns
          exact ⟨rfl, HO.out, Only.refl _ _⟩
set_option maxRecDepth 100000 in
set_option maxHeartbeats 8000000 in
theorem code_true_true (o : Nat) (may cn : Nat → Nat) (id : Nat) (w : World) (h : OpAt w o may cn) (hl : ∀ c, c < 4 → cn c ≤ may c) (h20 : ∀ c, c < 4 → may c ≤ 20) (hid : id < 18446744073709551616) :
    Calls Tryz.prog 9 #[.pointer (some ⟨o, 0, none⟩), .int .i64 1, .int .u64 id, .bool true] w fun e w' => CodePost o true may cn (recvB true id) id w e w' := by
  have HW := Lib.hid (who_any id w hid)
  have hr := rrecv_any 1 id w (by omega) hid
  rw [show 1 - 1 = 1 - me true from rfl, sendsN_you] at hr
  have HRv := Lib.hid hr
  have hmi : mineB true id = decide (id % 2 = 1) := mine_mod
  have HO := Lib.hid h
  obtain ⟨hm, hc⟩ := op_at h (id % 4) (by omega)
  have fz := Blk.free h (4 + (id % 4 % 2 * 2 + id % 4 / 2))
  have HST := Lib.hid (fun m => op_set h (id % 4) m (by omega))
  have hle := hl (id % 4) (by omega)
  have hm20 := h20 (id % 4) (by omega)
  clear h hr hl h20
  obtain ⟨ok, hok⟩ : ∃ ok, recvB true id = ok := ⟨_, rfl⟩
  rw [hok] at HRv ⊢
  unfold CodePost
  obtain ⟨C, hC⟩ : ∃ C, thereC true may cn ok id = C := ⟨_, rfl⟩
  have HN := Lib.hid (show thereN true may cn ok id = if C = 0 then bump cn (id % 4) (max (cn (id % 4)) (id / 4 + 1)) else cn by unfold thereN; rw [hC])
  obtain ⟨N, hN⟩ : ∃ N, thereN true may cn ok id = N := ⟨_, rfl⟩
  rw [hC, hN]
  rw [hN] at HN
  unfold thereC at hC
  rw [hmi] at hC
  clear hmi hN hok
  obtain ⟨c, hcc⟩ : ∃ c : Nat, id % 4 = c := ⟨_, rfl⟩
  have hA : id % 2 = c % 2 := by omega
  have hB : id / 2 % 2 = c / 2 := by omega
  obtain ⟨q, hq⟩ : ∃ q : Nat, id / 4 = q := ⟨_, rfl⟩
  rw [hA, hB, hq] at HW
  rw [hcc] at hm hc fz HST hle hm20 HN hC
  rw [hA] at hC
  rw [hq] at HN hC
  have hc4 : c < 4 := by omega
  have hq64 : q < 18446744073709551615 := by omega
  obtain ⟨M, hMM⟩ : ∃ M, may c = M := ⟨_, rfl⟩
  obtain ⟨d, hdd⟩ : ∃ d, cn c = d := ⟨_, rfl⟩
  rw [hMM] at hm hle hm20 hC
  have HDD := Lib.hid hdd
  rw [hdd] at hc hle HN hC
  clear hA hB hq hcc hMM hdd
  cases ok with
  | false =>
    simp only [Bool.not_false, if_true] at hC
    subst hC
    obtain rfl : N = cn := by rw [HN.out, if_neg (by omega)]
    go_enter Tryz.func9, Tryz.ntmps9
    go_wp2_with (fail)
    refine HRv.out.mono ?_
    rintro e w1 ⟨e1, rfl⟩
    obtain rfl : w = w1 := e1.symm
    go_wp2_with (fail)
    go_returns
    exact ⟨rfl, HO.out, Only.refl _ _⟩
  | true =>
    simp only [Bool.not_true, Bool.false_eq_true, if_false] at hC
    rcases (by omega : c = 0 ∨ c = 1 ∨ c = 2 ∨ c = 3) with rfl | rfl | rfl | rfl
    · simp only [Nat.reduceMod, Nat.reduceDiv, Nat.reduceMul, Nat.reduceAdd] at hm hc fz HST HW
      simp at hC
      by_cases hMq : M ≤ q
      · rw [if_pos hMq] at hC
        subst hC
        obtain rfl : N = cn := by rw [HN.out, if_neg (by omega)]
        have hMq' : (M : Int) ≤ (q : Int) := by omega
        go_enter Tryz.func9, Tryz.ntmps9
        go_wp2_with (fail)
        refine HRv.out.mono ?_
        rintro e w1 ⟨e1, rfl⟩
        obtain rfl : w = w1 := e1.symm
        go_wp2_with (fail)
        refine HW.out.mono ?_
        rintro e w1 ⟨e1, rfl⟩
        obtain rfl : w = w1 := e1.symm
        go_wp2_with (fail)
        go_returns
        exact ⟨rfl, HO.out, Only.refl _ _⟩
      · rw [if_neg hMq] at hC
        subst hC
        have hMq' : ¬ (M : Int) ≤ (q : Int) := by omega
        by_cases hdq : d ≤ q
        · have hN : N = bump cn 0 (q + 1) := by rw [HN.out, if_pos rfl, show max d (q + 1) = q + 1 by omega]
          subst hN
          have hdq' : (d : Int) ≤ (q : Int) := by omega
          go_enter Tryz.func9, Tryz.ntmps9
          go_wp2_with (fail)
          refine HRv.out.mono ?_
          rintro e w1 ⟨e1, rfl⟩
          obtain rfl : w = w1 := e1.symm
          go_wp2_with (fail)
          refine HW.out.mono ?_
          rintro e w1 ⟨e1, rfl⟩
          obtain rfl : w = w1 := e1.symm
          go_wp2_with (fail)
          go_returns
          exact ⟨rfl, HST.out (q + 1), (Only.refl (· = o) _).set _ _⟩
        · obtain rfl : N = cn := by rw [HN.out, if_pos rfl, show max d (q + 1) = cn 0 by rw [HDD.out]; omega, bump_same]
          have hdq' : ¬ (d : Int) ≤ (q : Int) := by omega
          go_enter Tryz.func9, Tryz.ntmps9
          go_wp2_with (fail)
          refine HRv.out.mono ?_
          rintro e w1 ⟨e1, rfl⟩
          obtain rfl : w = w1 := e1.symm
          go_wp2_with (fail)
          refine HW.out.mono ?_
          rintro e w1 ⟨e1, rfl⟩
          obtain rfl : w = w1 := e1.symm
          go_wp2_with (fail)
          go_returns
          exact ⟨rfl, HO.out, Only.refl _ _⟩
    · simp only [Nat.reduceMod, Nat.reduceDiv, Nat.reduceMul, Nat.reduceAdd] at hm hc fz HST HW
      simp at hC
      by_cases hdq : d ≤ q
      · rw [if_pos hdq] at hC
        subst hC
        obtain rfl : N = cn := by rw [HN.out, if_neg (by omega)]
        have hdq' : (d : Int) ≤ (q : Int) := by omega
        go_enter Tryz.func9, Tryz.ntmps9
        go_wp2_with (fail)
        refine HRv.out.mono ?_
        rintro e w1 ⟨e1, rfl⟩
        obtain rfl : w = w1 := e1.symm
        go_wp2_with (fail)
        refine HW.out.mono ?_
        rintro e w1 ⟨e1, rfl⟩
        obtain rfl : w = w1 := e1.symm
        go_wp2_with (fail)
        go_returns
        exact ⟨rfl, HO.out, Only.refl _ _⟩
      · rw [if_neg hdq] at hC
        subst hC
        obtain rfl : N = cn := by rw [HN.out, if_pos rfl, show max d (q + 1) = cn 1 by rw [HDD.out]; omega, bump_same]
        have hdq' : ¬ (d : Int) ≤ (q : Int) := by omega
        go_enter Tryz.func9, Tryz.ntmps9
        go_wp2_with (fail)
        refine HRv.out.mono ?_
        rintro e w1 ⟨e1, rfl⟩
        obtain rfl : w = w1 := e1.symm
        go_wp2_with (fail)
        refine HW.out.mono ?_
        rintro e w1 ⟨e1, rfl⟩
        obtain rfl : w = w1 := e1.symm
        go_wp2_with (fail)
        go_returns
        exact ⟨rfl, HO.out, Only.refl _ _⟩
    · simp only [Nat.reduceMod, Nat.reduceDiv, Nat.reduceMul, Nat.reduceAdd] at hm hc fz HST HW
      simp at hC
      by_cases hMq : M ≤ q
      · rw [if_pos hMq] at hC
        subst hC
        obtain rfl : N = cn := by rw [HN.out, if_neg (by omega)]
        have hMq' : (M : Int) ≤ (q : Int) := by omega
        go_enter Tryz.func9, Tryz.ntmps9
        go_wp2_with (fail)
        refine HRv.out.mono ?_
        rintro e w1 ⟨e1, rfl⟩
        obtain rfl : w = w1 := e1.symm
        go_wp2_with (fail)
        refine HW.out.mono ?_
        rintro e w1 ⟨e1, rfl⟩
        obtain rfl : w = w1 := e1.symm
        go_wp2_with (fail)
        go_returns
        exact ⟨rfl, HO.out, Only.refl _ _⟩
      · rw [if_neg hMq] at hC
        subst hC
        have hMq' : ¬ (M : Int) ≤ (q : Int) := by omega
        by_cases hdq : d ≤ q
        · have hN : N = bump cn 2 (q + 1) := by rw [HN.out, if_pos rfl, show max d (q + 1) = q + 1 by omega]
          subst hN
          have hdq' : (d : Int) ≤ (q : Int) := by omega
          go_enter Tryz.func9, Tryz.ntmps9
          go_wp2_with (fail)
          refine HRv.out.mono ?_
          rintro e w1 ⟨e1, rfl⟩
          obtain rfl : w = w1 := e1.symm
          go_wp2_with (fail)
          refine HW.out.mono ?_
          rintro e w1 ⟨e1, rfl⟩
          obtain rfl : w = w1 := e1.symm
          go_wp2_with (fail)
          go_returns
          exact ⟨rfl, HST.out (q + 1), (Only.refl (· = o) _).set _ _⟩
        · obtain rfl : N = cn := by rw [HN.out, if_pos rfl, show max d (q + 1) = cn 2 by rw [HDD.out]; omega, bump_same]
          have hdq' : ¬ (d : Int) ≤ (q : Int) := by omega
          go_enter Tryz.func9, Tryz.ntmps9
          go_wp2_with (fail)
          refine HRv.out.mono ?_
          rintro e w1 ⟨e1, rfl⟩
          obtain rfl : w = w1 := e1.symm
          go_wp2_with (fail)
          refine HW.out.mono ?_
          rintro e w1 ⟨e1, rfl⟩
          obtain rfl : w = w1 := e1.symm
          go_wp2_with (fail)
          go_returns
          exact ⟨rfl, HO.out, Only.refl _ _⟩
    · simp only [Nat.reduceMod, Nat.reduceDiv, Nat.reduceMul, Nat.reduceAdd] at hm hc fz HST HW
      simp at hC
      by_cases hdq : d ≤ q
      · rw [if_pos hdq] at hC
        subst hC
        obtain rfl : N = cn := by rw [HN.out, if_neg (by omega)]
        have hdq' : (d : Int) ≤ (q : Int) := by omega
        go_enter Tryz.func9, Tryz.ntmps9
        go_wp2_with (fail)
        refine HRv.out.mono ?_
        rintro e w1 ⟨e1, rfl⟩
        obtain rfl : w = w1 := e1.symm
        go_wp2_with (fail)
        refine HW.out.mono ?_
        rintro e w1 ⟨e1, rfl⟩
        obtain rfl : w = w1 := e1.symm
        go_wp2_with (fail)
        go_returns
        exact ⟨rfl, HO.out, Only.refl _ _⟩
      · rw [if_neg hdq] at hC
        subst hC
        obtain rfl : N = cn := by rw [HN.out, if_pos rfl, show max d (q + 1) = cn 3 by rw [HDD.out]; omega, bump_same]
        have hdq' : ¬ (d : Int) ≤ (q : Int) := by omega
        go_enter Tryz.func9, Tryz.ntmps9
        go_wp2_with (fail)
        refine HRv.out.mono ?_
        rintro e w1 ⟨e1, rfl⟩
        obtain rfl : w = w1 := e1.symm
        go_wp2_with (fail)
        refine HW.out.mono ?_
        rintro e w1 ⟨e1, rfl⟩
        obtain rfl : w = w1 := e1.symm
        go_wp2_with (fail)
        go_returns
        exact ⟨rfl, HO.out, Only.refl _ _⟩
set_option maxRecDepth 100000 in
set_option maxHeartbeats 8000000 in
theorem code_true_false (o : Nat) (may cn : Nat → Nat) (id : Nat) (w : World) (h : OpAt w o may cn) (hl : ∀ c, c < 4 → cn c ≤ may c) (h20 : ∀ c, c < 4 → may c ≤ 20) (hid : id < 18446744073709551616) :
    Calls Tryz.prog 9 #[.pointer (some ⟨o, 0, none⟩), .int .i64 1, .int .u64 id, .bool false] w fun e w' => CodePost o true may cn (sendsB true id) id w e w' := by
  have HW := Lib.hid (who_any id w hid)
  have hr := rsends_any 1 id w (by omega) hid
  rw [show sendsN 1 id = sendsB true id from sendsN_me (sv := true)] at hr
  have HSn := Lib.hid hr
  have hmi : mineB true id = decide (id % 2 = 1) := mine_mod
  have HO := Lib.hid h
  obtain ⟨hm, hc⟩ := op_at h (id % 4) (by omega)
  have fz := Blk.free h (4 + (id % 4 % 2 * 2 + id % 4 / 2))
  have HST := Lib.hid (fun m => op_set h (id % 4) m (by omega))
  have hle := hl (id % 4) (by omega)
  have hm20 := h20 (id % 4) (by omega)
  clear h hr hl h20
  obtain ⟨ok, hok⟩ : ∃ ok, sendsB true id = ok := ⟨_, rfl⟩
  rw [hok] at HSn ⊢
  unfold CodePost
  obtain ⟨C, hC⟩ : ∃ C, thereC true may cn ok id = C := ⟨_, rfl⟩
  have HN := Lib.hid (show thereN true may cn ok id = if C = 0 then bump cn (id % 4) (max (cn (id % 4)) (id / 4 + 1)) else cn by unfold thereN; rw [hC])
  obtain ⟨N, hN⟩ : ∃ N, thereN true may cn ok id = N := ⟨_, rfl⟩
  rw [hC, hN]
  rw [hN] at HN
  unfold thereC at hC
  rw [hmi] at hC
  clear hmi hN hok
  obtain ⟨c, hcc⟩ : ∃ c : Nat, id % 4 = c := ⟨_, rfl⟩
  have hA : id % 2 = c % 2 := by omega
  have hB : id / 2 % 2 = c / 2 := by omega
  obtain ⟨q, hq⟩ : ∃ q : Nat, id / 4 = q := ⟨_, rfl⟩
  rw [hA, hB, hq] at HW
  rw [hcc] at hm hc fz HST hle hm20 HN hC
  rw [hA] at hC
  rw [hq] at HN hC
  have hc4 : c < 4 := by omega
  have hq64 : q < 18446744073709551615 := by omega
  obtain ⟨M, hMM⟩ : ∃ M, may c = M := ⟨_, rfl⟩
  obtain ⟨d, hdd⟩ : ∃ d, cn c = d := ⟨_, rfl⟩
  rw [hMM] at hm hle hm20 hC
  have HDD := Lib.hid hdd
  rw [hdd] at hc hle HN hC
  clear hA hB hq hcc hMM hdd
  cases ok with
  | false =>
    simp only [Bool.not_false, if_true] at hC
    subst hC
    obtain rfl : N = cn := by rw [HN.out, if_neg (by omega)]
    go_enter Tryz.func9, Tryz.ntmps9
    go_wp2_with (fail)
    refine HSn.out.mono ?_
    rintro e w1 ⟨e1, rfl⟩
    obtain rfl : w = w1 := e1.symm
    go_wp2_with (fail)
    go_returns
    exact ⟨rfl, HO.out, Only.refl _ _⟩
  | true =>
    simp only [Bool.not_true, Bool.false_eq_true, if_false] at hC
    rcases (by omega : c = 0 ∨ c = 1 ∨ c = 2 ∨ c = 3) with rfl | rfl | rfl | rfl
    · simp only [Nat.reduceMod, Nat.reduceDiv, Nat.reduceMul, Nat.reduceAdd] at hm hc fz HST HW
      simp at hC
      by_cases hMq : M ≤ q
      · rw [if_pos hMq] at hC
        subst hC
        obtain rfl : N = cn := by rw [HN.out, if_neg (by omega)]
        have hMq' : (M : Int) ≤ (q : Int) := by omega
        go_enter Tryz.func9, Tryz.ntmps9
        go_wp2_with (fail)
        refine HSn.out.mono ?_
        rintro e w1 ⟨e1, rfl⟩
        obtain rfl : w = w1 := e1.symm
        go_wp2_with (fail)
        refine HW.out.mono ?_
        rintro e w1 ⟨e1, rfl⟩
        obtain rfl : w = w1 := e1.symm
        go_wp2_with (fail)
        go_returns
        exact ⟨rfl, HO.out, Only.refl _ _⟩
      · rw [if_neg hMq] at hC
        subst hC
        have hMq' : ¬ (M : Int) ≤ (q : Int) := by omega
        by_cases hdq : d ≤ q
        · have hN : N = bump cn 0 (q + 1) := by rw [HN.out, if_pos rfl, show max d (q + 1) = q + 1 by omega]
          subst hN
          have hdq' : (d : Int) ≤ (q : Int) := by omega
          go_enter Tryz.func9, Tryz.ntmps9
          go_wp2_with (fail)
          refine HSn.out.mono ?_
          rintro e w1 ⟨e1, rfl⟩
          obtain rfl : w = w1 := e1.symm
          go_wp2_with (fail)
          refine HW.out.mono ?_
          rintro e w1 ⟨e1, rfl⟩
          obtain rfl : w = w1 := e1.symm
          go_wp2_with (fail)
          go_returns
          exact ⟨rfl, HST.out (q + 1), (Only.refl (· = o) _).set _ _⟩
        · obtain rfl : N = cn := by rw [HN.out, if_pos rfl, show max d (q + 1) = cn 0 by rw [HDD.out]; omega, bump_same]
          have hdq' : ¬ (d : Int) ≤ (q : Int) := by omega
          go_enter Tryz.func9, Tryz.ntmps9
          go_wp2_with (fail)
          refine HSn.out.mono ?_
          rintro e w1 ⟨e1, rfl⟩
          obtain rfl : w = w1 := e1.symm
          go_wp2_with (fail)
          refine HW.out.mono ?_
          rintro e w1 ⟨e1, rfl⟩
          obtain rfl : w = w1 := e1.symm
          go_wp2_with (fail)
          go_returns
          exact ⟨rfl, HO.out, Only.refl _ _⟩
    · simp only [Nat.reduceMod, Nat.reduceDiv, Nat.reduceMul, Nat.reduceAdd] at hm hc fz HST HW
      simp at hC
      by_cases hdq : d ≤ q
      · rw [if_pos hdq] at hC
        subst hC
        obtain rfl : N = cn := by rw [HN.out, if_neg (by omega)]
        have hdq' : (d : Int) ≤ (q : Int) := by omega
        go_enter Tryz.func9, Tryz.ntmps9
        go_wp2_with (fail)
        refine HSn.out.mono ?_
        rintro e w1 ⟨e1, rfl⟩
        obtain rfl : w = w1 := e1.symm
        go_wp2_with (fail)
        refine HW.out.mono ?_
        rintro e w1 ⟨e1, rfl⟩
        obtain rfl : w = w1 := e1.symm
        go_wp2_with (fail)
        go_returns
        exact ⟨rfl, HO.out, Only.refl _ _⟩
      · rw [if_neg hdq] at hC
        subst hC
        obtain rfl : N = cn := by rw [HN.out, if_pos rfl, show max d (q + 1) = cn 1 by rw [HDD.out]; omega, bump_same]
        have hdq' : ¬ (d : Int) ≤ (q : Int) := by omega
        go_enter Tryz.func9, Tryz.ntmps9
        go_wp2_with (fail)
        refine HSn.out.mono ?_
        rintro e w1 ⟨e1, rfl⟩
        obtain rfl : w = w1 := e1.symm
        go_wp2_with (fail)
        refine HW.out.mono ?_
        rintro e w1 ⟨e1, rfl⟩
        obtain rfl : w = w1 := e1.symm
        go_wp2_with (fail)
        go_returns
        exact ⟨rfl, HO.out, Only.refl _ _⟩
    · simp only [Nat.reduceMod, Nat.reduceDiv, Nat.reduceMul, Nat.reduceAdd] at hm hc fz HST HW
      simp at hC
      by_cases hMq : M ≤ q
      · rw [if_pos hMq] at hC
        subst hC
        obtain rfl : N = cn := by rw [HN.out, if_neg (by omega)]
        have hMq' : (M : Int) ≤ (q : Int) := by omega
        go_enter Tryz.func9, Tryz.ntmps9
        go_wp2_with (fail)
        refine HSn.out.mono ?_
        rintro e w1 ⟨e1, rfl⟩
        obtain rfl : w = w1 := e1.symm
        go_wp2_with (fail)
        refine HW.out.mono ?_
        rintro e w1 ⟨e1, rfl⟩
        obtain rfl : w = w1 := e1.symm
        go_wp2_with (fail)
        go_returns
        exact ⟨rfl, HO.out, Only.refl _ _⟩
      · rw [if_neg hMq] at hC
        subst hC
        have hMq' : ¬ (M : Int) ≤ (q : Int) := by omega
        by_cases hdq : d ≤ q
        · have hN : N = bump cn 2 (q + 1) := by rw [HN.out, if_pos rfl, show max d (q + 1) = q + 1 by omega]
          subst hN
          have hdq' : (d : Int) ≤ (q : Int) := by omega
          go_enter Tryz.func9, Tryz.ntmps9
          go_wp2_with (fail)
          refine HSn.out.mono ?_
          rintro e w1 ⟨e1, rfl⟩
          obtain rfl : w = w1 := e1.symm
          go_wp2_with (fail)
          refine HW.out.mono ?_
          rintro e w1 ⟨e1, rfl⟩
          obtain rfl : w = w1 := e1.symm
          go_wp2_with (fail)
          go_returns
          exact ⟨rfl, HST.out (q + 1), (Only.refl (· = o) _).set _ _⟩
        · obtain rfl : N = cn := by rw [HN.out, if_pos rfl, show max d (q + 1) = cn 2 by rw [HDD.out]; omega, bump_same]
          have hdq' : ¬ (d : Int) ≤ (q : Int) := by omega
          go_enter Tryz.func9, Tryz.ntmps9
          go_wp2_with (fail)
          refine HSn.out.mono ?_
          rintro e w1 ⟨e1, rfl⟩
          obtain rfl : w = w1 := e1.symm
          go_wp2_with (fail)
          refine HW.out.mono ?_
          rintro e w1 ⟨e1, rfl⟩
          obtain rfl : w = w1 := e1.symm
          go_wp2_with (fail)
          go_returns
          exact ⟨rfl, HO.out, Only.refl _ _⟩
    · simp only [Nat.reduceMod, Nat.reduceDiv, Nat.reduceMul, Nat.reduceAdd] at hm hc fz HST HW
      simp at hC
      by_cases hdq : d ≤ q
      · rw [if_pos hdq] at hC
        subst hC
        obtain rfl : N = cn := by rw [HN.out, if_neg (by omega)]
        have hdq' : (d : Int) ≤ (q : Int) := by omega
        go_enter Tryz.func9, Tryz.ntmps9
        go_wp2_with (fail)
        refine HSn.out.mono ?_
        rintro e w1 ⟨e1, rfl⟩
        obtain rfl : w = w1 := e1.symm
        go_wp2_with (fail)
        refine HW.out.mono ?_
        rintro e w1 ⟨e1, rfl⟩
        obtain rfl : w = w1 := e1.symm
        go_wp2_with (fail)
        go_returns
        exact ⟨rfl, HO.out, Only.refl _ _⟩
      · rw [if_neg hdq] at hC
        subst hC
        obtain rfl : N = cn := by rw [HN.out, if_pos rfl, show max d (q + 1) = cn 3 by rw [HDD.out]; omega, bump_same]
        have hdq' : ¬ (d : Int) ≤ (q : Int) := by omega
        go_enter Tryz.func9, Tryz.ntmps9
        go_wp2_with (fail)
        refine HSn.out.mono ?_
        rintro e w1 ⟨e1, rfl⟩
        obtain rfl : w = w1 := e1.symm
        go_wp2_with (fail)
        refine HW.out.mono ?_
        rintro e w1 ⟨e1, rfl⟩
        obtain rfl : w = w1 := e1.symm
        go_wp2_with (fail)
        go_returns
        exact ⟨rfl, HO.out, Only.refl _ _⟩
theorem code_any (o : Nat) (sv rc : Bool) (may cn : Nat → Nat) (id : Nat) (w : World) (h : OpAt w o may cn) (hl : ∀ c, c < 4 → cn c ≤ may c) (h20 : ∀ c, c < 4 → may c ≤ 20) (hid : id < 18446744073709551616) :
    Calls Tryz.prog 9 #[.pointer (some ⟨o, 0, none⟩), .int .i64 (me sv : Nat), .int .u64 id, .bool rc] w fun e w' => CodePost o sv may cn (if rc then recvB sv id else sendsB sv id) id w e w' := by
  cases sv <;> cases rc
  · exact code_false_false o may cn id w h hl h20 hid
  · exact code_false_true o may cn id w h hl h20 hid
  · exact code_true_false o may cn id w h hl h20 hid
  · exact code_true_true o may cn id w h hl h20 hid
end Go.Proofs.YtgpnfdeneagdbaaGreat
