/- A set of streams: Start. -/
import Derived.Test.YtgpnfdeneagdbaaGreatCo18
namespace Go.Proofs.YtgpnfdeneagdbaaGreat
open Go.RowKit
set_option linter.unusedVariables false
def StPost (s base : Nat) (sv : Bool) (own peer may cn : Nat → Nat) (k : Nat) (w : World) (e : Ending) (w' : World) : Prop :=
  (may (me sv + 2 * k) ≤ cn (me sv + 2 * k) → e = .returned (.tuple #[.int .u64 0, .int .i64 7]) ∧ SetIs (fun _ => True) w' s base sv own peer may cn ∧ Only (· = s) w w') ∧
  (cn (me sv + 2 * k) < may (me sv + 2 * k) → ∃ id : Nat, e = .returned (.tuple #[.int .u64 id, .int .i64 0]) ∧ SetIs (fun _ => True) w' s base sv own peer may (bump cn (me sv + 2 * k) (cn (me sv + 2 * k) + 1)) ∧ Only (· = s) w w')
theorem or_low {f k b : Nat} (hk : b < 2 ^ k) (hf : 2 ^ k * f < 18446744073709551616) (hb : b < 18446744073709551616) : bits .or .u64 ((2 ^ k * f : Nat) : Int) (b : Int) = ((2 ^ k * f + b : Nat) : Int) := by
  rw [bits_or_u64_nat _ b hf hb]
  congr 1
  exact (Nat.two_pow_add_eq_or_of_lt hk f).symm
set_option maxRecDepth 100000 in
set_option maxHeartbeats 8000000 in
theorem start_any (s base : Nat) (sv un : Bool) (own peer may cn : Nat → Nat) (cs : Array Value) (a : Option Addr) (n cap : Nat) (L : List Strm) (k : Nat) (hk : k = if un then 1 else 0) (w : World) (h : StAt w s base sv own peer cs a n cap L) (hI : StI cs sv may cn) (hL : OpI cn L) :
    Calls Tryz.prog 8 #[.pointer (some ⟨s, 0, none⟩), .bool un] w fun e w' => StPost s base sv own peer may cn k w e w' := by
  have hme := me_lt sv
  have hk2 : k < 2 := by rw [hk]; split <;> omega
  have hc4 : me sv + 2 * k < 4 := by omega
  have HS := Lib.hid (show SetIs (fun _ => True) w s base sv own peer may cn from ⟨cs, a, n, cap, L, h, hI, hL, fun _ _ => trivial⟩)
  have ho := hI.op k hk2
  have hm := hI.mo k hk2
  have hle := hI.le _ hc4
  have h20 := hI.m20 _ hc4
  have HO := Lib.hid (fun x => hI.open_ hk2 x)
  have HN := Lib.hid (fun om im => hL.new hc4 om im)
  have hn250 : n ≤ 250 := by rw [h.len]; exact OpI.len80 hI hL
  have HA := Lib.hid hL.asc
  unfold StPost
  obtain ⟨c, hc⟩ : ∃ c, me sv + 2 * k = c := ⟨_, rfl⟩
  rw [hc] at ho hm hle h20 HO HN ⊢
  obtain ⟨o, hoo⟩ : ∃ o, cn c = o := ⟨_, rfl⟩
  obtain ⟨M, hMM⟩ : ∃ M, may c = M := ⟨_, rfl⟩
  rw [hoo] at ho hle HN ⊢
  rw [hMM] at hm hle h20 HO ⊢
  have HP := Lib.hid (open_any s k o M cs 54 w hk2 h.blk ho hm (by omega) (by omega))
  have H := Lib.hid h
  have hsv := h.srv
  have hls := h.blk.lt
  have HC := Lib.hid hc
  clear h hI hL ho hm hoo hMM hc
  by_cases hoM : M ≤ o
  · have HOM := Lib.hid hoM
    clear hoM
    have key : Hid (∀ w', Below w.heap.size w w' → (SetIs (fun _ => True) w' s base sv own peer may cn ∧ Only (· = s) w w')) := Lib.hid (fun w' hb => by
      obtain ⟨cs', a', n', c', L', h1, h2, h3, _⟩ := HS.out
      exact ⟨⟨cs', a', n', c', L', h1.below hb, h2, h3, fun _ _ => trivial⟩, only_of_below hb _⟩)
    cases un with
    | true =>
      simp only [if_true] at hk
      subst hk
      go_enter Tryz.func8, Tryz.ntmps8
      go_wp2_with (fail)
      refine HP.out.mono ?_
      rintro e w1 ⟨h1, h2⟩
      obtain ⟨rfl, hb⟩ := h1 HOM.out
      clear h1 h2
      go_wp2_with (fail)
      go_returns
      exact ⟨fun _ => ⟨rfl, key.out _ hb⟩, fun h => absurd h (Nat.not_lt.2 HOM.out)⟩
    | false =>
      simp only [Bool.false_eq_true, if_false] at hk
      subst hk
      go_enter Tryz.func8, Tryz.ntmps8
      go_wp2_with (fail)
      refine HP.out.mono ?_
      rintro e w1 ⟨h1, h2⟩
      obtain ⟨rfl, hb⟩ := h1 HOM.out
      clear h1 h2
      go_wp2_with (fail)
      go_returns
      exact ⟨fun _ => ⟨rfl, key.out _ hb⟩, fun h => absurd h (Nat.not_lt.2 HOM.out)⟩
  · have HOM : Hid (o < M) := Lib.hid (by omega)
    clear hoM
    have HA1 : Hid (bits .or .u64 ((o : Int) * 4) 2 = ((4 * o + 2 : Nat) : Int)) := Lib.hid (by
      have := or_low (f := o) (k := 2) (b := 2) (by omega) (by omega) (by omega)
      rw [show ((o : Int) * 4) = ((2 ^ 2 * o : Nat) : Int) by omega]
      exact this)
    have HB1 : Hid (bits .or .u64 ((4 * o + 2 : Nat) : Int) 1 = ((4 * o + 3 : Nat) : Int)) := Lib.hid (by
      have := or_low (f := 2 * o + 1) (k := 1) (b := 1) (by omega) (by omega) (by omega)
      rw [show 4 * o + 2 = 2 ^ 1 * (2 * o + 1) by omega, show 4 * o + 3 = 2 ^ 1 * (2 * o + 1) + 1 by omega]
      exact this)
    have HZ0 : Hid (bits .or .u64 ((o : Int) * 4) 0 = ((4 * o : Nat) : Int)) := Lib.hid (by
      have := or_low (f := o) (k := 2) (b := 0) (by omega) (by omega) (by omega)
      rw [show ((o : Int) * 4) = ((2 ^ 2 * o : Nat) : Int) by omega]
      exact this)
    have HB0 : Hid (bits .or .u64 ((4 * o : Nat) : Int) 1 = ((4 * o + 1 : Nat) : Int)) := Lib.hid (by
      have := or_low (f := o) (k := 2) (b := 1) (by omega) (by omega) (by omega)
      exact this)
    have H250 := Lib.hid hn250
    have H20 : Hid (M ≤ 20) := Lib.hid h20
    have ho20 : o ≤ 20 := by omega
    clear hme hk2 hc4 hle h20 hn250
    cases un with
    | true =>
      simp only [if_true] at hk
      subst hk
      go_enter Tryz.func8, Tryz.ntmps8
      go_wp2_with (fail)
      refine HP.out.mono ?_
      rintro e w1 ⟨h1, h2⟩
      obtain ⟨rfl, hon, hbk⟩ := h2 HOM.out
      clear h1 h2
      have s1 := H.out.set_ (by omega) hbk hon
      have i1 := HO.out (o + 1) (by have := HOM.out; omega)
      have ON1 := Lib.hid hon
      have d13 := s1.blk.cell 13 _ s1.srv
      have S1 := Lib.hid s1
      have I1 := Lib.hid i1
      clear hon hbk s1 i1 hsv
      cases sv with
      | true =>
        go_wp2_with (fail)
        rw [HA1.out, HB1.out]
        rw [show ((4 * o + 3 : Nat) : Int) = ((4 * o + c : Nat) : Int) by rw [← HC.out]; simp [me] <;> omega]
        have hc4 : c < 4 := by rw [← HC.out]; simp [me]
        refine (add_any s base true own peer _ a n cap L (4 * o + c) w1 S1.out HA.out H250.out (by have := HOM.out; have := H20.out; omega)).mono ?_
        rintro e w2 ⟨om, im, a2, c2, rfl, hS2, hon2, -⟩
        have FIN := Lib.hid (show SetIs (fun _ => True) w2 s base _ own peer may (bump cn c (o + 1)) ∧ Only (· = s) w w2 from ⟨⟨_, _, _, _, _, hS2, I1.out.set70 _, HN.out om im, fun _ _ => trivial⟩, ON1.out.trans hon2⟩)
        clear hS2 hon2 hc4 HN HA1 HB1 HB0 HZ0 ho20
        generalize 4 * o + c = idn
        try generalize 4 * o + 2 = jd
        try generalize (o : Int) * 4 = kd
        go_wp2_with (fail)
        go_returns
        exact ⟨fun h => absurd h (Nat.not_le.2 HOM.out), fun _ => ⟨idn, rfl, FIN.out⟩⟩
      | false =>
        go_wp2_with (fail)
        rw [HA1.out]
        rw [show ((4 * o + 2 : Nat) : Int) = ((4 * o + c : Nat) : Int) by rw [← HC.out]; simp [me] <;> omega]
        have hc4 : c < 4 := by rw [← HC.out]; simp [me]
        refine (add_any s base false own peer _ a n cap L (4 * o + c) w1 S1.out HA.out H250.out (by have := HOM.out; have := H20.out; omega)).mono ?_
        rintro e w2 ⟨om, im, a2, c2, rfl, hS2, hon2, -⟩
        have FIN := Lib.hid (show SetIs (fun _ => True) w2 s base _ own peer may (bump cn c (o + 1)) ∧ Only (· = s) w w2 from ⟨⟨_, _, _, _, _, hS2, I1.out.set70 _, HN.out om im, fun _ _ => trivial⟩, ON1.out.trans hon2⟩)
        clear hS2 hon2 hc4 HN HA1 HB1 HB0 HZ0 ho20
        generalize 4 * o + c = idn
        try generalize 4 * o + 2 = jd
        try generalize (o : Int) * 4 = kd
        go_wp2_with (fail)
        go_returns
        exact ⟨fun h => absurd h (Nat.not_le.2 HOM.out), fun _ => ⟨idn, rfl, FIN.out⟩⟩
    | false =>
      simp only [Bool.false_eq_true, if_false] at hk
      subst hk
      go_enter Tryz.func8, Tryz.ntmps8
      go_wp2_with (fail)
      refine HP.out.mono ?_
      rintro e w1 ⟨h1, h2⟩
      obtain ⟨rfl, hon, hbk⟩ := h2 HOM.out
      clear h1 h2
      have s1 := H.out.set_ (by omega) hbk hon
      have i1 := HO.out (o + 1) (by have := HOM.out; omega)
      have ON1 := Lib.hid hon
      have d13 := s1.blk.cell 13 _ s1.srv
      have S1 := Lib.hid s1
      have I1 := Lib.hid i1
      clear hon hbk s1 i1 hsv
      cases sv with
      | true =>
        go_wp2_with (fail)
        rw [HZ0.out, HB0.out]
        rw [show ((4 * o + 1 : Nat) : Int) = ((4 * o + c : Nat) : Int) by rw [← HC.out]; simp [me] <;> omega]
        have hc4 : c < 4 := by rw [← HC.out]; simp [me]
        refine (add_any s base true own peer _ a n cap L (4 * o + c) w1 S1.out HA.out H250.out (by have := HOM.out; have := H20.out; omega)).mono ?_
        rintro e w2 ⟨om, im, a2, c2, rfl, hS2, hon2, -⟩
        have FIN := Lib.hid (show SetIs (fun _ => True) w2 s base _ own peer may (bump cn c (o + 1)) ∧ Only (· = s) w w2 from ⟨⟨_, _, _, _, _, hS2, I1.out.set70 _, HN.out om im, fun _ _ => trivial⟩, ON1.out.trans hon2⟩)
        clear hS2 hon2 hc4 HN HA1 HB1 HB0 HZ0 ho20
        generalize 4 * o + c = idn
        try generalize 4 * o = jd
        try generalize (o : Int) * 4 = kd
        go_wp2_with (fail)
        go_returns
        exact ⟨fun h => absurd h (Nat.not_le.2 HOM.out), fun _ => ⟨idn, rfl, FIN.out⟩⟩
      | false =>
        go_wp2_with (fail)
        rw [HZ0.out]
        rw [show ((4 * o : Nat) : Int) = ((4 * o + c : Nat) : Int) by rw [← HC.out]; simp [me] <;> omega]
        have hc4 : c < 4 := by rw [← HC.out]; simp [me]
        refine (add_any s base false own peer _ a n cap L (4 * o + c) w1 S1.out HA.out H250.out (by have := HOM.out; have := H20.out; omega)).mono ?_
        rintro e w2 ⟨om, im, a2, c2, rfl, hS2, hon2, -⟩
        have FIN := Lib.hid (show SetIs (fun _ => True) w2 s base _ own peer may (bump cn c (o + 1)) ∧ Only (· = s) w w2 from ⟨⟨_, _, _, _, _, hS2, I1.out.set70 _, HN.out om im, fun _ _ => trivial⟩, ON1.out.trans hon2⟩)
        clear hS2 hon2 hc4 HN HA1 HB1 HB0 HZ0 ho20
        generalize 4 * o + c = idn
        try generalize 4 * o = jd
        try generalize (o : Int) * 4 = kd
        go_wp2_with (fail)
        go_returns
        exact ⟨fun h => absurd h (Nat.not_le.2 HOM.out), fun _ => ⟨idn, rfl, FIN.out⟩⟩
end Go.Proofs.YtgpnfdeneagdbaaGreat
