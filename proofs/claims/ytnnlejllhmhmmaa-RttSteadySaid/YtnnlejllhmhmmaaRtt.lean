/- The functions of package rtt: what they compute. -/
import Derived.Test.YtnnlejllhmhmmaaBase
namespace Go.Proofs.Ytnnlejllhmhmmaa
open Go.RowKit
set_option linter.unusedVariables false
namespace Rtt

theorem far_any (a b : Int) (w : World) (ha : 0 ≤ a) (hb : 0 ≤ b) (ha' : a ≤ 18446744073709551615) (hb' : b ≤ 18446744073709551615) :
    Calls Try.prog 21 #[.int .u64 a, .int .u64 b] w fun e w' => e = .returned (.int .u64 (max a b - min a b)) ∧ w = w' := by
  go_enter Try.func21, Try.ntmps21
  go_wp2
  go_ret
  exact ⟨rfl, rfl⟩

structure RS where
  has : Bool
  la : Int
  mi : Int
  sm : Int
  va : Int
def RS.ok (s : RS) : Prop := (0 ≤ s.la ∧ s.la ≤ 1099511627776) ∧ (0 ≤ s.mi ∧ s.mi ≤ 1099511627776) ∧ (0 ≤ s.sm ∧ s.sm ≤ 1099511627776) ∧ (0 ≤ s.va ∧ s.va ≤ 1099511627776)
def RS.vals (s : RS) : Array Value := #[.bool s.has, .int .u64 s.la, .int .u64 s.mi, .int .u64 s.sm, .int .u64 s.va]

def sampleF (s : RS) (l0 d0 : Int) : RS :=
  let l := min l0 1099511627776
  let d := min d0 1099511627776
  match s.has with
  | true =>
    let mi := min s.mi l
    let adj := if mi + d ≤ l then l - d else l
    ⟨true, l, mi, (7 * s.sm + adj) / 8, (3 * s.va + (max s.sm adj - min s.sm adj)) / 4⟩
  | false => ⟨true, l, l, l, l / 2⟩

theorem sampleF_ok (s : RS) (l d : Int) (hl : 0 ≤ l) (hd : 0 ≤ d) (h : s.ok) : (sampleF s l d).ok := by
  obtain ⟨has, la, mi, sm, va⟩ := s
  obtain ⟨h1, h2, h3, h4⟩ := h
  simp only at h1 h2 h3 h4
  unfold sampleF RS.ok
  cases has
  · simp only; omega
  · simp only
    split <;> omega

set_option maxHeartbeats 400000 in
theorem sample_no (b : Nat) (la mi sm va l d : Int) (w : World) (hl : 0 ≤ l) (hd : 0 ≤ d) (hb : Blk w b #[.bool false, .int .u64 la, .int .u64 mi, .int .u64 sm, .int .u64 va] 28) :
    Calls Try.prog 8 #[.pointer (some ⟨b, 0, none⟩), .int .u64 l, .int .u64 d] w fun e w' => e = .returned (.tuple #[]) ∧
      Blk w' b (sampleF ⟨false, la, mi, sm, va⟩ l d).vals 28 ∧ Only (· = b) w w' := by
  have hc := hb.all
  simp only [cellsAt, Nat.reduceAdd, and_true, Nat.zero_add] at hc
  obtain ⟨⟨c0, f0⟩, ⟨c1, f1⟩, ⟨c2, f2⟩, ⟨c3, f3⟩, ⟨c4, f4⟩⟩ := hc
  go_enter Try.func8, Try.ntmps8
  go_wp2
  go_returns
  refine ⟨rfl, ?_, ?_⟩
  · exact Blk.congr (((((hb.set 0 _).set 1 _).set 2 _).set 3 _).set 4 _) (by simp [RS.vals, sampleF])
  · repeat' (first | (with_reducible exact Only.refl _ _) | (with_reducible refine Only.drew ?_) | (with_reducible refine Only.set ?_ _ _))

set_option maxHeartbeats 400000 in
theorem sample_yes (b : Nat) (la mi sm va l d : Int) (w : World) (hl : 0 ≤ l) (hd : 0 ≤ d) (hb : Blk w b #[.bool true, .int .u64 la, .int .u64 mi, .int .u64 sm, .int .u64 va] 28) 
  (hmi : 0 ≤ mi) (hmi' : mi ≤ 1099511627776) (hsm : 0 ≤ sm) (hsm' : sm ≤ 1099511627776) (hva : 0 ≤ va) (hva' : va ≤ 1099511627776) :
    Calls Try.prog 8 #[.pointer (some ⟨b, 0, none⟩), .int .u64 l, .int .u64 d] w fun e w' => e = .returned (.tuple #[]) ∧
      Blk w' b (sampleF ⟨true, la, mi, sm, va⟩ l d).vals 28 ∧ Only (· = b) w w' := by
  have hc := hb.all
  simp only [cellsAt, Nat.reduceAdd, and_true, Nat.zero_add] at hc
  obtain ⟨⟨c0, f0⟩, ⟨c1, f1⟩, ⟨c2, f2⟩, ⟨c3, f3⟩, ⟨c4, f4⟩⟩ := hc
  by_cases hle : min mi (min l 1099511627776) + min d 1099511627776 ≤ min l 1099511627776
  all_goals
    go_enter Try.func8, Try.ntmps8
    go_wp2
    refine rg_start 20 ?_
    refine rg_same fun p hx hne hC => ?_
    refine rg_quiet 7 [0,1,2,3,4,5,6,7,8,9,10,11,12] hC ?_
    simp only [pickD, List.map_cons, List.map_nil, List.getD_cons_zero, List.getD_cons_succ]; repeat (go_big_quiet_step (fail))
    refine wpQuiet_nil ?_
    refine rg_act 13 ?_      -- call { F21, args := #[t68, t69] }
    go_wp2_with (first | (go_at_call 21; refine (far_any _ _ _ (by omega) (by omega) (by omega) (by omega)).mono ?_; rintro e w' ⟨rfl, rfl⟩))
    refine ⟨hC, ?_⟩
    refine rg_quiet 1 [14,15,16,17,18] hC ?_
    simp only [pickD, List.map_cons, List.map_nil, List.getD_cons_zero, List.getD_cons_succ]; repeat (go_big_quiet_step (fail))
    refine wpQuiet_nil ?_
    refine rg_cut 19 ?_      -- store 24 t75 t72
    go_wp2
    refine rg_end0 ?_
    go_wp2
    go_returns
    refine ⟨rfl, ?_, ?_⟩
    · refine Blk.drew (Blk.congr ((((hb.set 1 _).set 2 _).set 4 _).set 3 _) ?_)
      first | (simp [RS.vals, sampleF, hle]; done) | (simp [RS.vals, sampleF, Int.not_le.2 hle]; done)
    · repeat' (first | (with_reducible exact Only.refl _ _) | (with_reducible refine Only.drew ?_) | (with_reducible refine Only.set ?_ _ _))

theorem sample_any (b : Nat) (s : RS) (l d : Int) (w : World) (hl : 0 ≤ l) (hd : 0 ≤ d) (hs : s.ok) (hb : Blk w b s.vals 28) :
    Calls Try.prog 8 #[.pointer (some ⟨b, 0, none⟩), .int .u64 l, .int .u64 d] w fun e w' => e = .returned (.tuple #[]) ∧
      Blk w' b (sampleF s l d).vals 28 ∧ Only (· = b) w w' := by
  obtain ⟨has, la, mi, sm, va⟩ := s
  obtain ⟨_, h2, h3, h4⟩ := hs
  cases has
  · exact sample_no b la mi sm va l d w hl hd hb
  · exact sample_yes b la mi sm va l d w hl hd hb h2.1 h2.2 h3.1 h3.2 h4.1 h4.2

/-- known, then k0. -/
def knownF (s : RS) : RS := match s.has with
  | true => s
  | false => ⟨false, 333000, 333000, 333000, 166500⟩

set_option maxHeartbeats 400000 in
theorem known_any (b : Nat) (s : RS) (w : World) (hb : Blk w b s.vals 28) :
    Calls Try.prog 23 #[.pointer (some ⟨b, 0, none⟩)] w fun e w' => e = .returned (.agg (knownF s).vals) ∧ Below w.heap.size w w' := by
  obtain ⟨has, la, mi, sm, va⟩ := s
  have hc := Blk.all (l := [.bool has, .int .u64 la, .int .u64 mi, .int .u64 sm, .int .u64 va]) hb
  have hlt := hb.lt
  simp only [cellsAt, Nat.reduceAdd, and_true, Nat.zero_add] at hc
  obtain ⟨⟨c0, f0⟩, ⟨c1, f1⟩, ⟨c2, f2⟩, ⟨c3, f3⟩, ⟨c4, f4⟩⟩ := hc
  cases has
  all_goals
    go_enter Try.func23, Try.ntmps23
    go_wp2
    go_returns
    exact ⟨rfl, by go_grown⟩

def k0F (s : RS) : RS := ⟨s.has, min s.la 1099511627776, s.mi, min s.sm 1099511627776, min s.va 1099511627776⟩

set_option maxHeartbeats 400000 in
theorem k0_any (s : RS) (w : World) :
    Calls Try.prog 22 #[.agg s.vals] w fun e w' => e = .returned (.agg (k0F s).vals) ∧ Below w.heap.size w w' := by
  obtain ⟨has, la, mi, sm, va⟩ := s
  unfold RS.vals
  go_enter Try.func22, Try.ntmps22
  go_wp2
  go_returns
  exact ⟨rfl, by go_grown⟩

def ptoLoop : Nat → Int → Int
  | 0, n => n
  | t + 1, n => if n < 1099511627776 then ptoLoop t (min (2 * n) 1099511627776) else n
def pto0 (s : RS) (d : Int) : Int :=
  let k := k0F (knownF s)
  min (k.sm + max (4 * k.va) 1000 + min d 1099511627776) 1099511627776
def ptoF (s : RS) (d : Int) (t : Nat) : Int := ptoLoop t (pto0 s d)

theorem knownF_ok (s : RS) (h : s.ok) : (knownF s).ok := by
  unfold knownF
  split
  · exact h
  · simp [RS.ok]
theorem k0F_ok (s : RS) (h : s.ok) : (k0F s).ok := by
  obtain ⟨h1, h2, h3, h4⟩ := h
  unfold k0F RS.ok
  simp only
  omega
theorem pto0_bd (s : RS) (d : Int) (hd : 0 ≤ d) (h : s.ok) : 1000 ≤ pto0 s d ∧ pto0 s d ≤ 1099511627776 := by
  have := k0F_ok _ (knownF_ok s h)
  obtain ⟨h1, h2, h3, h4⟩ := this
  unfold pto0
  simp only
  omega

set_option maxHeartbeats 400000 in
theorem pto_any (b : Nat) (s : RS) (d : Int) (t : Nat) (w : World) (hd : 0 ≤ d) (hd' : d ≤ 18446744073709551615) (ht : t ≤ 18446744073709551615) (hs : s.ok) (hb : Blk w b s.vals 28) :
    Calls Try.prog 10 #[.pointer (some ⟨b, 0, none⟩), .int .u64 d, .int .u64 t] w fun e w' => e = .returned (.int .u64 (ptoF s d t)) ∧ Below w.heap.size w w' := by
  have hp := pto0_bd s d hd hs
  have hk := k0F_ok _ (knownF_ok s hs)
  have HP : Hid (ptoF s d t = ptoLoop t (pto0 s d)) := rfl
  have H0 : Hid (pto0 s d = min ((k0F (knownF s)).sm + max (4 * (k0F (knownF s)).va) 1000 + min d 1099511627776) 1099511627776) := rfl
  go_enter Try.func10, Try.ntmps10
  go_wp2_with (fail)
  refine (known_any b s _ hb).mono ?_
  rintro e w1 ⟨rfl, hb1⟩
  go_wp2_with (fail)
  refine (k0_any (knownF s) _).mono ?_
  rintro e w2 ⟨rfl, hb2⟩
  have hw2 := hb1.trans (hb2.mono hb1.size)
  have hz2 := hw2.size
  generalize pto0 s d = n0 at *
  generalize k0F (knownF s) = k at *
  obtain ⟨has, la, mi, sm, va⟩ := k
  obtain ⟨h1, h2, h3, h4⟩ := hk
  simp only [RS.vals] at *
  go_wp2_with (fail)
  rw [← H0.out]
  go_loop [2, 8] (fun t' n' => ∃ (j : Nat) (n : Int), t' = .int .u64 j ∧ n' = .int .u64 n ∧ j ≤ t ∧ 1000 ≤ n ∧ n ≤ 1099511627776 ∧ Hid (ptoF s d t = ptoLoop j n)) (fun t' _ => (intOf t').toNat)
  case atStart => exact ⟨t, n0, rfl, rfl, Nat.le_refl _, hp.1, hp.2, HP⟩
  case round =>
    obtain ⟨j, n, rfl, rfl, hj, hn1, hn2, HR⟩ := hrel
    cases j with
    | zero =>
      go_wp2
      go_returns
      refine ⟨?_, by go_grown⟩
      show Ending.returned (.int .u64 n) = _
      rw [HR.out]; rfl
    | succ j =>
      by_cases hlt : n < 1099511627776
      · go_wp2
        go_round
        case rel => exact ⟨j, min (2 * n) 1099511627776, by go_num, rfl, by omega, by omega, by omega, HR.out.trans (by rw [ptoLoop, if_pos hlt])⟩
        case measure => simp [intOf]
      · go_wp2
        go_returns
        refine ⟨?_, by go_grown⟩
        show Ending.returned (.int .u64 n) = _
        rw [HR.out, ptoLoop, if_neg (by omega)]

def lossF (s : RS) : Int := max 1000 (9 * max (k0F (knownF s)).la (k0F (knownF s)).sm / 8)
set_option maxHeartbeats 400000 in
theorem loss_any (b : Nat) (s : RS) (w : World) (hs : s.ok) (hb : Blk w b s.vals 28) :
    Calls Try.prog 11 #[.pointer (some ⟨b, 0, none⟩)] w fun e w' => e = .returned (.int .u64 (lossF s)) ∧ Below w.heap.size w w' := by
  have hk := k0F_ok _ (knownF_ok s hs)
  have H0 : Hid (lossF s = max 1000 (9 * max (k0F (knownF s)).la (k0F (knownF s)).sm / 8)) := rfl
  go_enter Try.func11, Try.ntmps11
  go_wp2_with (fail)
  refine (known_any b s _ hb).mono ?_
  rintro e w1 ⟨rfl, hb1⟩
  go_wp2_with (fail)
  refine (k0_any (knownF s) _).mono ?_
  rintro e w2 ⟨rfl, hb2⟩
  have hw2 := hb1.trans (hb2.mono hb1.size)
  have hz2 := hw2.size
  generalize k0F (knownF s) = k at *
  obtain ⟨has, la, mi, sm, va⟩ := k
  obtain ⟨h1, h2, h3, h4⟩ := hk
  simp only [RS.vals] at *
  go_wp2_with (fail)
  go_returns
  refine ⟨?_, by go_grown⟩
  rw [H0.out]; rfl

/-- A nil way. -/
theorem sample_nil (l d : Int) (w : World) : Calls Try.prog 8 #[.pointer none, .int .u64 l, .int .u64 d] w fun e w' => e = .returned (.tuple #[]) ∧ w = w' := by
  go_enter Try.func8, Try.ntmps8
  go_wp2
  go_returns
  exact ⟨rfl, rfl⟩

end Rtt
end Go.Proofs.Ytnnlejllhmhmmaa
