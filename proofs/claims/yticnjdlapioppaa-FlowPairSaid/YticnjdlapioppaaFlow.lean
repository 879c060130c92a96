/- The functions of package flow: what they compute. -/
import Derived.Test.YticnjdlapioppaaBase
namespace Go.Proofs.Yticnjdlapioppaa
open Go.RowKit
set_option linter.unusedVariables false
namespace Flow

structure FS where
  smax : Int
  sent : Int
  rmax : Int
  came : Int
  read : Int
  o0 : Int
  o1 : Int
  m0 : Int
  m1 : Int
  p0 : Int
  p1 : Int
  q0 : Int
  q1 : Int
def FS.list (s : FS) : List Value := [.int .u64 s.smax, .int .u64 s.sent, .int .u64 s.rmax, .int .u64 s.came, .int .u64 s.read, .int .u64 s.o0, .int .u64 s.o1, .int .u64 s.m0, .int .u64 s.m1, .int .u64 s.p0, .int .u64 s.p1, .int .u64 s.q0, .int .u64 s.q1]
def FS.vals (s : FS) : Array Value := s.list.toArray
def inV (x : Int) : Prop := 0 ≤ x ∧ x ≤ 4611686018427387903
def FS.ok (s : FS) : Prop := inV s.smax ∧ inV s.sent ∧ inV s.rmax ∧ inV s.came ∧ inV s.read

def addF (n x : Int) : Int := min (n + min x 4611686018427387903) 4611686018427387903
def sumF (L : List Int) : Int := L.foldl addF 0
theorem addF_in {n x : Int} (hn : inV n) (hx : 0 ≤ x) : inV (addF n x) := by unfold inV addF at *; omega
theorem fold_in (L : List Int) (hL : ∀ x ∈ L, 0 ≤ x) : ∀ n, inV n → inV (L.foldl addF n) := by
  induction L with
  | nil => intro n h; exact h
  | cons x L ih => intro n h; exact ih (fun y hy => hL y (by simp [hy])) _ (addF_in h (hL x (by simp)))
theorem fold_take {α β : Type} (f : β → α → β) (s : β) (l : List α) (d : α) (k : Nat) (h : k < l.length) : (l.take (k + 1)).foldl f s = f ((l.take k).foldl f s) (l.getD k d) := by
  rw [List.take_succ_eq_append_getElem h, List.foldl_append]
  simp [h]

set_option maxHeartbeats 400000 in
theorem sum_any (a : Option Addr) (cap : Nat) (L : List Int) (w : World) (hlen : L.length ≤ maxLen) (hL : IntsAt .u64 w a L) :
    Calls Try.prog 40 #[.slice a L.length cap] w fun e w' => e = .returned (.int .u64 (sumF L)) ∧ w = w' := by
  have hL0 : ∀ n ∈ L, 0 ≤ n := fun n hn => (bounds_u64 (hL.wf n hn)).1
  have HL := Lib.hid hL
  have HL0 := Lib.hid hL0
  unfold maxLen at hlen
  clear hL hL0
  go_enter Try.func40, Try.ntmps40
  go_wp2_with (fail)
  go_loop [3, 5, 8] (fun n _ i => ∃ (k : Nat) (m : Int), i = .int .i64 k ∧ n = .int .u64 m ∧ k ≤ L.length ∧ Hid (m = (L.take k).foldl addF 0)) (fun _ _ i => L.length - (intOf i).toNat)
  case atStart => exact ⟨0, 0, rfl, rfl, by omega, rfl⟩
  case round =>
    obtain ⟨k, m, rfl, rfl, hk, hm⟩ := hrel
    have hin := fold_in (L.take k) (fun n hn => HL0.out n (List.mem_of_mem_take hn)) 0 (by simp [inV])
    rw [← hm.out] at hin
    unfold inV at hin
    by_cases hlt : k < L.length
    · obtain ⟨b1, off, rfl, _, hcell, hwf⟩ := HL.out k hlt
      have hbd := bounds_u64 hwf
      have hst := fold_take addF 0 L 0 k hlt
      rw [← hm.out] at hst
      have hst' := Lib.hid hst
      clear hst hwf
      generalize L.getD k 0 = x at *
      go_wp2_with (fail)
      exact ⟨⟨k + 1, addF m x, by go_num, rfl, by omega, hst'.out.symm⟩, by simp [intOf]; omega⟩
    · obtain rfl : k = L.length := by omega
      go_wp2_with (fail)
      go_returns
      refine ⟨?_, rfl⟩
      show Ending.returned (.int .u64 m) = _
      rw [hm.out, List.take_of_length_le (Nat.le_refl _)]; rfl

def freshF (s : FS) : Int := max s.smax s.sent - s.sent

set_option maxHeartbeats 400000 in
theorem fresh_any (b : Nat) (s : FS) (w : World) (hs : s.ok) (hb : Blk w b s.vals 31) :
    Calls Try.prog 12 #[.pointer (some ⟨b, 0, none⟩)] w fun e w' => e = .returned (.int .u64 (freshF s)) ∧ Below w.heap.size w w' := by
  obtain ⟨smax, sent, rmax, came, read, o0, o1, m0, m1, p0, p1, q0, q1⟩ := s
  obtain ⟨h1, h2, h3, h4, h5⟩ := hs
  unfold inV at h1 h2 h3 h4 h5
  simp only at h1 h2 h3 h4 h5
  have c0 := hb.cell 0 (.int .u64 smax) rfl
  have c1 := hb.cell 1 (.int .u64 sent) rfl
  go_enter Try.func12, Try.ntmps12
  go_wp2_with (fail)
  refine rg_start 18 ?_
  refine rg_same fun p hx hne hC => ?_
  refine rg_quiet 0 [0,1,2,3,4,5,6,7,8,9,10,11,12,13,14,15,16,17] hC ?_
  simp only [pickD, List.map_cons, List.map_nil, List.getD_cons_zero, List.getD_cons_succ]; repeat (go_big_quiet_step (fail))
  refine wpQuiet_nil ?_
  refine rg_end ?_
  go_wp2_with (fail)
  go_returns
  exact ⟨rfl, (Below.refl _ _).drew⟩

def spendF (s : FS) (n : Int) : FS := if n ≤ freshF s then { s with sent := s.sent + n } else s

set_option maxHeartbeats 1000000 in
theorem spend_any (b : Nat) (s : FS) (a : Option Addr) (cap : Nat) (L : List Int) (w : World) (hs : s.ok) (hlen : L.length ≤ maxLen) (hL : IntsAt .u64 w a L) (hb : Blk w b s.vals 31) :
    Calls Try.prog 13 #[.pointer (some ⟨b, 0, none⟩), .slice a L.length cap] w fun e w' => e = .returned (.int .i64 (if sumF L ≤ freshF s then 0 else 7)) ∧ Blk w' b (spendF s (sumF L)).vals 31 ∧ Only (· = b) w w' := by
  have hin := fold_in L (fun n hn => (bounds_u64 (hL.wf n hn)).1) 0 (by simp [inV])
  have hfr := fresh_any b s w hs hb
  have HL := Lib.hid hL
  obtain ⟨m, hm⟩ : ∃ m, Hid (sumF L = m) := ⟨_, rfl⟩
  have hin' : inV m := by rw [← hm.out]; exact hin
  unfold inV at hin'
  rw [hm.out]
  have hsum : ∀ w1, IntsAt .u64 w1 a L → Calls Try.prog 40 #[.slice a L.length cap] w1 fun e w' => e = .returned (.int .u64 m) ∧ w1 = w' := fun w1 h => by
    have := sum_any a cap L w1 hlen h
    rw [hm.out] at this
    exact this
  have HS := Lib.hid hsum
  clear hL hin hsum
  obtain ⟨smax, sent, rmax, came, read, o0, o1, m0, m1, p0, p1, q0, q1⟩ := s
  obtain ⟨h1, h2, h3, h4, h5⟩ := hs
  unfold inV at h1 h2 h3 h4 h5
  simp only [freshF, spendF] at h1 h2 h3 h4 h5 hfr ⊢
  have HF := Lib.hid hfr
  clear hfr
  by_cases hle : m ≤ max smax sent - sent
  · simp only [hle, ↓reduceIte]
    go_enter Try.func13, Try.ntmps13
    go_wp2_with (fail)
    refine (HS.out _ HL.out).mono ?_
    rintro e w1 ⟨rfl, rfl⟩
    go_wp2_with (fail)
    refine HF.out.mono ?_
    rintro e w1 ⟨rfl, hb1⟩
    have bl1 := hb.below hb1
    have f1 := bl1.free 1
    have c1 := bl1.cell 1 (.int .u64 sent) rfl
    have hL1 := HL.out.below hb1
    go_wp2_with (fail)
    refine rg_start 12 ?_
    refine rg_same fun p hx hne hC => ?_
    refine rg_quiet 6 [0,1,2,3,4,5] hC ?_
    simp only [pickD, List.map_cons, List.map_nil, List.getD_cons_zero, List.getD_cons_succ]; repeat (go_big_quiet_step (fail))
    refine wpQuiet_nil ?_
    refine rg_act 6 ?_
    go_wp2_with (fail)
    refine (HS.out _ (hL1.below (Below.refl _ _).drew)).mono ?_
    rintro e w2 ⟨rfl, rfl⟩
    go_wp2_with (fail)
    refine ⟨hC, ?_⟩
    refine rg_quiet 1 [7,8,9,10] hC ?_
    simp only [pickD, List.map_cons, List.map_nil, List.getD_cons_zero, List.getD_cons_succ]; repeat (go_big_quiet_step (fail))
    refine wpQuiet_nil ?_
    refine rg_cut 11 ?_
    go_wp2_with (fail)
    refine rg_end0 ?_
    go_wp2_with (fail)
    go_returns
    exact ⟨rfl, Blk.drew (Blk.congr (bl1.set 1 _) (by simp [FS.vals, FS.list])), (((only_of_below hb1 _).set _ _).drew)⟩
  · simp only [hle, ↓reduceIte]
    go_enter Try.func13, Try.ntmps13
    go_wp2_with (fail)
    refine (HS.out _ HL.out).mono ?_
    rintro e w1 ⟨rfl, rfl⟩
    go_wp2_with (fail)
    refine HF.out.mono ?_
    rintro e w1 ⟨rfl, hb1⟩
    go_wp2_with (fail)
    go_returns
    exact ⟨rfl, hb.below hb1, only_of_below hb1 _⟩


def comeF (s : FS) (n : Int) : FS := if n ≤ max s.rmax s.came - s.came then { s with came := s.came + n } else s

set_option maxHeartbeats 1000000 in
theorem come_any (b : Nat) (s : FS) (a : Option Addr) (cap : Nat) (L : List Int) (w : World) (hs : s.ok) (hlen : L.length ≤ maxLen) (hL : IntsAt .u64 w a L) (hb : Blk w b s.vals 31) :
    Calls Try.prog 14 #[.pointer (some ⟨b, 0, none⟩), .slice a L.length cap] w fun e w' => e = .returned (.int .i64 (if sumF L ≤ max s.rmax s.came - s.came then 0 else 7)) ∧ Blk w' b (comeF s (sumF L)).vals 31 ∧ Only (· = b) w w' := by
  have hin := fold_in L (fun n hn => (bounds_u64 (hL.wf n hn)).1) 0 (by simp [inV])
  have HL := Lib.hid hL
  obtain ⟨m, hm⟩ : ∃ m, Hid (sumF L = m) := ⟨_, rfl⟩
  have hin' : inV m := by rw [← hm.out]; exact hin
  unfold inV at hin'
  rw [hm.out]
  have hsum : ∀ w1, IntsAt .u64 w1 a L → Calls Try.prog 40 #[.slice a L.length cap] w1 fun e w' => e = .returned (.int .u64 m) ∧ w1 = w' := fun w1 h => by
    have := sum_any a cap L w1 hlen h
    rw [hm.out] at this
    exact this
  have HS := Lib.hid hsum
  clear hL hin hsum
  obtain ⟨smax, sent, rmax, came, read, o0, o1, m0, m1, p0, p1, q0, q1⟩ := s
  obtain ⟨h1, h2, h3, h4, h5⟩ := hs
  unfold inV at h1 h2 h3 h4 h5
  simp only [comeF] at h1 h2 h3 h4 h5 ⊢
  have c2 := hb.cell 2 (.int .u64 rmax) rfl
  have c3 := hb.cell 3 (.int .u64 came) rfl
  have f3 := hb.free 3
  by_cases hle : m ≤ max rmax came - came
  all_goals
    simp only [hle, ↓reduceIte]
    go_enter Try.func14, Try.ntmps14
    go_wp2_with (fail)
    refine rg_start 21 ?_
    refine rg_same fun p hx hne hC => ?_
    refine rg_quiet 3 [0,2,3,4,5,6,7,8,9,10,11,12,13,14,15,16,17,18] hC ?_
    simp only [pickD, List.map_cons, List.map_nil, List.getD_cons_zero, List.getD_cons_succ]; repeat (go_big_quiet_step (fail))
    refine wpQuiet_nil ?_
    refine rg_act 1 ?_
    go_wp2_with (fail)
    refine (HS.out _ (HL.out.below (Below.refl _ _).drew)).mono ?_
    rintro e w1 ⟨rfl, rfl⟩
    go_wp2_with (fail)
    refine ⟨hC, ?_⟩
    refine rg_quiet 0 [19,20] hC ?_
    simp only [pickD, List.map_cons, List.map_nil, List.getD_cons_zero, List.getD_cons_succ]; repeat (go_big_quiet_step (fail))
    refine wpQuiet_nil ?_
    refine rg_end ?_
    go_wp2_with (fail)
  · refine rg_start 12 ?_
    refine rg_same fun p hx hne hC => ?_
    refine rg_quiet 6 [0,1,2,3,4,5] hC ?_
    simp only [pickD, List.map_cons, List.map_nil, List.getD_cons_zero, List.getD_cons_succ]; repeat (go_big_quiet_step (fail))
    refine wpQuiet_nil ?_
    refine rg_act 6 ?_
    go_wp2_with (fail)
    refine (HS.out _ (HL.out.below (Below.refl _ _).drew.drew)).mono ?_
    rintro e w2 ⟨rfl, rfl⟩
    go_wp2_with (fail)
    refine ⟨hC, ?_⟩
    refine rg_quiet 1 [7,8,9,10] hC ?_
    simp only [pickD, List.map_cons, List.map_nil, List.getD_cons_zero, List.getD_cons_succ]; repeat (go_big_quiet_step (fail))
    refine wpQuiet_nil ?_
    refine rg_cut 11 ?_
    go_wp2_with (fail)
    refine rg_end0 ?_
    go_wp2_with (fail)
    go_returns
    exact ⟨rfl, Blk.drew (Blk.drew (Blk.congr (hb.set 3 _) (by simp [FS.vals, FS.list]))), (((Only.refl _ _).set _ _).drew).drew⟩
  · go_returns
    exact ⟨rfl, hb.drew, (Only.refl _ _).drew⟩

def useF (s : FS) (n : Int) : FS := { s with read := min (sumF [s.read, n]) s.came }

set_option maxHeartbeats 1000000 in
theorem use_any (b : Nat) (s : FS) (a : Option Addr) (cap : Nat) (L : List Int) (w : World) (hs : s.ok) (hlen : L.length ≤ maxLen) (hL : IntsAt .u64 w a L) (hb : Blk w b s.vals 31) :
    Calls Try.prog 15 #[.pointer (some ⟨b, 0, none⟩), .slice a L.length cap] w fun e w' => e = .returned (.tuple #[]) ∧ Blk w' b (useF s (sumF L)).vals 31 ∧ Only (· = b) w w' := by
  have hin := fold_in L (fun n hn => (bounds_u64 (hL.wf n hn)).1) 0 (by simp [inV])
  have HL := Lib.hid hL
  obtain ⟨m, hm⟩ : ∃ m, Hid (sumF L = m) := ⟨_, rfl⟩
  have hin' : inV m := by rw [← hm.out]; exact hin
  unfold inV at hin'
  rw [hm.out]
  have hsum : ∀ w1, IntsAt .u64 w1 a L → Calls Try.prog 40 #[.slice a L.length cap] w1 fun e w' => e = .returned (.int .u64 m) ∧ w1 = w' := fun w1 h => by
    have := sum_any a cap L w1 hlen h
    rw [hm.out] at this
    exact this
  have HS := Lib.hid hsum
  clear hL hin hsum
  obtain ⟨smax, sent, rmax, came, read, o0, o1, m0, m1, p0, p1, q0, q1⟩ := s
  obtain ⟨h1, h2, h3, h4, h5⟩ := hs
  unfold inV at h1 h2 h3 h4 h5
  simp only [useF] at h1 h2 h3 h4 h5 ⊢
  have c3 := hb.cell 3 (.int .u64 came) rfl
  have c4 := hb.cell 4 (.int .u64 read) rfl
  have f4 := hb.free 4
  have hlb := hb.lt
  have wm : (Lit.int .u64 m).wf = true := WalkArith.wf_u64 (by omega)
  have wr : (Lit.int .u64 read).wf = true := WalkArith.wf_u64 (by omega)
  obtain ⟨r, hr⟩ : ∃ r, Hid (sumF [read, m] = r) := ⟨_, rfl⟩
  have hrin : inV r := by rw [← hr.out]; exact fold_in _ (by simp; omega) 0 (by simp [inV])
  unfold inV at hrin
  rw [hr.out]
  go_enter Try.func15, Try.ntmps15
  go_wp2_with (fail)
  refine rg_start 20 ?_
  refine rg_below fun p hx hne hC hbel => ?_
  simp only [World.size_drew] at hx
  refine rg_quiet 8 [0,1,2,3,4,5,6,10,11,12,13,14] hC ?_
  simp only [pickD, List.map_cons, List.map_nil, List.getD_cons_zero, List.getD_cons_succ]; repeat (go_big_quiet_step (fail))
  refine wpQuiet_nil ?_
  refine rg_act 7 ?_
  go_wp2_with (fail)
  refine (HS.out _ (HL.out.below (Below.refl _ _).drew)).mono ?_
  rintro e w1 ⟨rfl, rfl⟩
  go_wp2_with (fail)
  refine ⟨hC, ?_⟩
  refine rg_act 8 ?_
  go_wp2_with (fail)
  have hC2 : Cls p (w.alloc (.cells #[.int .u64 read, .int .u64 m] 25)).drew := hbel _ (((Below.refl _ _)).alloc (Nat.le_refl _) _)
  refine ⟨hC2, ?_⟩
  refine rg_act 9 ?_
  go_wp2_with (fail)
  have hi : IntsAt .u64 (w.drew.alloc (.cells #[.int .u64 read, .int .u64 m] 25)) (some ⟨w.heap.size, 0, none⟩) [read, m] := IntsAt.of_map (Blk.new w.drew _ _) (by simp [wm, wr])
  have hsum2 := sum_any (some ⟨w.heap.size, 0, none⟩) 2 [read, m] _ (by simp [maxLen]) hi
  rw [hr.out] at hsum2
  refine hsum2.mono ?_
  rintro e w2 ⟨rfl, rfl⟩
  go_wp2_with (fail)
  refine ⟨hC2, ?_⟩
  refine rg_quiet 1 [15,16,17,18] hC2 ?_
  simp only [pickD, List.map_cons, List.map_nil, List.getD_cons_zero, List.getD_cons_succ]; repeat (go_big_quiet_step (fail))
  refine wpQuiet_nil ?_
  refine rg_cut 19 ?_
  go_wp2_with (fail)
  refine rg_end0 ?_
  go_wp2_with (fail)
  go_returns
  exact ⟨rfl, Blk.drew (Blk.alloc (Blk.congr (hb.set 4 _) (by simp [FS.vals, FS.list])) _), (((Only.refl _ _).set _ _).alloc _).drew⟩

def raiseF (lim done win most : Int) : Option Int :=
  if min (done + win) most ≤ lim ∨ min (done + win) most - lim < win / 2 + 1 then none else some (min (done + win) most)

def RaisePost (r : Option Int) (b o : Nat) (w : World) (e : Ending) (w' : World) : Prop :=
  (r = none ∧ e = .returned (.tuple #[.int .u64 0, .bool false]) ∧ w = w') ∨ (∃ n, r = some n ∧ e = .returned (.tuple #[.int .u64 n, .bool true]) ∧ w.setCell ⟨b, o, none⟩ (.int .u64 n) = w')
set_option maxHeartbeats 400000 in
/-- 'raise' of a limit that stands in cell o of block b. -/
theorem raise_any (b o : Nat) (lim done win most : Int) (w : World) (hc : w.cell? ⟨b, o, none⟩ = some (.int .u64 lim)) (hf : w.frozen? ⟨b, o, none⟩ = false) (h1 : inV lim) (h2 : inV done) (h3 : inV win) (h4 : inV most) :
    Calls Try.prog 39 #[.pointer (some ⟨b, o, none⟩), .int .u64 done, .int .u64 win, .int .u64 most] w (RaisePost (raiseF lim done win most) b o w) := by
  unfold inV at *
  obtain ⟨r, hr⟩ : ∃ r, Hid (raiseF lim done win most = r) := ⟨_, Lib.hid rfl⟩
  rw [hr.out]
  by_cases h5 : min (done + win) most ≤ lim
  · have : r = none := by rw [← hr.out]; unfold raiseF; rw [if_pos (.inl h5)]
    subst this
    go_enter Try.func39, Try.ntmps39
    go_wp2_with (fail)
    go_returns
    exact .inl ⟨rfl, rfl, rfl⟩
  · by_cases h6 : min (done + win) most - lim < win / 2 + 1
    · have : r = none := by rw [← hr.out]; unfold raiseF; rw [if_pos (.inr h6)]
      subst this
      go_enter Try.func39, Try.ntmps39
      go_wp2_with (fail)
      go_returns
      exact .inl ⟨rfl, rfl, rfl⟩
    · have : r = some (min (done + win) most) := by rw [← hr.out]; unfold raiseF; rw [if_neg (by omega)]
      subst this
      go_enter Try.func39, Try.ntmps39
      go_wp2_with (fail)
      go_returns
      exact .inr ⟨_, rfl, rfl, rfl⟩

def moreF (s : FS) (win : Int) : FS := { s with rmax := (raiseF s.rmax s.read win 4611686018427387903).getD s.rmax }
set_option maxHeartbeats 400000 in
theorem more_any (b : Nat) (s : FS) (win : Int) (w : World) (hs : s.ok) (hw : inV win) (hb : Blk w b s.vals 31) :
    Calls Try.prog 10 #[.pointer (some ⟨b, 0, none⟩), .int .u64 win] w fun e w' =>
      e = .returned (.tuple #[.int .u64 ((raiseF s.rmax s.read win 4611686018427387903).getD 0), .bool (raiseF s.rmax s.read win 4611686018427387903).isSome]) ∧ Blk w' b (moreF s win).vals 31 ∧ Only (· = b) w w' := by
  obtain ⟨smax, sent, rmax, came, read, o0, o1, m0, m1, p0, p1, q0, q1⟩ := s
  obtain ⟨h1, h2, h3, h4, h5⟩ := hs
  simp only [moreF] at h1 h2 h3 h4 h5 ⊢
  have c2 := hb.cell 2 (.int .u64 rmax) rfl
  have f2 := hb.free 2
  have c4 := hb.cell 4 (.int .u64 read) rfl
  have hr := raise_any b 2 rmax read win 4611686018427387903 w.drew c2 f2 h3 h5 hw (by simp [inV])
  generalize raiseF rmax read win 4611686018427387903 = r at *
  have HR := Lib.hid hr
  clear hr
  go_enter Try.func10, Try.ntmps10
  go_wp2_with (fail)
  refine rg_start 15 ?_
  refine rg_same fun p hx hne hC => ?_
  refine rg_quiet 5 [0,1,2,3,4,5,6,7,8,9] hC ?_
  simp only [pickD, List.map_cons, List.map_nil, List.getD_cons_zero, List.getD_cons_succ]; repeat (go_big_quiet_step (fail))
  refine wpQuiet_nil ?_
  refine rg_cut 10 ?_
  go_wp2_with (fail)
  refine HR.out.mono ?_
  rintro e w1 (⟨rfl, rfl, rfl⟩ | ⟨n, rfl, rfl, rfl⟩)
  all_goals
    go_wp2_with (fail)
    refine rg_same fun p hx hne hC => ?_
    refine rg_quiet 0 [11,12,13,14] hC ?_
    simp only [pickD, List.map_cons, List.map_nil, List.getD_cons_zero, List.getD_cons_succ]; repeat (go_big_quiet_step (fail))
    refine wpQuiet_nil ?_
    refine rg_end ?_
    go_wp2_with (fail)
    go_returns
  · exact ⟨rfl, hb.drew, (Only.refl _ _).drew⟩
  · exact ⟨rfl, Blk.drew (Blk.congr (hb.set 2 _) (by simp [FS.vals, FS.list])), ((Only.refl _ _).set _ _).drew⟩

set_option maxHeartbeats 400000 in
theorem allow_any (b : Nat) (s : FS) (n : Int) (w : World) (hs : s.ok) (hn : 0 ≤ n) (hb : Blk w b s.vals 31) :
    Calls Try.prog 11 #[.pointer (some ⟨b, 0, none⟩), .int .u64 n] w fun e w' =>
      e = .returned (.tuple #[]) ∧ Blk w' b (FS.vals { s with smax := max s.smax (min n 4611686018427387903) }) 31 ∧ Only (· = b) w w' := by
  obtain ⟨smax, sent, rmax, came, read, o0, o1, m0, m1, p0, p1, q0, q1⟩ := s
  obtain ⟨h1, h2, h3, h4, h5⟩ := hs
  unfold inV at h1
  simp only at h1 ⊢
  have c0 := hb.cell 0 (.int .u64 smax) rfl
  have f0 := hb.free 0
  go_enter Try.func11, Try.ntmps11
  go_wp2_with (fail)
  go_returns
  exact ⟨rfl, Blk.congr (hb.set 0 _) (by simp [FS.vals, FS.list]), (Only.refl _ _).set _ _⟩

theorem one_ints {w : World} {n : Int} (hn : (Lit.int .u64 n).wf = true) (b : Nat) {T : TypeId} (h : Blk w b #[.int .u64 n] T) : IntsAt .u64 w (some ⟨b, 0, none⟩) [n] :=
  IntsAt.of_map h (by simpa using hn)

def small : FS := ⟨10, 0, 8, 0, 0, 0, 0, 1, 0, 0, 0, 0, 0⟩
theorem small_any (w : World) : Calls Try.prog 16 #[] w fun e w' => e = .returned (.pointer (some ⟨w.heap.size, 0, none⟩)) ∧ w.alloc (.cells small.vals 31) = w' := by
  go_enter Try.func16, Try.ntmps16
  go_wp2_with (fail)
  go_returns
  exact ⟨rfl, by simp [FS.vals, FS.list, small]⟩

set_option maxRecDepth 100000 in
set_option maxHeartbeats 1000000 in
theorem works_any (w : World) : Calls Try.prog 8 #[] w fun e w' => e = .returned (.bool true) ∧ Below w.heap.size w w' := by
  have wf : ∀ n : Int, 0 ≤ n → n ≤ 100 → (Lit.int .u64 n).wf = true := fun n h h' => WalkArith.wf_u64 (by omega)
  have WF := Lib.hid wf
  clear wf
  go_enter Try.func8, Try.ntmps8
  go_wp2_with (fail)
  refine (small_any _).mono ?_
  rintro e w1 ⟨rfl, rfl⟩
  have b1 := Blk.new w small.vals 31
  have k1 : Below w.heap.size w (w.alloc (.cells small.vals 31)) := (Below.refl _ _).alloc (Nat.le_refl _) _
  generalize w.alloc (.cells small.vals 31) = w1 at *
  have z1 := b1.lt
  go_wp2_with (fail)
  refine (spend_any _ small (some ⟨w1.heap.size, 0, none⟩) 2 [4, 5] _ (by simp [FS.ok, inV, small]) (by simp [maxLen]) (IntsAt.of_map (Blk.new w1 _ _) (by simp [WF.out])) (b1.alloc _)).mono ?_
  rintro e w2 ⟨rfl, b2, o2⟩
  rw [show (if sumF [4, 5] ≤ freshF small then (0 : Int) else 7) = 0 from rfl]
  rw [show spendF small (sumF [4, 5]) = { small with sent := 9 } from rfl] at b2
  have k2 := below_onto (k1.alloc (by omega) _) o2 (by simp; omega) (by intro k hk; omega)
  have z2 := b2.lt
  go_wp2_with (fail)
  refine (spend_any _ { small with sent := 9 } (some ⟨w2.heap.size, 0, none⟩) 1 [2] _ (by simp [FS.ok, inV, small]) (by simp [maxLen]) (one_ints (WF.out _ (by omega) (by omega)) _ (Blk.new w2 _ _)) (b2.alloc _)).mono ?_
  rintro e w3 ⟨rfl, b3, o3⟩
  rw [show (if sumF [2] ≤ freshF { small with sent := 9 } then (0 : Int) else 7) = 7 from rfl]
  rw [show spendF { small with sent := 9 } (sumF [2]) = { small with sent := 9 } from rfl] at b3
  have k3 := below_onto (k2.alloc (by omega) _) o3 (by simp; omega) (by intro k hk; omega)
  have z3 := b3.lt
  go_wp2_with (fail)
  refine (fresh_any _ { small with sent := 9 } _ (by simp [FS.ok, inV, small]) b3).mono ?_
  rintro e w4 ⟨rfl, h4⟩
  rw [show freshF { small with sent := 9 } = 1 from rfl]
  have k4 := below_on k3 h4 (by omega)
  have b4 := b3.below h4
  have z4 := b4.lt
  go_wp2_with (fail)
  refine (come_any _ { small with sent := 9 } (some ⟨w4.heap.size, 0, none⟩) 1 [8] _ (by simp [FS.ok, inV, small]) (by simp [maxLen]) (one_ints (WF.out _ (by omega) (by omega)) _ (Blk.new w4 _ _)) (b4.alloc _)).mono ?_
  rintro e w5 ⟨rfl, b5, o5⟩
  rw [show (if sumF [8] ≤ max ({ small with sent := 9 } : FS).rmax ({ small with sent := 9 } : FS).came - ({ small with sent := 9 } : FS).came then (0 : Int) else 7) = 0 from rfl]
  rw [show comeF { small with sent := 9 } (sumF [8]) = { small with sent := 9, came := 8 } from rfl] at b5
  have k5 := below_onto (k4.alloc (by omega) _) o5 (by simp; omega) (by intro k hk; omega)
  have z5 := b5.lt
  go_wp2_with (fail)
  refine (come_any _ { small with sent := 9, came := 8 } (some ⟨w5.heap.size, 0, none⟩) 1 [1] _ (by simp [FS.ok, inV, small]) (by simp [maxLen]) (one_ints (WF.out _ (by omega) (by omega)) _ (Blk.new w5 _ _)) (b5.alloc _)).mono ?_
  rintro e w6 ⟨rfl, b6, o6⟩
  rw [show (if sumF [1] ≤ max ({ small with sent := 9, came := 8 } : FS).rmax ({ small with sent := 9, came := 8 } : FS).came - ({ small with sent := 9, came := 8 } : FS).came then (0 : Int) else 7) = 7 from rfl]
  rw [show comeF { small with sent := 9, came := 8 } (sumF [1]) = { small with sent := 9, came := 8 } from rfl] at b6
  have k6 := below_onto (k5.alloc (by omega) _) o6 (by simp; omega) (by intro k hk; omega)
  have z6 := b6.lt
  go_wp2_with (fail)
  refine (use_any _ { small with sent := 9, came := 8 } (some ⟨w6.heap.size, 0, none⟩) 1 [5] _ (by simp [FS.ok, inV, small]) (by simp [maxLen]) (one_ints (WF.out _ (by omega) (by omega)) _ (Blk.new w6 _ _)) (b6.alloc _)).mono ?_
  rintro e w7 ⟨rfl, b7, o7⟩
  rw [show useF { small with sent := 9, came := 8 } (sumF [5]) = { small with sent := 9, came := 8, read := 5 } from rfl] at b7
  have k7 := below_onto (k6.alloc (by omega) _) o7 (by simp; omega) (by intro k hk; omega)
  have z7 := b7.lt
  go_wp2_with (fail)
  refine (more_any _ { small with sent := 9, came := 8, read := 5 } 8 _ (by simp [FS.ok, inV, small]) (by simp [inV]) b7).mono ?_
  rintro e w8 ⟨rfl, b8, o8⟩
  rw [show raiseF ({ small with sent := 9, came := 8, read := 5 } : FS).rmax ({ small with sent := 9, came := 8, read := 5 } : FS).read 8 4611686018427387903 = some 13 from rfl]
  rw [show moreF { small with sent := 9, came := 8, read := 5 } 8 = { small with sent := 9, came := 8, read := 5, rmax := 13 } from rfl] at b8
  have k8 := below_onto k7 o8 (by omega) (by intro k hk; omega)
  have c2 : w8.cell? ⟨w.heap.size, 2, none⟩ = some (.int .u64 13) := b8.cell 2 _ rfl
  go_wp2_with (fail)
  go_returns
  exact ⟨rfl, k8⟩

end Flow
end Go.Proofs.Yticnjdlapioppaa
