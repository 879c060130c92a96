/- The functions of package reno: what they compute. -/
import Derived.Test.YtnnlejllhmhmmaaBase
namespace Go.Proofs.Ytnnlejllhmhmmaa
open Go.RowKit
set_option linter.unusedVariables false
namespace Reno

structure NS where
  win : Int
  thr : Int
  fl : Int
  since : Int
  rcv : Bool
  ack : Int
def NS.vals (s : NS) : Array Value := #[.int .u64 s.win, .int .u64 s.thr, .int .u64 s.fl, .int .u64 s.since, .bool s.rcv, .int .u64 s.ack]
def fresh : NS := ⟨12000, 4611686018427387904, 0, 0, false, 0⟩

theorem new_any (w : World) : Calls Try.prog 13 #[] w fun e w' => e = .returned (.pointer (some ⟨w.heap.size, 0, none⟩)) ∧ w.alloc (.cells fresh.vals 44) = w' := by
  go_enter Try.func13, Try.ntmps13
  go_wp2
  go_returns
  exact ⟨rfl, by simp [NS.vals, fresh]⟩

def sentF (fl n : Int) : Int := min (fl + min n 1099511627776) 4611686018427387904
def goneF (fl n : Int) : Int := fl - min (min fl n) 1099511627776
theorem sentF_bd {fl n : Int} (h : 0 ≤ fl) (hn : 0 ≤ n) : 0 ≤ sentF fl n ∧ sentF fl n ≤ 4611686018427387904 := by unfold sentF; omega
theorem goneF_bd {fl n : Int} (h : 0 ≤ fl) (hn : 0 ≤ n) : 0 ≤ goneF fl n ∧ goneF fl n ≤ fl := by unfold goneF; omega

theorem fold_take {α β : Type} (f : β → α → β) (s : β) (l : List α) (d : α) (k : Nat) (h : k < l.length) : (l.take (k + 1)).foldl f s = f ((l.take k).foldl f s) (l.getD k d) := by
  rw [List.take_succ_eq_append_getElem h, List.foldl_append]
  simp [h]
theorem sent_bd (L : List Int) (hL : ∀ n ∈ L, 0 ≤ n) : ∀ fl : Int, 0 ≤ fl → fl ≤ 4611686018427387904 → 0 ≤ L.foldl sentF fl ∧ L.foldl sentF fl ≤ 4611686018427387904 := by
  induction L with
  | nil => intro fl h h'; exact ⟨h, h'⟩
  | cons n L ih => intro fl h h'; have := sentF_bd h (hL n (by simp)); exact ih (fun m hm => hL m (by simp [hm])) _ this.1 this.2
theorem gone_bd (L : List Int) (hL : ∀ n ∈ L, 0 ≤ n) : ∀ fl : Int, 0 ≤ fl → 0 ≤ L.foldl goneF fl ∧ L.foldl goneF fl ≤ fl := by
  induction L with
  | nil => intro fl h; exact ⟨h, Int.le_refl _⟩
  | cons n L ih => intro fl h; have := goneF_bd h (hL n (by simp)); have h2 := ih (fun m hm => hL m (by simp [hm])) _ this.1; exact ⟨h2.1, Int.le_trans h2.2 this.2⟩

/-- What a round needs of a slice of numbers in a world in which only block b has turned. -/
theorem ints_round {w wr : World} {b : Nat} {a : Option Addr} {L : List Int} (h : IntsAt .u64 w a L) (hb : ∀ x, a = some x → 0 < L.length → x.block ≠ b) (ho : Only (· = b) w wr) (k : Nat) (hk : k < L.length) :
    ∃ b1 off, a = some ⟨b1, off, none⟩ ∧ wr.cell? ⟨b1, off + k, none⟩ = some (.int .u64 (L.getD k 0)) ∧ 0 ≤ L.getD k 0 ∧ L.getD k 0 ≤ 18446744073709551615 := by
  obtain ⟨b1, off, rfl, hlt, hc, hwf⟩ := h k hk
  have := bounds_u64 hwf
  exact ⟨b1, off, rfl, (ho.cell (p := ⟨b1, off + k, none⟩) hlt (hb ⟨b1, off, none⟩ rfl (by omega))).trans hc, this.1, this.2⟩

set_option maxHeartbeats 1000000 in
theorem sent_any (b : Nat) (s : NS) (a : Option Addr) (cap : Nat) (L : List Int) (w : World) (hlen : L.length ≤ maxLen) (hL : IntsAt .u64 w a L) (hab : ∀ x, a = some x → 0 < L.length → x.block ≠ b) (hs : 0 ≤ s.fl ∧ s.fl ≤ 4611686018427387904)
    (hb : Blk w b s.vals 44) :
    Calls Try.prog 14 #[.pointer (some ⟨b, 0, none⟩), .slice a L.length cap] w fun e w' => e = .returned (.tuple #[]) ∧ Blk w' b { s with fl := L.foldl sentF s.fl }.vals 44 ∧ Only (· = b) w w' := by
  have hL0 : ∀ n ∈ L, 0 ≤ n := fun n hn => (bounds_u64 (hL.wf n hn)).1
  unfold maxLen at hlen
  obtain ⟨win, thr, fl, since, rcv, ack⟩ := s
  simp only at hs
  go_enter Try.func14, Try.ntmps14
  go_wp2_with (fail)
  go_loopw [5, 8] (fun _ i wr => ∃ k : Nat, i = .int .i64 k ∧ k ≤ L.length ∧ Blk wr b (NS.vals ⟨win, thr, (L.take k).foldl sentF fl, since, rcv, ack⟩) 44 ∧ Only (· = b) w wr) (fun _ i _ => L.length - (intOf i).toNat)
  case atStart => exact ⟨0, rfl, by omega, hb, Only.refl _ _⟩
  case round =>
    obtain ⟨k, rfl, hk, hbk, ho⟩ := hrel
    by_cases hlt : k < L.length
    · obtain ⟨b1, off, rfl, hcell, g1, g2⟩ := ints_round hL hab ho k hlt
      have hbd := sent_bd (L.take k) (fun n hn => hL0 n (List.mem_of_mem_take hn)) fl hs.1 hs.2
      have hst : Hid ((L.take (k + 1)).foldl sentF fl = sentF ((L.take k).foldl sentF fl) (L.getD k 0)) := fold_take _ _ _ _ _ hlt
      generalize (L.take k).foldl sentF fl = f at *
      generalize L.getD k 0 = n at *
      have hc := Blk.all (l := [.int .u64 win, .int .u64 thr, .int .u64 f, .int .u64 since, .bool rcv, .int .u64 ack]) hbk
      simp only [cellsAt, Nat.reduceAdd, and_true, Nat.zero_add] at hc
      obtain ⟨⟨c0, f0⟩, ⟨c1, f1⟩, ⟨c2, f2⟩, ⟨c3, f3⟩, ⟨c4, f4⟩, ⟨c5, f5⟩⟩ := hc
      have hL' := Lib.hid hL
      have hab' := Lib.hid hab
      have hL0' := Lib.hid hL0
      clear hL hab hL0
      go_wp2_with (fail)
      refine ⟨⟨k + 1, by go_num, by omega, ?_, ?_⟩, by simp [intOf]; omega⟩
      · rw [hst.out]; exact Blk.congr (hbk.set 2 _) (by simp [NS.vals, sentF])
      · exact ho.set _ _
    · obtain rfl : k = L.length := by omega
      rw [List.take_of_length_le (Nat.le_refl _)] at hbk
      go_wp2
      go_returns
      exact ⟨rfl, hbk, ho⟩

set_option maxHeartbeats 1000000 in
theorem gone_any (b : Nat) (s : NS) (a : Option Addr) (cap : Nat) (L : List Int) (w : World) (hlen : L.length ≤ maxLen) (hL : IntsAt .u64 w a L) (hab : ∀ x, a = some x → 0 < L.length → x.block ≠ b) (hs : 0 ≤ s.fl ∧ s.fl ≤ 4611686018427387904)
    (hb : Blk w b s.vals 44) :
    Calls Try.prog 15 #[.pointer (some ⟨b, 0, none⟩), .slice a L.length cap] w fun e w' => e = .returned (.tuple #[]) ∧ Blk w' b { s with fl := L.foldl goneF s.fl }.vals 44 ∧ Only (· = b) w w' := by
  have hL0 : ∀ n ∈ L, 0 ≤ n := fun n hn => (bounds_u64 (hL.wf n hn)).1
  unfold maxLen at hlen
  obtain ⟨win, thr, fl, since, rcv, ack⟩ := s
  simp only at hs
  go_enter Try.func15, Try.ntmps15
  go_wp2_with (fail)
  go_loopw [5, 8] (fun _ i wr => ∃ k : Nat, i = .int .i64 k ∧ k ≤ L.length ∧ Blk wr b (NS.vals ⟨win, thr, (L.take k).foldl goneF fl, since, rcv, ack⟩) 44 ∧ Only (· = b) w wr) (fun _ i _ => L.length - (intOf i).toNat)
  case atStart => exact ⟨0, rfl, by omega, hb, Only.refl _ _⟩
  case round =>
    obtain ⟨k, rfl, hk, hbk, ho⟩ := hrel
    by_cases hlt : k < L.length
    · obtain ⟨b1, off, rfl, hcell, g1, g2⟩ := ints_round hL hab ho k hlt
      have hbd := gone_bd (L.take k) (fun n hn => hL0 n (List.mem_of_mem_take hn)) fl hs.1
      have hst : Hid ((L.take (k + 1)).foldl goneF fl = goneF ((L.take k).foldl goneF fl) (L.getD k 0)) := fold_take _ _ _ _ _ hlt
      generalize (L.take k).foldl goneF fl = f at *
      generalize L.getD k 0 = n at *
      have hc := Blk.all (l := [.int .u64 win, .int .u64 thr, .int .u64 f, .int .u64 since, .bool rcv, .int .u64 ack]) hbk
      simp only [cellsAt, Nat.reduceAdd, and_true, Nat.zero_add] at hc
      obtain ⟨⟨c0, f0⟩, ⟨c1, f1⟩, ⟨c2, f2⟩, ⟨c3, f3⟩, ⟨c4, f4⟩, ⟨c5, f5⟩⟩ := hc
      have hL' := Lib.hid hL
      have hab' := Lib.hid hab
      have hL0' := Lib.hid hL0
      clear hL hab hL0
      go_wp2_with (fail)
      refine rg_start 17 ?_
      refine rg_same fun p hx hne hC => ?_
      refine rg_quiet 1 [0,1,2,3,4,5,6,7,8,9,10,11,12,13,14,15] hC ?_
      simp only [pickD, List.map_cons, List.map_nil, List.getD_cons_zero, List.getD_cons_succ]; repeat (go_big_quiet_step (fail))
      refine wpQuiet_nil ?_
      refine rg_cut 16 ?_      -- store 24 t29 t26
      go_wp2
      refine rg_end0 ?_
      go_wp2_with (fail)
      refine ⟨⟨k + 1, by go_num, by omega, ?_, ?_⟩, by simp [intOf]; omega⟩
      · rw [hst.out]; exact Blk.drew (Blk.congr (hbk.set 2 _) (by simp [NS.vals, goneF]))
      · exact (ho.set _ _).drew
    · obtain rfl : k = L.length := by omega
      rw [List.take_of_length_le (Nat.le_refl _)] at hbk
      go_wp2
      go_returns
      exact ⟨rfl, hbk, ho⟩


/-- A single size, as a slice of its own. -/
theorem one_ints {w : World} {n : Int} (hn : (Lit.int .u64 n).wf = true) (b : Nat) {T : TypeId} (h : Blk w b #[.int .u64 n] T) : IntsAt .u64 w (some ⟨b, 0, none⟩) [n] :=
  IntsAt.of_blk h (by intro i hi; simp at hi; subst hi; rfl) (by simpa using hn)

def NS.ok (s : NS) : Prop := (0 ≤ s.win ∧ s.win ≤ 4611686018427387904) ∧ (0 ≤ s.thr ∧ s.thr ≤ 4611686018427387904) ∧ (0 ≤ s.fl ∧ s.fl ≤ 4611686018427387904) ∧ (0 ≤ s.since ∧ s.since ≤ 9223372036854775807) ∧ (0 ≤ s.ack ∧ s.ack ≤ 4611686018427387904)

set_option maxHeartbeats 400000 in
theorem may_any (b : Nat) (s : NS) (n : Int) (w : World) (hs : s.ok) (hn : 0 ≤ n) (hn' : n ≤ 18446744073709551615) (hb : Blk w b s.vals 44) :
    Calls Try.prog 24 #[.pointer (some ⟨b, 0, none⟩), .int .u64 n] w fun e w' => e = .returned (.bool (decide (s.fl + min n 1099511627776 ≤ s.win))) ∧ Below w.heap.size w w' := by
  obtain ⟨win, thr, fl, since, rcv, ack⟩ := s
  obtain ⟨h1, h2, h3, h4, h5⟩ := hs
  simp only at h1 h2 h3 h4 h5
  have hc := Blk.all (l := [.int .u64 win, .int .u64 thr, .int .u64 fl, .int .u64 since, .bool rcv, .int .u64 ack]) hb
  simp only [cellsAt, Nat.reduceAdd, and_true, Nat.zero_add] at hc
  obtain ⟨⟨c0, f0⟩, ⟨c1, f1⟩, ⟨c2, f2⟩, ⟨c3, f3⟩, ⟨c4, f4⟩, ⟨c5, f5⟩⟩ := hc
  go_enter Try.func24, Try.ntmps24
  go_wp2_with (fail)
  refine rg_start 19 ?_
  refine rg_same fun p hx hne hC => ?_
  refine rg_quiet 0 [0,1,2,3,4,5,6,7,8,9,10,11,12,13,14,15,16,17,18] hC ?_
  simp only [pickD, List.map_cons, List.map_nil, List.getD_cons_zero, List.getD_cons_succ]; repeat (go_big_quiet_step (fail))
  refine wpQuiet_nil ?_
  refine rg_end ?_
  go_wp2_with (fail)
  go_returns
  exact ⟨rfl, (Below.refl _ _).drew⟩

set_option maxHeartbeats 400000 in
theorem worst_any (b : Nat) (s : NS) (w : World) (hb : Blk w b s.vals 44) :
    Calls Try.prog 20 #[.pointer (some ⟨b, 0, none⟩)] w fun e w' => e = .returned (.tuple #[]) ∧ Blk w' b (NS.vals { s with win := 2400, rcv := false, ack := 0 }) 44 ∧ Only (· = b) w w' := by
  obtain ⟨win, thr, fl, since, rcv, ack⟩ := s
  have hc := Blk.all (l := [.int .u64 win, .int .u64 thr, .int .u64 fl, .int .u64 since, .bool rcv, .int .u64 ack]) hb
  simp only [cellsAt, Nat.reduceAdd, and_true, Nat.zero_add] at hc
  obtain ⟨⟨c0, f0⟩, ⟨c1, f1⟩, ⟨c2, f2⟩, ⟨c3, f3⟩, ⟨c4, f4⟩, ⟨c5, f5⟩⟩ := hc
  go_enter Try.func20, Try.ntmps20
  go_wp2_with (fail)
  go_returns
  refine ⟨rfl, Blk.congr (((hb.set 0 _).set 4 _).set 5 _) (by simp [NS.vals]), ?_⟩
  repeat' (first | (with_reducible exact Only.refl _ _) | (with_reducible refine Only.drew ?_) | (with_reducible refine Only.set ?_ _ _))

def lostF (s : NS) (at_ now : Int) : NS := if s.rcv = true ∧ at_ ≤ s.since then s else ⟨max (s.win / 2) 2400, max (s.win / 2) 2400, s.fl, now, true, 0⟩

set_option maxHeartbeats 400000 in
theorem lost_any (b : Nat) (s : NS) (at_ now : Int) (w : World) (hs : s.ok) (ha : 0 ≤ at_) (hn : 0 ≤ now) (hb : Blk w b s.vals 44) :
    Calls Try.prog 19 #[.pointer (some ⟨b, 0, none⟩), .int .u64 at_, .int .u64 now] w fun e w' => e = .returned (.tuple #[]) ∧ Blk w' b (lostF s at_ now).vals 44 ∧ Only (· = b) w w' := by
  obtain ⟨win, thr, fl, since, rcv, ack⟩ := s
  obtain ⟨h1, h2, h3, h4, h5⟩ := hs
  simp only at h1 h2 h3 h4 h5
  have hc := Blk.all (l := [.int .u64 win, .int .u64 thr, .int .u64 fl, .int .u64 since, .bool rcv, .int .u64 ack]) hb
  simp only [cellsAt, Nat.reduceAdd, and_true, Nat.zero_add] at hc
  obtain ⟨⟨c0, f0⟩, ⟨c1, f1⟩, ⟨c2, f2⟩, ⟨c3, f3⟩, ⟨c4, f4⟩, ⟨c5, f5⟩⟩ := hc
  cases rcv
  · go_enter Try.func19, Try.ntmps19
    go_wp2_with (fail)
    go_returns
    refine ⟨rfl, Blk.congr (((((hb.set 4 _).set 3 _).set 0 _).set 1 _).set 5 _) (by simp [NS.vals, lostF]), ?_⟩
    repeat' (first | (with_reducible exact Only.refl _ _) | (with_reducible refine Only.drew ?_) | (with_reducible refine Only.set ?_ _ _))
  · by_cases hle : at_ ≤ since
    · go_enter Try.func19, Try.ntmps19
      go_wp2_with (fail)
      go_returns
      exact ⟨rfl, Blk.congr hb (by simp [NS.vals, lostF, hle]), Only.refl _ _⟩
    · go_enter Try.func19, Try.ntmps19
      go_wp2_with (fail)
      go_returns
      refine ⟨rfl, Blk.congr (((((hb.set 4 _).set 3 _).set 0 _).set 1 _).set 5 _) (by simp only [NS.vals, lostF]; rw [if_neg (by intro h; omega)]; simp), ?_⟩
      repeat' (first | (with_reducible exact Only.refl _ _) | (with_reducible refine Only.drew ?_) | (with_reducible refine Only.set ?_ _ _))

/-- An acknowledgement while the window is below its threshold. -/
def ackSlow (s : NS) (n : Int) : NS := ⟨min (s.win + min n 1099511627776) 4611686018427387904, s.thr, goneF s.fl (min n 1099511627776), s.since, false, s.ack⟩

set_option maxHeartbeats 1000000 in
theorem acked_any (b : Nat) (s : NS) (at_ n : Int) (w : World) (hs : s.ok) (ha : 0 ≤ at_) (hn : 0 ≤ n) (hn' : n ≤ 18446744073709551615) (hwin : 2400 ≤ s.win) (hack : s.ack < s.win) (hsmall : s.win ≤ 1152921504606846976) (hb : Blk w b s.vals 44) :
    Calls Try.prog 17 #[.pointer (some ⟨b, 0, none⟩), .int .u64 at_, .int .u64 n] w fun e w' => e = .returned (.tuple #[]) ∧
      (∃ s' : NS, Blk w' b s'.vals 44 ∧ s.win ≤ s'.win ∧ s'.win ≤ s.win + 1200 + min n 1099511627776 ∧ s'.thr = s.thr ∧ s'.since = s.since ∧ 0 ≤ s'.fl ∧ s'.fl ≤ s.fl ∧ 0 ≤ s'.ack ∧ s'.ack < s'.win ∧
        (s.rcv = false → s.win < s.thr → s' = ackSlow s n)) ∧ Only (· = b) w w' := by
  obtain ⟨win, thr, fl, since, rcv, ack⟩ := s
  obtain ⟨h1, h2, h3, h4, h5⟩ := hs
  simp only at h1 h2 h3 h4 h5 hwin hack hsmall ⊢
  obtain ⟨m, hm⟩ : ∃ m, Hid (min n 1099511627776 = m) := ⟨_, rfl⟩
  have hm0 : 0 ≤ m ∧ m ≤ 1099511627776 := by have := hm.out; omega
  have hwf : (Lit.int .u64 m).wf = true := WalkArith.wf_u64 (by omega)
  obtain ⟨fl', hfl⟩ : ∃ f, Hid (goneF fl m = f) := ⟨_, rfl⟩
  have hfl1 : 0 ≤ fl' ∧ fl' ≤ fl := by have := goneF_bd h3.1 hm0.1; rw [hfl.out] at this; exact this
  have hbl := hb.lt
  rw [hm.out]
  have start : Calls Try.prog 15 #[.pointer (some ⟨b, 0, none⟩), .slice (some ⟨w.heap.size, 0, none⟩) 1 1] (w.alloc (.cells #[.int .u64 m] 24)) fun e w1 => e = .returned (.tuple #[]) ∧
      Blk w1 b (NS.vals ⟨win, thr, fl', since, rcv, ack⟩) 44 ∧ Only (· = b) w w1 := by
    refine (gone_any b ⟨win, thr, fl, since, rcv, ack⟩ (some ⟨w.heap.size, 0, none⟩) 1 [m] _ (by simp [maxLen]) (one_ints hwf _ (Blk.new _ _ _)) (by intro x hx _; cases hx; simp; omega) h3 (hb.alloc _)).mono ?_
    rintro e w1 ⟨rfl, hb1, ho1⟩
    refine ⟨rfl, ?_, ((Only.refl _ _).alloc _).trans ho1⟩
    simpa [hfl.out] using hb1
  by_cases hrec : rcv = true ∧ at_ ≤ since
  · obtain ⟨rfl, hle⟩ := hrec
    go_enter Try.func17, Try.ntmps17
    go_wp2_with (fail)
    rw [hm.out]
    refine start.mono ?_
    rintro e w1 ⟨rfl, hb1, ho1⟩
    have hc := Blk.all (l := [.int .u64 win, .int .u64 thr, .int .u64 fl', .int .u64 since, .bool true, .int .u64 ack]) hb1
    simp only [cellsAt, Nat.reduceAdd, and_true, Nat.zero_add] at hc
    obtain ⟨⟨c0, f0⟩, ⟨c1, f1⟩, ⟨c2, f2⟩, ⟨c3, f3⟩, ⟨c4, f4⟩, ⟨c5, f5⟩⟩ := hc
    go_wp2_with (fail)
    go_returns
    exact ⟨rfl, ⟨_, hb1, Int.le_refl _, by simp only; omega, rfl, rfl, hfl1.1, hfl1.2, h5.1, hack, by intro h; cases h⟩, ho1⟩
  · have hcase : rcv = false ∨ (rcv = true ∧ since < at_) := by
      cases rcv
      · exact .inl rfl
      · exact .inr ⟨rfl, by have : ¬ at_ ≤ since := fun h => hrec ⟨rfl, h⟩; omega⟩
    clear hrec
    rcases hcase with rfl | ⟨rfl, hgt⟩
    all_goals
      by_cases hslow : win < thr
      · go_enter Try.func17, Try.ntmps17
        go_wp2_with (fail)
        rw [hm.out]
        refine start.mono ?_
        rintro e w1 ⟨rfl, hb1, ho1⟩
        have hc := Blk.all (l := [.int .u64 win, .int .u64 thr, .int .u64 fl', .int .u64 since, .bool _, .int .u64 ack]) hb1
        simp only [cellsAt, Nat.reduceAdd, and_true, Nat.zero_add] at hc
        obtain ⟨⟨c0, f0⟩, ⟨c1, f1⟩, ⟨c2, f2⟩, ⟨c3, f3⟩, ⟨c4, f4⟩, ⟨c5, f5⟩⟩ := hc
        go_wp2_with (fail)
        refine rg_start 11 ?_
        refine rg_same fun p hx hne hC => ?_
        refine rg_quiet 0 [0,1,2,3,4,5,6,7,8,9,10] hC ?_
        simp only [pickD, List.map_cons, List.map_nil, List.getD_cons_zero, List.getD_cons_succ]; repeat (go_big_quiet_step (fail))
        refine wpQuiet_nil ?_
        refine rg_end ?_
        go_wp2_with (fail)
        go_returns
        refine ⟨rfl, ⟨⟨min (win + m) 4611686018427387904, thr, fl', since, false, ack⟩, ?_, by simp only; omega, by simp only; omega, rfl, rfl, hfl1.1, hfl1.2, h5.1, by simp only; omega, ?_⟩, ?_⟩
        · exact Blk.drew (Blk.congr ((hb1.set 4 _).set 0 _) (by simp [NS.vals]))
        · intro _ _; simp only [ackSlow, hm.out, hfl.out]
        · exact ((ho1.set _ _).set _ _).drew
      · go_enter Try.func17, Try.ntmps17
        go_wp2_with (fail)
        rw [hm.out]
        refine start.mono ?_
        rintro e w1 ⟨rfl, hb1, ho1⟩
        have hc := Blk.all (l := [.int .u64 win, .int .u64 thr, .int .u64 fl', .int .u64 since, .bool _, .int .u64 ack]) hb1
        simp only [cellsAt, Nat.reduceAdd, and_true, Nat.zero_add] at hc
        obtain ⟨⟨c0, f0⟩, ⟨c1, f1⟩, ⟨c2, f2⟩, ⟨c3, f3⟩, ⟨c4, f4⟩, ⟨c5, f5⟩⟩ := hc
        go_wp2_with (fail)
        refine rg_start 11 ?_
        refine rg_same fun p hx hne hC => ?_
        refine rg_quiet 0 [0,1,2,3,4,5,6,7,8,9,10] hC ?_
        simp only [pickD, List.map_cons, List.map_nil, List.getD_cons_zero, List.getD_cons_succ]; repeat (go_big_quiet_step (fail))
        refine wpQuiet_nil ?_
        refine rg_end ?_
        go_wp2_with (fail)
        have hwin' : win ≤ 1152921504606846976 := hsmall
        go_loopw [65] (fun _ wr => ∃ (w1 a1 : Int), Blk wr b (NS.vals ⟨w1, thr, fl', since, false, a1⟩) 44 ∧ Only (· = b) w wr ∧ 0 ≤ a1 ∧ ((w1 = win ∧ a1 = ack + m) ∨ (win + 1200 ≤ w1 ∧ 2 * (w1 - win - 1200) + a1 ≤ m))) (fun _ wr => (intOf ((wr.cell? ⟨b, 5, none⟩).getD undef)).toNat)
        case atStart =>
          refine ⟨win, ack + m, Blk.drew (Blk.congr ((hb1.set 4 _).set 5 _) (by simp [NS.vals])), ((ho1.set _ _).set _ _).drew, by omega, .inl ⟨rfl, rfl⟩⟩
        case round =>
          obtain ⟨w2, a2, hb2, ho2, ha2, hrel2⟩ := hrel
          clear c0 f0 c1 f1 c2 f2 c3 f3 c4 f4 c5 f5 hC hx hne
          have hc := Blk.all (l := [.int .u64 w2, .int .u64 thr, .int .u64 fl', .int .u64 since, .bool false, .int .u64 a2]) hb2
          simp only [cellsAt, Nat.reduceAdd, and_true, Nat.zero_add] at hc
          obtain ⟨⟨c0, f0⟩, ⟨c1, f1⟩, ⟨c2, f2⟩, ⟨c3, f3⟩, ⟨c4, f4⟩, ⟨c5, f5⟩⟩ := hc
          by_cases hge : w2 ≤ a2
          · go_wp2_with (fail)
            refine rg_start 11 ?_
            refine rg_same fun p hx hne hC => ?_
            refine rg_quiet 0 [0,1,2,3,4,5,6,7,8,9,10] hC ?_
            simp only [pickD, List.map_cons, List.map_nil, List.getD_cons_zero, List.getD_cons_succ]; repeat (go_big_quiet_step (fail))
            refine wpQuiet_nil ?_
            refine rg_end ?_
            go_wp2_with (fail)
            refine rg_start 15 ?_
            refine rg_same fun p hx hne hC => ?_
            refine rg_quiet 1 [0,1,2,3,4,5,6,7,8,9,10,11,12,13] hC ?_
            simp only [pickD, List.map_cons, List.map_nil, List.getD_cons_zero, List.getD_cons_succ]; repeat (go_big_quiet_step (fail))
            refine wpQuiet_nil ?_
            refine rg_cut 14 ?_      -- store 24 t98 t95
            go_wp2
            refine rg_end0 ?_
            go_wp2_with (fail)
            have hb3 := ((hb2.set 5 (.int .u64 (a2 - w2))).set 0 (.int .u64 (w2 + 1200))).drew.drew
            refine ⟨⟨w2 + 1200, a2 - w2, Blk.congr hb3 (by simp [NS.vals]), ((ho2.set _ _).set _ _).drew.drew, by omega, .inr (by omega)⟩, ?_⟩
            rw [hb3.cell 5 (.int .u64 (a2 - w2)) (by simp [NS.vals]), c5]
            simp only [Option.getD_some, intOf]
            omega
          · go_wp2_with (fail)
            refine rg_start 11 ?_
            refine rg_same fun p hx hne hC => ?_
            refine rg_quiet 0 [0,1,2,3,4,5,6,7,8,9,10] hC ?_
            simp only [pickD, List.map_cons, List.map_nil, List.getD_cons_zero, List.getD_cons_succ]; repeat (go_big_quiet_step (fail))
            refine wpQuiet_nil ?_
            refine rg_end ?_
            go_wp2_with (fail)
            go_returns
            exact ⟨rfl, ⟨_, hb2, by simp only; omega, by simp only; omega, rfl, rfl, hfl1.1, hfl1.2, ha2, by simp only; omega, by intro _ h; omega⟩, ho2.drew⟩

theorem works_any (w : World) : Calls Try.prog 12 #[] w fun e w' => e = .returned (.bool true) ∧ Below w.heap.size w w' := by
  have ok0 : fresh.ok := by simp [NS.ok, fresh]
  go_enter Try.func12, Try.ntmps12
  go_wp2_with (fail)
  refine (new_any _).mono ?_
  rintro e w1 ⟨rfl, rfl⟩
  have hb1 := Blk.new w fresh.vals 44
  have hc := Blk.all (l := [.int .u64 12000, .int .u64 4611686018427387904, .int .u64 0, .int .u64 0, .bool false, .int .u64 0]) hb1
  simp only [cellsAt, Nat.reduceAdd, and_true, Nat.zero_add] at hc
  obtain ⟨⟨c0, f0⟩, ⟨c1, f1⟩, ⟨c2, f2⟩, ⟨c3, f3⟩, ⟨c4, f4⟩, ⟨c5, f5⟩⟩ := hc
  have k1 : Below w.heap.size w (w.alloc (.cells fresh.vals 44)) := (Below.refl _ _).alloc (Nat.le_refl _) _
  generalize w.alloc (.cells fresh.vals 44) = w1 at *
  go_wp2_with (fail)
  refine (may_any _ fresh 12000 _ ok0 (by omega) (by omega) hb1).mono ?_
  rintro e w2 ⟨rfl, hb2⟩
  rw [show decide (fresh.fl + min 12000 1099511627776 ≤ fresh.win) = true from by decide]
  have z1 := hb1.lt
  have k2 := below_on k1 hb2 (by omega)
  have b2 := hb1.below hb2
  have z2 := b2.lt
  go_wp2_with (fail)
  refine (may_any _ fresh 12001 _ ok0 (by omega) (by omega) b2).mono ?_
  rintro e w3 ⟨rfl, hb3⟩
  rw [show decide (fresh.fl + min 12001 1099511627776 ≤ fresh.win) = false from by decide]
  have k3 := below_on k2 hb3 (by omega)
  have b3 := b2.below hb3
  have z3 := b3.lt
  go_wp2_with (fail)
  have hi := IntsAt.of_map (kd := .u64) (L := [1200, 1200]) (Blk.new w3 #[.int .u64 1200, .int .u64 1200] 24) (by simp; decide)
  refine (sent_any _ fresh _ 2 [1200, 1200] _ (by simp [maxLen]) hi (by intro x hx _; cases hx; simp; omega) (by simp [fresh]) (b3.alloc _)).mono ?_
  rintro e w4 ⟨rfl, b4, ho4⟩
  have e4 : ({ fresh with fl := [1200, 1200].foldl sentF fresh.fl } : NS) = ⟨12000, 4611686018427387904, 2400, 0, false, 0⟩ := rfl
  rw [e4] at b4
  clear e4
  have k4 := below_onto (k3.alloc (by omega) _) ho4 (by simp; omega) (by intro k hk; omega)
  have z4 := b4.lt
  go_wp2_with (fail)
  refine (acked_any _ _ 5 1200 _ (by simp [NS.ok]) (by omega) (by omega) (by omega) (by simp) (by simp) (by simp) b4).mono ?_
  rintro e w5 ⟨rfl, ⟨s5, b5, _, _, _, _, _, _, _, _, h5⟩, ho5⟩
  have e5 := h5 rfl (by simp)
  rw [e5, show ackSlow ⟨12000, 4611686018427387904, 2400, 0, false, 0⟩ 1200 = ⟨13200, 4611686018427387904, 1200, 0, false, 0⟩ from rfl] at b5
  clear h5 e5
  have k5 := below_onto k4 ho5 (by omega) (by intro k hk; omega)
  have z5 := b5.lt
  clear c0 f0 c1 f1 c2 f2 c3 f3 c4 f4 c5 f5
  have hc := Blk.all (l := [.int .u64 13200, .int .u64 4611686018427387904, .int .u64 1200, .int .u64 0, .bool false, .int .u64 0]) b5
  simp only [cellsAt, Nat.reduceAdd, and_true, Nat.zero_add] at hc
  obtain ⟨⟨c0, f0⟩, ⟨c1, f1⟩, ⟨c2, f2⟩, ⟨c3, f3⟩, ⟨c4, f4⟩, ⟨c5, f5⟩⟩ := hc
  go_wp2_with (fail)
  refine (lost_any _ _ 7 9 _ (by simp [NS.ok]) (by omega) (by omega) b5).mono ?_
  rintro e w6 ⟨rfl, b6, ho6⟩
  rw [show lostF ⟨13200, 4611686018427387904, 1200, 0, false, 0⟩ 7 9 = ⟨6600, 6600, 1200, 9, true, 0⟩ from rfl] at b6
  have k6 := below_onto k5 ho6 (by omega) (by intro k hk; omega)
  have z6 := b6.lt
  go_wp2_with (fail)
  refine (lost_any _ _ 8 10 _ (by simp [NS.ok]) (by omega) (by omega) b6).mono ?_
  rintro e w7 ⟨rfl, b7, ho7⟩
  rw [show lostF ⟨6600, 6600, 1200, 9, true, 0⟩ 8 10 = ⟨6600, 6600, 1200, 9, true, 0⟩ from rfl] at b7
  have k7 := below_onto k6 ho7 (by omega) (by intro k hk; omega)
  have z7 := b7.lt
  clear c0 f0 c1 f1 c2 f2 c3 f3 c4 f4 c5 f5
  have c0 := b7.cell 0 _ rfl
  simp only [NS.vals] at c0
  go_wp2_with (fail)
  refine (lost_any _ _ 10 12 _ (by simp [NS.ok]) (by omega) (by omega) b7).mono ?_
  rintro e w8 ⟨rfl, b8, ho8⟩
  rw [show lostF ⟨6600, 6600, 1200, 9, true, 0⟩ 10 12 = ⟨3300, 3300, 1200, 12, true, 0⟩ from rfl] at b8
  have k8 := below_onto k7 ho8 (by omega) (by intro k hk; omega)
  have d0 : w8.cell? ⟨w.heap.size, 0, none⟩ = some (.int .u64 3300) := b8.cell 0 _ rfl
  go_wp2_with (fail)
  go_returns
  exact ⟨rfl, k8⟩

end Reno
end Go.Proofs.Ytnnlejllhmhmmaa
