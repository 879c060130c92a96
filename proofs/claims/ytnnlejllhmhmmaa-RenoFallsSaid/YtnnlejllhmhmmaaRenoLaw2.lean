/- Statements of layer 14: RenoFalls: the walk. -/
import Derived.Test.YtnnlejllhmhmmaaReno
import Derived.Test.YtnnlejllhmhmmaaArgs
namespace Go.Proofs.Ytnnlejllhmhmmaa
open Go.RowKit
set_option linter.unusedVariables false
namespace Reno

structure Act where
  k : Int
  sizes : List Int
  at_ : Int
  more : Int
def ActAt (w : World) (x : Act) (cs : List Value) : Prop :=
  ∃ a cap, cs = [.int .u8 x.k, .slice a x.sizes.length cap, .int .u64 x.at_, .int .u64 x.more] ∧ (0 ≤ x.k ∧ x.k ≤ 255) ∧ x.sizes.length ≤ 140737488351232 ∧ (0 ≤ x.at_ ∧ x.at_ ≤ 18446744073709551615) ∧ (0 ≤ x.more ∧ x.more ≤ 18446744073709551615) ∧ IntsAt .u64 w a x.sizes
theorem ActAt.below {w w' : World} (hb : Below w.heap.size w w') (x : Act) (cs : List Value) (h : ActAt w x cs) : ActAt w' x cs := by
  obtain ⟨a, cap, h1, h2, h3, h4, h5, h6⟩ := h
  exact ⟨a, cap, h1, h2, h3, h4, h5, h6.below hb⟩

def Good (x : Act) : Prop := x.at_ ≤ 2305843009213693952 ∧ x.more ≤ 2305843009213693952 ∧ (x.k = 2 → ∀ s ∈ x.sizes, s ≤ 16777216)
def HeavyPost (L : List Act) (w : World) (e : Ending) (w' : World) : Prop := ∃ hv : Bool, e = .returned (.bool hv) ∧ Below w.heap.size w w' ∧ (hv = false → L.length ≤ 1000 ∧ ∀ i (h : i < L.length), Good L[i])

set_option maxRecDepth 100000 in
set_option maxHeartbeats 1000000 in
theorem heavy_any (a : Option Addr) (cap : Nat) (L : List Act) (w : World) (hL : SlOf w a 4 (ActAt w) L) (hlen : L.length ≤ 140737488351232) :
    Calls Try.prog 16 #[.slice a L.length cap] w (HeavyPost L w) := by
  have HL := Lib.hid hL
  clear hL
  go_enter Try.func16, Try.ntmps16
  go_wp2_with (fail)
  go_loopw [3, 10] (fun n i wr => ∃ (k : Nat) (m : Int), i = .int .i64 k ∧ n = .int .i64 m ∧ (k : Int) ≤ m ∧ m ≤ 1000 ∧ k ≤ L.length ∧ Hid (∀ j (h : j < L.length), j < k → Good L[j]) ∧ Below w.heap.size w wr) (fun _ i _ => L.length - (intOf i).toNat)
  case atStart => exact ⟨0, 0, rfl, rfl, by omega, by omega, by omega, (fun j h hj => by omega), Below.refl _ _⟩
  case round =>
    obtain ⟨k, m, rfl, rfl, hkm, hm, hk, hall, hbel⟩ := hrel
    by_cases hlt : k < L.length
    · obtain ⟨b, off, cs, rfl, hb, _, hcell, a', cap', rfl, hk8, hsz, hat, hmo, hints⟩ := HL.out k hlt
      obtain ⟨x, hx⟩ : ∃ x, Hid (L[k] = x) := ⟨_, Lib.hid rfl⟩
      rw [hx.out] at hcell hk8 hsz hat hmo hints
      obtain ⟨xk, xs, xat, xmo⟩ := x
      simp only at hcell hk8 hsz hat hmo hints
      have g0 := (hbel.cell (p := ⟨b, off + k * 4, none⟩) hb).trans (hcell 0 _ rfl)
      have g1 := (hbel.cell (p := ⟨b, off + k * 4 + 1, none⟩) hb).trans (hcell 1 _ rfl)
      have g2 := (hbel.cell (p := ⟨b, off + k * 4 + 2, none⟩) hb).trans (hcell 2 _ rfl)
      have g3 := (hbel.cell (p := ⟨b, off + k * 4 + 3, none⟩) hb).trans (hcell 3 _ rfl)
      have hi1 := (hints.below hbel).below ((Below.refl _ _).alloc (Nat.le_refl _) (.cells #[.int .u8 xk, .slice a' xs.length cap', .int .u64 xat, .int .u64 xmo] 49))
      have HI := Lib.hid hi1
      have z0 := hbel.size
      clear hcell hints hi1
      by_cases hbig : 1000 < m + (1 + xs.length)
      · go_wp2_with (fail)
        go_returns
        exact ⟨true, rfl, hbel.alloc z0 _, by simp⟩
      · by_cases h2 : 2305843009213693952 < xat
        · go_wp2_with (fail)
          go_returns
          exact ⟨true, rfl, hbel.alloc z0 _, by simp⟩
        · by_cases h3 : 2305843009213693952 < xmo
          · go_wp2_with (fail)
            go_returns
            exact ⟨true, rfl, hbel.alloc z0 _, by simp⟩
          · go_wp2_with (fail)
            go_loop [7, 35] (fun _ i => ∃ j : Nat, i = .int .i64 j ∧ j ≤ xs.length ∧ Hid (xk = 2 → ∀ q, q < j → xs.getD q 0 ≤ 16777216)) (fun _ i => xs.length - (intOf i).toNat)
            case atStart => exact ⟨0, rfl, by omega, fun _ q hq => by omega⟩
            case round =>
              obtain ⟨j, rfl, hj, hallj⟩ := hrel
              by_cases hjl : j < xs.length
              · obtain ⟨b3, o3, rfl, _, hc3, hw3⟩ := HI.out j hjl
                obtain ⟨y, hy⟩ : ∃ y, Hid (xs.getD j 0 = y) := ⟨_, rfl⟩
                rw [hy.out] at hc3
                clear hw3
                by_cases hk2 : xk = 2
                · subst hk2
                  by_cases hbigy : 16777216 < y
                  · go_wp2_with (fail)
                    go_returns
                    exact ⟨true, rfl, hbel.alloc z0 _, by simp⟩
                  · go_wp2_with (fail)
                    refine ⟨⟨j + 1, by go_num, by omega, fun _ q hq => ?_⟩, by simp [intOf]; omega⟩
                    by_cases hqj : q < j
                    · exact hallj.out rfl q hqj
                    · obtain rfl : q = j := by omega
                      rw [hy.out]; omega
                · have hk2' : (xk == 2) = false := by simpa using hk2
                  have hk3 := Lib.hid hk2
                  clear hk2
                  go_wp2_with (fail)
                  exact ⟨⟨j + 1, by go_num, by omega, fun h => absurd h hk3.out⟩, by simp [intOf]; omega⟩
              · obtain rfl : j = xs.length := by omega
                go_wp2_with (fail)
                refine ⟨⟨k + 1, _, by go_num, rfl, by omega, by omega, by omega, fun i hi hik => ?_, hbel.alloc z0 _⟩, by simp [intOf]; omega⟩
                by_cases hik' : i < k
                · exact hall.out i hi hik'
                · obtain rfl : i = k := by omega
                  rw [hx.out]
                  refine ⟨by simp only; omega, by simp only; omega, fun h s hs => ?_⟩
                  obtain ⟨q, hq, rfl⟩ := List.getElem_of_mem hs
                  have := hallj.out h q hq
                  simpa [hq] using this
    · obtain rfl : k = L.length := by omega
      go_wp2_with (fail)
      go_returns
      exact ⟨false, rfl, hbel, fun _ => ⟨by omega, fun i hi => hall.out i hi hi⟩⟩

set_option maxHeartbeats 400000 in
theorem size_any (x : Act) (a : Option Addr) (cap : Nat) (w : World) (hl : x.sizes.length ≤ 140737488351232) (hi : IntsAt .u64 w a x.sizes) :
    Calls Try.prog 18 #[.agg #[.int .u8 x.k, .slice a x.sizes.length cap, .int .u64 x.at_, .int .u64 x.more]] w fun e w' => e = .returned (.int .u64 (x.sizes.getD 0 0)) ∧ Below w.heap.size w w' := by
  obtain ⟨xk, xs, xat, xmo⟩ := x
  simp only at hl hi ⊢
  cases xs with
  | nil =>
    go_enter Try.func18, Try.ntmps18
    go_wp2_with (fail)
    go_returns
    exact ⟨rfl, by go_grown⟩
  | cons y ys =>
    obtain ⟨b, off, rfl, hb, hc, _⟩ := hi 0 (by simp)
    rw [Nat.add_zero] at hc
    have hne : (((y :: ys).length : Int) == 0) = false := by simp; omega
    have hc' := (((Below.refl w.heap.size w).alloc (Nat.le_refl _) (.cells #[.int .u8 xk, .slice (some ⟨b, off, none⟩) (y :: ys).length cap, .int .u64 xat, .int .u64 xmo] 49)).cell (p := ⟨b, off, none⟩) hb).trans hc
    have hpos : 0 < (y :: ys).length := by simp
    generalize hn : (y :: ys).length = n at *
    clear hn hi hc
    go_enter Try.func18, Try.ntmps18
    go_wp2_with (fail)
    go_returns
    exact ⟨rfl, by go_grown⟩

/-- What each round keeps. -/
def Keeps (k : Nat) (s : NS) : Prop := s.ok ∧ 2400 ≤ s.win ∧ s.win ≤ 12000 + k * 16778416 ∧ s.ack < s.win ∧ s.since ≤ 4611686018427387904

set_option maxRecDepth 100000 in
set_option maxHeartbeats 4000000 in
theorem falls_law (a : Option Addr) (cap : Nat) (L : List Act) (w : World) (hL : SlOf w a 4 (ActAt w) L) (hlen : L.length ≤ 140737488351232) :
    Calls Try.prog 7 #[.slice a L.length cap] w fun e w' => e = .returned (.bool true) ∧ Below w.heap.size w w' := by
  have HL := Lib.hid hL
  clear hL
  go_enter Try.func7, Try.ntmps7
  go_wp2_with (fail)
  refine (works_any _).mono ?_
  rintro e w1 ⟨rfl, hb1⟩
  go_wp2_with (fail)
  refine (heavy_any a cap L w1 (HL.out.below hb1 (ActAt.below hb1)) hlen).mono ?_
  rintro e w2 ⟨hv, rfl, hb2, hgood⟩
  have k2 := below_on hb1 hb2 hb1.size
  cases hv with
  | true =>
    clear hgood
    go_wp2_with (fail)
    refine (works_any _).mono ?_
    rintro e w3 ⟨rfl, hb3⟩
    go_wp2_with (fail)
    go_returns
    exact ⟨rfl, below_on k2 hb3 k2.size⟩
  | false =>
    obtain ⟨hl1000, hgood⟩ := hgood rfl
    have HG := Lib.hid hgood
    clear hgood
    go_wp2_with (fail)
    refine (new_any _).mono ?_
    rintro e w3 ⟨rfl, rfl⟩
    have bl3 := Blk.new w2 fresh.vals 44
    have k3 := k2.alloc k2.size (.cells fresh.vals 44)
    have zb := k2.size
    generalize w2.alloc (.cells fresh.vals 44) = w3 at *
    generalize w2.heap.size = B at *
    go_wp2_with (fail)
    go_loopw [15] (fun i wr => ∃ (k : Nat) (s : NS), i = .int .i64 k ∧ k ≤ L.length ∧ Keeps k s ∧ Blk wr B s.vals 44 ∧ Below w.heap.size w wr) (fun i _ => L.length - (intOf i).toNat)
    case atStart => exact ⟨0, fresh, rfl, by omega, by simp [Keeps, NS.ok, fresh], bl3, k3⟩
    case round =>
      obtain ⟨k, s, rfl, hk, hkeep, blr, hbel⟩ := hrel
      by_cases hlt : k < L.length
      · obtain ⟨b, off, cs, rfl, hb, _, hcell, a', cap', rfl, hk8, hsz, hat, hmo, hints⟩ := HL.out k hlt
        have hgd := HG.out k hlt
        obtain ⟨x, hx⟩ : ∃ x, Hid (L[k] = x) := ⟨_, Lib.hid rfl⟩
        rw [hx.out] at hcell hk8 hsz hat hmo hints hgd
        obtain ⟨xk, xs, xat, xmo⟩ := x
        obtain ⟨q1, q2, q3⟩ := hgd
        simp only at hcell hk8 hsz hat hmo hints q1 q2 q3
        have g0 := (hbel.cell (p := ⟨b, off + k * 4, none⟩) hb).trans (hcell 0 _ rfl)
        have g1 := (hbel.cell (p := ⟨b, off + k * 4 + 1, none⟩) hb).trans (hcell 1 _ rfl)
        have g2 := (hbel.cell (p := ⟨b, off + k * 4 + 2, none⟩) hb).trans (hcell 2 _ rfl)
        have g3 := (hbel.cell (p := ⟨b, off + k * 4 + 3, none⟩) hb).trans (hcell 3 _ rfl)
        have z0 := hbel.size
        have zr := blr.lt
        obtain ⟨win, thr, fl, since, rcv, ack⟩ := s
        obtain ⟨⟨h1, h2, h3, h4, h5⟩, h6, h7, h8, h9⟩ := hkeep
        simp only at h1 h2 h3 h4 h5 h6 h7 h8 h9
        have hc := Blk.all (l := [.int .u64 win, .int .u64 thr, .int .u64 fl, .int .u64 since, .bool rcv, .int .u64 ack]) blr
        simp only [cellsAt, Nat.reduceAdd, and_true, Nat.zero_add] at hc
        obtain ⟨⟨c0, f0⟩, ⟨c1, f1⟩, ⟨c2, f2⟩, ⟨c3, f3⟩, ⟨c4, f4⟩, ⟨c5, f5⟩⟩ := hc
        have HI := Lib.hid (hints.below hbel)
        have HQ := Lib.hid q3
        have HX0 := Lib.hid hints
        have HXN : Hid (xk = 2 → 0 ≤ xs.getD 0 0 ∧ xs.getD 0 0 ≤ 16777216) := fun h => by
          cases xs with
          | nil => simp
          | cons y ys => exact ⟨(bounds_u64 (HI.out.wf y (by simp))).1, HQ.out h y (by simp)⟩
        clear hcell hints q3
        by_cases hxk0 : xk = 0
        · subst hxk0
          have bx := Blk.new wr #[.int .u8 0, .slice a' xs.length cap', .int .u64 xat, .int .u64 xmo] 49
          have bw := Blk.new (wr.alloc (.cells #[.int .u8 0, .slice a' xs.length cap', .int .u64 xat, .int .u64 xmo] 49)) #[.int .u64 win, .int .u64 thr, .int .u64 fl, .int .u64 since, .bool rcv, .int .u64 ack] 42
          have kx := (hbel.alloc z0 (.cells #[.int .u8 0, .slice a' xs.length cap', .int .u64 xat, .int .u64 xmo] 49)).alloc (by simp; omega) (.cells #[.int .u64 win, .int .u64 thr, .int .u64 fl, .int .u64 since, .bool rcv, .int .u64 ack] 42)
          have blx := (blr.alloc (.cells #[.int .u8 0, .slice a' xs.length cap', .int .u64 xat, .int .u64 xmo] 49)).alloc (.cells #[.int .u64 win, .int .u64 thr, .int .u64 fl, .int .u64 since, .bool rcv, .int .u64 ack] 42)
          have hIx := HI.out.below (((Below.refl _ _).alloc (Nat.le_refl _) (.cells #[.int .u8 0, .slice a' xs.length cap', .int .u64 xat, .int .u64 xmo] 49)).alloc (by simp) (.cells #[.int .u64 win, .int .u64 thr, .int .u64 fl, .int .u64 since, .bool rcv, .int .u64 ack] 42))
          have HIX := Lib.hid hIx
          have bx' := bx.alloc (.cells #[.int .u64 win, .int .u64 thr, .int .u64 fl, .int .u64 since, .bool rcv, .int .u64 ack] 42)
          clear hIx bx
          generalize hwx : (wr.alloc (.cells #[.int .u8 0, .slice a' xs.length cap', .int .u64 xat, .int .u64 xmo] 49)).alloc (.cells #[.int .u64 win, .int .u64 thr, .int .u64 fl, .int .u64 since, .bool rcv, .int .u64 ack] 42) = wx at *
          have zx : wx.heap.size = wr.heap.size + 1 + 1 := by rw [← hwx]; simp
          simp only [World.size_alloc] at bw
          have HWX := Lib.hid hwx
          clear hwx
          go_wp2_with (fail)
          rw [HWX.out]
          refine (sent_any B ⟨win, thr, fl, since, rcv, ack⟩ a' cap' xs wx (by unfold maxLen; omega) HIX.out (by intro y hy h0; obtain ⟨b3, o3, hy', hb3, _⟩ := HX0.out 0 h0; rw [hy] at hy'; cases hy'; simp only; omega) h3 blx).mono ?_
          rintro e w5 ⟨rfl, bl5, ho5⟩
          have zw5 := ho5.size
          have bx5 := ho5.blk bx' (by show ¬ (_ = _); omega)
          have bw5 := ho5.blk bw (by show ¬ (_ = _); omega)
          have k5 := below_onto kx ho5 (by omega) (by intro k hk; omega)
          have hc := bx5.all
          simp only [cellsAt, Nat.reduceAdd, and_true, Nat.zero_add] at hc
          obtain ⟨⟨u0, _⟩, ⟨u1, _⟩, ⟨u2, _⟩, ⟨u3, _⟩⟩ := hc
          have hc := bw5.all
          simp only [cellsAt, Nat.reduceAdd, and_true, Nat.zero_add] at hc
          obtain ⟨⟨v0, _⟩, ⟨v1, _⟩, ⟨v2, _⟩, ⟨v3, _⟩, ⟨v4, _⟩, ⟨v5, _⟩⟩ := hc
          clear c0 f0 c1 f1 c2 f2 c3 f3 c4 f4 c5 f5
          have hfl : 0 ≤ xs.foldl sentF fl ∧ xs.foldl sentF fl ≤ 4611686018427387904 := by have := sent_bd xs (fun n hn => (bounds_u64 (HI.out.wf n hn)).1) fl h3.1 h3.2; omega
          simp only at bl5
          generalize xs.foldl sentF fl = fl' at *
          have d0 : w5.cell? ⟨B, 0, none⟩ = some (.int .u64 win) := bl5.cell 0 _ rfl
          have hdw : decide (win < 2400) = false := by simp; omega
          go_wp2_with (fail)
          refine rg_start 26 ?_
          refine rg_same fun p hx hne hC => ?_
          refine rg_quiet 0 [0,1,2,3,4,5,6,7,8,9,10,11,12,13,14,15,16,17,18,19,20,21,22,23,24,25] hC ?_
          simp only [pickD, List.map_cons, List.map_nil, List.getD_cons_zero, List.getD_cons_succ]; repeat (go_big_quiet_step (fail))
          refine wpQuiet_nil ?_
          refine rg_end ?_
          go_wp2_with (fail)
          exact ⟨⟨k + 1, ⟨win, thr, fl', since, rcv, ack⟩, by go_num, by omega, ⟨⟨h1, h2, hfl, h4, h5⟩, h6, by simp only; omega, h8, h9⟩, bl5.drew, k5.drew⟩, by simp [intOf]; omega⟩
        have hxb0 : (xk == 0) = false := by simpa using hxk0
        have hxc0 : (xk != 0) = true := by simpa using hxk0
        clear hxk0
        by_cases hxk1 : xk = 1
        · subst hxk1
          have bx := Blk.new wr #[.int .u8 1, .slice a' xs.length cap', .int .u64 xat, .int .u64 xmo] 49
          have bw := Blk.new (wr.alloc (.cells #[.int .u8 1, .slice a' xs.length cap', .int .u64 xat, .int .u64 xmo] 49)) #[.int .u64 win, .int .u64 thr, .int .u64 fl, .int .u64 since, .bool rcv, .int .u64 ack] 42
          have kx := (hbel.alloc z0 (.cells #[.int .u8 1, .slice a' xs.length cap', .int .u64 xat, .int .u64 xmo] 49)).alloc (by simp; omega) (.cells #[.int .u64 win, .int .u64 thr, .int .u64 fl, .int .u64 since, .bool rcv, .int .u64 ack] 42)
          have blx := (blr.alloc (.cells #[.int .u8 1, .slice a' xs.length cap', .int .u64 xat, .int .u64 xmo] 49)).alloc (.cells #[.int .u64 win, .int .u64 thr, .int .u64 fl, .int .u64 since, .bool rcv, .int .u64 ack] 42)
          have hIx := HI.out.below (((Below.refl _ _).alloc (Nat.le_refl _) (.cells #[.int .u8 1, .slice a' xs.length cap', .int .u64 xat, .int .u64 xmo] 49)).alloc (by simp) (.cells #[.int .u64 win, .int .u64 thr, .int .u64 fl, .int .u64 since, .bool rcv, .int .u64 ack] 42))
          have HIX := Lib.hid hIx
          have bx' := bx.alloc (.cells #[.int .u64 win, .int .u64 thr, .int .u64 fl, .int .u64 since, .bool rcv, .int .u64 ack] 42)
          clear hIx bx
          generalize hwx : (wr.alloc (.cells #[.int .u8 1, .slice a' xs.length cap', .int .u64 xat, .int .u64 xmo] 49)).alloc (.cells #[.int .u64 win, .int .u64 thr, .int .u64 fl, .int .u64 since, .bool rcv, .int .u64 ack] 42) = wx at *
          have zx : wx.heap.size = wr.heap.size + 1 + 1 := by rw [← hwx]; simp
          simp only [World.size_alloc] at bw
          have HWX := Lib.hid hwx
          clear hwx
          go_wp2_with (fail)
          rw [HWX.out]
          refine (gone_any B ⟨win, thr, fl, since, rcv, ack⟩ a' cap' xs wx (by unfold maxLen; omega) HIX.out (by intro y hy h0; obtain ⟨b3, o3, hy', hb3, _⟩ := HX0.out 0 h0; rw [hy] at hy'; cases hy'; simp only; omega) h3 blx).mono ?_
          rintro e w5 ⟨rfl, bl5, ho5⟩
          have zw5 := ho5.size
          have bx5 := ho5.blk bx' (by show ¬ (_ = _); omega)
          have bw5 := ho5.blk bw (by show ¬ (_ = _); omega)
          have k5 := below_onto kx ho5 (by omega) (by intro k hk; omega)
          have hc := bx5.all
          simp only [cellsAt, Nat.reduceAdd, and_true, Nat.zero_add] at hc
          obtain ⟨⟨u0, _⟩, ⟨u1, _⟩, ⟨u2, _⟩, ⟨u3, _⟩⟩ := hc
          have hc := bw5.all
          simp only [cellsAt, Nat.reduceAdd, and_true, Nat.zero_add] at hc
          obtain ⟨⟨v0, _⟩, ⟨v1, _⟩, ⟨v2, _⟩, ⟨v3, _⟩, ⟨v4, _⟩, ⟨v5, _⟩⟩ := hc
          clear c0 f0 c1 f1 c2 f2 c3 f3 c4 f4 c5 f5
          have hfl : 0 ≤ xs.foldl goneF fl ∧ xs.foldl goneF fl ≤ 4611686018427387904 := by have := gone_bd xs (fun n hn => (bounds_u64 (HI.out.wf n hn)).1) fl h3.1; omega
          simp only at bl5
          generalize xs.foldl goneF fl = fl' at *
          have d0 : w5.cell? ⟨B, 0, none⟩ = some (.int .u64 win) := bl5.cell 0 _ rfl
          have hdw : decide (win < 2400) = false := by simp; omega
          go_wp2_with (fail)
          refine rg_start 26 ?_
          refine rg_same fun p hx hne hC => ?_
          refine rg_quiet 0 [0,1,2,3,4,5,6,7,8,9,10,11,12,13,14,15,16,17,18,19,20,21,22,23,24,25] hC ?_
          simp only [pickD, List.map_cons, List.map_nil, List.getD_cons_zero, List.getD_cons_succ]; repeat (go_big_quiet_step (fail))
          refine wpQuiet_nil ?_
          refine rg_end ?_
          go_wp2_with (fail)
          exact ⟨⟨k + 1, ⟨win, thr, fl', since, rcv, ack⟩, by go_num, by omega, ⟨⟨h1, h2, hfl, h4, h5⟩, h6, by simp only; omega, h8, h9⟩, bl5.drew, k5.drew⟩, by simp [intOf]; omega⟩
        have hxb1 : (xk == 1) = false := by simpa using hxk1
        have hxc1 : (xk != 1) = true := by simpa using hxk1
        clear hxk1
        by_cases hxk2 : xk = 2
        · subst hxk2
          have bx := Blk.new wr #[.int .u8 2, .slice a' xs.length cap', .int .u64 xat, .int .u64 xmo] 49
          have bw := Blk.new (wr.alloc (.cells #[.int .u8 2, .slice a' xs.length cap', .int .u64 xat, .int .u64 xmo] 49)) #[.int .u64 win, .int .u64 thr, .int .u64 fl, .int .u64 since, .bool rcv, .int .u64 ack] 42
          have kx := (hbel.alloc z0 (.cells #[.int .u8 2, .slice a' xs.length cap', .int .u64 xat, .int .u64 xmo] 49)).alloc (by simp; omega) (.cells #[.int .u64 win, .int .u64 thr, .int .u64 fl, .int .u64 since, .bool rcv, .int .u64 ack] 42)
          have blx := (blr.alloc (.cells #[.int .u8 2, .slice a' xs.length cap', .int .u64 xat, .int .u64 xmo] 49)).alloc (.cells #[.int .u64 win, .int .u64 thr, .int .u64 fl, .int .u64 since, .bool rcv, .int .u64 ack] 42)
          have hIx := HI.out.below (((Below.refl _ _).alloc (Nat.le_refl _) (.cells #[.int .u8 2, .slice a' xs.length cap', .int .u64 xat, .int .u64 xmo] 49)).alloc (by simp) (.cells #[.int .u64 win, .int .u64 thr, .int .u64 fl, .int .u64 since, .bool rcv, .int .u64 ack] 42))
          have HIX := Lib.hid hIx
          have bx' := bx.alloc (.cells #[.int .u64 win, .int .u64 thr, .int .u64 fl, .int .u64 since, .bool rcv, .int .u64 ack] 42)
          clear hIx bx
          generalize hwx : (wr.alloc (.cells #[.int .u8 2, .slice a' xs.length cap', .int .u64 xat, .int .u64 xmo] 49)).alloc (.cells #[.int .u64 win, .int .u64 thr, .int .u64 fl, .int .u64 since, .bool rcv, .int .u64 ack] 42) = wx at *
          have zx : wx.heap.size = wr.heap.size + 1 + 1 := by rw [← hwx]; simp
          simp only [World.size_alloc] at bw
          have HWX := Lib.hid hwx
          clear hwx
          go_wp2_with (fail)
          rw [HWX.out]
          have e0 : wx.cell? ⟨wr.heap.size, 2, none⟩ = some (.int .u64 xat) := bx'.cell 2 _ rfl
          have e1 : wx.cell? ⟨wr.heap.size, 0, none⟩ = some (.int .u8 2) := bx'.cell 0 _ rfl
          have e2 : wx.cell? ⟨wr.heap.size, 1, none⟩ = some (.slice a' xs.length cap') := bx'.cell 1 _ rfl
          have e3 : wx.cell? ⟨wr.heap.size, 3, none⟩ = some (.int .u64 xmo) := bx'.cell 3 _ rfl
          refine rg_start 6 ?_
          refine rg_below fun p hx hne hC hbelp => ?_
          refine rg_quiet 2 [0,1,2,3] hC ?_
          simp only [pickD, List.map_cons, List.map_nil, List.getD_cons_zero, List.getD_cons_succ]; repeat (go_big_quiet_step (fail))
          refine wpQuiet_nil ?_
          refine rg_act 4 ?_
          go_wp2_with (fail)
          refine (size_any ⟨2, xs, xat, xmo⟩ a' cap' _ hsz (HIX.out.below (Below.refl _ _).drew)).mono ?_
          rintro e w4 ⟨rfl, hb4⟩
          have hn := HXN.out (by first | rfl | trivial)
          generalize xs.getD 0 0 = n at *
          go_wp2_with (fail)
          refine ⟨hbelp _ hb4, ?_⟩
          refine rg_cut 5 ?_
          go_wp2_with (fail)
          refine (acked_any B ⟨win, thr, fl, since, rcv, ack⟩ xat n w4 ⟨h1, h2, h3, h4, h5⟩ hat.1 hn.1 (by omega) h6 h8 (by simp only; omega) ((blx.drew).below hb4)).mono ?_
          rintro e w5 ⟨rfl, ⟨s5, bl5, i1, i2, i3, i4, i5, i6, i7, i8, _⟩, ho5⟩
          have zw4 := hb4.size
          simp only [World.size_drew] at zw4
          replace bx' := bx'.drew.below hb4
          replace bw := bw.drew.below hb4
          replace kx := below_on kx.drew hb4 (by simp; omega)
          have zw5 := ho5.size
          have bx5 := ho5.blk bx' (by show ¬ (_ = _); omega)
          have bw5 := ho5.blk bw (by show ¬ (_ = _); omega)
          have k5 := below_onto kx ho5 (by omega) (by intro k hk; omega)
          have hc := bx5.all
          simp only [cellsAt, Nat.reduceAdd, and_true, Nat.zero_add] at hc
          obtain ⟨⟨u0, _⟩, ⟨u1, _⟩, ⟨u2, _⟩, ⟨u3, _⟩⟩ := hc
          have hc := bw5.all
          simp only [cellsAt, Nat.reduceAdd, and_true, Nat.zero_add] at hc
          obtain ⟨⟨v0, _⟩, ⟨v1, _⟩, ⟨v2, _⟩, ⟨v3, _⟩, ⟨v4, _⟩, ⟨v5, _⟩⟩ := hc
          clear c0 f0 c1 f1 c2 f2 c3 f3 c4 f4 c5 f5
          clear e0 e1 e2 e3
          obtain ⟨win', thr', fl', since', rcv', ack'⟩ := s5
          simp only at i1 i2 i3 i4 i5 i6 i7 i8
          have d0 : w5.cell? ⟨B, 0, none⟩ = some (.int .u64 win') := bl5.cell 0 _ rfl
          have hdw : decide (win' < 2400) = false := by simp; omega
          go_wp2_with (fail)
          refine rg_end0 ?_
          go_wp2_with (fail)
          refine rg_start 26 ?_
          refine rg_same fun p hx hne hC => ?_
          refine rg_quiet 0 [0,1,2,3,4,5,6,7,8,9,10,11,12,13,14,15,16,17,18,19,20,21,22,23,24,25] hC ?_
          simp only [pickD, List.map_cons, List.map_nil, List.getD_cons_zero, List.getD_cons_succ]; repeat (go_big_quiet_step (fail))
          refine wpQuiet_nil ?_
          refine rg_end ?_
          go_wp2_with (fail)
          exact ⟨⟨k + 1, ⟨win', thr', fl', since', rcv', ack'⟩, by go_num, by omega, ⟨⟨by simp only; omega, by simp only; omega, by simp only; omega, by simp only; omega, by simp only; omega⟩, by simp only; omega, by simp only; omega, by simp only; omega, by simp only; omega⟩, bl5.drew, k5.drew⟩, by simp [intOf]; omega⟩
        have hxb2 : (xk == 2) = false := by simpa using hxk2
        have hxc2 : (xk != 2) = true := by simpa using hxk2
        clear hxk2
        by_cases hxk3 : xk = 3
        · subst hxk3
          cases rcv
          · have bx := Blk.new wr #[.int .u8 3, .slice a' xs.length cap', .int .u64 xat, .int .u64 xmo] 49
            have bw := Blk.new (wr.alloc (.cells #[.int .u8 3, .slice a' xs.length cap', .int .u64 xat, .int .u64 xmo] 49)) #[.int .u64 win, .int .u64 thr, .int .u64 fl, .int .u64 since, .bool false, .int .u64 ack] 42
            have kx := (hbel.alloc z0 (.cells #[.int .u8 3, .slice a' xs.length cap', .int .u64 xat, .int .u64 xmo] 49)).alloc (by simp; omega) (.cells #[.int .u64 win, .int .u64 thr, .int .u64 fl, .int .u64 since, .bool false, .int .u64 ack] 42)
            have blx := (blr.alloc (.cells #[.int .u8 3, .slice a' xs.length cap', .int .u64 xat, .int .u64 xmo] 49)).alloc (.cells #[.int .u64 win, .int .u64 thr, .int .u64 fl, .int .u64 since, .bool false, .int .u64 ack] 42)
            have hIx := HI.out.below (((Below.refl _ _).alloc (Nat.le_refl _) (.cells #[.int .u8 3, .slice a' xs.length cap', .int .u64 xat, .int .u64 xmo] 49)).alloc (by simp) (.cells #[.int .u64 win, .int .u64 thr, .int .u64 fl, .int .u64 since, .bool false, .int .u64 ack] 42))
            have HIX := Lib.hid hIx
            have bx' := bx.alloc (.cells #[.int .u64 win, .int .u64 thr, .int .u64 fl, .int .u64 since, .bool false, .int .u64 ack] 42)
            clear hIx bx
            generalize hwx : (wr.alloc (.cells #[.int .u8 3, .slice a' xs.length cap', .int .u64 xat, .int .u64 xmo] 49)).alloc (.cells #[.int .u64 win, .int .u64 thr, .int .u64 fl, .int .u64 since, .bool false, .int .u64 ack] 42) = wx at *
            have zx : wx.heap.size = wr.heap.size + 1 + 1 := by rw [← hwx]; simp
            simp only [World.size_alloc] at bw
            have HWX := Lib.hid hwx
            clear hwx
            have esum : IntKind.u64.wrap (xat + xmo) = xat + xmo := IntWalk.u64_in _ (by omega)
            clear esum
            go_wp2_with (fail)
            rw [HWX.out]
            refine (lost_any B ⟨win, thr, fl, since, false, ack⟩ xat (xat + xmo) wx ⟨h1, h2, h3, h4, h5⟩ hat.1 (by omega) blx).mono ?_
            rintro e w5 ⟨rfl, bl5, ho5⟩
            have zw5 := ho5.size
            have bx5 := ho5.blk bx' (by show ¬ (_ = _); omega)
            have bw5 := ho5.blk bw (by show ¬ (_ = _); omega)
            have k5 := below_onto kx ho5 (by omega) (by intro k hk; omega)
            have hc := bx5.all
            simp only [cellsAt, Nat.reduceAdd, and_true, Nat.zero_add] at hc
            obtain ⟨⟨u0, _⟩, ⟨u1, _⟩, ⟨u2, _⟩, ⟨u3, _⟩⟩ := hc
            have hc := bw5.all
            simp only [cellsAt, Nat.reduceAdd, and_true, Nat.zero_add] at hc
            obtain ⟨⟨v0, _⟩, ⟨v1, _⟩, ⟨v2, _⟩, ⟨v3, _⟩, ⟨v4, _⟩, ⟨v5, _⟩⟩ := hc
            clear c0 f0 c1 f1 c2 f2 c3 f3 c4 f4 c5 f5
            rw [show lostF ⟨win, thr, fl, since, false, ack⟩ xat (xat + xmo) = ⟨max (win / 2) 2400, max (win / 2) 2400, fl, xat + xmo, true, 0⟩ from if_neg (by simp)] at bl5
            have hc := Blk.all (l := [.int .u64 (max (win / 2) 2400), .int .u64 (max (win / 2) 2400), .int .u64 fl, .int .u64 (xat + xmo), .bool true, .int .u64 0]) bl5
            simp only [cellsAt, Nat.reduceAdd, and_true, Nat.zero_add] at hc
            obtain ⟨⟨d0, _⟩, ⟨d1, _⟩, ⟨d2, _⟩, ⟨d3, _⟩, ⟨d4, _⟩, ⟨d5, _⟩⟩ := hc
            have hdw : decide ((max (win / 2) 2400) < 2400) = false := by simp; omega
            have hdv : decide ((max (win / 2) 2400) < win / 2) = false := by simp; omega
            skip
            go_wp2_with (fail)
            refine rg_start 28 ?_
            refine rg_same fun p hx hne hC => ?_
            refine rg_quiet 0 [0,1,2,3,4,5,6,7,8,9,10,11,12,13,14,15,16,17,18,19,20,21,22,23,24,25,26,27] hC ?_
            simp only [pickD, List.map_cons, List.map_nil, List.getD_cons_zero, List.getD_cons_succ]; repeat (go_big_quiet_step (fail))
            refine wpQuiet_nil ?_
            refine rg_end ?_
            go_wp2_with (fail)
            refine rg_start 26 ?_
            refine rg_same fun p hx hne hC => ?_
            refine rg_quiet 0 [0,1,2,3,4,5,6,7,8,9,10,11,12,13,14,15,16,17,18,19,20,21,22,23,24,25] hC ?_
            simp only [pickD, List.map_cons, List.map_nil, List.getD_cons_zero, List.getD_cons_succ]; repeat (go_big_quiet_step (fail))
            refine wpQuiet_nil ?_
            refine rg_end ?_
            go_wp2_with (fail)
            exact ⟨⟨k + 1, ⟨(max (win / 2) 2400), (max (win / 2) 2400), fl, (xat + xmo), true, 0⟩, by go_num, by omega, ⟨⟨by simp only; omega, by simp only; omega, h3, by simp only; omega, by simp only; omega⟩, by simp only; omega, by simp only; omega, by simp only; omega, by simp only; omega⟩, bl5.drew.drew, k5.drew.drew⟩, by simp [intOf]; omega⟩
          · by_cases hle : xat ≤ since
            · have bx := Blk.new wr #[.int .u8 3, .slice a' xs.length cap', .int .u64 xat, .int .u64 xmo] 49
              have bw := Blk.new (wr.alloc (.cells #[.int .u8 3, .slice a' xs.length cap', .int .u64 xat, .int .u64 xmo] 49)) #[.int .u64 win, .int .u64 thr, .int .u64 fl, .int .u64 since, .bool true, .int .u64 ack] 42
              have kx := (hbel.alloc z0 (.cells #[.int .u8 3, .slice a' xs.length cap', .int .u64 xat, .int .u64 xmo] 49)).alloc (by simp; omega) (.cells #[.int .u64 win, .int .u64 thr, .int .u64 fl, .int .u64 since, .bool true, .int .u64 ack] 42)
              have blx := (blr.alloc (.cells #[.int .u8 3, .slice a' xs.length cap', .int .u64 xat, .int .u64 xmo] 49)).alloc (.cells #[.int .u64 win, .int .u64 thr, .int .u64 fl, .int .u64 since, .bool true, .int .u64 ack] 42)
              have hIx := HI.out.below (((Below.refl _ _).alloc (Nat.le_refl _) (.cells #[.int .u8 3, .slice a' xs.length cap', .int .u64 xat, .int .u64 xmo] 49)).alloc (by simp) (.cells #[.int .u64 win, .int .u64 thr, .int .u64 fl, .int .u64 since, .bool true, .int .u64 ack] 42))
              have HIX := Lib.hid hIx
              have bx' := bx.alloc (.cells #[.int .u64 win, .int .u64 thr, .int .u64 fl, .int .u64 since, .bool true, .int .u64 ack] 42)
              clear hIx bx
              generalize hwx : (wr.alloc (.cells #[.int .u8 3, .slice a' xs.length cap', .int .u64 xat, .int .u64 xmo] 49)).alloc (.cells #[.int .u64 win, .int .u64 thr, .int .u64 fl, .int .u64 since, .bool true, .int .u64 ack] 42) = wx at *
              have zx : wx.heap.size = wr.heap.size + 1 + 1 := by rw [← hwx]; simp
              simp only [World.size_alloc] at bw
              have HWX := Lib.hid hwx
              clear hwx
              have esum : IntKind.u64.wrap (xat + xmo) = xat + xmo := IntWalk.u64_in _ (by omega)
              clear esum
              go_wp2_with (fail)
              rw [HWX.out]
              refine (lost_any B ⟨win, thr, fl, since, true, ack⟩ xat (xat + xmo) wx ⟨h1, h2, h3, h4, h5⟩ hat.1 (by omega) blx).mono ?_
              rintro e w5 ⟨rfl, bl5, ho5⟩
              have zw5 := ho5.size
              have bx5 := ho5.blk bx' (by show ¬ (_ = _); omega)
              have bw5 := ho5.blk bw (by show ¬ (_ = _); omega)
              have k5 := below_onto kx ho5 (by omega) (by intro k hk; omega)
              have hc := bx5.all
              simp only [cellsAt, Nat.reduceAdd, and_true, Nat.zero_add] at hc
              obtain ⟨⟨u0, _⟩, ⟨u1, _⟩, ⟨u2, _⟩, ⟨u3, _⟩⟩ := hc
              have hc := bw5.all
              simp only [cellsAt, Nat.reduceAdd, and_true, Nat.zero_add] at hc
              obtain ⟨⟨v0, _⟩, ⟨v1, _⟩, ⟨v2, _⟩, ⟨v3, _⟩, ⟨v4, _⟩, ⟨v5, _⟩⟩ := hc
              clear c0 f0 c1 f1 c2 f2 c3 f3 c4 f4 c5 f5
              rw [show lostF ⟨win, thr, fl, since, true, ack⟩ xat (xat + xmo) = ⟨win, thr, fl, since, true, ack⟩ from if_pos ⟨rfl, hle⟩] at bl5
              have hc := Blk.all (l := [.int .u64 win, .int .u64 thr, .int .u64 fl, .int .u64 since, .bool true, .int .u64 ack]) bl5
              simp only [cellsAt, Nat.reduceAdd, and_true, Nat.zero_add] at hc
              obtain ⟨⟨d0, _⟩, ⟨d1, _⟩, ⟨d2, _⟩, ⟨d3, _⟩, ⟨d4, _⟩, ⟨d5, _⟩⟩ := hc
              have hdw : decide (win < 2400) = false := by simp; omega
              have hdv : decide (win < win / 2) = false := by simp; omega
              have hds : decide (xat ≤ since) = true := by simp; omega
              go_wp2_with (fail)
              refine rg_start 28 ?_
              refine rg_same fun p hx hne hC => ?_
              refine rg_quiet 0 [0,1,2,3,4,5,6,7,8,9,10,11,12,13,14,15,16,17,18,19,20,21,22,23,24,25,26,27] hC ?_
              simp only [pickD, List.map_cons, List.map_nil, List.getD_cons_zero, List.getD_cons_succ]; repeat (go_big_quiet_step (fail))
              refine wpQuiet_nil ?_
              refine rg_end ?_
              go_wp2_with (fail)
              refine rg_start 26 ?_
              refine rg_same fun p hx hne hC => ?_
              refine rg_quiet 0 [0,1,2,3,4,5,6,7,8,9,10,11,12,13,14,15,16,17,18,19,20,21,22,23,24,25] hC ?_
              simp only [pickD, List.map_cons, List.map_nil, List.getD_cons_zero, List.getD_cons_succ]; repeat (go_big_quiet_step (fail))
              refine wpQuiet_nil ?_
              refine rg_end ?_
              go_wp2_with (fail)
              exact ⟨⟨k + 1, ⟨win, thr, fl, since, true, ack⟩, by go_num, by omega, ⟨⟨h1, h2, h3, h4, h5⟩, h6, by simp only; omega, h8, h9⟩, bl5.drew.drew, k5.drew.drew⟩, by simp [intOf]; omega⟩
            · have bx := Blk.new wr #[.int .u8 3, .slice a' xs.length cap', .int .u64 xat, .int .u64 xmo] 49
              have bw := Blk.new (wr.alloc (.cells #[.int .u8 3, .slice a' xs.length cap', .int .u64 xat, .int .u64 xmo] 49)) #[.int .u64 win, .int .u64 thr, .int .u64 fl, .int .u64 since, .bool true, .int .u64 ack] 42
              have kx := (hbel.alloc z0 (.cells #[.int .u8 3, .slice a' xs.length cap', .int .u64 xat, .int .u64 xmo] 49)).alloc (by simp; omega) (.cells #[.int .u64 win, .int .u64 thr, .int .u64 fl, .int .u64 since, .bool true, .int .u64 ack] 42)
              have blx := (blr.alloc (.cells #[.int .u8 3, .slice a' xs.length cap', .int .u64 xat, .int .u64 xmo] 49)).alloc (.cells #[.int .u64 win, .int .u64 thr, .int .u64 fl, .int .u64 since, .bool true, .int .u64 ack] 42)
              have hIx := HI.out.below (((Below.refl _ _).alloc (Nat.le_refl _) (.cells #[.int .u8 3, .slice a' xs.length cap', .int .u64 xat, .int .u64 xmo] 49)).alloc (by simp) (.cells #[.int .u64 win, .int .u64 thr, .int .u64 fl, .int .u64 since, .bool true, .int .u64 ack] 42))
              have HIX := Lib.hid hIx
              have bx' := bx.alloc (.cells #[.int .u64 win, .int .u64 thr, .int .u64 fl, .int .u64 since, .bool true, .int .u64 ack] 42)
              clear hIx bx
              generalize hwx : (wr.alloc (.cells #[.int .u8 3, .slice a' xs.length cap', .int .u64 xat, .int .u64 xmo] 49)).alloc (.cells #[.int .u64 win, .int .u64 thr, .int .u64 fl, .int .u64 since, .bool true, .int .u64 ack] 42) = wx at *
              have zx : wx.heap.size = wr.heap.size + 1 + 1 := by rw [← hwx]; simp
              simp only [World.size_alloc] at bw
              have HWX := Lib.hid hwx
              clear hwx
              have esum : IntKind.u64.wrap (xat + xmo) = xat + xmo := IntWalk.u64_in _ (by omega)
              clear esum
              go_wp2_with (fail)
              rw [HWX.out]
              refine (lost_any B ⟨win, thr, fl, since, true, ack⟩ xat (xat + xmo) wx ⟨h1, h2, h3, h4, h5⟩ hat.1 (by omega) blx).mono ?_
              rintro e w5 ⟨rfl, bl5, ho5⟩
              have zw5 := ho5.size
              have bx5 := ho5.blk bx' (by show ¬ (_ = _); omega)
              have bw5 := ho5.blk bw (by show ¬ (_ = _); omega)
              have k5 := below_onto kx ho5 (by omega) (by intro k hk; omega)
              have hc := bx5.all
              simp only [cellsAt, Nat.reduceAdd, and_true, Nat.zero_add] at hc
              obtain ⟨⟨u0, _⟩, ⟨u1, _⟩, ⟨u2, _⟩, ⟨u3, _⟩⟩ := hc
              have hc := bw5.all
              simp only [cellsAt, Nat.reduceAdd, and_true, Nat.zero_add] at hc
              obtain ⟨⟨v0, _⟩, ⟨v1, _⟩, ⟨v2, _⟩, ⟨v3, _⟩, ⟨v4, _⟩, ⟨v5, _⟩⟩ := hc
              clear c0 f0 c1 f1 c2 f2 c3 f3 c4 f4 c5 f5
              rw [show lostF ⟨win, thr, fl, since, true, ack⟩ xat (xat + xmo) = ⟨max (win / 2) 2400, max (win / 2) 2400, fl, xat + xmo, true, 0⟩ from if_neg (by intro h; have := h.2; simp only at this; omega)] at bl5
              have hc := Blk.all (l := [.int .u64 (max (win / 2) 2400), .int .u64 (max (win / 2) 2400), .int .u64 fl, .int .u64 (xat + xmo), .bool true, .int .u64 0]) bl5
              simp only [cellsAt, Nat.reduceAdd, and_true, Nat.zero_add] at hc
              obtain ⟨⟨d0, _⟩, ⟨d1, _⟩, ⟨d2, _⟩, ⟨d3, _⟩, ⟨d4, _⟩, ⟨d5, _⟩⟩ := hc
              have hdw : decide ((max (win / 2) 2400) < 2400) = false := by simp; omega
              have hdv : decide ((max (win / 2) 2400) < win / 2) = false := by simp; omega
              have hds : decide (xat ≤ since) = false := by simp; omega
              go_wp2_with (fail)
              refine rg_start 28 ?_
              refine rg_same fun p hx hne hC => ?_
              refine rg_quiet 0 [0,1,2,3,4,5,6,7,8,9,10,11,12,13,14,15,16,17,18,19,20,21,22,23,24,25,26,27] hC ?_
              simp only [pickD, List.map_cons, List.map_nil, List.getD_cons_zero, List.getD_cons_succ]; repeat (go_big_quiet_step (fail))
              refine wpQuiet_nil ?_
              refine rg_end ?_
              go_wp2_with (fail)
              refine rg_start 26 ?_
              refine rg_same fun p hx hne hC => ?_
              refine rg_quiet 0 [0,1,2,3,4,5,6,7,8,9,10,11,12,13,14,15,16,17,18,19,20,21,22,23,24,25] hC ?_
              simp only [pickD, List.map_cons, List.map_nil, List.getD_cons_zero, List.getD_cons_succ]; repeat (go_big_quiet_step (fail))
              refine wpQuiet_nil ?_
              refine rg_end ?_
              go_wp2_with (fail)
              exact ⟨⟨k + 1, ⟨(max (win / 2) 2400), (max (win / 2) 2400), fl, (xat + xmo), true, 0⟩, by go_num, by omega, ⟨⟨by simp only; omega, by simp only; omega, h3, by simp only; omega, by simp only; omega⟩, by simp only; omega, by simp only; omega, by simp only; omega, by simp only; omega⟩, bl5.drew.drew, k5.drew.drew⟩, by simp [intOf]; omega⟩
        have hxb3 : (xk == 3) = false := by simpa using hxk3
        have hxc3 : (xk != 3) = true := by simpa using hxk3
        clear hxk3
        by_cases hxk4 : xk = 4
        · subst hxk4
          have bx := Blk.new wr #[.int .u8 4, .slice a' xs.length cap', .int .u64 xat, .int .u64 xmo] 49
          have bw := Blk.new (wr.alloc (.cells #[.int .u8 4, .slice a' xs.length cap', .int .u64 xat, .int .u64 xmo] 49)) #[.int .u64 win, .int .u64 thr, .int .u64 fl, .int .u64 since, .bool rcv, .int .u64 ack] 42
          have kx := (hbel.alloc z0 (.cells #[.int .u8 4, .slice a' xs.length cap', .int .u64 xat, .int .u64 xmo] 49)).alloc (by simp; omega) (.cells #[.int .u64 win, .int .u64 thr, .int .u64 fl, .int .u64 since, .bool rcv, .int .u64 ack] 42)
          have blx := (blr.alloc (.cells #[.int .u8 4, .slice a' xs.length cap', .int .u64 xat, .int .u64 xmo] 49)).alloc (.cells #[.int .u64 win, .int .u64 thr, .int .u64 fl, .int .u64 since, .bool rcv, .int .u64 ack] 42)
          have hIx := HI.out.below (((Below.refl _ _).alloc (Nat.le_refl _) (.cells #[.int .u8 4, .slice a' xs.length cap', .int .u64 xat, .int .u64 xmo] 49)).alloc (by simp) (.cells #[.int .u64 win, .int .u64 thr, .int .u64 fl, .int .u64 since, .bool rcv, .int .u64 ack] 42))
          have HIX := Lib.hid hIx
          have bx' := bx.alloc (.cells #[.int .u64 win, .int .u64 thr, .int .u64 fl, .int .u64 since, .bool rcv, .int .u64 ack] 42)
          clear hIx bx
          generalize hwx : (wr.alloc (.cells #[.int .u8 4, .slice a' xs.length cap', .int .u64 xat, .int .u64 xmo] 49)).alloc (.cells #[.int .u64 win, .int .u64 thr, .int .u64 fl, .int .u64 since, .bool rcv, .int .u64 ack] 42) = wx at *
          have zx : wx.heap.size = wr.heap.size + 1 + 1 := by rw [← hwx]; simp
          simp only [World.size_alloc] at bw
          have HWX := Lib.hid hwx
          clear hwx
          go_wp2_with (fail)
          rw [HWX.out]
          refine (worst_any B ⟨win, thr, fl, since, rcv, ack⟩ wx blx).mono ?_
          rintro e w5 ⟨rfl, bl5, ho5⟩
          have zw5 := ho5.size
          have bx5 := ho5.blk bx' (by show ¬ (_ = _); omega)
          have bw5 := ho5.blk bw (by show ¬ (_ = _); omega)
          have k5 := below_onto kx ho5 (by omega) (by intro k hk; omega)
          have hc := bx5.all
          simp only [cellsAt, Nat.reduceAdd, and_true, Nat.zero_add] at hc
          obtain ⟨⟨u0, _⟩, ⟨u1, _⟩, ⟨u2, _⟩, ⟨u3, _⟩⟩ := hc
          have hc := bw5.all
          simp only [cellsAt, Nat.reduceAdd, and_true, Nat.zero_add] at hc
          obtain ⟨⟨v0, _⟩, ⟨v1, _⟩, ⟨v2, _⟩, ⟨v3, _⟩, ⟨v4, _⟩, ⟨v5, _⟩⟩ := hc
          clear c0 f0 c1 f1 c2 f2 c3 f3 c4 f4 c5 f5
          simp only at bl5
          have d0 : w5.cell? ⟨B, 0, none⟩ = some (.int .u64 2400) := bl5.cell 0 _ rfl
          go_wp2_with (fail)
          refine rg_start 26 ?_
          refine rg_same fun p hx hne hC => ?_
          refine rg_quiet 0 [0,1,2,3,4,5,6,7,8,9,10,11,12,13,14,15,16,17,18,19,20,21,22,23,24,25] hC ?_
          simp only [pickD, List.map_cons, List.map_nil, List.getD_cons_zero, List.getD_cons_succ]; repeat (go_big_quiet_step (fail))
          refine wpQuiet_nil ?_
          refine rg_end ?_
          go_wp2_with (fail)
          exact ⟨⟨k + 1, ⟨2400, thr, fl, since, false, 0⟩, by go_num, by omega, ⟨⟨by simp only; omega, h2, h3, h4, by simp only; omega⟩, by simp only; omega, by simp only; omega, by simp only; omega, h9⟩, bl5.drew, k5.drew⟩, by simp [intOf]; omega⟩
        have hxb4 : (xk == 4) = false := by simpa using hxk4
        have hxc4 : (xk != 4) = true := by simpa using hxk4
        clear hxk4
        have bx := Blk.new wr #[.int .u8 xk, .slice a' xs.length cap', .int .u64 xat, .int .u64 xmo] 49
        have bw := Blk.new (wr.alloc (.cells #[.int .u8 xk, .slice a' xs.length cap', .int .u64 xat, .int .u64 xmo] 49)) #[.int .u64 win, .int .u64 thr, .int .u64 fl, .int .u64 since, .bool rcv, .int .u64 ack] 42
        have kx := (hbel.alloc z0 (.cells #[.int .u8 xk, .slice a' xs.length cap', .int .u64 xat, .int .u64 xmo] 49)).alloc (by simp; omega) (.cells #[.int .u64 win, .int .u64 thr, .int .u64 fl, .int .u64 since, .bool rcv, .int .u64 ack] 42)
        have blx := (blr.alloc (.cells #[.int .u8 xk, .slice a' xs.length cap', .int .u64 xat, .int .u64 xmo] 49)).alloc (.cells #[.int .u64 win, .int .u64 thr, .int .u64 fl, .int .u64 since, .bool rcv, .int .u64 ack] 42)
        have hIx := HI.out.below (((Below.refl _ _).alloc (Nat.le_refl _) (.cells #[.int .u8 xk, .slice a' xs.length cap', .int .u64 xat, .int .u64 xmo] 49)).alloc (by simp) (.cells #[.int .u64 win, .int .u64 thr, .int .u64 fl, .int .u64 since, .bool rcv, .int .u64 ack] 42))
        have HIX := Lib.hid hIx
        have bx' := bx.alloc (.cells #[.int .u64 win, .int .u64 thr, .int .u64 fl, .int .u64 since, .bool rcv, .int .u64 ack] 42)
        clear hIx bx
        generalize hwx : (wr.alloc (.cells #[.int .u8 xk, .slice a' xs.length cap', .int .u64 xat, .int .u64 xmo] 49)).alloc (.cells #[.int .u64 win, .int .u64 thr, .int .u64 fl, .int .u64 since, .bool rcv, .int .u64 ack] 42) = wx at *
        have zx : wx.heap.size = wr.heap.size + 1 + 1 := by rw [← hwx]; simp
        simp only [World.size_alloc] at bw
        have HWX := Lib.hid hwx
        clear hwx
        have hc := bx'.all
        simp only [cellsAt, Nat.reduceAdd, and_true, Nat.zero_add] at hc
        obtain ⟨⟨u0, _⟩, ⟨u1, _⟩, ⟨u2, _⟩, ⟨u3, _⟩⟩ := hc
        have hc := bw.all
        simp only [cellsAt, Nat.reduceAdd, and_true, Nat.zero_add] at hc
        obtain ⟨⟨v0, _⟩, ⟨v1, _⟩, ⟨v2, _⟩, ⟨v3, _⟩, ⟨v4, _⟩, ⟨v5, _⟩⟩ := hc
        have d0 : wx.cell? ⟨B, 0, none⟩ = some (.int .u64 win) := blx.cell 0 _ rfl
        have hdw : decide (win < 2400) = false := by simp; omega
        go_wp2_with (fail)
        rw [HWX.out]
        refine rg_start 26 ?_
        refine rg_same fun p hx hne hC => ?_
        refine rg_quiet 0 [0,1,2,3,4,5,6,7,8,9,10,11,12,13,14,15,16,17,18,19,20,21,22,23,24,25] hC ?_
        simp only [pickD, List.map_cons, List.map_nil, List.getD_cons_zero, List.getD_cons_succ]; repeat (go_big_quiet_step (fail))
        refine wpQuiet_nil ?_
        refine rg_end ?_
        go_wp2_with (fail)
        exact ⟨⟨k + 1, ⟨win, thr, fl, since, rcv, ack⟩, by go_num, by omega, ⟨⟨h1, h2, h3, h4, h5⟩, h6, by simp only; omega, h8, h9⟩, blx.drew, kx.drew⟩, by simp [intOf]; omega⟩
      · obtain rfl : k = L.length := by omega
        go_wp2_with (fail)
        refine (works_any _).mono ?_
        rintro e w4 ⟨rfl, hb4⟩
        go_wp2_with (fail)
        go_returns
        exact ⟨rfl, below_on hbel hb4 hbel.size⟩

theorem open_acts {H : Type} {enc : TypeId × Value → H} {w : World} {base : Nat} {v : Value} {d : DataW H} {p : List MemPlace} (o : Value.okWide Try.prog w .any base 46 v)
    (h : DataW.Trod enc Try.prog w 0 (fun _ => true) true 46 v d p) (z : Sized Try.prog 46 d) : ∃ a cap L, v = .slice a L.length cap ∧ L.length ≤ 140737488351232 ∧ SlOf w a 4 (ActAt w) L := by
  obtain ⟨a0, len, cap0, rfl⟩ := WideShapes.okWide_slice Try.underlying46 o
  obtain ⟨fuel, hf⟩ := h
  simp only [Value.cells] at hf
  have hb : Try.prog.bytesOf 49 = 48 := by kernel_rfl
  have hb2 : Try.prog.bytesOf 24 = 8 := by kernel_rfl
  obtain ⟨a, L, cap, hcs, h1, h2, h3, h4, h5⟩ := open_slof (enc := enc) (size := 4) (ActAt w) Try.underlying46 (by kernel_rfl) (by omega) (fun n cs y hl ht hz => by
    have hf := open_fields Try.underlying49 rfl (by kernel_rfl) ht hz hl
    obtain ⟨v0, n0, z0, e0, t0, _⟩ := hf 0 _ rfl
    obtain ⟨v1, n1, z1, e1, t1, s1⟩ := hf 1 _ rfl
    obtain ⟨v2, n2, z2, e2, t2, _⟩ := hf 2 _ rfl
    obtain ⟨v3, n3, z3, e3, t3, _⟩ := hf 3 _ rfl
    obtain ⟨k, i0, _, w0⟩ := DataW.trod_int Try.underlying5 t0
    obtain ⟨at_, i2, _, w2⟩ := DataW.trod_int Try.underlying24 t2
    obtain ⟨mo, i3, _, w3⟩ := DataW.trod_int Try.underlying24 t3
    obtain ⟨a', X, c', rfl, g1, g2, g3, g4, g5⟩ := open_ints_z Try.underlying37 Try.underlying24 (by kernel_rfl) t1 s1
    simp only [List.cons.injEq, and_true] at i0 i2 i3
    subst i0 i2 i3
    rw [hb2] at g3
    have hX : X.length ≤ 140737488351232 := by unfold reachBytes at g3; omega
    refine ⟨⟨k, X, at_, mo⟩, a', c', ?_, bounds_u8 w0, hX, bounds_u64 w2, bounds_u64 w3, g5⟩
    exact list4 hl e0 e1 e2 e3) (by simpa using hf) z
  rw [hb] at h3
  have hX : L.length ≤ 140737488351232 := by unfold reachBytes at h3; omega
  exact ⟨a, cap, L, (List.cons.inj hcs).1, hX, h5⟩

theorem walk_RenoFalls (H : Type) (enc : TypeId × Value → H) (w : World) (base : Nat) (v0 : Value) (d0 : DataW H) (p0 : List MemPlace)
    (o0 : Value.okWide Try.prog w .any base 46 v0) (h0 : DataW.Trod enc Try.prog w 0 (fun _ => true) true 46 v0 d0 p0) (z0 : Sized Try.prog 46 d0) :
    Calls Try.prog 7 #[v0] w fun e w' => e = .returned (.bool true) ∧ Below w.heap.size w w' := by
  obtain ⟨a, cap, L, rfl, hl, hL⟩ := open_acts o0 h0 z0
  exact falls_law a cap L w hL hl

end Reno
end Go.Proofs.Ytnnlejllhmhmmaa
