/- Statements of layer 13: RttBounds, RttSteady: the walks. -/
import Derived.Test.YtnnlejllhmhmmaaRttLaw
import Derived.Deep.SlicePairs
import Derived.ProofKit
namespace Go.Proofs.Ytnnlejllhmhmmaa
open Go.RowKit
set_option linter.unusedVariables false
namespace Rtt

/-! ### RttSteady -/
def steadyVar : Nat → Int → Int
  | 0, n => n / 2
  | k + 1, n => 3 * steadyVar k n / 4
theorem steadyVar_bd (n : Int) (h0 : 0 ≤ n) (h1 : n ≤ 1099511627776) : ∀ k, 0 ≤ steadyVar k n ∧ steadyVar k n ≤ 1099511627776
  | 0 => by unfold steadyVar; omega
  | k + 1 => by have := steadyVar_bd n h0 h1 k; unfold steadyVar; omega
theorem steadyVar_mono (n m : Int) (h : n ≤ m) : ∀ k, steadyVar k n ≤ steadyVar k m
  | 0 => by unfold steadyVar; omega
  | k + 1 => by have := steadyVar_mono n m h k; unfold steadyVar; omega
theorem steadyVar_end (n : Int) (h0 : 0 ≤ n) (h1 : n ≤ 1099511627776) : steadyVar 199 n = 0 := by
  have a := steadyVar_bd n h0 h1 199
  have b := steadyVar_mono n 1099511627776 h1 199
  have c : steadyVar 199 1099511627776 = 0 := by decide +kernel
  omega
def steadyS (n : Int) : Nat → RS
  | 0 => zero
  | k + 1 => ⟨true, n, n, n, steadyVar k n⟩
theorem steadyS_ok (n : Int) (h0 : 0 ≤ n) (h1 : n < 1099511627776) : ∀ k, (steadyS n k).ok
  | 0 => zero_ok
  | k + 1 => by have := steadyVar_bd n h0 (by omega) k; unfold steadyS RS.ok; simp only; omega
theorem steadyS_step (n : Int) (h0 : 0 ≤ n) (h1 : n < 1099511627776) : ∀ k, sampleF (steadyS n k) n 0 = steadyS n (k + 1)
  | 0 => by
    unfold sampleF steadyS zero steadyVar
    simp only [RS.mk.injEq, true_and]
    omega
  | k + 1 => by
    have := steadyVar_bd n h0 (by omega) k
    unfold sampleF
    simp only [steadyS, steadyVar, RS.mk.injEq, true_and]
    have e1 : min n 1099511627776 = n := by omega
    have e2 : min n n = n := by omega
    have e3 : min (0 : Int) 1099511627776 = 0 := by omega
    simp only [e1, e2, e3, Int.add_zero, Int.le_refl, if_true, Int.sub_zero]
    refine ⟨trivial, trivial, ?_, ?_⟩ <;> omega

theorem steady_last (n : Int) (h0 : 0 ≤ n) (h1 : n < 1099511627776) : steadyS n 200 = ⟨true, n, n, n, 0⟩ := by
  show (⟨true, n, n, n, steadyVar 199 n⟩ : RS) = _
  rw [steadyVar_end n h0 (by omega)]
theorem steady_pto (n : Int) (h0 : 0 ≤ n) (h1 : n < 1099511627776) : ptoF ⟨true, n, n, n, 0⟩ 0 0 = min (n + 1000) 1099511627776 := by
  unfold ptoF ptoLoop pto0 knownF k0F
  simp only
  omega

set_option maxRecDepth 100000 in
set_option maxHeartbeats 1000000 in
theorem steady_law (n0 : Int) (w : World) (hn : 0 ≤ n0) (hn' : n0 ≤ 18446744073709551615) :
    Calls Try.prog 5 #[.int .u64 n0] w fun e w' => e = .returned (.bool true) ∧ Below w.heap.size w w' := by
  obtain ⟨n, hnd⟩ : ∃ n, Hid (n0 % 1099511627776 = n) := ⟨_, rfl⟩
  have h0 : 0 ≤ n := by have := hnd.out; omega
  have h1 : n < 1099511627776 := by have := hnd.out; omega
  go_enter Try.func5, Try.ntmps5
  go_wp2_with (fail)
  rw [hnd.out]
  go_loopw [4, 9] (fun _ i wr => ∃ k : Nat, i = .int .i64 k ∧ k ≤ 200 ∧ Blk wr w.heap.size (steadyS n k).vals 28 ∧ Below w.heap.size w wr) (fun _ i _ => 200 - (intOf i).toNat)
  case atStart => exact ⟨0, rfl, by omega, Blk.new _ _ _, (Below.refl _ _).alloc (Nat.le_refl _) _⟩
  case round =>
    obtain ⟨k, rfl, hk, hbk, hbel⟩ := hrel
    by_cases hlt : k < 200
    · obtain ⟨s, hs⟩ : ∃ s, Hid (steadyS n k = s) := ⟨_, rfl⟩
      rw [hs.out] at hbk
      have hok : s.ok := hs.out ▸ steadyS_ok n h0 h1 k
      obtain ⟨has, la, mi, sm, va⟩ := s
      have hc := Blk.all (l := [.bool has, .int .u64 la, .int .u64 mi, .int .u64 sm, .int .u64 va]) hbk
      simp only [cellsAt, Nat.reduceAdd, and_true, Nat.zero_add] at hc
      obtain ⟨⟨c0, f0⟩, ⟨c1, f1⟩, ⟨c2, f2⟩, ⟨c3, f3⟩, ⟨c4, f4⟩⟩ := hc
      go_wp2_with (fail)
      refine (sample_any _ ⟨has, la, mi, sm, va⟩ n 0 _ (by omega) (by omega) hok hbk).mono ?_
      rintro e w1 ⟨rfl, hb1, ho1⟩
      have e1 : sampleF ⟨has, la, mi, sm, va⟩ n 0 = ⟨true, n, n, n, steadyVar k n⟩ := by rw [← hs.out]; exact steadyS_step n h0 h1 k
      rw [e1] at hb1
      have e1' := Lib.hid e1
      clear e1 c0 f0 c1 f1 c2 f2 c3 f3 c4 f4
      have hc := hb1.all
      simp only [cellsAt, Nat.reduceAdd, and_true, Nat.zero_add] at hc
      obtain ⟨⟨c0, f0⟩, ⟨c1, f1⟩, ⟨c2, f2⟩, ⟨c3, f3⟩, ⟨c4, f4⟩⟩ := hc
      have hw1 := below_onto hbel ho1 hbel.size (by intro k hk; omega)
      have hkm : k = 0 ∨ 1 ≤ k := by omega
      have hv := steadyVar_bd n h0 (by omega) k
      generalize hvv : steadyVar k n = v1 at *
      rcases hkm with hk0 | hk1
      · subst hk0
        have hz := hs.out
        simp only [steadyS, zero, RS.mk.injEq] at hz
        obtain ⟨rfl, rfl, rfl, rfl, rfl⟩ := hz
        have hvv' := Lib.hid hvv
        clear hvv
        go_wp2_with (fail)
        go_roundw
        case rel => exact ⟨1, by go_num, by omega, by simp only [steadyS]; rw [hvv'.out]; exact hb1, hw1⟩
        case measure => simp [intOf]
      · have hva : v1 ≤ va := by
          obtain ⟨k, rfl⟩ : ∃ j, k = j + 1 := ⟨k - 1, by omega⟩
          have := congrArg RS.va hs.out
          simp only [steadyS] at this
          rw [← this, ← hvv, steadyVar]
          have := steadyVar_bd n h0 (by omega) k
          omega
        have hvv' := Lib.hid hvv
        clear hvv
        by_cases hp : 0 < va
        all_goals
          go_wp2_with (fail)
          go_roundw
          case rel => exact ⟨k + 1, by go_num, by omega, by simp only [steadyS]; rw [hvv'.out]; exact hb1, hw1⟩
          case measure => simp [intOf]; omega
    · obtain rfl : k = 200 := by omega
      rw [steady_last n h0 h1] at hbk
      have hc := hbk.all
      simp only [cellsAt, Nat.reduceAdd, and_true, Nat.zero_add] at hc
      obtain ⟨⟨c0, f0⟩, ⟨c1, f1⟩, ⟨c2, f2⟩, ⟨c3, f3⟩, ⟨c4, f4⟩⟩ := hc
      have z0 := hbel.size
      go_wp2_with (fail)
      refine (pto_any _ ⟨true, n, n, n, 0⟩ 0 0 _ (by omega) (by omega) (by omega) (by unfold RS.ok; simp only; omega) hbk).mono ?_
      rintro e w1 ⟨rfl, hb1⟩
      rw [steady_pto n h0 h1]
      have k1 := below_on hbel hb1 z0
      have z1 := hb1.size
      go_wp2_with (fail)
      refine (works_any _).mono ?_
      rintro e w2 ⟨rfl, hb2⟩
      have k2 := below_on k1 hb2 (by omega)
      go_wp2_with (fail)
      go_returns
      exact ⟨rfl, k2⟩

theorem walk_RttSteady (H : Type) (enc : TypeId × Value → H) (w : World) (base : Nat) (v0 : Value) (d0 : DataW H) (p0 : List MemPlace) (o0 : Value.okWide Try.prog w .any base 24 v0)
    (h0 : DataW.Trod enc Try.prog w 0 (fun _ => true) true 24 v0 d0 p0) : Calls Try.prog 5 #[v0] w fun e w' => e = .returned (.bool true) ∧ Below w.heap.size w w' := by
  obtain ⟨x, rfl, rfl, rfl, wx⟩ := ChangeShapes.open_int Try.underlying24 o0 h0
  have hx := bounds_u64 wx
  exact steady_law x w hx.1 hx.2

/-! ### RttBounds -/
/-- A slice of samples: its numbers. -/
def SamplesAt (w : World) (a : Option Addr) (len : Nat) (L D : Nat → Int) : Prop :=
  ∀ i, i < len → ∃ b off, a = some ⟨b, off, none⟩ ∧ b < w.heap.size ∧ w.cell? ⟨b, off + i * 2, none⟩ = some (.int .u64 (L i)) ∧ w.cell? ⟨b, off + i * 2 + 1, none⟩ = some (.int .u64 (D i)) ∧
    0 ≤ L i ∧ L i ≤ 18446744073709551615 ∧ 0 ≤ D i ∧ D i ≤ 18446744073709551615

theorem open_samples {H : Type} {enc : TypeId × Value → H} {w : World} {base : Nat} {v : Value} {d : DataW H} {p : List MemPlace} (o : Value.okWide Try.prog w .any base 32 v)
    (h : DataW.Trod enc Try.prog w 0 (fun _ => true) true 32 v d p) : ∃ a len cap L D, v = .slice a len cap ∧ len ≤ maxLen ∧ SamplesAt w a len L D := by
  obtain ⟨a, len, cap, rfl⟩ := WideShapes.okWide_slice Try.underlying32 o
  obtain ⟨fuel, hf⟩ := h
  rcases Deep.open_slice_pairs Try.underlying32 Try.underlying34 (by kernel_rfl) rfl rfl (by kernel_rfl) (by kernel_rfl) hf with ⟨hcs, _⟩ | ⟨x, l, c, m, n, V0, V1, D0, D1, P0, P1, hcs, _, hl, hm, hmm, _, hall⟩
  · simp [Value.cells] at hcs
    obtain ⟨rfl, rfl, rfl⟩ := hcs
    exact ⟨_, _, _, fun _ => 0, fun _ => 0, rfl, by simp, fun i hi => by omega⟩
  · simp [Value.cells] at hcs
    obtain ⟨rfl, rfl, rfl⟩ := hcs
    have hlm : len ≤ m := by rw [hmm]; split <;> omega
    have hm' : len ≤ maxLen := by omega
    have key : ∀ i, i < len → ∃ (y z : Int), V0 i = .int .u64 y ∧ V1 i = .int .u64 z ∧ 0 ≤ y ∧ y ≤ 18446744073709551615 ∧ 0 ≤ z ∧ z ≤ 18446744073709551615 := by
      intro i hi
      obtain ⟨_, _, t0, t1⟩ := hall i (by omega)
      obtain ⟨y, e0, _, wy⟩ := DataW.trod_int Try.underlying24 t0
      obtain ⟨z, e1, _, wz⟩ := DataW.trod_int Try.underlying24 t1
      simp at e0 e1
      have := bounds_u64 wy
      have := bounds_u64 wz
      exact ⟨y, z, e0, e1, by omega, by omega, by omega, by omega⟩
    refine ⟨_, _, _, fun i => intOf (V0 i), fun i => intOf (V1 i), rfl, hm', fun i hi => ?_⟩
    obtain ⟨g0, g1, _, _⟩ := hall i (by omega)
    obtain ⟨y, z, e0, e1, b1, b2, b3, b4⟩ := key i hi
    obtain ⟨b, off, spot⟩ := x
    have hspot : spot = none := by
      obtain ⟨g00, _⟩ := hall 0 (by omega)
      have := World.cell?_spot g00
      simpa [Addr.add] using this
    subst hspot
    rw [addr_add] at g0 g1
    refine ⟨b, off, rfl, World.block_lt_of_cell? w _ g0, ?_, ?_, ?_⟩
    · simp only [e0, intOf]; rw [e0] at g0; exact g0
    · simp only [e1, intOf]; rw [e1] at g1; exact g1
    · simp only [e0, e1, intOf]; exact ⟨b1, b2, b3, b4⟩

/-- What holds of the way, and of the least and the greatest sample, behind some samples. -/
def Inv (k : Nat) (s : RS) (le mo : Int) : Prop :=
  s.ok ∧ 0 ≤ mo ∧ mo ≤ 1099511627776 ∧ 0 ≤ le ∧ le ≤ 1099511627776 ∧ ((k = 0 ∧ s = zero ∧ le = 1099511627776 ∧ mo = 0) ∨ (s.has = true ∧ s.mi = le ∧ le ≤ mo ∧ s.sm ≤ mo ∧ le ≤ s.sm + 7 ∧ s.va ≤ mo))

theorem Inv.step {k : Nat} {s : RS} {le mo : Int} (h : Inv k s le mo) (l d : Int) (hl : 0 ≤ l) (hd : 0 ≤ d) :
    Inv (k + 1) (sampleF s l d) (min le (min l 1099511627776)) (max mo (min l 1099511627776)) ∧ (sampleF s l d).la = min l 1099511627776 ∧ (sampleF s l d).mi = min le (min l 1099511627776) ∧
      (sampleF s l d).sm ≤ max mo (min l 1099511627776) ∧ min le (min l 1099511627776) ≤ (sampleF s l d).sm + 8 ∧ (sampleF s l d).va ≤ max mo (min l 1099511627776) ∧ (sampleF s l d).sm ≤ 1099511627776 := by
  obtain ⟨hok, h1, h2, h3, h4, h5⟩ := h
  have hok' := sampleF_ok s l d hl hd hok
  have hsm := hok'.2.2.1
  rcases h5 with ⟨_, rfl, rfl, rfl⟩ | ⟨g1, g2, g3, g4, g5, g6⟩
  · have q1 : (0:Int) ≤ max 0 (min l 1099511627776) ∧ max 0 (min l 1099511627776) ≤ 1099511627776 ∧ 0 ≤ min 1099511627776 (min l 1099511627776) ∧ min 1099511627776 (min l 1099511627776) ≤ 1099511627776 := by omega
    refine ⟨⟨hok', q1.1, q1.2.1, q1.2.2.1, q1.2.2.2, .inr ?_⟩, ?_⟩
    · simp only [sampleF, zero]; refine ⟨trivial, ?_⟩; omega
    · simp only [sampleF, zero, true_and] at hsm ⊢; omega
  · obtain ⟨has, la, mi, sm, va⟩ := s
    obtain ⟨o1, o2, o3, o4⟩ := hok
    simp only at g1 g2 g3 g4 g5 g6 o1 o2 o3 o4
    subst g1 g2
    have key : ∀ adj, adj = (if min mi (min l 1099511627776) + min d 1099511627776 ≤ min l 1099511627776 then min l 1099511627776 - min d 1099511627776 else min l 1099511627776) →
        min mi (min l 1099511627776) ≤ adj ∧ adj ≤ min l 1099511627776 := by
      intro adj ha
      split at ha <;> omega
    have hm : 0 ≤ min l 1099511627776 ∧ min l 1099511627776 ≤ 1099511627776 := by omega
    simp only [sampleF] at hok' hsm ⊢
    generalize hadj : (if min mi (min l 1099511627776) + min d 1099511627776 ≤ min l 1099511627776 then min l 1099511627776 - min d 1099511627776 else min l 1099511627776) = adj at *
    obtain ⟨q1, q2⟩ := key adj rfl
    generalize min l 1099511627776 = n at *
    refine ⟨⟨hok', by omega, by omega, by omega, by omega, .inr ⟨rfl, rfl, ?_⟩⟩, trivial, trivial, ?_⟩
    · simp only; omega
    · omega

theorem pto_steps (s : RS) (d : Int) (t : Nat) (hd : 0 ≤ d) (hs : s.ok) : 1000 ≤ ptoF s d t ∧ ptoF s d t ≤ 1099511627776 ∧ ptoF s d t ≤ ptoF s d (t + 1) ∧ ptoF s d (t + 1) ≤ 2 * ptoF s d t ∧ ptoF s d (t + 1) ≤ 1099511627776 := by
  have key : ∀ (t : Nat) (n : Int), 1000 ≤ n → n ≤ 1099511627776 → 1000 ≤ ptoLoop t n ∧ ptoLoop t n ≤ 1099511627776 ∧ ptoLoop t n ≤ ptoLoop (t + 1) n ∧ ptoLoop (t + 1) n ≤ 2 * ptoLoop t n ∧ ptoLoop (t + 1) n ≤ 1099511627776 := by
    intro t
    induction t with
    | zero => intro n h1 h2; simp only [ptoLoop]; split <;> omega
    | succ t ih =>
      intro n h1 h2
      rw [ptoLoop, ptoLoop]
      by_cases h : n < 1099511627776
      · rw [if_pos h, if_pos h]; exact ih _ (by omega) (by omega)
      · rw [if_neg h, if_neg h]; omega
  have := pto0_bd s d hd hs
  exact key t _ this.1 this.2

set_option maxRecDepth 100000 in
set_option maxHeartbeats 2000000 in
theorem bounds_law (a : Option Addr) (len cap : Nat) (L D : Nat → Int) (d t : Int) (w : World) (hlen : len ≤ maxLen) (hs : SamplesAt w a len L D)
    (hd : 0 ≤ d) (hd' : d ≤ 18446744073709551615) (ht : 0 ≤ t) (ht' : t ≤ 18446744073709551615) :
    Calls Try.prog 4 #[.slice a len cap, .int .u64 d, .int .u64 t] w fun e w' => e = .returned (.bool true) ∧ Below w.heap.size w w' := by
  unfold maxLen at hlen
  by_cases hgt : 300 < len
  · go_enter Try.func4, Try.ntmps4
    go_wp2_with (fail)
    refine (works_any _).mono ?_
    rintro e w1 ⟨rfl, hb1⟩
    go_wp2_with (fail)
    go_returns
    exact ⟨rfl, hb1⟩
  · go_enter Try.func4, Try.ntmps4
    go_wp2_with (fail)
    go_loopw [8, 9, 23] (fun le mo i wr => ∃ (k : Nat) (s : RS) (l m : Int), le = .int .u64 l ∧ mo = .int .u64 m ∧ i = .int .i64 k ∧ k ≤ len ∧ Inv k s l m ∧ Blk wr w.heap.size s.vals 28 ∧ Below w.heap.size w wr) (fun _ _ i _ => len - (intOf i).toNat)
    case atStart => exact ⟨0, zero, _, _, rfl, rfl, rfl, by omega, ⟨zero_ok, by omega, by omega, by omega, by omega, .inl ⟨rfl, rfl, rfl, rfl⟩⟩, Blk.new _ _ _, (Below.refl _ _).alloc (Nat.le_refl _) _⟩
    case round =>
      obtain ⟨k, s, l, m, rfl, rfl, rfl, hk, hinv, hblk, hbel⟩ := hrel
      by_cases hlt : k < len
      · obtain ⟨b, off, rfl, hbl, hc0, hc1, b1, b2, b3, b4⟩ := hs k hlt
        have hi := hinv.step (L k) (D k) b1 b3
        have hc0' := (hbel.cell (p := ⟨b, off + k * 2, none⟩) hbl).trans hc0
        have hc1' := (hbel.cell (p := ⟨b, off + k * 2 + 1, none⟩) hbl).trans hc1
        have z0 := hbel.size
        have hok := hinv.1
        generalize L k = x at *
        generalize D k = y at *
        have hs' := Lib.hid hs
        clear hs hc0 hc1
        go_wp2_with (fail)
        refine (sample_any _ s x y _ b1 b3 hok (hblk.alloc _)).mono ?_
        rintro e w1 ⟨rfl, hb1, ho1⟩
        have zb := hblk.lt
        have z1 : wr.heap.size < w1.heap.size := by have := ho1.size; simp at this; omega
        have hnew := ho1.blk (Blk.new wr #[.int .u64 x, .int .u64 y] 34) (by show ¬ (_ = _); omega)
        have hw1 : Below w.heap.size w w1 := below_onto (hbel.alloc z0 _) ho1 (by simp; omega) (by intro k hk; omega)
        generalize sampleF s x y = s' at *
        obtain ⟨has, la, mi, sm, va⟩ := s'
        obtain ⟨hinv', i1, i2, i3, i4, i5, i6⟩ := hi
        simp only at i1 i2 i3 i4 i5 i6
        subst i1 i2
        have hc := Blk.all (l := [.bool has, .int .u64 (min x 1099511627776), .int .u64 (min l (min x 1099511627776)), .int .u64 sm, .int .u64 va]) hb1
        simp only [cellsAt, Nat.reduceAdd, and_true, Nat.zero_add] at hc
        obtain ⟨⟨c0, f0⟩, ⟨c1, f1⟩, ⟨c2, f2⟩, ⟨c3, f3⟩, ⟨c4, f4⟩⟩ := hc
        have hc := hnew.all
        simp only [cellsAt, Nat.reduceAdd, and_true, Nat.zero_add] at hc
        obtain ⟨⟨e0, _⟩, ⟨e1, _⟩⟩ := hc
        have hsm0 : 0 ≤ sm := hinv'.1.2.2.1.1
        have hva0 : 0 ≤ va := hinv'.1.2.2.2.1
        have hle0 := hinv'.2
        go_wp2_with (fail)
        exact ⟨⟨k + 1, _, _, _, rfl, rfl, by go_num, by omega, hinv', hb1, hw1⟩, by simp [intOf]; omega⟩
      · obtain rfl : k = len := by omega
        obtain ⟨t', htd⟩ : ∃ n : Nat, Hid (t % 60 = n) := ⟨(t % 60).toNat, show t % 60 = _ by omega⟩
        have ht1 : t' < 60 := by have := htd.out; omega
        have hps := pto_steps s d t' hd hinv.1
        have z0 := hbel.size
        have hs' := Lib.hid hs
        have e0 : ((t' : Int) + 1) = ((t' + 1 : Nat) : Int) := by omega
        have e0' := Lib.hid e0
        clear hs e0
        go_wp2_with (fail)
        rw [htd.out]
        refine (pto_any _ s d t' _ hd hd' (by omega) hinv.1 hblk).mono ?_
        rintro e w1 ⟨rfl, hb1⟩
        have k1 := below_on hbel hb1 z0
        have z1 := hb1.size
        have hblk1 := hblk.below hb1
        go_wp2_with (fail)
        rw [e0'.out]
        refine (pto_any _ s d (t' + 1) _ hd hd' (by omega) hinv.1 hblk1).mono ?_
        rintro e w2 ⟨rfl, hb2⟩
        have k2 := below_on k1 hb2 (by omega)
        have z2 := hb2.size
        generalize ptoF s d t' = p1 at *
        generalize ptoF s d (t' + 1) = p2 at *
        obtain ⟨j1, j2, j3, j4, j5⟩ := hps
        go_wp2_with (fail)
        refine (works_any _).mono ?_
        rintro e w3 ⟨rfl, hb3⟩
        have k3 := below_on k2 hb3 (by omega)
        go_wp2_with (fail)
        go_returns
        exact ⟨rfl, k3⟩

theorem walk_RttBounds (H : Type) (enc : TypeId × Value → H) (w : World) (base : Nat) (v0 : Value) (d0 : DataW H) (p0 : List MemPlace) (v1 : Value) (d1 : DataW H) (p1 : List MemPlace) (v2 : Value) (d2 : DataW H) (p2 : List MemPlace)
    (o0 : Value.okWide Try.prog w .any base 32 v0) (h0 : DataW.Trod enc Try.prog w 0 (fun _ => true) true 32 v0 d0 p0)
    (o1 : Value.okWide Try.prog w .any base 24 v1) (h1 : DataW.Trod enc Try.prog w 0 (fun _ => true) true 24 v1 d1 p1)
    (o2 : Value.okWide Try.prog w .any base 24 v2) (h2 : DataW.Trod enc Try.prog w 0 (fun _ => true) true 24 v2 d2 p2) :
    Calls Try.prog 4 #[v0, v1, v2] w fun e w' => e = .returned (.bool true) ∧ Below w.heap.size w w' := by
  obtain ⟨x, rfl, rfl, rfl, wx⟩ := ChangeShapes.open_int Try.underlying24 o1 h1
  obtain ⟨y, rfl, rfl, rfl, wy⟩ := ChangeShapes.open_int Try.underlying24 o2 h2
  have hx := bounds_u64 wx
  have hy := bounds_u64 wy
  obtain ⟨a, len, cap, L, D, rfl, hlen, hs⟩ := open_samples o0 h0
  exact bounds_law a len cap L D x y w hlen hs hx.1 hx.2 hy.1 hy.2

end Rtt
end Go.Proofs.Ytnnlejllhmhmmaa
