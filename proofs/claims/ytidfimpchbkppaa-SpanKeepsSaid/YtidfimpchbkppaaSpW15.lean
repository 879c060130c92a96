/- SpanKeeps: the law walked. -/
import Derived.Test.YtidfimpchbkppaaSpW11
namespace Go.Proofs.Ytidfimpchbkppaa
open Go.RowKit
set_option linter.unusedVariables false

/-- The slice's cells may be written; its block lies from base on, below hi. -/
def LiveB (w : World) (base hi : Nat) (a : Option Addr) (n : Nat) : Prop := n = 0 ∨ ∃ (g : Nat) (cs : Array Value) (T : TypeId), a = some ⟨g, 0, none⟩ ∧ base ≤ g ∧ g < hi ∧ Blk w g cs T ∧ n * 2 ≤ cs.size
theorem LiveB.of {w : World} {base : Nat} {a : Option Addr} {n cap : Nat} {xs : List Value} {e : TypeId} (h : OwnS w base e 2 a n cap xs) : LiveB w base w.heap.size a n := by
  rcases h.2 with ⟨h1, h2⟩ | ⟨g, c, cur, h1, h3, h4, h5, h6, h7, h8⟩
  · exact .inl h2
  · cases h1
    exact .inr ⟨g, cur, e, rfl, h3, lt_of_block h4, h4, by rw [h7]; exact Nat.mul_le_mul_right _ h5⟩
theorem LiveB.below {w w' : World} {base hi hi' : Nat} {a : Option Addr} {n : Nat} (h : LiveB w base hi a n) (hb : Below w.heap.size w w') (hh : hi ≤ hi') : LiveB w' base hi' a n := by
  rcases h with h | ⟨g, cs, T, h1, h2, h3, h4, h5⟩
  · exact .inl h
  · exact .inr ⟨g, cs, T, h1, h2, by omega, h4.below hb, h5⟩
theorem LiveB.set {w : World} {base hi : Nat} {a : Option Addr} {n : Nat} (h : LiveB w base hi a n) (g' i : Nat) (u : Value) : LiveB (w.setCell ⟨g', i, none⟩ u) base hi a n := by
  rcases h with h | ⟨g, cs, T, h1, h2, h3, h4, h5⟩
  · exact .inl h
  · by_cases hg : g = g'
    · subst hg
      exact .inr ⟨g, _, T, h1, h2, h3, h4.set i u, by simpa using h5⟩
    · exact .inr ⟨g, cs, T, h1, h2, h3, h4.setOther _ u hg, h5⟩
theorem LiveB.cell {w : World} {base hi : Nat} {a : Option Addr} {n : Nat} (h : LiveB w base hi a n) {k : Nat} (hk : k < n) : ∃ g u v, a = some ⟨g, 0, none⟩ ∧ base ≤ g ∧ g < hi ∧ w.cell? ⟨g, k * 2, none⟩ = some u ∧ w.cell? ⟨g, k * 2 + 1, none⟩ = some v ∧ w.frozen? ⟨g, k * 2, none⟩ = false ∧ w.frozen? ⟨g, k * 2 + 1, none⟩ = false := by
  rcases h with h | ⟨g, cs, T, h1, h2, h3, h4, h5⟩
  · omega
  · exact ⟨g, cs[k * 2]'(by omega), cs[k * 2 + 1]'(by omega), h1, h2, h3, h4.cell _ _ (by simp), h4.cell _ _ (by simp), h4.free _, h4.free _⟩
/-- What the writing keeps. -/
structure St (base : Nat) (w0 : World) (q : Nat) (a1 a2 a3 a4 : Option Addr) (n1 n2 n3 n4 c1 c2 c3 c4 : Nat) (w : World) : Prop where
  bel : Below base w0 w
  blk : Blk w q #[.slice a1 n1 c1, .slice a2 n2 c2, .slice a3 n3 c3, .slice a4 n4 c4] 22
  l1 : LiveB w base q a1 n1
  l2 : LiveB w base q a2 n2
  l3 : LiveB w base q a3 n3
  l4 : LiveB w base q a4 n4
theorem St.set {base : Nat} {w0 : World} {q : Nat} {a1 a2 a3 a4 : Option Addr} {n1 n2 n3 n4 c1 c2 c3 c4 : Nat} {w : World} (h : St base w0 q a1 a2 a3 a4 n1 n2 n3 n4 c1 c2 c3 c4 w) {g : Nat} (hg : base ≤ g) (hq : g < q) (i : Nat) (u : Value) : St base w0 q a1 a2 a3 a4 n1 n2 n3 n4 c1 c2 c3 c4 (w.setCell ⟨g, i, none⟩ u) :=
  ⟨below_set h.bel (p := ⟨g, i, none⟩) hg u, h.blk.setOther _ u (show q ≠ g by omega), h.l1.set _ _ _, h.l2.set _ _ _, h.l3.set _ _ _, h.l4.set _ _ _⟩

set_option maxRecDepth 100000 in
set_option maxHeartbeats 4000000 in
theorem keeps_law (a b : Option Addr) (cap cap' : Nat) (A B : List Rg) (w : World) (hA : Rs w a cap A) (hB : Rs w b cap' B) :
    Calls Try.prog 5 #[.slice a A.length cap, .slice b B.length cap'] w fun e w' => e = .returned (.bool true) ∧ Below w.heap.size w w' := by
  have hlA := hA.len
  have hlB := hB.len
  unfold maxLen at hlA hlB
  have HA := Lib.hid hA
  have HB := Lib.hid hB
  have BA := Lib.hid hA.bnd
  have BB := Lib.hid hB.bnd
  clear hA hB
  obtain ⟨nA, hnA⟩ : ∃ n, A.length = n := ⟨_, rfl⟩
  obtain ⟨nB, hnB⟩ : ∃ n, B.length = n := ⟨_, rfl⟩
  rw [hnA] at hlA ⊢
  rw [hnB] at hlB ⊢
  have NA := Lib.hid hnA
  have NB := Lib.hid hnB
  clear hnA hnB
  by_cases h1 : 60 < nA
  · go_enter Try.func5, Try.ntmps5
    go_wp2_with (fail)
    refine (spworks_any w).mono ?_
    rintro e w1 ⟨rfl, hb⟩
    go_wp2_with (fail)
    go_returns
    exact ⟨rfl, hb⟩
  by_cases h2 : 60 < nB
  · go_enter Try.func5, Try.ntmps5
    go_wp2_with (fail)
    refine (spworks_any w).mono ?_
    rintro e w1 ⟨rfl, hb⟩
    go_wp2_with (fail)
    go_returns
    exact ⟨rfl, hb⟩
  have lA : Hid (A.length ≤ 60) := Lib.hid (by have := NA.out; omega)
  have lB : Hid (B.length ≤ 60) := Lib.hid (by have := NB.out; omega)
  go_enter Try.func5, Try.ntmps5
  go_wp2_with (at_builtin; refine Stop.mk ?_)
  refine Stop.out ?_
  refine wpList_app rg_et rfl rfl (base := w.heap.size) (xs := []) rfl rfl (OwnS.new w w.heap.size (Nat.le_refl _) 31 2 0 #[] (by simp [maxLen]) rfl) (by have := (HA.out.below ((Below.refl _ _).alloc (Nat.le_refl _) (.cells #[] 31))).src; rw [NA.out] at this; exact this) (by simp only [maxLen]; omega) (by omega) (by simp) ?_
  intro ax cx w1 ho1 on1 _
  rw [Nat.zero_add, List.nil_append] at ho1
  simp only [Nat.zero_add]
  have X1 : Hid (Below w.heap.size w w1) := Lib.hid (below_onto ((Below.refl _ _).alloc (Nat.le_refl _) _) on1 (by simp) (by rintro z hz ⟨y, hy, rfl⟩; cases hy; simp at hz))
  have O1 := Lib.hid ho1
  clear ho1 on1
  go_wp2_with (at_builtin; refine Stop.mk ?_)
  refine Stop.out ?_
  refine wpList_app rg_et rfl rfl (base := w1.heap.size) (xs := []) rfl rfl (OwnS.new w1 w1.heap.size (Nat.le_refl _) 31 2 0 #[] (by simp [maxLen]) rfl) (by have := (HB.out.below (X1.out.alloc X1.out.size (.cells #[] 31))).src; rw [NB.out] at this; exact this) (by simp only [maxLen]; omega) (by omega) (by simp) ?_
  intro ay cy w2 ho2 on2 _
  rw [Nat.zero_add, List.nil_append] at ho2
  simp only [Nat.zero_add]
  have b12 : Below w1.heap.size w1 w2 := below_onto ((Below.refl _ _).alloc (Nat.le_refl _) _) on2 (by simp) (by rintro z hz ⟨y, hy, rfl⟩; cases hy; simp at hz)
  have X2 : Hid (Below w.heap.size w w2) := Lib.hid (below_on X1.out b12 X1.out.size)
  have RX : Hid (Rs w2 ax cx A) := Lib.hid ((O1.out.below b12).rs BA.out).2
  have RY : Hid (Rs w2 ay cy B) := Lib.hid (ho2.rs BB.out).2
  have RA : Hid (Rs w2 a cap A) := Lib.hid (HA.out.below X2.out)
  have RB : Hid (Rs w2 b cap' B) := Lib.hid (HB.out.below X2.out)
  have Z2 : Hid (Below w2.heap.size w2 w2) := Lib.hid (Below.refl _ _)
  clear ho2 on2 b12 O1 HA HB X1
  go_wp2_with (fail)
  refine (add_any ax ay nA nB cx cy A B w2 NA.out.symm NB.out.symm (RX.out.below Z2.out) (RY.out.below Z2.out) (by have := lA.out; omega) (by have := lB.out; omega)).mono ?_
  rintro e w3 ⟨hb1, a1, c1, M1, rfl, ho1, hM1, hn1, hl1⟩
  have Z3 : Hid (Below w2.heap.size w2 w3) := Lib.hid (below_on Z2.out hb1 Z2.out.size)
  have P1 : Hid (OwnS w3 w2.heap.size 31 2 a1 M1.length c1 (cellsR M1)) := Lib.hid (ho1.base_le Z2.out.size)
  obtain ⟨n1, hnn1⟩ : ∃ n, M1.length = n := ⟨_, rfl⟩
  rw [hnn1] at P1 ⊢
  have hm1 : n1 ≤ 240 := by rw [← hnn1]; have := lA.out; have := lB.out; omega
  clear ho1 hM1 hn1 hl1 hnn1
  clear hb1
  go_wp2_with (fail)
  refine (cut_any ax ay nA nB cx cy A B w3 NA.out.symm NB.out.symm (RX.out.below Z3.out) (RY.out.below Z3.out) (by have := lA.out; omega) (by have := lB.out; omega)).mono ?_
  rintro e w4 ⟨hb1, a2, c2, M2, rfl, ho1, hM1, hn1, hl1⟩
  have Z4 : Hid (Below w2.heap.size w2 w4) := Lib.hid (below_on Z3.out hb1 Z3.out.size)
  have P2 : Hid (OwnS w4 w2.heap.size 31 2 a2 M2.length c2 (cellsR M2)) := Lib.hid (ho1.base_le Z3.out.size)
  obtain ⟨n2, hnn2⟩ : ∃ n, M2.length = n := ⟨_, rfl⟩
  rw [hnn2] at P2 ⊢
  have hm2 : n2 ≤ 240 := by rw [← hnn2]; have := lA.out; have := lB.out; omega
  clear ho1 hM1 hn1 hl1 hnn2
  replace P1 := Lib.hid (P1.out.below hb1)
  clear hb1
  go_wp2_with (fail)
  refine (both_any ax ay nA nB cx cy A B w4 NA.out.symm NB.out.symm (RX.out.below Z4.out) (RY.out.below Z4.out) (by have := lA.out; omega) (by have := lB.out; omega)).mono ?_
  rintro e w5 ⟨hb1, a3, c3, M3, rfl, ho1, hM1, hn1, hl1⟩
  have Z5 : Hid (Below w2.heap.size w2 w5) := Lib.hid (below_on Z4.out hb1 Z4.out.size)
  have P3 : Hid (OwnS w5 w2.heap.size 31 2 a3 M3.length c3 (cellsR M3)) := Lib.hid (ho1.base_le Z4.out.size)
  obtain ⟨n3, hnn3⟩ : ∃ n, M3.length = n := ⟨_, rfl⟩
  rw [hnn3] at P3 ⊢
  have hm3 : n3 ≤ 240 := by rw [← hnn3]; have := lA.out; have := lB.out; omega
  clear ho1 hM1 hn1 hl1 hnn3
  replace P1 := Lib.hid (P1.out.below hb1)
  replace P2 := Lib.hid (P2.out.below hb1)
  clear hb1
  go_wp2_with (fail)
  refine (add_any ax none nA 0 cx 0 A [] w5 NA.out.symm rfl (RX.out.below Z5.out) (Rs.nil _) (by have := lA.out; omega) (by simp)).mono ?_
  rintro e w6 ⟨hb1, a4, c4, M4, rfl, ho1, hM1, hn1, hl1⟩
  have Z6 : Hid (Below w2.heap.size w2 w6) := Lib.hid (below_on Z5.out hb1 Z5.out.size)
  have P4 : Hid (OwnS w6 w2.heap.size 31 2 a4 M4.length c4 (cellsR M4)) := Lib.hid (ho1.base_le Z5.out.size)
  obtain ⟨n4, hnn4⟩ : ∃ n, M4.length = n := ⟨_, rfl⟩
  rw [hnn4] at P4 ⊢
  have hm4 : n4 ≤ 240 := by rw [← hnn4]; have := lA.out; have := lB.out; simp only [List.length_nil] at hl1; omega
  clear ho1 hM1 hn1 hl1 hnn4
  replace P1 := Lib.hid (P1.out.below hb1)
  replace P2 := Lib.hid (P2.out.below hb1)
  replace P3 := Lib.hid (P3.out.below hb1)
  clear hb1
  go_wp2_with (fail)
  have hst : St w2.heap.size w2 w6.heap.size a1 a2 a3 a4 n1 n2 n3 n4 c1 c2 c3 c4 (w6.alloc (.cells #[.slice a1 n1 c1, .slice a2 n2 c2, .slice a3 n3 c3, .slice a4 n4 c4] 22)) := by
    have bx : Below w6.heap.size w6 (w6.alloc (.cells #[.slice a1 n1 c1, .slice a2 n2 c2, .slice a3 n3 c3, .slice a4 n4 c4] 22)) := (Below.refl _ _).alloc (Nat.le_refl _) _
    exact ⟨Z6.out.alloc Z6.out.size _, Blk.new _ _ _, (LiveB.of P1.out).below bx (Nat.le_refl _), (LiveB.of P2.out).below bx (Nat.le_refl _), (LiveB.of P3.out).below bx (Nat.le_refl _), (LiveB.of P4.out).below bx (Nat.le_refl _)⟩
  have hq : w2.heap.size ≤ w6.heap.size := Z6.out.size
  obtain ⟨w7, hw7⟩ : ∃ w7, w6.alloc (.cells #[.slice a1 n1 c1, .slice a2 n2 c2, .slice a3 n3 c3, .slice a4 n4 c4] 22) = w7 := ⟨_, rfl⟩
  rw [hw7] at hst ⊢
  obtain ⟨q, hqq⟩ : ∃ q, w6.heap.size = q := ⟨_, rfl⟩
  rw [hqq] at hst hq ⊢
  have HST := Lib.hid hst
  clear hst hw7 hqq P1 P2 P3 P4 Z3 Z4 Z5 Z6
  have q0 := HST.out.blk.cell 0 _ rfl
  refine wp_loop_rounds 5 ?_
  rw [rounds_succ]
  go_wp2_with (fail)
  go_loopw [9, 44] (fun _ i wr => ∃ k : Nat, i = .int .i64 k ∧ k ≤ n1 ∧ Hid (St w2.heap.size w2 q a1 a2 a3 a4 n1 n2 n3 n4 c1 c2 c3 c4 wr)) (fun _ i _ => n1 - (intOf i).toNat)
  case atStart => exact ⟨0, rfl, by omega, HST⟩
  case round =>
    clear HST q0
    obtain ⟨k, rfl, hk, hok⟩ := hrel
    by_cases hlt : k < n1
    · obtain ⟨g, u, v, hag, hg1, hg2, e1, e2, f1, f2⟩ := hok.out.l1.cell hlt
      cases hag
      go_wp2_with (fail)
      exact ⟨⟨k + 1, by go_num, by omega, Lib.hid ((hok.out.set hg1 hg2 _ _).set hg1 hg2 _ _)⟩, by simp [intOf]; omega⟩
    · obtain rfl : n1 = k := by omega
      obtain ⟨HST⟩ : Nonempty (Hid (St w2.heap.size w2 q a1 a2 a3 a4 n1 n2 n3 n4 c1 c2 c3 c4 wr)) := ⟨hok⟩
      clear hok
      have q1 := HST.out.blk.cell 1 _ rfl
      go_wp2_with (fail)
      rw [rounds_succ]
      go_wp2_with (fail)
      go_loopw [9, 44] (fun _ i wr => ∃ k : Nat, i = .int .i64 k ∧ k ≤ n2 ∧ Hid (St w2.heap.size w2 q a1 a2 a3 a4 n1 n2 n3 n4 c1 c2 c3 c4 wr)) (fun _ i _ => n2 - (intOf i).toNat)
      case atStart => exact ⟨0, rfl, by omega, HST⟩
      case round =>
        clear HST q1
        obtain ⟨k, rfl, hk, hok⟩ := hrel
        by_cases hlt : k < n2
        · obtain ⟨g, u, v, hag, hg1, hg2, e1, e2, f1, f2⟩ := hok.out.l2.cell hlt
          cases hag
          go_wp2_with (fail)
          exact ⟨⟨k + 1, by go_num, by omega, Lib.hid ((hok.out.set hg1 hg2 _ _).set hg1 hg2 _ _)⟩, by simp [intOf]; omega⟩
        · obtain rfl : n2 = k := by omega
          obtain ⟨HST⟩ : Nonempty (Hid (St w2.heap.size w2 q a1 a2 a3 a4 n1 n2 n3 n4 c1 c2 c3 c4 wr)) := ⟨hok⟩
          clear hok
          have q2 := HST.out.blk.cell 2 _ rfl
          go_wp2_with (fail)
          rw [rounds_succ]
          go_wp2_with (fail)
          go_loopw [9, 44] (fun _ i wr => ∃ k : Nat, i = .int .i64 k ∧ k ≤ n3 ∧ Hid (St w2.heap.size w2 q a1 a2 a3 a4 n1 n2 n3 n4 c1 c2 c3 c4 wr)) (fun _ i _ => n3 - (intOf i).toNat)
          case atStart => exact ⟨0, rfl, by omega, HST⟩
          case round =>
            clear HST q2
            obtain ⟨k, rfl, hk, hok⟩ := hrel
            by_cases hlt : k < n3
            · obtain ⟨g, u, v, hag, hg1, hg2, e1, e2, f1, f2⟩ := hok.out.l3.cell hlt
              cases hag
              go_wp2_with (fail)
              exact ⟨⟨k + 1, by go_num, by omega, Lib.hid ((hok.out.set hg1 hg2 _ _).set hg1 hg2 _ _)⟩, by simp [intOf]; omega⟩
            · obtain rfl : n3 = k := by omega
              obtain ⟨HST⟩ : Nonempty (Hid (St w2.heap.size w2 q a1 a2 a3 a4 n1 n2 n3 n4 c1 c2 c3 c4 wr)) := ⟨hok⟩
              clear hok
              have q3 := HST.out.blk.cell 3 _ rfl
              go_wp2_with (fail)
              rw [rounds_succ]
              go_wp2_with (fail)
              go_loopw [9, 44] (fun _ i wr => ∃ k : Nat, i = .int .i64 k ∧ k ≤ n4 ∧ Hid (St w2.heap.size w2 q a1 a2 a3 a4 n1 n2 n3 n4 c1 c2 c3 c4 wr)) (fun _ i _ => n4 - (intOf i).toNat)
              case atStart => exact ⟨0, rfl, by omega, HST⟩
              case round =>
                clear HST q3
                obtain ⟨k, rfl, hk, hok⟩ := hrel
                by_cases hlt : k < n4
                · obtain ⟨g, u, v, hag, hg1, hg2, e1, e2, f1, f2⟩ := hok.out.l4.cell hlt
                  cases hag
                  go_wp2_with (fail)
                  exact ⟨⟨k + 1, by go_num, by omega, Lib.hid ((hok.out.set hg1 hg2 _ _).set hg1 hg2 _ _)⟩, by simp [intOf]; omega⟩
                · obtain rfl : n4 = k := by omega
                  obtain ⟨HST⟩ : Nonempty (Hid (St w2.heap.size w2 q a1 a2 a3 a4 n1 n2 n3 n4 c1 c2 c3 c4 wr)) := ⟨hok⟩
                  clear hok
                  skip
                  go_wp2_with (fail)
                  rw [rounds_succ]
                  go_wp2_with (fail)
                  have Y1 : Hid (Below w2.heap.size w2 wr) := Lib.hid HST.out.bel
                  refine (same_any a ax _ _ cap cx A A wr NA.out.symm NA.out.symm (RA.out.below Y1.out) (RX.out.below Y1.out)).mono ?_
                  rintro e y1 ⟨hb1, rfl⟩
                  have Y2 : Hid (Below w2.heap.size w2 y1) := Lib.hid (below_on Y1.out hb1 Y1.out.size)
                  simp only [decide_true]
                  clear hb1 Y1 HST
                  go_wp2_with (fail)
                  refine (same_any b ay _ _ cap' cy B B y1 NB.out.symm NB.out.symm (RB.out.below Y2.out) (RY.out.below Y2.out)).mono ?_
                  rintro e y2 ⟨hb1, rfl⟩
                  have Y3 : Hid (Below w2.heap.size w2 y2) := Lib.hid (below_on Y2.out hb1 Y2.out.size)
                  simp only [decide_true]
                  clear hb1 Y2
                  go_wp2_with (fail)
                  refine (spworks_any y2).mono ?_
                  rintro e y3 ⟨rfl, hb1⟩
                  have Y4 : Hid (Below w2.heap.size w2 y3) := Lib.hid (below_on Y3.out hb1 Y3.out.size)
                  clear hb1 Y3
                  go_wp2_with (fail)
                  go_returns
                  exact ⟨rfl, below_on X2.out Y4.out X2.out.size⟩

set_option maxRecDepth 100000 in
theorem walk_SpanKeeps (H : Type) (enc : TypeId × Value → H) (w : World) (base : Nat) (v0 : Value) (d0 : DataW H) (p0 : List MemPlace) (v1 : Value) (d1 : DataW H) (p1 : List MemPlace)
    (o0 : Value.okWide Try.prog w .any base 22 v0) (h0 : DataW.Trod enc Try.prog w 0 (fun _ => true) true 22 v0 d0 p0)
    (o1 : Value.okWide Try.prog w .any base 22 v1) (h1 : DataW.Trod enc Try.prog w 0 (fun _ => true) true 22 v1 d1 p1) :
    Calls Try.prog 5 #[v0, v1] w fun e w' => e = .returned (.bool true) ∧ Below w.heap.size w w' := by
  obtain ⟨a, L, cap, rfl, hS⟩ := open_rgs o0 h0
  obtain ⟨c, N, ccap, rfl, hN⟩ := open_rgs o1 h1
  exact keeps_law a c cap ccap L N w hS hN
end Go.Proofs.Ytidfimpchbkppaa
