/- Sorting pieces: symMerge. -/
import Derived.Test.YticnjdlapioppaaSo3
namespace Go.Proofs.Yticnjdlapioppaa
open Go.RowKit Go.Shelf Go.Lib Go.Sort
set_option linter.unusedVariables false

theorem sym_join {M1 M2 M3 : List Pc} {a mid b : Nat} (hc : ∀ i j, a ≤ i → i < mid → mid ≤ j → j < b → keyQ (at' M1 i) ≤ keyQ (at' M1 j)) (m2 : Moved a mid M1 M2) (m3 : Moved mid b M2 M3) (o2 : Ord keyQ a mid M2) (o3 : Ord keyQ mid b M3) : Ord keyQ a b M3 := by
  refine Ord.join (o2.same fun i h1 h2 => m3.out i (by omega)) o3 fun i j h1 h2 h3 h4 => ?_
  rw [m3.out i (by omega)]
  obtain ⟨i', h5, h6, e1⟩ := m2.src i h1 h2
  obtain ⟨j', h7, h8, e2⟩ := m3.src j h3 h4
  rw [e1, e2, m2.out j' (by omega)]
  exact hc i' j' h5 h6 h7 h8
theorem rotF_none (f : Nat → Pc) {s m e : Nat} (h : s = m ∨ m = e) (h1 : s ≤ m) (h2 : m ≤ e) (k : Nat) : rotF f s m e k = f k := by
  unfold rotF
  rcases h with h | h
  · subst h
    by_cases c1 : s ≤ k ∧ k < s + (e - s)
    · rw [if_pos c1]; congr 1; omega
    · rw [if_neg c1]
      by_cases c2 : s + (e - s) ≤ k ∧ k < e
      · omega
      · rw [if_neg c2]
  · subst h
    rw [if_neg (by omega)]
    by_cases c2 : s + (m - m) ≤ k ∧ k < m
    · rw [if_pos c2]; congr 1; omega
    · rw [if_neg c2]
set_option maxHeartbeats 16000000 in
set_option maxRecDepth 1000000 in
theorem sym_any (g n cap : Nat) (d0 : Array Pc) (w0 : World) (R : RowK encQ 2 w0 g 0 d0) (hsz : n ≤ 1000000) : ∀ (sz a m b : Nat) (L : List Pc) (w : World), b - a ≤ sz → d0.size = L.length → SWK encQ 2 w0 g 0 L.toArray w → n = L.length → a < m → m < b → b ≤ n → Ord keyQ a m L → Ord keyQ m b L →
    Calls Try.prog 75 #[.slice (some ⟨g, 0, none⟩) n cap, .int .i64 a, .int .i64 m, .int .i64 b, .func (.func 64) #[] #[]] w fun e w' => SymPost w0 g a b L w' e := by
  intro sz
  induction sz with
  | zero => intro a m b L w h; omega
  | succ sz ih =>
    intro a m b L w hab hs S hn ham hmb hb o1 o2
    by_cases g1 : m = a + 1
    · subst g1
      exact sym_one g n cap a b L d0 w0 w R hs S hn hmb hb hsz o2
    by_cases g2 : b = m + 1
    · subst g2
      exact sym_last g n cap a m L d0 w0 w R hs S hn (by omega) hb hsz o1
    have mixed : Try.prog.follows .mixedOrders = true := by kernel_rfl
    have IH := Lib.hid ih
    have HN := Lib.hid hn
    have HS := Lib.hid hs
    have O1 := Lib.hid o1
    have O2 := Lib.hid o2
    have S0 : Aside (SWK encQ 2 w0 g 0 L.toArray w) := S
    have e1 : ((m : Int) - (a : Int) == 1) = false := by simp; omega
    have e2 : ((b : Int) - (m : Int) == 1) = false := by simp; omega
    obtain ⟨mid, hmid⟩ : ∃ x, (a + b) / 2 = x := ⟨_, rfl⟩
    have hmI : ((a : Int) + (b : Int)) / 2 = (mid : Int) := by omega
    have hmb1 : a < mid ∧ mid < b := by omega
    have hm2 : 2 * mid ≤ a + b ∧ a + b ≤ 2 * mid + 1 := by omega
    have hsum : (a : Int) + (b : Int) ≤ 2000000 := by omega
    obtain ⟨nn, hnn⟩ : ∃ x, mid + m = x := ⟨_, rfl⟩
    have hnI : (mid : Int) + (m : Int) = (nn : Int) := by omega
    obtain ⟨pp, hpp⟩ : ∃ x, nn - 1 = x := ⟨_, rfl⟩
    have hpI : (nn : Int) - 1 = (pp : Int) := by omega
    have HMID := Lib.hid hmid
    have HNN := Lib.hid hnn
    have HPP := Lib.hid hpp
    clear S hn hs o1 o2 ih hmid hnn hpp
    by_cases gm : mid < m
    · obtain ⟨s0, hs0⟩ : ∃ x, nn - b = x := ⟨_, rfl⟩
      have hnn0 := HNN.out
      have hsI : (nn : Int) - (b : Int) = (s0 : Int) := by omega
      have hs01 : a ≤ s0 ∧ s0 ≤ mid := by omega
      have hs02 : s0 + b = mid + m := by omega
      clear hs0 hnn0
      go_enter Try.func75, Try.ntmps75
      go_wp2_with (fail)
      go_loopw [20, 21, 23] (fun s t _ wr => ∃ (st r : Nat), s = .int .i64 st ∧ t = .int .i64 r ∧ s0 ≤ st ∧ st ≤ r ∧ r ≤ mid ∧ Aside (SWK encQ 2 w0 g 0 L.toArray wr) ∧ Hid ((∀ c, s0 ≤ c → c < st → keyQ (at' L c) ≤ keyQ (at' L (pp - c))) ∧ ∀ c, r ≤ c → c < mid → keyQ (at' L (pp - c)) < keyQ (at' L c))) (fun s t _ _ => (intOf t).toNat - (intOf s).toNat)
      case atStart => exact ⟨s0, mid, rfl, rfl, by omega, by omega, by omega, S0, Lib.hid ⟨fun c h1 h2 => by omega, fun c h1 h2 => by omega⟩⟩
      case round =>
        clear S0
        obtain ⟨st, r, rfl, rfl, hi, hij, hj, S1, hbs⟩ := hrel
        by_cases hlt : st < r
        · obtain ⟨c, hc⟩ : ∃ c, (st + r) / 2 = c := ⟨_, rfl⟩
          have hc1 : st ≤ c ∧ c < r := by omega
          have hcI : ((st : Int) + (r : Int)) / 2 = (c : Int) := by omega
          have hsr : (st : Int) + (r : Int) ≤ 2000000 := by omega
          have hlen : L.length = n := HN.out.symm
          obtain ⟨q, hq⟩ : ∃ q, pp - c = q := ⟨_, rfl⟩
          have hnn := HNN.out
          have hpp := HPP.out
          have hqI : (pp : Int) - (c : Int) = (q : Int) := by omega
          have hqb : m ≤ q ∧ q < b := by omega
          have hcm : a ≤ c ∧ c < m := by omega
          obtain ⟨ph, hph, c0, c1, _, _⟩ := swk_cells2 S1.out R HS.out (i := c) (by omega)
          obtain ⟨pa, hpa, c2, c3, _, _⟩ := swk_cells2 S1.out R HS.out (i := q) (by omega)
          have hcn : (c : Int) < (n : Int) := by omega
          have hqn : (q : Int) < (n : Int) := by omega
          have hmono1 : ∀ k, s0 ≤ k → k ≤ c → keyQ (at' L c) ≤ keyQ (at' L q) → keyQ (at' L k) ≤ keyQ (at' L (pp - k)) := fun k h1 h2 h3 => by
            have h4 := O1.out k c (by omega) h2 (by omega)
            have h5 := O2.out q (pp - k) (by omega) (by omega) (by omega)
            omega
          have hmono2 : ∀ k, c ≤ k → k < mid → keyQ (at' L q) < keyQ (at' L c) → keyQ (at' L (pp - k)) < keyQ (at' L k) := fun k h1 h2 h3 => by
            have h4 := O1.out c k (by omega) h1 (by omega)
            have h5 := O2.out (pp - k) q (by omega) (by omega) (by omega)
            omega
          rw [hph, hpa] at hmono1 hmono2
          obtain ⟨z, hz⟩ : ∃ z, cmpQ pa.off ph.off = z := ⟨_, rfl⟩
          have hzb := cmpQ_bnd pa.off ph.off
          have hzn := cmpQ_neg pa.off ph.off
          rw [hz] at hzb hzn
          have HC := fun W => cmpc_any pa ph W
          unfold pcV at HC
          rw [hz] at HC
          have HZN := Lib.hid hzn
          have HM1 := Lib.hid hmono1
          have HM2 := Lib.hid hmono2
          clear hlen hz hzn hph hpa hmono1 hmono2 hq hnn hpp
          go_wp2_with (fail)
          refine rg_start 14 ?_
          refine rg_same fun p hx hne hC => ?_
          refine rg_quiet 3 [0,1,2,3,4,5,6,7,8,9,10] hC ?_
          simp only [pickD, List.map_cons, List.map_nil, List.getD_cons_zero, List.getD_cons_succ]; repeat (go_big_quiet_step (fail))
          refine wpQuiet_nil ?_
          refine rg_cut 11 ?_
          clear hx hne hC
          go_wp2_with (fail)
          refine (HC _).mono ?_
          rintro e w2 ⟨rfl, hw2⟩
          have S2 : Aside (SWK encQ 2 w0 g 0 L.toArray w2) := by rw [hw2]; exact ((S1.out.drew).alloc _).alloc _
          clear S1 c0 c1 c2 c3 hw2 HC
          by_cases hzz : z < 0
          · have hkk := HZN.out.1 hzz
            have HKK := Lib.hid hkk
            have hdz : decide (z < 0) = true := decide_eq_true hzz
            clear hkk
            go_wp2_with (fail)
            refine rg_below fun p hx hne hC hbel => ?_
            refine rg_quiet 0 [12,13] hC ?_
            simp only [pickD, List.map_cons, List.map_nil, List.getD_cons_zero, List.getD_cons_succ]; repeat (go_big_quiet_step (fail))
            refine wpQuiet_nil ?_
            refine rg_end ?_
            clear hx hne hC hbel
            go_wp2_with (fail)
            exact ⟨⟨st, c, rfl, rfl, by omega, by omega, by omega, S2, Lib.hid ⟨hbs.out.1, fun k h1 h2 => HM2.out k h1 h2 HKK.out⟩⟩, by simp [intOf]; omega⟩
          · have hkk : ¬ pa.off < ph.off := fun h9 => hzz (HZN.out.2 h9)
            have HKK := Lib.hid hkk
            have hdz : decide (z < 0) = false := decide_eq_false hzz
            clear hkk
            go_wp2_with (fail)
            refine rg_below fun p hx hne hC hbel => ?_
            refine rg_quiet 0 [12,13] hC ?_
            simp only [pickD, List.map_cons, List.map_nil, List.getD_cons_zero, List.getD_cons_succ]; repeat (go_big_quiet_step (fail))
            refine wpQuiet_nil ?_
            refine rg_end ?_
            clear hx hne hC hbel
            go_wp2_with (fail)
            exact ⟨⟨c + 1, r, by go_num, rfl, by omega, by omega, by omega, S2, Lib.hid ⟨fun k h1 h2 => HM1.out k h1 (by omega) (by have h9 := HKK.out; unfold keyQ; omega), hbs.out.2⟩⟩, by simp [intOf]; omega⟩
        · obtain rfl : st = r := by omega
          obtain ⟨en, hen⟩ : ∃ x, nn - st = x := ⟨_, rfl⟩
          have hnn := HNN.out
          have hpp := HPP.out
          have heI : (nn : Int) - (st : Int) = (en : Int) := by omega
          have hsm : a ≤ st ∧ st ≤ m ∧ st ≤ mid := by omega
          have hme : m ≤ en ∧ en ≤ b ∧ mid ≤ en := by omega
          have hen2 : mid + m - st = en := by omega
          have hml := fun M1 (hM1 : ∀ k, at' M1 k = rotF (at' L) st m en k) => merge_halves (key := keyQ) (L := L) (M := M1) (a := a) (m := m) (b := b) (mid := mid) (s := st) O1.out O2.out ham hmb HMID.out.symm hsm.1 hsm.2.1 (by omega) (by omega)
            (fun h1 h2 => by
              have h3 := hbs.out.1 (st - 1) (by omega) (by omega)
              rw [show pp - (st - 1) = mid + m - st by omega] at h3
              exact h3)
            (fun h1 h2 => by
              have h3 := hbs.out.2 st (by omega) (by omega)
              rw [show pp - st = mid + m - st - 1 by omega] at h3
              exact Int.le_of_lt h3) (by rw [hen2]; exact hM1)
          rw [hen2] at hml
          have HML := Lib.hid hml
          clear hml hbs hen hnn hpp hen2
          have hlen : L.length = n := HN.out.symm
          by_cases gt : st < m ∧ m < en
          · obtain ⟨gt1, gt2⟩ := gt
            have hr := rotate_any g n cap st m en L d0 (.func (.func 64) #[] #[]) w0 wr R HS.out S1.out HN.out gt1 gt2 (by omega) hsz
            have HR := Lib.hid hr
            clear hr
            go_wp2_with (fail)
            refine HR.out.mono ?_
            rintro e w3 ⟨rfl, M1, S3x, mv3, rt1⟩
            have S3 : Aside (SWK encQ 2 w0 g 0 M1.toArray w3) := S3x
            have mv1 : Moved a b L M1 := mv3.wider (by omega) (by omega)
            clear S3x S1 HR mv3
            obtain ⟨oA, oB, oC, oD, hcx⟩ := HML.out M1 rt1
            by_cases gl : a < st ∧ st < mid
            · obtain ⟨gl1, gl2⟩ := gl
              have hc := IH.out a st mid M1 _ (by omega) (by have h9 := mv1.len; have := HS.out; omega) S3.out (by have h9 := mv1.len; omega) gl1 gl2 (by omega) oA oB
              have HC := Lib.hid hc
              clear hc
              go_wp2_with (fail)
              refine HC.out.mono ?_
              rintro e w4 ⟨rfl, M2, S4x, mvJ, oJ⟩
              have S4 : Aside (SWK encQ 2 w0 g 0 M2.toArray w4) := S4x
              have mvL : Moved a b L M2 := mv1.trans (mvJ.wider (Nat.le_refl _) (by omega))
              have oM3 : Ord keyQ mid en M2 := oC.same fun i h1 h2 => mvJ.out i (by omega)
              have oM4 : Ord keyQ en b M2 := oD.same fun i h1 h2 => mvJ.out i (by omega)
              clear S4x HC
              by_cases gr : en < b ∧ mid < en
              · obtain ⟨gr1, gr2⟩ := gr
                have hc := IH.out mid en b M2 _ (by omega) (by have h9 := mvL.len; have := HS.out; omega) S4.out (by have h9 := mvL.len; omega) gr2 gr1 hb oM3 oM4
                have HC := Lib.hid hc
                have HFIN := Lib.hid (fun M3 (h1 : Moved mid b M2 M3) (h2 : Ord keyQ mid b M3) => (show Moved a b L M3 ∧ Ord keyQ a b M3 from ⟨mvL.trans (h1.wider (by omega) (Nat.le_refl _)), sym_join hcx mvJ h1 oJ h2⟩))
                clear hc
                go_wp2_with (fail)
                refine HC.out.mono ?_
                rintro e w5 ⟨rfl, M3, S5, mv5, o5⟩
                go_wp2_with (fail)
                go_returns
                exact ⟨rfl, M3, S5, HFIN.out M3 mv5 o5⟩
              · have hor : Ord keyQ mid b M2 := by
                  by_cases h9 : mid < en
                  · obtain rfl : en = b := by omega
                    exact oM3
                  · obtain rfl : en = mid := by omega
                    exact oM4
                have HFIN := Lib.hid (show Moved a b L M2 ∧ Ord keyQ a b M2 from ⟨mvL, sym_join hcx mvJ (Moved.refl _ _ _) oJ hor⟩)
                clear hor
                by_cases h8 : mid < en
                · have h7 : ¬ en < b := by omega
                  go_wp2_with (fail)
                  go_returns
                  exact ⟨rfl, M2, S4.out, HFIN.out⟩
                · go_wp2_with (fail)
                  go_returns
                  exact ⟨rfl, M2, S4.out, HFIN.out⟩
            · have oJ : Ord keyQ a mid M1 := by
                by_cases h9 : a < st
                · obtain rfl : st = mid := by omega
                  exact oA
                · obtain rfl : st = a := by omega
                  exact oB
              have mvJ : Moved a mid M1 M1 := Moved.refl _ _ _
              have mvL : Moved a b L M1 := mv1
              have oM3 := oC
              have oM4 := oD
              by_cases h6 : a < st
              · have h5 : ¬ st < mid := by omega
                by_cases gr : en < b ∧ mid < en
                · obtain ⟨gr1, gr2⟩ := gr
                  have hc := IH.out mid en b M1 _ (by omega) (by have h9 := mvL.len; have := HS.out; omega) S3.out (by have h9 := mvL.len; omega) gr2 gr1 hb oM3 oM4
                  have HC := Lib.hid hc
                  have HFIN := Lib.hid (fun M3 (h1 : Moved mid b M1 M3) (h2 : Ord keyQ mid b M3) => (show Moved a b L M3 ∧ Ord keyQ a b M3 from ⟨mvL.trans (h1.wider (by omega) (Nat.le_refl _)), sym_join hcx mvJ h1 oJ h2⟩))
                  clear hc
                  go_wp2_with (fail)
                  refine HC.out.mono ?_
                  rintro e w5 ⟨rfl, M3, S5, mv5, o5⟩
                  go_wp2_with (fail)
                  go_returns
                  exact ⟨rfl, M3, S5, HFIN.out M3 mv5 o5⟩
                · have hor : Ord keyQ mid b M1 := by
                    by_cases h9 : mid < en
                    · obtain rfl : en = b := by omega
                      exact oM3
                    · obtain rfl : en = mid := by omega
                      exact oM4
                  have HFIN := Lib.hid (show Moved a b L M1 ∧ Ord keyQ a b M1 from ⟨mvL, sym_join hcx mvJ (Moved.refl _ _ _) oJ hor⟩)
                  clear hor
                  by_cases h8 : mid < en
                  · have h7 : ¬ en < b := by omega
                    go_wp2_with (fail)
                    go_returns
                    exact ⟨rfl, M1, S3.out, HFIN.out⟩
                  · go_wp2_with (fail)
                    go_returns
                    exact ⟨rfl, M1, S3.out, HFIN.out⟩
              · skip
                by_cases gr : en < b ∧ mid < en
                · obtain ⟨gr1, gr2⟩ := gr
                  have hc := IH.out mid en b M1 _ (by omega) (by have h9 := mvL.len; have := HS.out; omega) S3.out (by have h9 := mvL.len; omega) gr2 gr1 hb oM3 oM4
                  have HC := Lib.hid hc
                  have HFIN := Lib.hid (fun M3 (h1 : Moved mid b M1 M3) (h2 : Ord keyQ mid b M3) => (show Moved a b L M3 ∧ Ord keyQ a b M3 from ⟨mvL.trans (h1.wider (by omega) (Nat.le_refl _)), sym_join hcx mvJ h1 oJ h2⟩))
                  clear hc
                  go_wp2_with (fail)
                  refine HC.out.mono ?_
                  rintro e w5 ⟨rfl, M3, S5, mv5, o5⟩
                  go_wp2_with (fail)
                  go_returns
                  exact ⟨rfl, M3, S5, HFIN.out M3 mv5 o5⟩
                · have hor : Ord keyQ mid b M1 := by
                    by_cases h9 : mid < en
                    · obtain rfl : en = b := by omega
                      exact oM3
                    · obtain rfl : en = mid := by omega
                      exact oM4
                  have HFIN := Lib.hid (show Moved a b L M1 ∧ Ord keyQ a b M1 from ⟨mvL, sym_join hcx mvJ (Moved.refl _ _ _) oJ hor⟩)
                  clear hor
                  by_cases h8 : mid < en
                  · have h7 : ¬ en < b := by omega
                    go_wp2_with (fail)
                    go_returns
                    exact ⟨rfl, M1, S3.out, HFIN.out⟩
                  · go_wp2_with (fail)
                    go_returns
                    exact ⟨rfl, M1, S3.out, HFIN.out⟩
          · have rt1 : ∀ k, at' L k = rotF (at' L) st m en k := fun k => (rotF_none (at' L) (by omega) (by omega) (by omega) k).symm
            have mv1 : Moved a b L L := Moved.refl _ _ _
            by_cases h4 : st < m
            · have h3 : ¬ m < en := by omega
              obtain ⟨oA, oB, oC, oD, hcx⟩ := HML.out L rt1
              by_cases gl : a < st ∧ st < mid
              · obtain ⟨gl1, gl2⟩ := gl
                have hc := IH.out a st mid L _ (by omega) (by have h9 := mv1.len; have := HS.out; omega) S1.out (by have h9 := mv1.len; omega) gl1 gl2 (by omega) oA oB
                have HC := Lib.hid hc
                clear hc
                go_wp2_with (fail)
                refine HC.out.mono ?_
                rintro e w4 ⟨rfl, M2, S4x, mvJ, oJ⟩
                have S4 : Aside (SWK encQ 2 w0 g 0 M2.toArray w4) := S4x
                have mvL : Moved a b L M2 := mv1.trans (mvJ.wider (Nat.le_refl _) (by omega))
                have oM3 : Ord keyQ mid en M2 := oC.same fun i h1 h2 => mvJ.out i (by omega)
                have oM4 : Ord keyQ en b M2 := oD.same fun i h1 h2 => mvJ.out i (by omega)
                clear S4x HC
                by_cases gr : en < b ∧ mid < en
                · obtain ⟨gr1, gr2⟩ := gr
                  have hc := IH.out mid en b M2 _ (by omega) (by have h9 := mvL.len; have := HS.out; omega) S4.out (by have h9 := mvL.len; omega) gr2 gr1 hb oM3 oM4
                  have HC := Lib.hid hc
                  have HFIN := Lib.hid (fun M3 (h1 : Moved mid b M2 M3) (h2 : Ord keyQ mid b M3) => (show Moved a b L M3 ∧ Ord keyQ a b M3 from ⟨mvL.trans (h1.wider (by omega) (Nat.le_refl _)), sym_join hcx mvJ h1 oJ h2⟩))
                  clear hc
                  go_wp2_with (fail)
                  refine HC.out.mono ?_
                  rintro e w5 ⟨rfl, M3, S5, mv5, o5⟩
                  go_wp2_with (fail)
                  go_returns
                  exact ⟨rfl, M3, S5, HFIN.out M3 mv5 o5⟩
                · have hor : Ord keyQ mid b M2 := by
                    by_cases h9 : mid < en
                    · obtain rfl : en = b := by omega
                      exact oM3
                    · obtain rfl : en = mid := by omega
                      exact oM4
                  have HFIN := Lib.hid (show Moved a b L M2 ∧ Ord keyQ a b M2 from ⟨mvL, sym_join hcx mvJ (Moved.refl _ _ _) oJ hor⟩)
                  clear hor
                  by_cases h8 : mid < en
                  · have h7 : ¬ en < b := by omega
                    go_wp2_with (fail)
                    go_returns
                    exact ⟨rfl, M2, S4.out, HFIN.out⟩
                  · go_wp2_with (fail)
                    go_returns
                    exact ⟨rfl, M2, S4.out, HFIN.out⟩
              · have oJ : Ord keyQ a mid L := by
                  by_cases h9 : a < st
                  · obtain rfl : st = mid := by omega
                    exact oA
                  · obtain rfl : st = a := by omega
                    exact oB
                have mvJ : Moved a mid L L := Moved.refl _ _ _
                have mvL : Moved a b L L := mv1
                have oM3 := oC
                have oM4 := oD
                by_cases h6 : a < st
                · have h5 : ¬ st < mid := by omega
                  by_cases gr : en < b ∧ mid < en
                  · obtain ⟨gr1, gr2⟩ := gr
                    have hc := IH.out mid en b L _ (by omega) (by have h9 := mvL.len; have := HS.out; omega) S1.out (by have h9 := mvL.len; omega) gr2 gr1 hb oM3 oM4
                    have HC := Lib.hid hc
                    have HFIN := Lib.hid (fun M3 (h1 : Moved mid b L M3) (h2 : Ord keyQ mid b M3) => (show Moved a b L M3 ∧ Ord keyQ a b M3 from ⟨mvL.trans (h1.wider (by omega) (Nat.le_refl _)), sym_join hcx mvJ h1 oJ h2⟩))
                    clear hc
                    go_wp2_with (fail)
                    refine HC.out.mono ?_
                    rintro e w5 ⟨rfl, M3, S5, mv5, o5⟩
                    go_wp2_with (fail)
                    go_returns
                    exact ⟨rfl, M3, S5, HFIN.out M3 mv5 o5⟩
                  · have hor : Ord keyQ mid b L := by
                      by_cases h9 : mid < en
                      · obtain rfl : en = b := by omega
                        exact oM3
                      · obtain rfl : en = mid := by omega
                        exact oM4
                    have HFIN := Lib.hid (show Moved a b L L ∧ Ord keyQ a b L from ⟨mvL, sym_join hcx mvJ (Moved.refl _ _ _) oJ hor⟩)
                    clear hor
                    by_cases h8 : mid < en
                    · have h7 : ¬ en < b := by omega
                      go_wp2_with (fail)
                      go_returns
                      exact ⟨rfl, L, S1.out, HFIN.out⟩
                    · go_wp2_with (fail)
                      go_returns
                      exact ⟨rfl, L, S1.out, HFIN.out⟩
                · skip
                  by_cases gr : en < b ∧ mid < en
                  · obtain ⟨gr1, gr2⟩ := gr
                    have hc := IH.out mid en b L _ (by omega) (by have h9 := mvL.len; have := HS.out; omega) S1.out (by have h9 := mvL.len; omega) gr2 gr1 hb oM3 oM4
                    have HC := Lib.hid hc
                    have HFIN := Lib.hid (fun M3 (h1 : Moved mid b L M3) (h2 : Ord keyQ mid b M3) => (show Moved a b L M3 ∧ Ord keyQ a b M3 from ⟨mvL.trans (h1.wider (by omega) (Nat.le_refl _)), sym_join hcx mvJ h1 oJ h2⟩))
                    clear hc
                    go_wp2_with (fail)
                    refine HC.out.mono ?_
                    rintro e w5 ⟨rfl, M3, S5, mv5, o5⟩
                    go_wp2_with (fail)
                    go_returns
                    exact ⟨rfl, M3, S5, HFIN.out M3 mv5 o5⟩
                  · have hor : Ord keyQ mid b L := by
                      by_cases h9 : mid < en
                      · obtain rfl : en = b := by omega
                        exact oM3
                      · obtain rfl : en = mid := by omega
                        exact oM4
                    have HFIN := Lib.hid (show Moved a b L L ∧ Ord keyQ a b L from ⟨mvL, sym_join hcx mvJ (Moved.refl _ _ _) oJ hor⟩)
                    clear hor
                    by_cases h8 : mid < en
                    · have h7 : ¬ en < b := by omega
                      go_wp2_with (fail)
                      go_returns
                      exact ⟨rfl, L, S1.out, HFIN.out⟩
                    · go_wp2_with (fail)
                      go_returns
                      exact ⟨rfl, L, S1.out, HFIN.out⟩
            · skip
              obtain ⟨oA, oB, oC, oD, hcx⟩ := HML.out L rt1
              by_cases gl : a < st ∧ st < mid
              · obtain ⟨gl1, gl2⟩ := gl
                have hc := IH.out a st mid L _ (by omega) (by have h9 := mv1.len; have := HS.out; omega) S1.out (by have h9 := mv1.len; omega) gl1 gl2 (by omega) oA oB
                have HC := Lib.hid hc
                clear hc
                go_wp2_with (fail)
                refine HC.out.mono ?_
                rintro e w4 ⟨rfl, M2, S4x, mvJ, oJ⟩
                have S4 : Aside (SWK encQ 2 w0 g 0 M2.toArray w4) := S4x
                have mvL : Moved a b L M2 := mv1.trans (mvJ.wider (Nat.le_refl _) (by omega))
                have oM3 : Ord keyQ mid en M2 := oC.same fun i h1 h2 => mvJ.out i (by omega)
                have oM4 : Ord keyQ en b M2 := oD.same fun i h1 h2 => mvJ.out i (by omega)
                clear S4x HC
                by_cases gr : en < b ∧ mid < en
                · obtain ⟨gr1, gr2⟩ := gr
                  have hc := IH.out mid en b M2 _ (by omega) (by have h9 := mvL.len; have := HS.out; omega) S4.out (by have h9 := mvL.len; omega) gr2 gr1 hb oM3 oM4
                  have HC := Lib.hid hc
                  have HFIN := Lib.hid (fun M3 (h1 : Moved mid b M2 M3) (h2 : Ord keyQ mid b M3) => (show Moved a b L M3 ∧ Ord keyQ a b M3 from ⟨mvL.trans (h1.wider (by omega) (Nat.le_refl _)), sym_join hcx mvJ h1 oJ h2⟩))
                  clear hc
                  go_wp2_with (fail)
                  refine HC.out.mono ?_
                  rintro e w5 ⟨rfl, M3, S5, mv5, o5⟩
                  go_wp2_with (fail)
                  go_returns
                  exact ⟨rfl, M3, S5, HFIN.out M3 mv5 o5⟩
                · have hor : Ord keyQ mid b M2 := by
                    by_cases h9 : mid < en
                    · obtain rfl : en = b := by omega
                      exact oM3
                    · obtain rfl : en = mid := by omega
                      exact oM4
                  have HFIN := Lib.hid (show Moved a b L M2 ∧ Ord keyQ a b M2 from ⟨mvL, sym_join hcx mvJ (Moved.refl _ _ _) oJ hor⟩)
                  clear hor
                  by_cases h8 : mid < en
                  · have h7 : ¬ en < b := by omega
                    go_wp2_with (fail)
                    go_returns
                    exact ⟨rfl, M2, S4.out, HFIN.out⟩
                  · go_wp2_with (fail)
                    go_returns
                    exact ⟨rfl, M2, S4.out, HFIN.out⟩
              · have oJ : Ord keyQ a mid L := by
                  by_cases h9 : a < st
                  · obtain rfl : st = mid := by omega
                    exact oA
                  · obtain rfl : st = a := by omega
                    exact oB
                have mvJ : Moved a mid L L := Moved.refl _ _ _
                have mvL : Moved a b L L := mv1
                have oM3 := oC
                have oM4 := oD
                by_cases h6 : a < st
                · have h5 : ¬ st < mid := by omega
                  by_cases gr : en < b ∧ mid < en
                  · obtain ⟨gr1, gr2⟩ := gr
                    have hc := IH.out mid en b L _ (by omega) (by have h9 := mvL.len; have := HS.out; omega) S1.out (by have h9 := mvL.len; omega) gr2 gr1 hb oM3 oM4
                    have HC := Lib.hid hc
                    have HFIN := Lib.hid (fun M3 (h1 : Moved mid b L M3) (h2 : Ord keyQ mid b M3) => (show Moved a b L M3 ∧ Ord keyQ a b M3 from ⟨mvL.trans (h1.wider (by omega) (Nat.le_refl _)), sym_join hcx mvJ h1 oJ h2⟩))
                    clear hc
                    go_wp2_with (fail)
                    refine HC.out.mono ?_
                    rintro e w5 ⟨rfl, M3, S5, mv5, o5⟩
                    go_wp2_with (fail)
                    go_returns
                    exact ⟨rfl, M3, S5, HFIN.out M3 mv5 o5⟩
                  · have hor : Ord keyQ mid b L := by
                      by_cases h9 : mid < en
                      · obtain rfl : en = b := by omega
                        exact oM3
                      · obtain rfl : en = mid := by omega
                        exact oM4
                    have HFIN := Lib.hid (show Moved a b L L ∧ Ord keyQ a b L from ⟨mvL, sym_join hcx mvJ (Moved.refl _ _ _) oJ hor⟩)
                    clear hor
                    by_cases h8 : mid < en
                    · have h7 : ¬ en < b := by omega
                      go_wp2_with (fail)
                      go_returns
                      exact ⟨rfl, L, S1.out, HFIN.out⟩
                    · go_wp2_with (fail)
                      go_returns
                      exact ⟨rfl, L, S1.out, HFIN.out⟩
                · skip
                  by_cases gr : en < b ∧ mid < en
                  · obtain ⟨gr1, gr2⟩ := gr
                    have hc := IH.out mid en b L _ (by omega) (by have h9 := mvL.len; have := HS.out; omega) S1.out (by have h9 := mvL.len; omega) gr2 gr1 hb oM3 oM4
                    have HC := Lib.hid hc
                    have HFIN := Lib.hid (fun M3 (h1 : Moved mid b L M3) (h2 : Ord keyQ mid b M3) => (show Moved a b L M3 ∧ Ord keyQ a b M3 from ⟨mvL.trans (h1.wider (by omega) (Nat.le_refl _)), sym_join hcx mvJ h1 oJ h2⟩))
                    clear hc
                    go_wp2_with (fail)
                    refine HC.out.mono ?_
                    rintro e w5 ⟨rfl, M3, S5, mv5, o5⟩
                    go_wp2_with (fail)
                    go_returns
                    exact ⟨rfl, M3, S5, HFIN.out M3 mv5 o5⟩
                  · have hor : Ord keyQ mid b L := by
                      by_cases h9 : mid < en
                      · obtain rfl : en = b := by omega
                        exact oM3
                      · obtain rfl : en = mid := by omega
                        exact oM4
                    have HFIN := Lib.hid (show Moved a b L L ∧ Ord keyQ a b L from ⟨mvL, sym_join hcx mvJ (Moved.refl _ _ _) oJ hor⟩)
                    clear hor
                    by_cases h8 : mid < en
                    · have h7 : ¬ en < b := by omega
                      go_wp2_with (fail)
                      go_returns
                      exact ⟨rfl, L, S1.out, HFIN.out⟩
                    · go_wp2_with (fail)
                      go_returns
                      exact ⟨rfl, L, S1.out, HFIN.out⟩
    · go_enter Try.func75, Try.ntmps75
      go_wp2_with (fail)
      go_loopw [20, 21, 23] (fun s t _ wr => ∃ (st r : Nat), s = .int .i64 st ∧ t = .int .i64 r ∧ a ≤ st ∧ st ≤ r ∧ r ≤ m ∧ Aside (SWK encQ 2 w0 g 0 L.toArray wr) ∧ Hid ((∀ c, a ≤ c → c < st → keyQ (at' L c) ≤ keyQ (at' L (pp - c))) ∧ ∀ c, r ≤ c → c < m → keyQ (at' L (pp - c)) < keyQ (at' L c))) (fun s t _ _ => (intOf t).toNat - (intOf s).toNat)
      case atStart => exact ⟨a, m, rfl, rfl, by omega, by omega, by omega, S0, Lib.hid ⟨fun c h1 h2 => by omega, fun c h1 h2 => by omega⟩⟩
      case round =>
        clear S0
        obtain ⟨st, r, rfl, rfl, hi, hij, hj, S1, hbs⟩ := hrel
        by_cases hlt : st < r
        · obtain ⟨c, hc⟩ : ∃ c, (st + r) / 2 = c := ⟨_, rfl⟩
          have hc1 : st ≤ c ∧ c < r := by omega
          have hcI : ((st : Int) + (r : Int)) / 2 = (c : Int) := by omega
          have hsr : (st : Int) + (r : Int) ≤ 2000000 := by omega
          have hlen : L.length = n := HN.out.symm
          obtain ⟨q, hq⟩ : ∃ q, pp - c = q := ⟨_, rfl⟩
          have hnn := HNN.out
          have hpp := HPP.out
          have hqI : (pp : Int) - (c : Int) = (q : Int) := by omega
          have hqb : m ≤ q ∧ q < b := by omega
          have hcm : a ≤ c ∧ c < m := by omega
          obtain ⟨ph, hph, c0, c1, _, _⟩ := swk_cells2 S1.out R HS.out (i := c) (by omega)
          obtain ⟨pa, hpa, c2, c3, _, _⟩ := swk_cells2 S1.out R HS.out (i := q) (by omega)
          have hcn : (c : Int) < (n : Int) := by omega
          have hqn : (q : Int) < (n : Int) := by omega
          have hmono1 : ∀ k, a ≤ k → k ≤ c → keyQ (at' L c) ≤ keyQ (at' L q) → keyQ (at' L k) ≤ keyQ (at' L (pp - k)) := fun k h1 h2 h3 => by
            have h4 := O1.out k c (by omega) h2 (by omega)
            have h5 := O2.out q (pp - k) (by omega) (by omega) (by omega)
            omega
          have hmono2 : ∀ k, c ≤ k → k < m → keyQ (at' L q) < keyQ (at' L c) → keyQ (at' L (pp - k)) < keyQ (at' L k) := fun k h1 h2 h3 => by
            have h4 := O1.out c k (by omega) h1 (by omega)
            have h5 := O2.out (pp - k) q (by omega) (by omega) (by omega)
            omega
          rw [hph, hpa] at hmono1 hmono2
          obtain ⟨z, hz⟩ : ∃ z, cmpQ pa.off ph.off = z := ⟨_, rfl⟩
          have hzb := cmpQ_bnd pa.off ph.off
          have hzn := cmpQ_neg pa.off ph.off
          rw [hz] at hzb hzn
          have HC := fun W => cmpc_any pa ph W
          unfold pcV at HC
          rw [hz] at HC
          have HZN := Lib.hid hzn
          have HM1 := Lib.hid hmono1
          have HM2 := Lib.hid hmono2
          clear hlen hz hzn hph hpa hmono1 hmono2 hq hnn hpp
          go_wp2_with (fail)
          refine rg_start 14 ?_
          refine rg_same fun p hx hne hC => ?_
          refine rg_quiet 3 [0,1,2,3,4,5,6,7,8,9,10] hC ?_
          simp only [pickD, List.map_cons, List.map_nil, List.getD_cons_zero, List.getD_cons_succ]; repeat (go_big_quiet_step (fail))
          refine wpQuiet_nil ?_
          refine rg_cut 11 ?_
          clear hx hne hC
          go_wp2_with (fail)
          refine (HC _).mono ?_
          rintro e w2 ⟨rfl, hw2⟩
          have S2 : Aside (SWK encQ 2 w0 g 0 L.toArray w2) := by rw [hw2]; exact ((S1.out.drew).alloc _).alloc _
          clear S1 c0 c1 c2 c3 hw2 HC
          by_cases hzz : z < 0
          · have hkk := HZN.out.1 hzz
            have HKK := Lib.hid hkk
            have hdz : decide (z < 0) = true := decide_eq_true hzz
            clear hkk
            go_wp2_with (fail)
            refine rg_below fun p hx hne hC hbel => ?_
            refine rg_quiet 0 [12,13] hC ?_
            simp only [pickD, List.map_cons, List.map_nil, List.getD_cons_zero, List.getD_cons_succ]; repeat (go_big_quiet_step (fail))
            refine wpQuiet_nil ?_
            refine rg_end ?_
            clear hx hne hC hbel
            go_wp2_with (fail)
            exact ⟨⟨st, c, rfl, rfl, by omega, by omega, by omega, S2, Lib.hid ⟨hbs.out.1, fun k h1 h2 => HM2.out k h1 h2 HKK.out⟩⟩, by simp [intOf]; omega⟩
          · have hkk : ¬ pa.off < ph.off := fun h9 => hzz (HZN.out.2 h9)
            have HKK := Lib.hid hkk
            have hdz : decide (z < 0) = false := decide_eq_false hzz
            clear hkk
            go_wp2_with (fail)
            refine rg_below fun p hx hne hC hbel => ?_
            refine rg_quiet 0 [12,13] hC ?_
            simp only [pickD, List.map_cons, List.map_nil, List.getD_cons_zero, List.getD_cons_succ]; repeat (go_big_quiet_step (fail))
            refine wpQuiet_nil ?_
            refine rg_end ?_
            clear hx hne hC hbel
            go_wp2_with (fail)
            exact ⟨⟨c + 1, r, by go_num, rfl, by omega, by omega, by omega, S2, Lib.hid ⟨fun k h1 h2 => HM1.out k h1 (by omega) (by have h9 := HKK.out; unfold keyQ; omega), hbs.out.2⟩⟩, by simp [intOf]; omega⟩
        · obtain rfl : st = r := by omega
          obtain ⟨en, hen⟩ : ∃ x, nn - st = x := ⟨_, rfl⟩
          have hnn := HNN.out
          have hpp := HPP.out
          have heI : (nn : Int) - (st : Int) = (en : Int) := by omega
          have hsm : a ≤ st ∧ st ≤ m ∧ st ≤ mid := by omega
          have hme : m ≤ en ∧ en ≤ b ∧ mid ≤ en := by omega
          have hen2 : mid + m - st = en := by omega
          have hml := fun M1 (hM1 : ∀ k, at' M1 k = rotF (at' L) st m en k) => merge_halves (key := keyQ) (L := L) (M := M1) (a := a) (m := m) (b := b) (mid := mid) (s := st) O1.out O2.out ham hmb HMID.out.symm hsm.1 hsm.2.1 (by omega) (by omega)
            (fun h1 h2 => by
              have h3 := hbs.out.1 (st - 1) (by omega) (by omega)
              rw [show pp - (st - 1) = mid + m - st by omega] at h3
              exact h3)
            (fun h1 h2 => by
              have h3 := hbs.out.2 st (by omega) (by omega)
              rw [show pp - st = mid + m - st - 1 by omega] at h3
              exact Int.le_of_lt h3) (by rw [hen2]; exact hM1)
          rw [hen2] at hml
          have HML := Lib.hid hml
          clear hml hbs hen hnn hpp hen2
          have hlen : L.length = n := HN.out.symm
          by_cases gt : st < m ∧ m < en
          · obtain ⟨gt1, gt2⟩ := gt
            have hr := rotate_any g n cap st m en L d0 (.func (.func 64) #[] #[]) w0 wr R HS.out S1.out HN.out gt1 gt2 (by omega) hsz
            have HR := Lib.hid hr
            clear hr
            go_wp2_with (fail)
            refine HR.out.mono ?_
            rintro e w3 ⟨rfl, M1, S3x, mv3, rt1⟩
            have S3 : Aside (SWK encQ 2 w0 g 0 M1.toArray w3) := S3x
            have mv1 : Moved a b L M1 := mv3.wider (by omega) (by omega)
            clear S3x S1 HR mv3
            obtain ⟨oA, oB, oC, oD, hcx⟩ := HML.out M1 rt1
            by_cases gl : a < st ∧ st < mid
            · obtain ⟨gl1, gl2⟩ := gl
              have hc := IH.out a st mid M1 _ (by omega) (by have h9 := mv1.len; have := HS.out; omega) S3.out (by have h9 := mv1.len; omega) gl1 gl2 (by omega) oA oB
              have HC := Lib.hid hc
              clear hc
              go_wp2_with (fail)
              refine HC.out.mono ?_
              rintro e w4 ⟨rfl, M2, S4x, mvJ, oJ⟩
              have S4 : Aside (SWK encQ 2 w0 g 0 M2.toArray w4) := S4x
              have mvL : Moved a b L M2 := mv1.trans (mvJ.wider (Nat.le_refl _) (by omega))
              have oM3 : Ord keyQ mid en M2 := oC.same fun i h1 h2 => mvJ.out i (by omega)
              have oM4 : Ord keyQ en b M2 := oD.same fun i h1 h2 => mvJ.out i (by omega)
              clear S4x HC
              by_cases gr : en < b ∧ mid < en
              · obtain ⟨gr1, gr2⟩ := gr
                have hc := IH.out mid en b M2 _ (by omega) (by have h9 := mvL.len; have := HS.out; omega) S4.out (by have h9 := mvL.len; omega) gr2 gr1 hb oM3 oM4
                have HC := Lib.hid hc
                have HFIN := Lib.hid (fun M3 (h1 : Moved mid b M2 M3) (h2 : Ord keyQ mid b M3) => (show Moved a b L M3 ∧ Ord keyQ a b M3 from ⟨mvL.trans (h1.wider (by omega) (Nat.le_refl _)), sym_join hcx mvJ h1 oJ h2⟩))
                clear hc
                go_wp2_with (fail)
                refine HC.out.mono ?_
                rintro e w5 ⟨rfl, M3, S5, mv5, o5⟩
                go_wp2_with (fail)
                go_returns
                exact ⟨rfl, M3, S5, HFIN.out M3 mv5 o5⟩
              · have hor : Ord keyQ mid b M2 := by
                  by_cases h9 : mid < en
                  · obtain rfl : en = b := by omega
                    exact oM3
                  · obtain rfl : en = mid := by omega
                    exact oM4
                have HFIN := Lib.hid (show Moved a b L M2 ∧ Ord keyQ a b M2 from ⟨mvL, sym_join hcx mvJ (Moved.refl _ _ _) oJ hor⟩)
                clear hor
                by_cases h8 : mid < en
                · have h7 : ¬ en < b := by omega
                  go_wp2_with (fail)
                  go_returns
                  exact ⟨rfl, M2, S4.out, HFIN.out⟩
                · go_wp2_with (fail)
                  go_returns
                  exact ⟨rfl, M2, S4.out, HFIN.out⟩
            · have oJ : Ord keyQ a mid M1 := by
                by_cases h9 : a < st
                · obtain rfl : st = mid := by omega
                  exact oA
                · obtain rfl : st = a := by omega
                  exact oB
              have mvJ : Moved a mid M1 M1 := Moved.refl _ _ _
              have mvL : Moved a b L M1 := mv1
              have oM3 := oC
              have oM4 := oD
              by_cases h6 : a < st
              · have h5 : ¬ st < mid := by omega
                by_cases gr : en < b ∧ mid < en
                · obtain ⟨gr1, gr2⟩ := gr
                  have hc := IH.out mid en b M1 _ (by omega) (by have h9 := mvL.len; have := HS.out; omega) S3.out (by have h9 := mvL.len; omega) gr2 gr1 hb oM3 oM4
                  have HC := Lib.hid hc
                  have HFIN := Lib.hid (fun M3 (h1 : Moved mid b M1 M3) (h2 : Ord keyQ mid b M3) => (show Moved a b L M3 ∧ Ord keyQ a b M3 from ⟨mvL.trans (h1.wider (by omega) (Nat.le_refl _)), sym_join hcx mvJ h1 oJ h2⟩))
                  clear hc
                  go_wp2_with (fail)
                  refine HC.out.mono ?_
                  rintro e w5 ⟨rfl, M3, S5, mv5, o5⟩
                  go_wp2_with (fail)
                  go_returns
                  exact ⟨rfl, M3, S5, HFIN.out M3 mv5 o5⟩
                · have hor : Ord keyQ mid b M1 := by
                    by_cases h9 : mid < en
                    · obtain rfl : en = b := by omega
                      exact oM3
                    · obtain rfl : en = mid := by omega
                      exact oM4
                  have HFIN := Lib.hid (show Moved a b L M1 ∧ Ord keyQ a b M1 from ⟨mvL, sym_join hcx mvJ (Moved.refl _ _ _) oJ hor⟩)
                  clear hor
                  by_cases h8 : mid < en
                  · have h7 : ¬ en < b := by omega
                    go_wp2_with (fail)
                    go_returns
                    exact ⟨rfl, M1, S3.out, HFIN.out⟩
                  · go_wp2_with (fail)
                    go_returns
                    exact ⟨rfl, M1, S3.out, HFIN.out⟩
              · skip
                by_cases gr : en < b ∧ mid < en
                · obtain ⟨gr1, gr2⟩ := gr
                  have hc := IH.out mid en b M1 _ (by omega) (by have h9 := mvL.len; have := HS.out; omega) S3.out (by have h9 := mvL.len; omega) gr2 gr1 hb oM3 oM4
                  have HC := Lib.hid hc
                  have HFIN := Lib.hid (fun M3 (h1 : Moved mid b M1 M3) (h2 : Ord keyQ mid b M3) => (show Moved a b L M3 ∧ Ord keyQ a b M3 from ⟨mvL.trans (h1.wider (by omega) (Nat.le_refl _)), sym_join hcx mvJ h1 oJ h2⟩))
                  clear hc
                  go_wp2_with (fail)
                  refine HC.out.mono ?_
                  rintro e w5 ⟨rfl, M3, S5, mv5, o5⟩
                  go_wp2_with (fail)
                  go_returns
                  exact ⟨rfl, M3, S5, HFIN.out M3 mv5 o5⟩
                · have hor : Ord keyQ mid b M1 := by
                    by_cases h9 : mid < en
                    · obtain rfl : en = b := by omega
                      exact oM3
                    · obtain rfl : en = mid := by omega
                      exact oM4
                  have HFIN := Lib.hid (show Moved a b L M1 ∧ Ord keyQ a b M1 from ⟨mvL, sym_join hcx mvJ (Moved.refl _ _ _) oJ hor⟩)
                  clear hor
                  by_cases h8 : mid < en
                  · have h7 : ¬ en < b := by omega
                    go_wp2_with (fail)
                    go_returns
                    exact ⟨rfl, M1, S3.out, HFIN.out⟩
                  · go_wp2_with (fail)
                    go_returns
                    exact ⟨rfl, M1, S3.out, HFIN.out⟩
          · have rt1 : ∀ k, at' L k = rotF (at' L) st m en k := fun k => (rotF_none (at' L) (by omega) (by omega) (by omega) k).symm
            have mv1 : Moved a b L L := Moved.refl _ _ _
            by_cases h4 : st < m
            · have h3 : ¬ m < en := by omega
              obtain ⟨oA, oB, oC, oD, hcx⟩ := HML.out L rt1
              by_cases gl : a < st ∧ st < mid
              · obtain ⟨gl1, gl2⟩ := gl
                have hc := IH.out a st mid L _ (by omega) (by have h9 := mv1.len; have := HS.out; omega) S1.out (by have h9 := mv1.len; omega) gl1 gl2 (by omega) oA oB
                have HC := Lib.hid hc
                clear hc
                go_wp2_with (fail)
                refine HC.out.mono ?_
                rintro e w4 ⟨rfl, M2, S4x, mvJ, oJ⟩
                have S4 : Aside (SWK encQ 2 w0 g 0 M2.toArray w4) := S4x
                have mvL : Moved a b L M2 := mv1.trans (mvJ.wider (Nat.le_refl _) (by omega))
                have oM3 : Ord keyQ mid en M2 := oC.same fun i h1 h2 => mvJ.out i (by omega)
                have oM4 : Ord keyQ en b M2 := oD.same fun i h1 h2 => mvJ.out i (by omega)
                clear S4x HC
                by_cases gr : en < b ∧ mid < en
                · obtain ⟨gr1, gr2⟩ := gr
                  have hc := IH.out mid en b M2 _ (by omega) (by have h9 := mvL.len; have := HS.out; omega) S4.out (by have h9 := mvL.len; omega) gr2 gr1 hb oM3 oM4
                  have HC := Lib.hid hc
                  have HFIN := Lib.hid (fun M3 (h1 : Moved mid b M2 M3) (h2 : Ord keyQ mid b M3) => (show Moved a b L M3 ∧ Ord keyQ a b M3 from ⟨mvL.trans (h1.wider (by omega) (Nat.le_refl _)), sym_join hcx mvJ h1 oJ h2⟩))
                  clear hc
                  go_wp2_with (fail)
                  refine HC.out.mono ?_
                  rintro e w5 ⟨rfl, M3, S5, mv5, o5⟩
                  go_wp2_with (fail)
                  go_returns
                  exact ⟨rfl, M3, S5, HFIN.out M3 mv5 o5⟩
                · have hor : Ord keyQ mid b M2 := by
                    by_cases h9 : mid < en
                    · obtain rfl : en = b := by omega
                      exact oM3
                    · obtain rfl : en = mid := by omega
                      exact oM4
                  have HFIN := Lib.hid (show Moved a b L M2 ∧ Ord keyQ a b M2 from ⟨mvL, sym_join hcx mvJ (Moved.refl _ _ _) oJ hor⟩)
                  clear hor
                  by_cases h8 : mid < en
                  · have h7 : ¬ en < b := by omega
                    go_wp2_with (fail)
                    go_returns
                    exact ⟨rfl, M2, S4.out, HFIN.out⟩
                  · go_wp2_with (fail)
                    go_returns
                    exact ⟨rfl, M2, S4.out, HFIN.out⟩
              · have oJ : Ord keyQ a mid L := by
                  by_cases h9 : a < st
                  · obtain rfl : st = mid := by omega
                    exact oA
                  · obtain rfl : st = a := by omega
                    exact oB
                have mvJ : Moved a mid L L := Moved.refl _ _ _
                have mvL : Moved a b L L := mv1
                have oM3 := oC
                have oM4 := oD
                by_cases h6 : a < st
                · have h5 : ¬ st < mid := by omega
                  by_cases gr : en < b ∧ mid < en
                  · obtain ⟨gr1, gr2⟩ := gr
                    have hc := IH.out mid en b L _ (by omega) (by have h9 := mvL.len; have := HS.out; omega) S1.out (by have h9 := mvL.len; omega) gr2 gr1 hb oM3 oM4
                    have HC := Lib.hid hc
                    have HFIN := Lib.hid (fun M3 (h1 : Moved mid b L M3) (h2 : Ord keyQ mid b M3) => (show Moved a b L M3 ∧ Ord keyQ a b M3 from ⟨mvL.trans (h1.wider (by omega) (Nat.le_refl _)), sym_join hcx mvJ h1 oJ h2⟩))
                    clear hc
                    go_wp2_with (fail)
                    refine HC.out.mono ?_
                    rintro e w5 ⟨rfl, M3, S5, mv5, o5⟩
                    go_wp2_with (fail)
                    go_returns
                    exact ⟨rfl, M3, S5, HFIN.out M3 mv5 o5⟩
                  · have hor : Ord keyQ mid b L := by
                      by_cases h9 : mid < en
                      · obtain rfl : en = b := by omega
                        exact oM3
                      · obtain rfl : en = mid := by omega
                        exact oM4
                    have HFIN := Lib.hid (show Moved a b L L ∧ Ord keyQ a b L from ⟨mvL, sym_join hcx mvJ (Moved.refl _ _ _) oJ hor⟩)
                    clear hor
                    by_cases h8 : mid < en
                    · have h7 : ¬ en < b := by omega
                      go_wp2_with (fail)
                      go_returns
                      exact ⟨rfl, L, S1.out, HFIN.out⟩
                    · go_wp2_with (fail)
                      go_returns
                      exact ⟨rfl, L, S1.out, HFIN.out⟩
                · skip
                  by_cases gr : en < b ∧ mid < en
                  · obtain ⟨gr1, gr2⟩ := gr
                    have hc := IH.out mid en b L _ (by omega) (by have h9 := mvL.len; have := HS.out; omega) S1.out (by have h9 := mvL.len; omega) gr2 gr1 hb oM3 oM4
                    have HC := Lib.hid hc
                    have HFIN := Lib.hid (fun M3 (h1 : Moved mid b L M3) (h2 : Ord keyQ mid b M3) => (show Moved a b L M3 ∧ Ord keyQ a b M3 from ⟨mvL.trans (h1.wider (by omega) (Nat.le_refl _)), sym_join hcx mvJ h1 oJ h2⟩))
                    clear hc
                    go_wp2_with (fail)
                    refine HC.out.mono ?_
                    rintro e w5 ⟨rfl, M3, S5, mv5, o5⟩
                    go_wp2_with (fail)
                    go_returns
                    exact ⟨rfl, M3, S5, HFIN.out M3 mv5 o5⟩
                  · have hor : Ord keyQ mid b L := by
                      by_cases h9 : mid < en
                      · obtain rfl : en = b := by omega
                        exact oM3
                      · obtain rfl : en = mid := by omega
                        exact oM4
                    have HFIN := Lib.hid (show Moved a b L L ∧ Ord keyQ a b L from ⟨mvL, sym_join hcx mvJ (Moved.refl _ _ _) oJ hor⟩)
                    clear hor
                    by_cases h8 : mid < en
                    · have h7 : ¬ en < b := by omega
                      go_wp2_with (fail)
                      go_returns
                      exact ⟨rfl, L, S1.out, HFIN.out⟩
                    · go_wp2_with (fail)
                      go_returns
                      exact ⟨rfl, L, S1.out, HFIN.out⟩
            · skip
              obtain ⟨oA, oB, oC, oD, hcx⟩ := HML.out L rt1
              by_cases gl : a < st ∧ st < mid
              · obtain ⟨gl1, gl2⟩ := gl
                have hc := IH.out a st mid L _ (by omega) (by have h9 := mv1.len; have := HS.out; omega) S1.out (by have h9 := mv1.len; omega) gl1 gl2 (by omega) oA oB
                have HC := Lib.hid hc
                clear hc
                go_wp2_with (fail)
                refine HC.out.mono ?_
                rintro e w4 ⟨rfl, M2, S4x, mvJ, oJ⟩
                have S4 : Aside (SWK encQ 2 w0 g 0 M2.toArray w4) := S4x
                have mvL : Moved a b L M2 := mv1.trans (mvJ.wider (Nat.le_refl _) (by omega))
                have oM3 : Ord keyQ mid en M2 := oC.same fun i h1 h2 => mvJ.out i (by omega)
                have oM4 : Ord keyQ en b M2 := oD.same fun i h1 h2 => mvJ.out i (by omega)
                clear S4x HC
                by_cases gr : en < b ∧ mid < en
                · obtain ⟨gr1, gr2⟩ := gr
                  have hc := IH.out mid en b M2 _ (by omega) (by have h9 := mvL.len; have := HS.out; omega) S4.out (by have h9 := mvL.len; omega) gr2 gr1 hb oM3 oM4
                  have HC := Lib.hid hc
                  have HFIN := Lib.hid (fun M3 (h1 : Moved mid b M2 M3) (h2 : Ord keyQ mid b M3) => (show Moved a b L M3 ∧ Ord keyQ a b M3 from ⟨mvL.trans (h1.wider (by omega) (Nat.le_refl _)), sym_join hcx mvJ h1 oJ h2⟩))
                  clear hc
                  go_wp2_with (fail)
                  refine HC.out.mono ?_
                  rintro e w5 ⟨rfl, M3, S5, mv5, o5⟩
                  go_wp2_with (fail)
                  go_returns
                  exact ⟨rfl, M3, S5, HFIN.out M3 mv5 o5⟩
                · have hor : Ord keyQ mid b M2 := by
                    by_cases h9 : mid < en
                    · obtain rfl : en = b := by omega
                      exact oM3
                    · obtain rfl : en = mid := by omega
                      exact oM4
                  have HFIN := Lib.hid (show Moved a b L M2 ∧ Ord keyQ a b M2 from ⟨mvL, sym_join hcx mvJ (Moved.refl _ _ _) oJ hor⟩)
                  clear hor
                  by_cases h8 : mid < en
                  · have h7 : ¬ en < b := by omega
                    go_wp2_with (fail)
                    go_returns
                    exact ⟨rfl, M2, S4.out, HFIN.out⟩
                  · go_wp2_with (fail)
                    go_returns
                    exact ⟨rfl, M2, S4.out, HFIN.out⟩
              · have oJ : Ord keyQ a mid L := by
                  by_cases h9 : a < st
                  · obtain rfl : st = mid := by omega
                    exact oA
                  · obtain rfl : st = a := by omega
                    exact oB
                have mvJ : Moved a mid L L := Moved.refl _ _ _
                have mvL : Moved a b L L := mv1
                have oM3 := oC
                have oM4 := oD
                by_cases h6 : a < st
                · have h5 : ¬ st < mid := by omega
                  by_cases gr : en < b ∧ mid < en
                  · obtain ⟨gr1, gr2⟩ := gr
                    have hc := IH.out mid en b L _ (by omega) (by have h9 := mvL.len; have := HS.out; omega) S1.out (by have h9 := mvL.len; omega) gr2 gr1 hb oM3 oM4
                    have HC := Lib.hid hc
                    have HFIN := Lib.hid (fun M3 (h1 : Moved mid b L M3) (h2 : Ord keyQ mid b M3) => (show Moved a b L M3 ∧ Ord keyQ a b M3 from ⟨mvL.trans (h1.wider (by omega) (Nat.le_refl _)), sym_join hcx mvJ h1 oJ h2⟩))
                    clear hc
                    go_wp2_with (fail)
                    refine HC.out.mono ?_
                    rintro e w5 ⟨rfl, M3, S5, mv5, o5⟩
                    go_wp2_with (fail)
                    go_returns
                    exact ⟨rfl, M3, S5, HFIN.out M3 mv5 o5⟩
                  · have hor : Ord keyQ mid b L := by
                      by_cases h9 : mid < en
                      · obtain rfl : en = b := by omega
                        exact oM3
                      · obtain rfl : en = mid := by omega
                        exact oM4
                    have HFIN := Lib.hid (show Moved a b L L ∧ Ord keyQ a b L from ⟨mvL, sym_join hcx mvJ (Moved.refl _ _ _) oJ hor⟩)
                    clear hor
                    by_cases h8 : mid < en
                    · have h7 : ¬ en < b := by omega
                      go_wp2_with (fail)
                      go_returns
                      exact ⟨rfl, L, S1.out, HFIN.out⟩
                    · go_wp2_with (fail)
                      go_returns
                      exact ⟨rfl, L, S1.out, HFIN.out⟩
                · skip
                  by_cases gr : en < b ∧ mid < en
                  · obtain ⟨gr1, gr2⟩ := gr
                    have hc := IH.out mid en b L _ (by omega) (by have h9 := mvL.len; have := HS.out; omega) S1.out (by have h9 := mvL.len; omega) gr2 gr1 hb oM3 oM4
                    have HC := Lib.hid hc
                    have HFIN := Lib.hid (fun M3 (h1 : Moved mid b L M3) (h2 : Ord keyQ mid b M3) => (show Moved a b L M3 ∧ Ord keyQ a b M3 from ⟨mvL.trans (h1.wider (by omega) (Nat.le_refl _)), sym_join hcx mvJ h1 oJ h2⟩))
                    clear hc
                    go_wp2_with (fail)
                    refine HC.out.mono ?_
                    rintro e w5 ⟨rfl, M3, S5, mv5, o5⟩
                    go_wp2_with (fail)
                    go_returns
                    exact ⟨rfl, M3, S5, HFIN.out M3 mv5 o5⟩
                  · have hor : Ord keyQ mid b L := by
                      by_cases h9 : mid < en
                      · obtain rfl : en = b := by omega
                        exact oM3
                      · obtain rfl : en = mid := by omega
                        exact oM4
                    have HFIN := Lib.hid (show Moved a b L L ∧ Ord keyQ a b L from ⟨mvL, sym_join hcx mvJ (Moved.refl _ _ _) oJ hor⟩)
                    clear hor
                    by_cases h8 : mid < en
                    · have h7 : ¬ en < b := by omega
                      go_wp2_with (fail)
                      go_returns
                      exact ⟨rfl, L, S1.out, HFIN.out⟩
                    · go_wp2_with (fail)
                      go_returns
                      exact ⟨rfl, L, S1.out, HFIN.out⟩
end Go.Proofs.Yticnjdlapioppaa
