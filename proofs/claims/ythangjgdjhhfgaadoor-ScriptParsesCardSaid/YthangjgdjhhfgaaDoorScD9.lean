/- The document's Parse. -/
import Derived.Test.YthangjgdjhhfgaaDoorScD8
namespace Go.Proofs.YthangjgdjhhfgaaDoor
open Go.RowKit
set_option linter.unusedVariables false
/-! ### Lines in plain Lean -/
def lnW (l : List UInt8) : List UInt8 := l.takeWhile (· ≠ 10)
def remL (s : List UInt8) (p : Nat) : List (List UInt8) := if p ≤ s.length then pcs 10 (s.drop p) else []
theorem lnW_lt : ∀ (l : List UInt8) (e : Nat), e ≤ (lnW l).length → (e < (lnW l).length ↔ e < l.length ∧ l.getD e 0 ≠ 10)
  | [], e, h => by simp [lnW] at h ⊢
  | c :: l, e, h => by
    by_cases hc : c = 10
    · subst hc
      have : lnW (10 :: l) = [] := by simp [lnW]
      rw [this] at h ⊢
      simp at h
      subst h
      simp
    · have hcl : lnW (c :: l) = c :: lnW l := by simp [lnW, hc]
      rw [hcl] at h ⊢
      cases e with
      | zero => simp [hc]
      | succ e =>
        have := lnW_lt l e (by simpa using h)
        simpa using this
theorem lnW_len (l : List UInt8) : (lnW l).length ≤ l.length := (List.takeWhile_sublist _).length_le
theorem lnW_take (l : List UInt8) : l.take (lnW l).length = lnW l := (List.prefix_iff_eq_take.1 (List.takeWhile_prefix _)).symm
theorem lnW_all : ∀ (l : List UInt8), (10 : UInt8) ∉ l → lnW l = l
  | [], _ => rfl
  | c :: l, h => by
    have hc : c ≠ 10 := fun e => h (by rw [e]; exact List.mem_cons_self ..)
    have hl := lnW_all l (fun e => h (List.mem_cons_of_mem _ e))
    rw [lnW] at hl ⊢
    rw [List.takeWhile_cons, if_pos (by simpa using hc), hl]
theorem remL_cons (s : List UInt8) (p : Nat) (hp : p ≤ s.length) : remL s p = lnW (s.drop p) :: remL s (p + (lnW (s.drop p)).length + 1) := by
  rw [remL, if_pos hp, pcs]
  by_cases h : (10 : UInt8) ∈ s.drop p
  · rw [pcsA_some 10 _ _ h]
    have hlt : (lnW (s.drop p)).length < (s.drop p).length := by
      rcases Nat.lt_or_ge (lnW (s.drop p)).length (s.drop p).length with h1 | h1
      · exact h1
      · have h2 : lnW (s.drop p) = s.drop p := by rw [← lnW_take, List.take_of_length_le h1]
        rw [← h2] at h
        exact absurd rfl (tw_mem (c := 10) h)
    rw [List.length_drop] at hlt
    rw [remL, if_pos (by omega), List.drop_drop, List.nil_append]
    rfl
  · rw [pcsA_none 10 _ _ h]
    have h2 : lnW (s.drop p) = s.drop p := by
      exact lnW_all _ h
    rw [h2, remL, if_neg (by rw [List.length_drop]; omega)]
    rfl
/-- What a round of the document's Parse keeps. -/
structure PdI (w0 : World) (s : List UInt8) (R : List Mv × Nat × Nat) (a : Option Addr) (n cap : Nat) (L : List Mv) (p k : Nat) (w : World) : Prop where
  below : Below w0.heap.size w0 w
  ms : MsAt w w0.heap.size a n cap L
  res : parseLs k (remL s p) L = R
  few : L.length ≤ 2000
theorem textW_len (t : List UInt8) : (textW t).length ≤ t.length + 1 ∧ ∀ s ∈ textW t, s.length ≤ t.length := by
  obtain ⟨h1, h2⟩ := wdsA_len (t.takeWhile (· ≠ 35)) []
  have h3 : (t.takeWhile (· ≠ 35)).length ≤ t.length := (List.takeWhile_sublist _).length_le
  exact ⟨Nat.le_trans h1 (by omega), fun s hs => Nat.le_trans (h2 s hs) (by simp only [List.length_nil]; omega)⟩
set_option maxRecDepth 100000 in
set_option maxHeartbeats 16000000 in
theorem rparse_any (s : List UInt8) (w : World) (hs : s.length ≤ 262144) :
    Calls Tryd.prog 8 #[.string (tx s)] w fun e w' => PsPost w (parseS s) e w' := by
  obtain ⟨M, hM⟩ : ∃ M, s.length = M := ⟨_, rfl⟩
  have hsz : (tx s).size = M := by rw [tx_size, hM]
  have hMb : ¬ (M : Int) > 262144 := by omega
  have hMb2 : M ≤ 262144 := by omega
  have HST : Hid (PdI w s (parseS s) none 0 0 [] 0 0 w) := Lib.hid ⟨Below.refl _ _, MsAt.nil _ _, by rw [remL, if_pos (by omega)]; rfl, by simp⟩
  obtain ⟨R, hR⟩ : ∃ R, parseS s = R := ⟨_, rfl⟩
  rw [hR] at HST ⊢
  have HM := Lib.hid hM
  clear hs hM hR
  go_enter Tryd.func8, Tryd.ntmps8
  go_wp2_with (fail)
  go_loopw [5, 6, 7, 8, 9, 10, 11] (fun v at_ n _ _ _ _ wr => ∃ (a : Option Addr) (q cap p k k1 : Nat) (L : List Mv), v = .slice a q cap ∧ at_ = .int .i64 p ∧ n = .int .i64 k1 ∧ p ≤ M + 1 ∧ k1 ≤ p + 1 ∧ Hid (k1 = k + 1) ∧ Hid (PdI w s R a q cap L p k wr)) (fun _ at_ _ _ _ _ _ _ => M + 1 - (intOf at_).toNat)
  case atStart => exact ⟨none, 0, 0, 0, 0, 1, [], rfl, rfl, rfl, by omega, by omega, Lib.hid rfl, HST⟩
  case round =>
    obtain ⟨a, q, cap, p, k, k1, L, rfl, rfl, rfl, hp, hk, HK, hok⟩ := hrel
    by_cases hlt : p ≤ M
    · have hpi : (p : Int) ≤ M := by omega
      have hps : p ≤ s.length := by rw [HM.out]; exact hlt
      have hrs := hok.out.res
      rw [remL_cons s p hps, parseLs] at hrs
      obtain ⟨t, ht⟩ : ∃ t, lnW (s.drop p) = t := ⟨_, rfl⟩
      obtain ⟨T, hT⟩ : ∃ T, t.length = T := ⟨_, rfl⟩
      have hTl : p + T ≤ M := by
        have := lnW_len (s.drop p)
        rw [ht, hT, List.length_drop, HM.out] at this
        omega
      have hscan : ∀ e, e ≤ T → (e < T ↔ p + e < M ∧ s.getD (p + e) 0 ≠ 10) := fun e he => by
        have := lnW_lt (s.drop p) e (by rw [ht, hT]; exact he)
        rw [ht, hT, List.length_drop, HM.out] at this
        rw [this]
        simp only [List.getD_eq_getElem?_getD, List.getElem?_drop]
        constructor
        · rintro ⟨h1, h2⟩; exact ⟨by omega, h2⟩
        · rintro ⟨h1, h2⟩; exact ⟨by omega, h2⟩
      have hcut : (tx s).extract p (p + T) = tx t := by
        rw [tx_cut, show p + T - p = T by omega, ← hT, ← ht, lnW_take]
      rw [ht, hT] at hrs
      have HSC := Lib.hid hscan
      have HCUT := Lib.hid hcut
      have HRS := Lib.hid hrs
      have HT := Lib.hid hT
      clear hps hrs ht hT hscan hcut
      go_wp2_with (fail)
      go_loop [8] (fun e => ∃ j : Nat, e = .int .i64 j ∧ p ≤ j ∧ j ≤ p + T) (fun e => p + T - (intOf e).toNat)
      case atStart => exact ⟨p, rfl, by omega, by omega⟩
      case round =>
        obtain ⟨j, rfl, hj1, hj2⟩ := hrel
        have hsc := HSC.out (j - p) (by omega)
        rw [show p + (j - p) = j by omega] at hsc
        by_cases hj : j < p + T
        · obtain ⟨h1, h2⟩ := hsc.1 (by omega)
          have hjM : (j : Int) < M := by omega
          obtain ⟨c, hc⟩ : ∃ c, s.getD j 0 = c := ⟨_, rfl⟩
          have hmi : ∀ h, (tx s)[j]'h = c := fun h => by rw [tx_get, hc]
          have e1 : ((c.toNat : Int) != 10) = true := by
            have : c.toNat ≠ 10 := fun h => h2 (by rw [hc]; exact UInt8.toNat_inj.1 h)
            simp; omega
          clear hsc h2 hc
          go_wp2_with (fail)
          exact ⟨⟨j + 1, by go_num, by omega, by omega⟩, by simp [intOf]; omega⟩
        · have hjT : j = p + T := by omega
          have hcut := HCUT.out
          rw [← hjT] at hcut
          have hjM : j ≤ M := by omega
          have hjMi : (j : Int) ≤ (M : Int) := by omega
          have hpj : (p : Int) ≤ (j : Int) := by omega
          have hend : (¬ (j : Int) < (M : Int)) ∨ ((j : Int) < (M : Int) ∧ ∀ h, (tx s)[j]'h = 10) := by
            by_cases h : j < M
            · refine .inr ⟨by omega, fun h' => ?_⟩
              rw [tx_get]
              exact Classical.byContradiction fun h2 => by have := hsc.2 ⟨h, h2⟩; omega
            · exact .inl (by omega)
          have HJT := Lib.hid hjT
          have HTB : Hid (t.length ≤ 500000) := Lib.hid (by have := HT.out; omega)
          have HTB2 : Hid (t.length ≤ M) := Lib.hid (by have := HT.out; omega)
          clear hjT hsc hj
          rcases hend with hend | ⟨hend, hmi⟩
          all_goals
            go_wp2_with (fail)
            refine (rwords_any t wr HTB.out).mono ?_
            rintro e w3 ⟨⟨A0, nw, cw, rfl, hnw, ho3⟩, hb3⟩
            have B3 := Lib.hid (below_on hok.out.below hb3 hok.out.below.size)
            have MS3 := Lib.hid (hok.out.ms.below hb3)
            have O3 := Lib.hid (ho3.base_le hok.out.below.size)
            obtain ⟨hw1, hw2⟩ := textW_len t
            obtain ⟨ws, hws⟩ : ∃ ws, textW t = ws := ⟨_, rfl⟩
            have hrs0 := HRS.out
            rw [hws] at hw1 hw2 O3 hnw hrs0
            have HNW := Lib.hid hnw
            have HW2 := Lib.hid hw2
            have hnwb : nw ≤ 262145 := by have := HTB2.out; omega
            have HRS3 := Lib.hid hrs0
            clear ho3 hb3 hws hw1 hw2 hnw hrs0 hcut
            by_cases h0 : nw = 0
            · subst h0
              have hwe : ws = [] := List.length_eq_zero_iff.1 HNW.out.symm
              have hrs := HRS3.out
              rw [if_pos hwe] at hrs
              have FIN := Lib.hid (show PdI w s R a q cap L (j + 1) (k + 1) w3 from ⟨B3.out, MS3.out, by rw [HJT.out]; exact hrs, hok.out.few⟩)
              have HK1 : Hid (k1 + 1 = k + 1 + 1) := Lib.hid (by have := HK.out; omega)
              clear hrs hwe
              go_wp2_with (fail)
              exact ⟨⟨a, q, cap, j + 1, k + 1, k1 + 1, L, rfl, by go_num, by go_num, by omega, by omega, HK1, FIN⟩, by simp [intOf]; omega⟩
            · have hq0 : ((nw : Int) == 0) = false := by simp; omega
              have hwne : ws ≠ [] := fun e => h0 (by rw [HNW.out, e]; rfl)
              have hrs := HRS3.out
              rw [if_neg hwne] at hrs
              have HRS4 := Lib.hid hrs
              have HWNE := Lib.hid hwne
              have hwl : 0 < ws.length := by have := HNW.out; omega
              obtain ⟨A, hA0, _, hAl, _, _⟩ := O3.out.at_ (i := 0) (by simpa using hwl)
              subst hA0
              have HAL := Lib.hid hAl
              clear hrs hwne hwl hAl
              go_wp2_with (fail)
              refine (rone_any w3 A nw cw ws HNW.out HAL.out (fun i hi => ?_) HWNE.out (fun x hx => by have j1 := HW2.out x hx; have j2 := HTB.out; omega) (by have := HNW.out; omega)).mono ?_
              · obtain ⟨g, hg, _, _, hc, _⟩ := O3.out.at_ (i := i) (by simpa using hi)
                cases hg
                rw [hc]
                simp [hi]
              rintro e w4 ⟨⟨m, aB, nB, cB, aD, nD, cD, er, rfl, hbB, hbD, hone⟩, hb4⟩
              have B4 := Lib.hid (below_on B3.out hb4 B3.out.size)
              have MS4 := Lib.hid (MS3.out.below hb4)
              have HBB := Lib.hid (hbB.base_le B3.out.size)
              have HBD := Lib.hid (hbD.base_le B3.out.size)
              have HONE := Lib.hid hone
              clear hb4 hbB hbD hone
              go_wp2_with (with_reducible refine stop_storem ?_)
              refine wpList_storem rfl rfl rfl rfl (mvCs_one _ _ _ _ _ _ _) rfl rfl (Blk.new w4 _ _) move_size ?_
              intro w5 bk5 o5
              have b5 : Below w4.heap.size w4 w5 := Below.trans ((Below.refl _ _).alloc (Nat.le_refl _) _) (below_of_only o5 (by simp) (by rintro k hk rfl; simp at hk))
              have B5 := Lib.hid (below_on B4.out b5 B4.out.size)
              have MS5 := Lib.hid (MS4.out.below b5)
              have HBB5 := Lib.hid (HBB.out.only (only_of_below b5 (fun _ => False)) (fun _ _ h => h))
              have HBD5 := Lib.hid (HBD.out.only (only_of_below b5 (fun _ => False)) (fun _ _ h => h))
              have BK5 := Lib.hid bk5
              clear b5 bk5 o5
              by_cases he : er = 0
              · subst he
                have hone2 : oneE ws = .ok m := by
                  rcases HONE.out with ⟨_, h⟩ | ⟨h, _⟩
                  · exact h
                  · exact absurd rfl h
                have hrs := HRS4.out
                rw [hone2] at hrs
                dsimp only at hrs
                by_cases h2 : L.length = 2000
                · rw [if_pos h2] at hrs
                  have hn2 : ((q : Int) == 2000) = true := by
                    have j1 := MS4.out.len
                    simp; omega
                  have HRS5 := Lib.hid hrs
                  clear hrs hone2
                  go_wp2_with (fail)
                  go_returns
                  refine ⟨none, 0, 0, ?_, ?_, B5.out⟩ <;> rw [← HRS5.out]
                  · rw [HK.out]; rfl
                  · exact MsAt.nil _ _
                · rw [if_neg h2] at hrs
                  have hn2 : q < 2000 := by
                    have j1 := MS4.out.len
                    have j2 := hok.out.few
                    omega
                  have hq2 : ((q : Int) == 2000) = false := by simp; omega
                  have HRS5 := Lib.hid hrs
                  have hL : L.length + 1 ≤ 2000 := by have j1 := MS4.out.len; omega
                  clear hrs hone2
                  have bk5 := BK5.out
                  unfold mvCs at bk5
                  have BL5 := Lib.hid bk5
                  have HK1 : Hid (k1 + 1 = k + 1 + 1) := Lib.hid (by have := HK.out; omega)
                  clear bk5
                  go_wp2_with (with_reducible refine stop_loadm ?_)
                  refine wpList_loadAll Tryd.underlying42 move_size rfl rfl rfl BL5.out rfl ?_
                  go_wp2_with (with_reducible refine stop_bs ?_)
                  refine wpList_bs1 rfl rfl rfl rfl (by kernel_rfl) ?_
                  obtain ⟨xs, ho6, he6⟩ := MS5.out.ex
                  refine wpList_app mv_et rfl rfl rfl rfl (ho6.below ((Below.refl _ _).alloc (Nat.le_refl _) _)) (SrcAt.cells w5 _ 42 1 9 rfl (by simp [Value.oneCell'])) (by simp only [maxLen]; omega) (by omega) (by have := B5.out.size; simp; omega) ?_
                  intro a6 cap6 w6 ho7 on6 hat6
                  have on56 : Only (fun k => ∃ y, a = some y ∧ y.block = k) w5 w6 := Only.trans (only_of_below ((Below.refl _ _).alloc (Nat.le_refl _) _) _) on6
                  have hfree : ∀ k, k < w.heap.size → ¬ ∃ y, a = some y ∧ y.block = k := by
                    rintro k hk ⟨y, hy, rfl⟩
                    exact absurd (ho6.block hy).1 (by omega)
                  have FIN := Lib.hid (show PdI w s R a6 (q + 1) cap6 (L ++ [m]) (j + 1) (k + 1) w6 from
                    ⟨below_onto B5.out on56 B5.out.size hfree, ⟨⟨_, ho7, (he6.app ho6 on56).snoc m (HBB5.out.only on56 (by
                      rintro x hx ⟨y, hy, e⟩
                      exact own_types (by decide) HBB5.out.own ho6 x y hx hy e.symm)) (HBD5.out.only on56 (by
                      rintro x hx ⟨y, hy, e⟩
                      exact own_types (by decide) HBD5.out.own ho6 x y hx hy e.symm))⟩, by rw [List.length_append, ← MS5.out.len]; rfl⟩, by rw [HJT.out]; exact HRS5.out, by simp; omega⟩)
                  clear ho6 ho7 on6 on56 hat6 he6 hfree
                  go_wp2_with (fail)
                  exact ⟨⟨a6, q + 1, cap6, j + 1, k + 1, k1 + 1, L ++ [m], rfl, by go_num, by go_num, by omega, by omega, HK1, FIN⟩, by simp [intOf]; omega⟩
              · have hq1 : ((er : Int) == 0) = false := by simp; omega
                have hone2 : oneE ws = .err er := by
                  rcases HONE.out with ⟨h, _⟩ | ⟨_, h⟩
                  · exact absurd h he
                  · exact h
                have hrs := HRS4.out
                rw [hone2] at hrs
                dsimp only at hrs
                have HRS5 := Lib.hid hrs
                clear hrs hone2
                go_wp2_with (fail)
                go_returns
                refine ⟨none, 0, 0, ?_, ?_, B5.out⟩ <;> rw [← HRS5.out]
                · rw [HK.out]; rfl
                · exact MsAt.nil _ _
    · have hrs := hok.out.res
      rw [remL, if_neg (by rw [HM.out]; exact hlt), parseLs] at hrs
      have HRS := Lib.hid hrs
      have hpi : ¬ (p : Int) ≤ (M : Int) := by omega
      clear hrs
      go_wp2_with (fail)
      go_returns
      refine ⟨a, q, cap, ?_, ?_, hok.out.below⟩ <;> rw [← HRS.out]
      · rfl
      · exact hok.out.ms
end Go.Proofs.YthangjgdjhhfgaaDoor
