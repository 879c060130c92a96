/- The document's One. -/
import Derived.Test.YthangjgdjhhfgaaDoorScD7
namespace Go.Proofs.YthangjgdjhhfgaaDoor
open Go.RowKit
set_option linter.unusedVariables false
/-- What the rounds of One keep. -/
structure OnI (w0 : World) (s : List UInt8) (k : Nat) (w : World) : Prop where
  below : Below w0.heap.size w0 w
  res : Blk w w0.heap.size zeroM 42
  kind : kindF s (31 - k) k = kindW s
/-- What the rounds over a word's letters keep. -/
structure OmI (w0 : World) (mb : Nat) (L : List UInt8) (ws : List (List UInt8)) (R : Option Mv) (i : Nat) (w : World) : Prop where
  below : Below w0.heap.size w0 w
  res : Blk w w0.heap.size zeroM 42
  out : ∃ m aB nB cB aD nD cD, Blk w mb (mvCs m (.slice aB nB cB) (.slice aD nD cD)) 42 ∧ By w w0.heap.size aB nB cB m.b ∧ By w w0.heap.size aD nD cD m.d ∧ runD (L.drop i) (ws.drop i) m = R
theorem lettersD_ok : ∀ k, k < 27 → ∀ c ∈ lettersD k, c = 115 ∨ c = 110 ∨ c = 105 ∨ c = 99 ∨ c = 98 ∨ c = 102 ∨ c = 116 ∨ c = 100 := by decide
theorem lettersD_4 : ∀ k, k < 27 → (lettersD k).length ≤ 4 := by decide
theorem By.apart {w w' : World} {base : Nat} {a : Option Addr} {n cap : Nat} {l : List UInt8} (h : By w base a n cap l) {b : Nat} {cs : Array Value} (hb : Blk w b cs 42) (on : Only (· = b) w w') : By w' base a n cap l :=
  h.only on (fun x hx e => own_blk (T := 42) (by decide) h.own hb ⟨x, hx, e⟩)
set_option maxRecDepth 100000 in
set_option maxHeartbeats 16000000 in
theorem rone_any (w : World) (A n cap : Nat) (ws : List (List UInt8)) (hn : n = ws.length) (hA : A < w.heap.size) (hc : ∀ i, i < ws.length → w.cell? ⟨A, i, none⟩ = some (.string (tx (ws.getD i [])))) (h0 : ws ≠ []) (hs : ∀ s ∈ ws, s.length ≤ 500000) (hl : ws.length ≤ 1000000) :
    Calls Tryd.prog 22 #[.slice (some ⟨A, 0, none⟩) n cap] w fun e w' => MvPost w.heap.size ws e w' ∧ Below w.heap.size w w' := by
  obtain ⟨s0, wsr, rfl⟩ : ∃ a r, ws = a :: r := by cases ws with
    | nil => exact absurd rfl h0
    | cons a r => exact ⟨a, r, rfl⟩
  have hn1 : 1 ≤ n := by rw [hn]; simp
  have hnb : n ≤ 1000000 := by rw [hn]; exact hl
  have b1 : Below w.heap.size w (w.alloc (.cells zeroM 42)) := (Below.refl _ _).alloc (Nat.le_refl _) _
  have n1 := Blk.new w zeroM 42
  have hzl : zeroM = #[.int .u8 0, .int .u8 0, .int .i64 0, .int .u64 0, .int .u64 0, .slice none 0 0, .int .u32 0, .int .u32 0, .slice none 0 0] := rfl
  obtain ⟨w1, hw1⟩ : ∃ w1, w.alloc (.cells zeroM 42) = w1 := ⟨_, rfl⟩
  rw [hw1] at b1 n1
  rw [hzl] at hw1
  have HST : Hid (OnI w s0 1 w1) := Lib.hid ⟨b1, n1, rfl⟩
  have HC := Lib.hid hc
  have HN := Lib.hid hn
  have HS := Lib.hid hs
  have HA := Lib.hid hA
  have HW1 := Lib.hid hw1
  clear b1 n1 hw1 hzl hc hn hs hl h0 hA
  go_enter Tryd.func22, Tryd.ntmps22
  go_wp2_with (fail)
  rw [HW1.out]
  go_loopw [4, 5, 6, 7] (fun v _ _ _ wr => ∃ k : Nat, v = .int .u8 k ∧ 1 ≤ k ∧ k ≤ 27 ∧ Hid (OnI w s0 k wr)) (fun v _ _ _ _ => 27 - (intOf v).toNat)
  case atStart => exact ⟨1, rfl, by omega, by omega, HST⟩
  case round =>
    obtain ⟨k, rfl, hk1, hk27, hok⟩ := hrel
    by_cases hlt : k < 27
    · have hki : (k : Int) < 27 := by omega
      have hik : isK k = true := by simp [isK]; omega
      have hfk : ∀ w', Calls Tryd.prog 40 #[.int .u8 k] w' fun x w'' => x = .returned (.tuple #[.string (tx (wordK k)), .string (tx (lettersD k)), .bool true]) ∧ Below w'.heap.size w' w'' := fun w' => by
        have := rform_any k w' (by omega)
        rw [formRV, if_pos hik, wordsR_K k hik] at this
        exact this
      have hkd := hok.out.kind
      rw [show 31 - k = (30 - k) + 1 by omega, kindF, if_pos hik] at hkd
      have hok2 := lettersD_ok k hlt
      have hl4 := lettersD_4 k hlt
      have hLD : ∀ m, oneD (s0 :: wsr) = m → (kindW s0 = k → (if (s0 :: wsr).length ≠ (lettersD k).length + 1 then OneR.err 2 else match runD (lettersD k) wsr (mv0 k) with | some m => .ok m | none => .err 5) = m) := fun m hm hkk => by
        rw [← hm]; unfold oneD; rw [show (s0 :: wsr).getD 0 [] = s0 from rfl, hkk, if_neg (show ¬ k = 0 by omega)]; rfl
      have HLD := Lib.hid (hLD _ rfl)
      rw [oneD_E] at HLD
      obtain ⟨wk, hwk⟩ : ∃ x, wordK k = x := ⟨_, rfl⟩
      obtain ⟨lk, hlk⟩ : ∃ x, lettersD k = x := ⟨_, rfl⟩
      rw [hwk] at hkd
      rw [hlk] at hok2 hl4 HLD
      have HFK := Lib.hid hfk
      rw [hwk, hlk] at HFK
      have HOK2 := Lib.hid hok2
      clear hfk hwk hlk hik hok2 hLD
      have HKD := Lib.hid hkd
      clear hkd
      go_wp2_with (fail)
      refine (HFK.out _).mono ?_
      rintro e w2 ⟨rfl, hb2⟩
      have B2 := Lib.hid (below_on hok.out.below hb2 hok.out.below.size)
      have N2 := Lib.hid (hok.out.res.below hb2)
      have c0 : w2.cell? ⟨A, 0, none⟩ = some (.string (tx s0)) := (B2.out.cell (p := ⟨A, 0, none⟩) HA.out).trans (HC.out 0 (by simp))
      clear hb2
      by_cases hw : wk = s0
      · have q1 : (wk == s0) = true := by simpa using hw
        have q2 : (s0 == wk) = true := by simpa using hw.symm
        have q3 : (wk != s0) = false := by simpa using hw
        have hkd := HKD.out
        rw [if_pos hw] at hkd
        have hone := HLD.out hkd.symm
        obtain ⟨q, hq⟩ : ∃ q, lk.length = q := ⟨_, rfl⟩
        have hsz : (tx lk).size = q := by rw [tx_size, hq]
        rw [hq] at hone hl4
        have hnn : (s0 :: wsr).length = n := HN.out.symm
        rw [hnn] at hone
        clear hkd hw hnn
        by_cases hm : n = q + 1
        · rw [if_neg (by omega)] at hone
          have e1 : ((n : Int) == (q : Int) + 1) = true := by simp; omega
          have e2 : ((n : Int) != (q : Int) + 1) = false := by simp; omega
          have HONE := Lib.hid hone
          have HQ := Lib.hid hq
          clear hone hq
          have HM := Lib.hid hm
          clear hm
          have b3 : Below w.heap.size w (w2.alloc (.cells (mvCs (mv0 k) (.slice none 0 0) (.slice none 0 0)) 42)) := B2.out.alloc B2.out.size _
          have r3 := N2.out.alloc (.cells (mvCs (mv0 k) (.slice none 0 0) (.slice none 0 0)) 42)
          have k3 := Blk.new w2 (mvCs (mv0 k) (.slice none 0 0) (.slice none 0 0)) 42
          obtain ⟨w3, hw3⟩ : ∃ w3, w2.alloc (.cells (mvCs (mv0 k) (.slice none 0 0) (.slice none 0 0)) 42) = w3 := ⟨_, rfl⟩
          have hw3' : w2.alloc (.cells #[.int .u8 k, .int .u8 0, .int .i64 0, .int .u64 0, .int .u64 0, .slice none 0 0, .int .u32 0, .int .u32 0, .slice none 0 0] 42) = w3 := hw3
          rw [hw3] at b3 r3 k3
          have hz2 := N2.out.lt
          obtain ⟨R, hR⟩ : ∃ R, runD lk wsr (mv0 k) = R := ⟨_, rfl⟩
          have hone2 := HONE.out
          rw [hR] at hone2
          have HON2 := Lib.hid hone2
          have HST2 : Hid (OmI w w2.heap.size lk wsr R 0 w3) := Lib.hid ⟨b3, r3, mv0 k, none, 0, 0, none, 0, 0, k3, By.nil _ _, By.nil _ _, hR⟩
          have HW3 := Lib.hid hw3'
          clear b3 r3 k3 hw3 hw3' hone2 hR
          go_wp2_with (fail)
          rw [HW3.out]
          obtain ⟨mb, hmb⟩ : ∃ mb, w2.heap.size = mb := ⟨_, rfl⟩
          rw [hmb] at HST2 hz2 ⊢
          clear hmb c0 e1 e2 q1 q2 q3
          go_loopw [9, 10, 11] (fun i _ _ wr => ∃ j : Nat, i = .int .i64 j ∧ j ≤ q ∧ Hid (OmI w mb lk wsr R j wr)) (fun i _ _ _ => q - (intOf i).toNat)
          case atStart => exact ⟨0, rfl, by omega, HST2⟩
          case round =>
            obtain ⟨j, rfl, hj, hom⟩ := hrel
            by_cases hjq : j < q
            · have hji : (j : Int) < q := by omega
              obtain ⟨c, hc⟩ : ∃ c, lk.getD j 0 = c := ⟨_, rfl⟩
              have hjl : j < lk.length := by rw [HQ.out]; exact hjq
              have hmi : ∀ h, (tx lk)[j]'h = c := fun h => by rw [tx_get, hc]
              have hco := HOK2.out c (by rw [← hc]; simp [List.getD, hjl])
              obtain ⟨s, hsj⟩ : ∃ s, wsr.getD j [] = s := ⟨_, rfl⟩
              have hwl : wsr.length = q := by have := HN.out; have := HM.out; simp at *; omega
              have hsl : s.length ≤ 500000 := HS.out s (by rw [← hsj]; simp [List.getD, hwl, hjq])
              have hdl : lk.drop j = c :: lk.drop (j + 1) := by rw [List.drop_eq_getElem_cons hjl]; simp [← hc, hjl]
              have hdw : wsr.drop j = s :: wsr.drop (j + 1) := by rw [List.drop_eq_getElem_cons (by omega)]; simp [← hsj, hwl, hjq]
              have hcw := (hom.out.below.cell (p := ⟨A, j + 1, none⟩) HA.out).trans (HC.out (j + 1) (by simp; omega))
              rw [show (s0 :: wsr).getD (j + 1) [] = wsr.getD j [] from rfl, hsj] at hcw
              have hAw : A < wr.heap.size := Nat.lt_of_lt_of_le HA.out hom.out.below.size
              obtain ⟨m, aB, nB, cB, aD, nD, cD, hmk, hmB, hmD, hrun⟩ := hom.out.out
              rw [hdl, hdw, runD] at hrun
              have HMK := Lib.hid hmk
              have HMB := Lib.hid hmB
              have HMD := Lib.hid hmD
              have HRUN := Lib.hid hrun
              have HSL := Lib.hid hsl
              have HCO := Lib.hid hco
              have hbs := hom.out.below.size
              have hmlt := hmk.lt
              obtain ⟨j1, hj1⟩ : ∃ j1, j + 1 = j1 := ⟨_, rfl⟩
              have hjn : decide (n ≤ j1) = false := by have := HM.out; simp; omega
              have hjn1 : (j1 : Int) < (n : Int) := by have := HM.out; omega
              have hwr1 : IntKind.i64.wrap ((j : Int) + 1) = (j1 : Int) := by rw [IntWalk.i64_in _ (by omega)]; omega
              rw [hj1] at hcw
              have HJ1 := Lib.hid hj1
              clear hc hsj hjl hwl hsl hdl hdw hmk hmB hmD hrun hco hj1
              go_wp2_with (fail)
              refine rg_start 16 ?_
              refine rg_belowB fun p hB' hx hne hC hbel => ?_
              have k0 : ∀ z : Wd p, z.w.cell? ⟨A, j1, none⟩ = some (.string (tx s)) := fun z => (hx z _ _ _ hAw).trans hcw
              refine rg_quiet 7 [0,1,2,3,4,5,6,7,8] hC ?_
              simp only [pickD, List.map_cons, List.map_nil, List.getD_cons_zero, List.getD_cons_succ]
              refine wpQuiet_loadAll Tryd.underlying42 move_size rfl rfl rfl (fun w' hc => HMK.out.drew.below (hB' w' hc)) rfl ?_
              simp only [Act.put, List.setIfInBounds_toArray, List.set_cons_zero, List.set_cons_succ]
              repeat (go_big_quiet_step (fail))
              refine wpQuiet_nil ?_
              refine rg_among [9, 13] ?_
              simp only [List.forall_mem_cons, List.getD_cons_zero, List.getD_cons_succ]
              refine ⟨?_, ?_, by simp⟩
              · have dA : Below wr.heap.size wr wr.drew := (Below.refl _ _).drew
                go_wp2_with (fail)
                refine (rset_any _ w.heap.size m s c HCO.out (HMB.out.below dA) (HMD.out.below dA) hbs HSL.out).mono ?_
                rintro e w5 ⟨⟨m', aB', nB', cB', aD', nD', cD', bb, rfl, hB5, hD5, hres⟩, b5⟩
                go_wp2_with (fail)
                refine ⟨hbel _ b5, ?_⟩
                refine rg_quiet 3 [10,11,12] (hbel _ b5) ?_
                simp only [pickD, List.map_cons, List.map_nil, List.getD_cons_zero, List.getD_cons_succ]; repeat (go_big_quiet_step (fail))
                refine wpQuiet_nil ?_
                refine rg_act 13 ?_
                go_wp2_with (fail)
                refine ⟨hbel _ (b5.alloc b5.size _), ?_⟩
                refine rg_act 14 ?_
                go_wp2_with (with_reducible refine stop_storem ?_)
                refine Stop.out ?_
                refine wpList_storem rfl rfl (cs := mvCs m' (.slice aB' nB' cB') (.slice aD' nD' cD')) rfl rfl (mvCs_one _ _ _ _ _ _ _) rfl rfl (Blk.new w5 _ _) move_size ?_
                intro w6 hb6 on6
                have hs5 := b5.size
                have bx6 : Below w5.heap.size w5 w6 := below_onto ((Below.refl _ _).alloc (Nat.le_refl _) _) on6 (by simp) (by intro z hz e; omega)
                have b6 : Below wr.drew.heap.size wr.drew w6 := below_on b5 bx6 hs5
                go_wp2_with (fail)
                refine ⟨hbel _ b6, ?_⟩
                refine rg_quiet 0 [15] (hbel _ b6) ?_
                simp only [pickD, List.map_cons, List.map_nil, List.getD_cons_zero, List.getD_cons_succ]; repeat (go_big_quiet_step (fail))
                refine wpQuiet_nil ?_
                refine rg_end ?_
                have hbb6 : Below wr.heap.size wr w6 := show Below wr.heap.size wr w6 from (Below.refl _ _).drew.trans b6
                have HK6 := Lib.hid (HMK.out.below hbb6)
                have HN6 := Lib.hid (hom.out.res.below hbb6)
                have B6 := Lib.hid (below_on hom.out.below hbb6 hom.out.below.size)
                have HB6 := Lib.hid (hB5.below bx6)
                have HD6 := Lib.hid (hD5.below bx6)
                have H6 := Lib.hid hb6
                have HRES := Lib.hid hres
                clear hbel hC hne hx k0 hB' hb6 on6 b6 bx6 hbb6 hB5 hD5 hres b5 hcw hmi
                rcases HRES.out with ⟨rfl, hr⟩ | ⟨rfl, hr⟩
                · have hrn := HRUN.out
                  rw [hr, Option.bind_some] at hrn
                  have HRN := Lib.hid hrn
                  clear hr hrn
                  go_wp2_with (with_reducible refine stop_loadm ?_)
                  refine Stop.out ?_
                  refine wpList_loadAll Tryd.underlying42 move_size rfl rfl rfl H6.out rfl ?_
                  go_wp2_with (with_reducible refine stop_storem ?_)
                  refine Stop.out ?_
                  refine wpList_storem rfl rfl rfl rfl (mvCs_one _ _ _ _ _ _ _) rfl rfl HK6.out move_size ?_
                  intro w7 hb7 on7
                  have FIN : Hid (OmI w mb lk wsr R (j + 1) w7) := Lib.hid ⟨below_onto B6.out on7 B6.out.size (by intro z hz e; omega), on7.blk HN6.out (by omega), m', aB', nB', cB', aD', nD', cD', hb7, HB6.out.apart HK6.out on7, HD6.out.apart HK6.out on7, HRN.out⟩
                  clear hb7 on7
                  go_wp2_with (fail)
                  exact ⟨⟨j + 1, by rw [HJ1.out], by omega, FIN⟩, by have := HJ1.out; simp [intOf]; omega⟩
                · have hrn := HRUN.out
                  rw [hr, Option.bind_none] at hrn
                  have hno := HON2.out
                  rw [← hrn] at hno
                  have HNO := Lib.hid hno.symm
                  clear hr hrn hno
                  go_wp2_with (with_reducible refine stop_storem ?_)
                  refine Stop.out ?_
                  refine wpList_storem rfl rfl (cs := zeroM) rfl rfl (by simp [zeroM, mvCs, Value.oneCell']) rfl rfl HN6.out move_size ?_
                  intro w9 hb9 on9
                  have b9 : Below w.heap.size w w9 := below_onto B6.out on9 B6.out.size (by intro z hz h9; omega)
                  have H9 := Lib.hid hb9
                  have B9 := Lib.hid b9
                  clear hb9 on9 b9
                  go_wp2_with (fail)
                  refine bodyPost_ret (results_e rfl _ _ rfl rfl (ret_m _ _ _ rfl H9.out)) rfl ?_
                  exact ⟨⟨mv0 0, none, 0, 0, none, 0, 0, 5, rfl, By.nil _ _, By.nil _ _, .inr ⟨by decide, HNO.out⟩⟩, B9.out⟩
              · have dA : Below wr.heap.size wr (wr.drew.alloc (.cells zeroM 42)) := (Below.refl _ _).drew.alloc (Nat.le_refl _) _
                have dB := Blk.new wr.drew zeroM 42
                go_wp2_with (fail)
                refine ⟨hbel _ ((Below.refl _ _).alloc (Nat.le_refl _) _), ?_⟩
                refine rg_act 9 ?_
                go_wp2_with (fail)
                refine (rset_any _ w.heap.size m s c HCO.out (HMB.out.below dA) (HMD.out.below dA) (by have := dA.size; omega) HSL.out).mono ?_
                rintro e w5 ⟨⟨m', aB', nB', cB', aD', nD', cD', bb, rfl, hB5, hD5, hres⟩, b5⟩
                have dC : Below wr.heap.size wr w5 := below_on dA b5 dA.size
                have dC' : Below wr.drew.heap.size wr.drew w5 := below_on ((Below.refl _ _).alloc (Nat.le_refl _) _) b5 dA.size
                have dD := dB.below b5
                go_wp2_with (fail)
                refine ⟨hbel _ dC', ?_⟩
                refine rg_quiet 2 [10,11,12] (hbel _ dC') ?_
                simp only [pickD, List.map_cons, List.map_nil, List.getD_cons_zero, List.getD_cons_succ]; repeat (go_big_quiet_step (fail))
                refine wpQuiet_nil ?_
                refine rg_act 14 ?_
                go_wp2_with (with_reducible refine stop_storem ?_)
                refine Stop.out ?_
                refine wpList_storem rfl rfl (cs := mvCs m' (.slice aB' nB' cB') (.slice aD' nD' cD')) rfl rfl (mvCs_one _ _ _ _ _ _ _) rfl rfl dD move_size ?_
                intro w6 hb6 on6
                have hs5 := b5.size
                have bx6 : Below wr.drew.heap.size w5 w6 := below_of_only on6 dC'.size (by intro z hz e; exact absurd e (Nat.ne_of_lt hz))
                have b6 : Below wr.drew.heap.size wr.drew w6 := dC'.trans bx6
                go_wp2_with (fail)
                refine ⟨hbel _ b6, ?_⟩
                refine rg_quiet 0 [15] (hbel _ b6) ?_
                simp only [pickD, List.map_cons, List.map_nil, List.getD_cons_zero, List.getD_cons_succ]; repeat (go_big_quiet_step (fail))
                refine wpQuiet_nil ?_
                refine rg_end ?_
                have hbb6 : Below wr.heap.size wr w6 := show Below wr.heap.size wr w6 from (Below.refl _ _).drew.trans b6
                have HK6 := Lib.hid (HMK.out.below hbb6)
                have HN6 := Lib.hid (hom.out.res.below hbb6)
                have B6 := Lib.hid (below_on hom.out.below hbb6 hom.out.below.size)
                have HB6 := Lib.hid (hB5.apart dD on6)
                have HD6 := Lib.hid (hD5.apart dD on6)
                have H6 := Lib.hid hb6
                have HRES := Lib.hid hres
                clear dA dB dC dC' dD hbel hC hne hx k0 hB' hb6 on6 b6 bx6 hbb6 hB5 hD5 hres b5 hcw hmi
                rcases HRES.out with ⟨rfl, hr⟩ | ⟨rfl, hr⟩
                · have hrn := HRUN.out
                  rw [hr, Option.bind_some] at hrn
                  have HRN := Lib.hid hrn
                  clear hr hrn
                  go_wp2_with (with_reducible refine stop_loadm ?_)
                  refine Stop.out ?_
                  refine wpList_loadAll Tryd.underlying42 move_size rfl rfl rfl H6.out rfl ?_
                  go_wp2_with (with_reducible refine stop_storem ?_)
                  refine Stop.out ?_
                  refine wpList_storem rfl rfl rfl rfl (mvCs_one _ _ _ _ _ _ _) rfl rfl HK6.out move_size ?_
                  intro w7 hb7 on7
                  have FIN : Hid (OmI w mb lk wsr R (j + 1) w7) := Lib.hid ⟨below_onto B6.out on7 B6.out.size (by intro z hz e; omega), on7.blk HN6.out (by omega), m', aB', nB', cB', aD', nD', cD', hb7, HB6.out.apart HK6.out on7, HD6.out.apart HK6.out on7, HRN.out⟩
                  clear hb7 on7
                  go_wp2_with (fail)
                  exact ⟨⟨j + 1, by rw [HJ1.out], by omega, FIN⟩, by have := HJ1.out; simp [intOf]; omega⟩
                · have hrn := HRUN.out
                  rw [hr, Option.bind_none] at hrn
                  have hno := HON2.out
                  rw [← hrn] at hno
                  have HNO := Lib.hid hno.symm
                  clear hr hrn hno
                  go_wp2_with (with_reducible refine stop_storem ?_)
                  refine Stop.out ?_
                  refine wpList_storem rfl rfl (cs := zeroM) rfl rfl (by simp [zeroM, mvCs, Value.oneCell']) rfl rfl HN6.out move_size ?_
                  intro w9 hb9 on9
                  have b9 : Below w.heap.size w w9 := below_onto B6.out on9 B6.out.size (by intro z hz h9; omega)
                  have H9 := Lib.hid hb9
                  have B9 := Lib.hid b9
                  clear hb9 on9 b9
                  go_wp2_with (fail)
                  refine bodyPost_ret (results_e rfl _ _ rfl rfl (ret_m _ _ _ rfl H9.out)) rfl ?_
                  exact ⟨⟨mv0 0, none, 0, 0, none, 0, 0, 5, rfl, By.nil _ _, By.nil _ _, .inr ⟨by decide, HNO.out⟩⟩, B9.out⟩
            · obtain rfl : j = q := by omega
              obtain ⟨m, aB, nB, cB, aD, nD, cD, hmk, hmB, hmD, hrun⟩ := hom.out.out
              rw [List.drop_of_length_le (by rw [HQ.out]; exact Nat.le_refl _), runD] at hrun
              have hno := HON2.out
              rw [← hrun] at hno
              have HNO := Lib.hid hno.symm
              have HMK := Lib.hid hmk
              have HMB := Lib.hid hmB
              have HMD := Lib.hid hmD
              clear hno hrun hmk hmB hmD
              go_wp2_with (with_reducible refine stop_loadm ?_)
              refine Stop.out ?_
              refine wpList_loadAll Tryd.underlying42 move_size rfl rfl rfl HMK.out rfl ?_
              go_wp2_with (with_reducible refine stop_storem ?_)
              refine Stop.out ?_
              refine wpList_storem rfl rfl rfl rfl (mvCs_one _ _ _ _ _ _ _) rfl rfl hom.out.res move_size ?_
              intro w9 hb9 on9
              have b9 : Below w.heap.size w w9 := below_onto hom.out.below on9 hom.out.below.size (by intro z hz h9; omega)
              have H9 := Lib.hid hb9
              have B9 := Lib.hid b9
              have HB9 := Lib.hid (HMB.out.apart hom.out.res on9)
              have HD9 := Lib.hid (HMD.out.apart hom.out.res on9)
              clear hb9 on9 b9
              go_wp2_with (fail)
              refine bodyPost_ret (results_e rfl _ _ rfl rfl (ret_m _ _ _ rfl H9.out)) rfl ?_
              exact ⟨⟨m, aB, nB, cB, aD, nD, cD, 0, rfl, HB9.out, HD9.out, .inl ⟨rfl, HNO.out⟩⟩, B9.out⟩
        · rw [if_pos (by omega)] at hone
          have e1 : ((n : Int) == (q : Int) + 1) = false := by simp; omega
          have e2 : ((n : Int) != (q : Int) + 1) = true := by simp; omega
          have HNO := Lib.hid hone.symm
          clear hone
          go_wp2_with (with_reducible refine stop_storem ?_)
          refine Stop.out ?_
          refine wpList_storem rfl rfl (cs := zeroM) rfl rfl (by simp [zeroM, mvCs, Value.oneCell']) rfl rfl N2.out move_size ?_
          intro w9 hb9 on9
          have b9 : Below w.heap.size w w9 := below_onto B2.out on9 B2.out.size (by intro z hz h9; omega)
          have H9 := Lib.hid hb9
          have B9 := Lib.hid b9
          clear hb9 on9 b9
          go_wp2_with (fail)
          refine bodyPost_ret (results_e rfl _ _ rfl rfl (ret_m _ _ _ rfl H9.out)) rfl ?_
          exact ⟨⟨mv0 0, none, 0, 0, none, 0, 0, 2, rfl, By.nil _ _, By.nil _ _, .inr ⟨by decide, HNO.out⟩⟩, B9.out⟩
      · have q1 : (wk == s0) = false := by simpa using hw
        have q2 : (s0 == wk) = false := by simpa using fun h => hw h.symm
        have q3 : (wk != s0) = true := by simpa using hw
        have hkd := HKD.out
        rw [if_neg hw] at hkd
        have FIN : Hid (OnI w s0 (k + 1) w2) := Lib.hid ⟨B2.out, N2.out, by rw [show 31 - (k + 1) = 30 - k by omega]; exact hkd⟩
        clear hkd hw
        go_wp2_with (fail)
        exact ⟨⟨k + 1, by go_num, by omega, by omega, FIN⟩, by simp [intOf]; omega⟩
    · obtain rfl : k = 27 := by omega
      have hkd := hok.out.kind
      have hno : oneE (s0 :: wsr) = .err 2 := by
        unfold oneE
        rw [show (s0 :: wsr).getD 0 [] = s0 from rfl, ← hkd]
        rfl
      have HNO := Lib.hid hno
      clear hkd hno
      go_wp2_with (with_reducible refine stop_storem ?_)
      refine Stop.out ?_
      refine wpList_storem rfl rfl (cs := zeroM) rfl rfl (by simp [zeroM, mvCs, Value.oneCell']) rfl rfl hok.out.res move_size ?_
      intro w9 hb9 on9
      have b9 : Below w.heap.size w w9 := below_onto hok.out.below on9 hok.out.below.size (by intro z hz h9; omega)
      have H9 := Lib.hid hb9
      have B9 := Lib.hid b9
      clear hb9 on9 b9
      go_wp2_with (fail)
      refine bodyPost_ret (results_e rfl _ _ rfl rfl (ret_m _ _ _ rfl H9.out)) rfl ?_
      exact ⟨⟨mv0 0, none, 0, 0, none, 0, 0, 2, rfl, By.nil _ _, By.nil _ _, .inr ⟨by decide, HNO.out⟩⟩, B9.out⟩
end Go.Proofs.YthangjgdjhhfgaaDoor
