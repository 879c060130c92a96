/- The document's Line, by its letters (written by gen_sce3.py). -/
import Derived.Test.YthangjgdjhhfgaaGreatDoorScE4
namespace Go.Proofs.YthangjgdjhhfgaaGreatDoor
open Go.RowKit
set_option linter.unusedVariables false
set_option maxRecDepth 100000 in
set_option maxHeartbeats 64000000 in
theorem rline_sic (m : Mv) (aB : Option Addr) (nB cB : Nat) (aD : Option Addr) (nD cD : Nat) (w : World) (hB : BR w aB nB m.b) (hD : BR w aD nD m.d) (ok : MvOk m) (hb : m.b.length ≤ 4000000) (hd : m.d.length ≤ 4000000) (hi : isK m.kind = true) (hm : lettersE m.kind = [115, 105, 99]) :
    Calls Tryz.prog 9 #[.agg (mvCs m (.slice aB nB cB) (.slice aD nD cD))] w fun e w' => e = .returned (.string (tx (lineR m))) ∧ Below w.heap.size w w' := by
  have b1 : Below w.heap.size w (w.alloc (.cells (mvCs m (.slice aB nB cB) (.slice aD nD cD)) 35)) := (Below.refl _ _).alloc (Nat.le_refl _) _
  have n1 := Blk.new w (mvCs m (.slice aB nB cB) (.slice aD nD cD)) 35
  have c0 : (w.alloc (.cells (mvCs m (.slice aB nB cB) (.slice aD nD cD)) 35)).cell? ⟨w.heap.size, 0, none⟩ = some (.int .u8 (m.kind : Nat)) := n1.cell 0 _ rfl
  obtain ⟨w1, hw1⟩ : ∃ w1, w.alloc (.cells (mvCs m (.slice aB nB cB) (.slice aD nD cD)) 35) = w1 := ⟨_, rfl⟩
  rw [hw1] at b1 n1
  have hk255 := ok.kind
  have hik : 1 ≤ m.kind ∧ m.kind ≤ 26 := by simpa [isK] using hi
  have hform : formRV m.kind = .tuple #[.string (tx (wordK m.kind)), .string (tx (lettersE m.kind)), .bool true] := by rw [formRV, if_pos hi, wordsR_K m.kind hi]; rfl
  have hrl : lineR m = if condR (lettersE m.kind) m = true then [] else wordK m.kind ++ tailR (lettersE m.kind) m := by
    unfold lineR
    rw [hi, Bool.true_and]
    by_cases hc : condR (lettersE m.kind) m = true
    · rw [if_pos hc, if_neg (by simp [hc])]
    · rw [if_neg hc, if_pos (by simpa using hc)]
  have hwl := wordK_len m.kind (by omega)
  have hlo := letsR_ok m.kind (by omega)
  have hll3 := letsR_len m.kind (by omega)
  have hlt0 := hm
  obtain ⟨R, hR⟩ : ∃ R, lineR m = R := ⟨_, rfl⟩
  obtain ⟨wd, hwd⟩ : ∃ x, wordK m.kind = x := ⟨_, rfl⟩
  obtain ⟨lt, hlt⟩ : ∃ x, lettersE m.kind = x := ⟨_, rfl⟩
  rw [hwd] at hrl hwl hform
  rw [hlt] at hrl hlo hll3 hlt0 hform
  rw [hR] at hrl ⊢
  have hnb := hB.len
  have hnd := hD.len
  have hC : condR lt m = condR lt m := rfl
  have m115 : decide ((115 : UInt8) ∈ lt) = true := by rw [hlt0]; decide
  have m110 : decide ((110 : UInt8) ∈ lt) = false := by rw [hlt0]; decide
  have m105 : decide ((105 : UInt8) ∈ lt) = true := by rw [hlt0]; decide
  have m99 : decide ((99 : UInt8) ∈ lt) = true := by rw [hlt0]; decide
  have m98 : decide ((98 : UInt8) ∈ lt) = false := by rw [hlt0]; decide
  have m100 : decide ((100 : UInt8) ∈ lt) = false := by rw [hlt0]; decide
  conv at hC => rhs; unfold condR; simp only [m115, m110, m105, m99, m98, m100, Bool.not_true, Bool.not_false, Bool.true_and, Bool.false_and, Bool.false_or, Bool.or_false, ← hnb, ← hnd]
  rw [hC] at hrl
  obtain ⟨ll, hll⟩ : ∃ ll, lt.length = ll := ⟨_, rfl⟩
  have hsz : (tx lt).size = ll := by rw [tx_size, hll]
  rw [hll] at hll3
  have HF := Lib.hid (fun (c : UInt8) hc (u : World) (hu : Below w.heap.size w u) => rfield_any c hc m aB nB cB aD nD cD u (hB.below hu) (hD.below hu) ok hb hd)
  have HFL := Lib.hid (fun (c : UInt8) => fieldR_len (c := c) ok hb hd)
  have HFO := Lib.hid (fun (u : World) => rform_any m.kind u hk255)
  rw [hform] at HFO
  obtain ⟨k, hk⟩ : ∃ k, m.kind = k := ⟨_, rfl⟩
  rw [hk] at c0 hk255 HFO
  have HB1 := Lib.hid b1
  have N1 := Lib.hid n1
  have HW1 := Lib.hid hw1
  have HRL := Lib.hid hrl
  have HLL := Lib.hid hll
  have HLO := Lib.hid hlo
  have HL1 : Hid (lt.length ≤ 1000) := Lib.hid (by omega)
  have q1' : Hid (∀ u, Blk u w.heap.size (mvCs m (.slice aB nB cB) (.slice aD nD cD)) 35 → u.cell? ⟨w.heap.size, 1, none⟩ = some (.int .u8 (m.side : Nat)) ∧ u.cell? ⟨w.heap.size, 2, none⟩ = some (.int .i64 m.n) ∧ u.cell? ⟨w.heap.size, 3, none⟩ = some (.int .u64 (m.id : Nat)) ∧ u.cell? ⟨w.heap.size, 4, none⟩ = some (.int .u64 (m.code : Nat)) ∧ u.cell? ⟨w.heap.size, 5, none⟩ = some (.slice aB nB cB) ∧ u.cell? ⟨w.heap.size, 6, none⟩ = some (.int .u32 (m.from_ : Nat)) ∧ u.cell? ⟨w.heap.size, 7, none⟩ = some (.int .u32 (m.to_ : Nat)) ∧ u.cell? ⟨w.heap.size, 8, none⟩ = some (.slice aD nD cD)) := Lib.hid (fun u hu => ⟨hu.cell 1 _ rfl, hu.cell 2 _ rfl, hu.cell 3 _ rfl, hu.cell 4 _ rfl, hu.cell 5 _ rfl, hu.cell 6 _ rfl, hu.cell 7 _ rfl, hu.cell 8 _ rfl⟩)
  obtain ⟨side, hside⟩ : ∃ x, m.side = x := ⟨_, rfl⟩
  obtain ⟨n_, hn_⟩ : ∃ x, m.n = x := ⟨_, rfl⟩
  obtain ⟨id_, hid_⟩ : ∃ x, m.id = x := ⟨_, rfl⟩
  obtain ⟨code, hcode⟩ : ∃ x, m.code = x := ⟨_, rfl⟩
  obtain ⟨from_, hfrom_⟩ : ∃ x, m.from_ = x := ⟨_, rfl⟩
  obtain ⟨to_, hto_⟩ : ∃ x, m.to_ = x := ⟨_, rfl⟩
  rw [hside, hn_, hid_, hcode, hfrom_, hto_] at q1'
  simp only [hn_, hfrom_, hto_] at hrl
  clear HRL
  obtain ⟨V0, hV0⟩ : ∃ V, Value.agg (mvCs m (.slice aB nB cB) (.slice aD nD cD)) = V := ⟨_, rfl⟩
  have HV0 := Lib.hid hV0
  clear b1 n1 hw1 ok hB hD hb hd hi hm hform hlt0 hlt hwd hlo hC hll hR hik hnb hnd hside hn_ hid_ hcode hfrom_ hto_ hk hV0
  go_enter Tryz.func9, Tryz.ntmps9
  go_wp2_with (fail)
  rw [HW1.out]
  rw [HV0.out]
  clear c0
  refine (HFO.out w1).mono ?_
  rintro e w2 ⟨rfl, b2⟩
  have B2 := Lib.hid (below_on HB1.out b2 HB1.out.size)
  have N2 := Lib.hid (N1.out.below b2)
  clear b2
  obtain ⟨q1, q2, q3, q4, q5, q6, q7, q8⟩ := q1'.out w2 N2.out
  go_upto_region 2 with (fail)
  simp only [List.append_eq, List.cons_append, List.nil_append]
  by_cases z_n_ : n_ = 0
  · subst z_n_
    by_cases z_B : nB = 0
    · subst z_B
      by_cases z_from_ : from_ = 0
      · subst z_from_
        by_cases z_to_ : to_ = 0
        · subst z_to_
          by_cases z_D : nD = 0
          · subst z_D
            rw [if_neg (by simp)] at hrl
            have HRL := Lib.hid hrl
            clear hrl
            go_wp2_with (first | ((with_reducible refine (has_115 _ _ HL1.out).mono ?_); rintro x wz ⟨rfl, rfl⟩) | ((with_reducible refine (has_110 _ _ HL1.out).mono ?_); rintro x wz ⟨rfl, rfl⟩) | ((with_reducible refine (has_105 _ _ HL1.out).mono ?_); rintro x wz ⟨rfl, rfl⟩) | ((with_reducible refine (has_99 _ _ HL1.out).mono ?_); rintro x wz ⟨rfl, rfl⟩) | ((with_reducible refine (has_98 _ _ HL1.out).mono ?_); rintro x wz ⟨rfl, rfl⟩) | ((with_reducible refine (has_100 _ _ HL1.out).mono ?_); rintro x wz ⟨rfl, rfl⟩))
            clear m115 m110 m105 m99 m98 m100 q1 q2 q3 q4 q5 q6 q7 q8
            have HST : Hid (RlI w m (.slice aB 0 cB) (.slice aD 0 cD) wd lt wd 0 w2) := Lib.hid ⟨B2.out, N2.out, rfl, by omega⟩
            go_loopw [3, 6] (fun s i wr => ∃ (j : Nat) (acc : List UInt8), i = .int .i64 j ∧ s = .string (tx acc) ∧ j ≤ ll ∧ Hid (RlI w m (.slice aB 0 cB) (.slice aD 0 cD) wd lt acc j wr)) (fun _ i _ => ll - (intOf i).toNat)
            case atStart => exact ⟨0, wd, rfl, rfl, by omega, HST⟩
            case round =>
              obtain ⟨j, acc, rfl, rfl, hj, hok⟩ := hrel
              by_cases hjl : j < ll
              · have hji : (j : Int) < (ll : Int) := by omega
                have hjlt : j < lt.length := by rw [HLL.out]; exact hjl
                obtain ⟨c, hc⟩ : ∃ c, lt.getD j 0 = c := ⟨_, rfl⟩
                have hmi : ∀ h, (tx lt)[j]'h = c := fun h => by rw [tx_get, hc]
                have hco := HLO.out c (by rw [← hc]; simp [hjlt])
                have hacc := hok.out.eq
                rw [tailR_drop hjlt, hc] at hacc
                have hln := hok.out.len
                have hfl := HFL.out c
                obtain ⟨fs, hfs⟩ : ∃ x, fieldR c m = x := ⟨_, rfl⟩
                rw [hfs] at hacc hfl
                have HFS := Lib.hid hfs
                have s1 : ∀ W, (Op.stringOp .add (tx acc) (tx [32])).run Tryz.prog W = .ok (.string (tx (acc ++ [32]))) W := fun W => run_add _ _ _ _ (by simp only [List.length_cons, List.length_nil]; omega)
                obtain ⟨y1, hy1⟩ : ∃ y, acc ++ [32] = y := ⟨_, rfl⟩
                rw [hy1] at s1
                have l1 : y1.length = acc.length + 1 := by rw [← hy1]; simp
                have s2 : ∀ W, (Op.stringOp .add (tx y1) (tx fs)).run Tryz.prog W = .ok (.string (tx (y1 ++ fs))) W := fun W => run_add _ _ _ _ (by omega)
                obtain ⟨y2, hy2⟩ : ∃ y, y1 ++ fs = y := ⟨_, rfl⟩
                rw [hy2] at s2
                have l2 : y2.length = y1.length + fs.length := by rw [← hy2]; simp
                have HA2 : Hid (y2 ++ tailR (lt.drop (j + 1)) m = wd ++ tailR lt m) := Lib.hid (by rw [← hacc, ← hy2, ← hy1]; simp)
                have HL2 : Hid (y2.length ≤ 10 + (j + 1) * 9000001) := Lib.hid (by omega)
                have HCO := Lib.hid hco
                have hbl := hok.out.below
                have hkb := hok.out.blk
                have BW := Lib.hid hbl
                have KB := Lib.hid hkb
                clear hc hco hacc hln hfl hfs hy1 hy2 l1 l2 hbl hkb hjlt
                go_wp2_with (fail)
                refine rg_start 9 ?_
                refine rg_belowB fun p hB' hx hne hC hbel => ?_
                refine rg_quiet 3 [0,1,2,3,4,5] hC ?_
                simp only [pickD, List.map_cons, List.map_nil, List.getD_cons_zero, List.getD_cons_succ]
                go_big_quiet_step (fail)
                go_big_quiet_step (fail)
                refine wpQuiet_loadAll Tryz.underlying35 move_size rfl rfl rfl (fun w' hc => KB.out.drew.below (hB' w' hc)) rfl ?_
                simp only [Act.put, List.setIfInBounds_toArray, List.set_cons_zero, List.set_cons_succ]
                repeat (go_big_quiet_step (fail))
                refine wpQuiet_nil ?_
                refine rg_act 6 ?_
                go_wp2_with (fail)
                refine (HF.out c HCO.out wr.drew BW.out.drew).mono ?_
                rintro e w4 ⟨rfl, b4⟩
                rw [HFS.out]
                go_wp2_with (fail)
                refine ⟨hbel _ b4, ?_⟩
                refine rg_quiet 0 [7,8] (hbel _ b4) ?_
                simp only [pickD, List.map_cons, List.map_nil, List.getD_cons_zero, List.getD_cons_succ]; repeat (go_big_quiet_step (fail))
                refine wpQuiet_nil ?_
                refine rg_end ?_
                have B4 := Lib.hid (show Below wr.heap.size wr w4 from (Below.refl _ _).drew.trans b4)
                have FIN : Hid (RlI w m (.slice aB 0 cB) (.slice aD 0 cD) wd lt y2 (j + 1) w4) := Lib.hid ⟨below_on BW.out B4.out BW.out.size, KB.out.below B4.out, HA2.out, HL2.out⟩
                clear b4 hx hne hC hbel hB'
                go_wp2_with (fail)
                exact ⟨⟨j + 1, y2, by go_num, rfl, by omega, FIN⟩, by simp [intOf]; omega⟩
              · have hacc := hok.out.eq
                rw [List.drop_of_length_le (by rw [HLL.out]; omega), show tailR [] m = [] from rfl, List.append_nil] at hacc
                have HA := Lib.hid (hacc.trans HRL.out.symm)
                clear hacc
                go_wp2_with (fail)
                go_returns
                exact ⟨by rw [← HA.out]; rfl, hok.out.below⟩
          · have p_D : ((nD : Int) > 0) := by omega
            rw [if_pos (by simp []; try omega)] at hrl
            have HRL := Lib.hid hrl
            clear hrl z_D
            go_wp2_with (first | ((with_reducible refine (has_115 _ _ HL1.out).mono ?_); rintro x wz ⟨rfl, rfl⟩) | ((with_reducible refine (has_110 _ _ HL1.out).mono ?_); rintro x wz ⟨rfl, rfl⟩) | ((with_reducible refine (has_105 _ _ HL1.out).mono ?_); rintro x wz ⟨rfl, rfl⟩) | ((with_reducible refine (has_99 _ _ HL1.out).mono ?_); rintro x wz ⟨rfl, rfl⟩) | ((with_reducible refine (has_98 _ _ HL1.out).mono ?_); rintro x wz ⟨rfl, rfl⟩) | ((with_reducible refine (has_100 _ _ HL1.out).mono ?_); rintro x wz ⟨rfl, rfl⟩))
            go_returns
            exact ⟨by rw [HRL.out]; rfl, B2.out⟩
        · have p_to_ : ((to_ : Int) > 0) := by omega
          rw [if_pos (by simp []; try omega)] at hrl
          have HRL := Lib.hid hrl
          clear hrl z_to_
          go_wp2_with (first | ((with_reducible refine (has_115 _ _ HL1.out).mono ?_); rintro x wz ⟨rfl, rfl⟩) | ((with_reducible refine (has_110 _ _ HL1.out).mono ?_); rintro x wz ⟨rfl, rfl⟩) | ((with_reducible refine (has_105 _ _ HL1.out).mono ?_); rintro x wz ⟨rfl, rfl⟩) | ((with_reducible refine (has_99 _ _ HL1.out).mono ?_); rintro x wz ⟨rfl, rfl⟩) | ((with_reducible refine (has_98 _ _ HL1.out).mono ?_); rintro x wz ⟨rfl, rfl⟩) | ((with_reducible refine (has_100 _ _ HL1.out).mono ?_); rintro x wz ⟨rfl, rfl⟩))
          go_returns
          exact ⟨by rw [HRL.out]; rfl, B2.out⟩
      · have p_from_ : ((from_ : Int) > 0) := by omega
        rw [if_pos (by simp []; try omega)] at hrl
        have HRL := Lib.hid hrl
        clear hrl z_from_
        go_wp2_with (first | ((with_reducible refine (has_115 _ _ HL1.out).mono ?_); rintro x wz ⟨rfl, rfl⟩) | ((with_reducible refine (has_110 _ _ HL1.out).mono ?_); rintro x wz ⟨rfl, rfl⟩) | ((with_reducible refine (has_105 _ _ HL1.out).mono ?_); rintro x wz ⟨rfl, rfl⟩) | ((with_reducible refine (has_99 _ _ HL1.out).mono ?_); rintro x wz ⟨rfl, rfl⟩) | ((with_reducible refine (has_98 _ _ HL1.out).mono ?_); rintro x wz ⟨rfl, rfl⟩) | ((with_reducible refine (has_100 _ _ HL1.out).mono ?_); rintro x wz ⟨rfl, rfl⟩))
        go_returns
        exact ⟨by rw [HRL.out]; rfl, B2.out⟩
    · have p_B : ((nB : Int) > 0) := by omega
      rw [if_pos (by simp []; try omega)] at hrl
      have HRL := Lib.hid hrl
      clear hrl z_B
      go_wp2_with (first | ((with_reducible refine (has_115 _ _ HL1.out).mono ?_); rintro x wz ⟨rfl, rfl⟩) | ((with_reducible refine (has_110 _ _ HL1.out).mono ?_); rintro x wz ⟨rfl, rfl⟩) | ((with_reducible refine (has_105 _ _ HL1.out).mono ?_); rintro x wz ⟨rfl, rfl⟩) | ((with_reducible refine (has_99 _ _ HL1.out).mono ?_); rintro x wz ⟨rfl, rfl⟩) | ((with_reducible refine (has_98 _ _ HL1.out).mono ?_); rintro x wz ⟨rfl, rfl⟩) | ((with_reducible refine (has_100 _ _ HL1.out).mono ?_); rintro x wz ⟨rfl, rfl⟩))
      go_returns
      exact ⟨by rw [HRL.out]; rfl, B2.out⟩
  · have p_n_ : ((n_ != 0) = true) := by simpa using z_n_
    rw [if_pos (by simp [z_n_]; try omega)] at hrl
    have HRL := Lib.hid hrl
    clear hrl z_n_
    go_wp2_with (first | ((with_reducible refine (has_115 _ _ HL1.out).mono ?_); rintro x wz ⟨rfl, rfl⟩) | ((with_reducible refine (has_110 _ _ HL1.out).mono ?_); rintro x wz ⟨rfl, rfl⟩) | ((with_reducible refine (has_105 _ _ HL1.out).mono ?_); rintro x wz ⟨rfl, rfl⟩) | ((with_reducible refine (has_99 _ _ HL1.out).mono ?_); rintro x wz ⟨rfl, rfl⟩) | ((with_reducible refine (has_98 _ _ HL1.out).mono ?_); rintro x wz ⟨rfl, rfl⟩) | ((with_reducible refine (has_100 _ _ HL1.out).mono ?_); rintro x wz ⟨rfl, rfl⟩))
    go_returns
    exact ⟨by rw [HRL.out]; rfl, B2.out⟩
set_option maxRecDepth 100000 in
set_option maxHeartbeats 64000000 in
theorem rline_sin (m : Mv) (aB : Option Addr) (nB cB : Nat) (aD : Option Addr) (nD cD : Nat) (w : World) (hB : BR w aB nB m.b) (hD : BR w aD nD m.d) (ok : MvOk m) (hb : m.b.length ≤ 4000000) (hd : m.d.length ≤ 4000000) (hi : isK m.kind = true) (hm : lettersE m.kind = [115, 105, 110]) :
    Calls Tryz.prog 9 #[.agg (mvCs m (.slice aB nB cB) (.slice aD nD cD))] w fun e w' => e = .returned (.string (tx (lineR m))) ∧ Below w.heap.size w w' := by
  have b1 : Below w.heap.size w (w.alloc (.cells (mvCs m (.slice aB nB cB) (.slice aD nD cD)) 35)) := (Below.refl _ _).alloc (Nat.le_refl _) _
  have n1 := Blk.new w (mvCs m (.slice aB nB cB) (.slice aD nD cD)) 35
  have c0 : (w.alloc (.cells (mvCs m (.slice aB nB cB) (.slice aD nD cD)) 35)).cell? ⟨w.heap.size, 0, none⟩ = some (.int .u8 (m.kind : Nat)) := n1.cell 0 _ rfl
  obtain ⟨w1, hw1⟩ : ∃ w1, w.alloc (.cells (mvCs m (.slice aB nB cB) (.slice aD nD cD)) 35) = w1 := ⟨_, rfl⟩
  rw [hw1] at b1 n1
  have hk255 := ok.kind
  have hik : 1 ≤ m.kind ∧ m.kind ≤ 26 := by simpa [isK] using hi
  have hform : formRV m.kind = .tuple #[.string (tx (wordK m.kind)), .string (tx (lettersE m.kind)), .bool true] := by rw [formRV, if_pos hi, wordsR_K m.kind hi]; rfl
  have hrl : lineR m = if condR (lettersE m.kind) m = true then [] else wordK m.kind ++ tailR (lettersE m.kind) m := by
    unfold lineR
    rw [hi, Bool.true_and]
    by_cases hc : condR (lettersE m.kind) m = true
    · rw [if_pos hc, if_neg (by simp [hc])]
    · rw [if_neg hc, if_pos (by simpa using hc)]
  have hwl := wordK_len m.kind (by omega)
  have hlo := letsR_ok m.kind (by omega)
  have hll3 := letsR_len m.kind (by omega)
  have hlt0 := hm
  obtain ⟨R, hR⟩ : ∃ R, lineR m = R := ⟨_, rfl⟩
  obtain ⟨wd, hwd⟩ : ∃ x, wordK m.kind = x := ⟨_, rfl⟩
  obtain ⟨lt, hlt⟩ : ∃ x, lettersE m.kind = x := ⟨_, rfl⟩
  rw [hwd] at hrl hwl hform
  rw [hlt] at hrl hlo hll3 hlt0 hform
  rw [hR] at hrl ⊢
  have hnb := hB.len
  have hnd := hD.len
  have hC : condR lt m = condR lt m := rfl
  have m115 : decide ((115 : UInt8) ∈ lt) = true := by rw [hlt0]; decide
  have m110 : decide ((110 : UInt8) ∈ lt) = true := by rw [hlt0]; decide
  have m105 : decide ((105 : UInt8) ∈ lt) = true := by rw [hlt0]; decide
  have m99 : decide ((99 : UInt8) ∈ lt) = false := by rw [hlt0]; decide
  have m98 : decide ((98 : UInt8) ∈ lt) = false := by rw [hlt0]; decide
  have m100 : decide ((100 : UInt8) ∈ lt) = false := by rw [hlt0]; decide
  conv at hC => rhs; unfold condR; simp only [m115, m110, m105, m99, m98, m100, Bool.not_true, Bool.not_false, Bool.true_and, Bool.false_and, Bool.false_or, Bool.or_false, ← hnb, ← hnd]
  rw [hC] at hrl
  obtain ⟨ll, hll⟩ : ∃ ll, lt.length = ll := ⟨_, rfl⟩
  have hsz : (tx lt).size = ll := by rw [tx_size, hll]
  rw [hll] at hll3
  have HF := Lib.hid (fun (c : UInt8) hc (u : World) (hu : Below w.heap.size w u) => rfield_any c hc m aB nB cB aD nD cD u (hB.below hu) (hD.below hu) ok hb hd)
  have HFL := Lib.hid (fun (c : UInt8) => fieldR_len (c := c) ok hb hd)
  have HFO := Lib.hid (fun (u : World) => rform_any m.kind u hk255)
  rw [hform] at HFO
  obtain ⟨k, hk⟩ : ∃ k, m.kind = k := ⟨_, rfl⟩
  rw [hk] at c0 hk255 HFO
  have HB1 := Lib.hid b1
  have N1 := Lib.hid n1
  have HW1 := Lib.hid hw1
  have HRL := Lib.hid hrl
  have HLL := Lib.hid hll
  have HLO := Lib.hid hlo
  have HL1 : Hid (lt.length ≤ 1000) := Lib.hid (by omega)
  have q1' : Hid (∀ u, Blk u w.heap.size (mvCs m (.slice aB nB cB) (.slice aD nD cD)) 35 → u.cell? ⟨w.heap.size, 1, none⟩ = some (.int .u8 (m.side : Nat)) ∧ u.cell? ⟨w.heap.size, 2, none⟩ = some (.int .i64 m.n) ∧ u.cell? ⟨w.heap.size, 3, none⟩ = some (.int .u64 (m.id : Nat)) ∧ u.cell? ⟨w.heap.size, 4, none⟩ = some (.int .u64 (m.code : Nat)) ∧ u.cell? ⟨w.heap.size, 5, none⟩ = some (.slice aB nB cB) ∧ u.cell? ⟨w.heap.size, 6, none⟩ = some (.int .u32 (m.from_ : Nat)) ∧ u.cell? ⟨w.heap.size, 7, none⟩ = some (.int .u32 (m.to_ : Nat)) ∧ u.cell? ⟨w.heap.size, 8, none⟩ = some (.slice aD nD cD)) := Lib.hid (fun u hu => ⟨hu.cell 1 _ rfl, hu.cell 2 _ rfl, hu.cell 3 _ rfl, hu.cell 4 _ rfl, hu.cell 5 _ rfl, hu.cell 6 _ rfl, hu.cell 7 _ rfl, hu.cell 8 _ rfl⟩)
  obtain ⟨side, hside⟩ : ∃ x, m.side = x := ⟨_, rfl⟩
  obtain ⟨n_, hn_⟩ : ∃ x, m.n = x := ⟨_, rfl⟩
  obtain ⟨id_, hid_⟩ : ∃ x, m.id = x := ⟨_, rfl⟩
  obtain ⟨code, hcode⟩ : ∃ x, m.code = x := ⟨_, rfl⟩
  obtain ⟨from_, hfrom_⟩ : ∃ x, m.from_ = x := ⟨_, rfl⟩
  obtain ⟨to_, hto_⟩ : ∃ x, m.to_ = x := ⟨_, rfl⟩
  rw [hside, hn_, hid_, hcode, hfrom_, hto_] at q1'
  simp only [hcode, hfrom_, hto_] at hrl
  clear HRL
  obtain ⟨V0, hV0⟩ : ∃ V, Value.agg (mvCs m (.slice aB nB cB) (.slice aD nD cD)) = V := ⟨_, rfl⟩
  have HV0 := Lib.hid hV0
  clear b1 n1 hw1 ok hB hD hb hd hi hm hform hlt0 hlt hwd hlo hC hll hR hik hnb hnd hside hn_ hid_ hcode hfrom_ hto_ hk hV0
  go_enter Tryz.func9, Tryz.ntmps9
  go_wp2_with (fail)
  rw [HW1.out]
  rw [HV0.out]
  clear c0
  refine (HFO.out w1).mono ?_
  rintro e w2 ⟨rfl, b2⟩
  have B2 := Lib.hid (below_on HB1.out b2 HB1.out.size)
  have N2 := Lib.hid (N1.out.below b2)
  clear b2
  obtain ⟨q1, q2, q3, q4, q5, q6, q7, q8⟩ := q1'.out w2 N2.out
  go_upto_region 2 with (fail)
  simp only [List.append_eq, List.cons_append, List.nil_append]
  by_cases z_code : code = 0
  · subst z_code
    by_cases z_B : nB = 0
    · subst z_B
      by_cases z_from_ : from_ = 0
      · subst z_from_
        by_cases z_to_ : to_ = 0
        · subst z_to_
          by_cases z_D : nD = 0
          · subst z_D
            rw [if_neg (by simp)] at hrl
            have HRL := Lib.hid hrl
            clear hrl
            go_wp2_with (first | ((with_reducible refine (has_115 _ _ HL1.out).mono ?_); rintro x wz ⟨rfl, rfl⟩) | ((with_reducible refine (has_110 _ _ HL1.out).mono ?_); rintro x wz ⟨rfl, rfl⟩) | ((with_reducible refine (has_105 _ _ HL1.out).mono ?_); rintro x wz ⟨rfl, rfl⟩) | ((with_reducible refine (has_99 _ _ HL1.out).mono ?_); rintro x wz ⟨rfl, rfl⟩) | ((with_reducible refine (has_98 _ _ HL1.out).mono ?_); rintro x wz ⟨rfl, rfl⟩) | ((with_reducible refine (has_100 _ _ HL1.out).mono ?_); rintro x wz ⟨rfl, rfl⟩))
            clear m115 m110 m105 m99 m98 m100 q1 q2 q3 q4 q5 q6 q7 q8
            have HST : Hid (RlI w m (.slice aB 0 cB) (.slice aD 0 cD) wd lt wd 0 w2) := Lib.hid ⟨B2.out, N2.out, rfl, by omega⟩
            go_loopw [3, 6] (fun s i wr => ∃ (j : Nat) (acc : List UInt8), i = .int .i64 j ∧ s = .string (tx acc) ∧ j ≤ ll ∧ Hid (RlI w m (.slice aB 0 cB) (.slice aD 0 cD) wd lt acc j wr)) (fun _ i _ => ll - (intOf i).toNat)
            case atStart => exact ⟨0, wd, rfl, rfl, by omega, HST⟩
            case round =>
              obtain ⟨j, acc, rfl, rfl, hj, hok⟩ := hrel
              by_cases hjl : j < ll
              · have hji : (j : Int) < (ll : Int) := by omega
                have hjlt : j < lt.length := by rw [HLL.out]; exact hjl
                obtain ⟨c, hc⟩ : ∃ c, lt.getD j 0 = c := ⟨_, rfl⟩
                have hmi : ∀ h, (tx lt)[j]'h = c := fun h => by rw [tx_get, hc]
                have hco := HLO.out c (by rw [← hc]; simp [hjlt])
                have hacc := hok.out.eq
                rw [tailR_drop hjlt, hc] at hacc
                have hln := hok.out.len
                have hfl := HFL.out c
                obtain ⟨fs, hfs⟩ : ∃ x, fieldR c m = x := ⟨_, rfl⟩
                rw [hfs] at hacc hfl
                have HFS := Lib.hid hfs
                have s1 : ∀ W, (Op.stringOp .add (tx acc) (tx [32])).run Tryz.prog W = .ok (.string (tx (acc ++ [32]))) W := fun W => run_add _ _ _ _ (by simp only [List.length_cons, List.length_nil]; omega)
                obtain ⟨y1, hy1⟩ : ∃ y, acc ++ [32] = y := ⟨_, rfl⟩
                rw [hy1] at s1
                have l1 : y1.length = acc.length + 1 := by rw [← hy1]; simp
                have s2 : ∀ W, (Op.stringOp .add (tx y1) (tx fs)).run Tryz.prog W = .ok (.string (tx (y1 ++ fs))) W := fun W => run_add _ _ _ _ (by omega)
                obtain ⟨y2, hy2⟩ : ∃ y, y1 ++ fs = y := ⟨_, rfl⟩
                rw [hy2] at s2
                have l2 : y2.length = y1.length + fs.length := by rw [← hy2]; simp
                have HA2 : Hid (y2 ++ tailR (lt.drop (j + 1)) m = wd ++ tailR lt m) := Lib.hid (by rw [← hacc, ← hy2, ← hy1]; simp)
                have HL2 : Hid (y2.length ≤ 10 + (j + 1) * 9000001) := Lib.hid (by omega)
                have HCO := Lib.hid hco
                have hbl := hok.out.below
                have hkb := hok.out.blk
                have BW := Lib.hid hbl
                have KB := Lib.hid hkb
                clear hc hco hacc hln hfl hfs hy1 hy2 l1 l2 hbl hkb hjlt
                go_wp2_with (fail)
                refine rg_start 9 ?_
                refine rg_belowB fun p hB' hx hne hC hbel => ?_
                refine rg_quiet 3 [0,1,2,3,4,5] hC ?_
                simp only [pickD, List.map_cons, List.map_nil, List.getD_cons_zero, List.getD_cons_succ]
                go_big_quiet_step (fail)
                go_big_quiet_step (fail)
                refine wpQuiet_loadAll Tryz.underlying35 move_size rfl rfl rfl (fun w' hc => KB.out.drew.below (hB' w' hc)) rfl ?_
                simp only [Act.put, List.setIfInBounds_toArray, List.set_cons_zero, List.set_cons_succ]
                repeat (go_big_quiet_step (fail))
                refine wpQuiet_nil ?_
                refine rg_act 6 ?_
                go_wp2_with (fail)
                refine (HF.out c HCO.out wr.drew BW.out.drew).mono ?_
                rintro e w4 ⟨rfl, b4⟩
                rw [HFS.out]
                go_wp2_with (fail)
                refine ⟨hbel _ b4, ?_⟩
                refine rg_quiet 0 [7,8] (hbel _ b4) ?_
                simp only [pickD, List.map_cons, List.map_nil, List.getD_cons_zero, List.getD_cons_succ]; repeat (go_big_quiet_step (fail))
                refine wpQuiet_nil ?_
                refine rg_end ?_
                have B4 := Lib.hid (show Below wr.heap.size wr w4 from (Below.refl _ _).drew.trans b4)
                have FIN : Hid (RlI w m (.slice aB 0 cB) (.slice aD 0 cD) wd lt y2 (j + 1) w4) := Lib.hid ⟨below_on BW.out B4.out BW.out.size, KB.out.below B4.out, HA2.out, HL2.out⟩
                clear b4 hx hne hC hbel hB'
                go_wp2_with (fail)
                exact ⟨⟨j + 1, y2, by go_num, rfl, by omega, FIN⟩, by simp [intOf]; omega⟩
              · have hacc := hok.out.eq
                rw [List.drop_of_length_le (by rw [HLL.out]; omega), show tailR [] m = [] from rfl, List.append_nil] at hacc
                have HA := Lib.hid (hacc.trans HRL.out.symm)
                clear hacc
                go_wp2_with (fail)
                go_returns
                exact ⟨by rw [← HA.out]; rfl, hok.out.below⟩
          · have p_D : ((nD : Int) > 0) := by omega
            rw [if_pos (by simp []; try omega)] at hrl
            have HRL := Lib.hid hrl
            clear hrl z_D
            go_wp2_with (first | ((with_reducible refine (has_115 _ _ HL1.out).mono ?_); rintro x wz ⟨rfl, rfl⟩) | ((with_reducible refine (has_110 _ _ HL1.out).mono ?_); rintro x wz ⟨rfl, rfl⟩) | ((with_reducible refine (has_105 _ _ HL1.out).mono ?_); rintro x wz ⟨rfl, rfl⟩) | ((with_reducible refine (has_99 _ _ HL1.out).mono ?_); rintro x wz ⟨rfl, rfl⟩) | ((with_reducible refine (has_98 _ _ HL1.out).mono ?_); rintro x wz ⟨rfl, rfl⟩) | ((with_reducible refine (has_100 _ _ HL1.out).mono ?_); rintro x wz ⟨rfl, rfl⟩))
            go_returns
            exact ⟨by rw [HRL.out]; rfl, B2.out⟩
        · have p_to_ : ((to_ : Int) > 0) := by omega
          rw [if_pos (by simp []; try omega)] at hrl
          have HRL := Lib.hid hrl
          clear hrl z_to_
          go_wp2_with (first | ((with_reducible refine (has_115 _ _ HL1.out).mono ?_); rintro x wz ⟨rfl, rfl⟩) | ((with_reducible refine (has_110 _ _ HL1.out).mono ?_); rintro x wz ⟨rfl, rfl⟩) | ((with_reducible refine (has_105 _ _ HL1.out).mono ?_); rintro x wz ⟨rfl, rfl⟩) | ((with_reducible refine (has_99 _ _ HL1.out).mono ?_); rintro x wz ⟨rfl, rfl⟩) | ((with_reducible refine (has_98 _ _ HL1.out).mono ?_); rintro x wz ⟨rfl, rfl⟩) | ((with_reducible refine (has_100 _ _ HL1.out).mono ?_); rintro x wz ⟨rfl, rfl⟩))
          go_returns
          exact ⟨by rw [HRL.out]; rfl, B2.out⟩
      · have p_from_ : ((from_ : Int) > 0) := by omega
        rw [if_pos (by simp []; try omega)] at hrl
        have HRL := Lib.hid hrl
        clear hrl z_from_
        go_wp2_with (first | ((with_reducible refine (has_115 _ _ HL1.out).mono ?_); rintro x wz ⟨rfl, rfl⟩) | ((with_reducible refine (has_110 _ _ HL1.out).mono ?_); rintro x wz ⟨rfl, rfl⟩) | ((with_reducible refine (has_105 _ _ HL1.out).mono ?_); rintro x wz ⟨rfl, rfl⟩) | ((with_reducible refine (has_99 _ _ HL1.out).mono ?_); rintro x wz ⟨rfl, rfl⟩) | ((with_reducible refine (has_98 _ _ HL1.out).mono ?_); rintro x wz ⟨rfl, rfl⟩) | ((with_reducible refine (has_100 _ _ HL1.out).mono ?_); rintro x wz ⟨rfl, rfl⟩))
        go_returns
        exact ⟨by rw [HRL.out]; rfl, B2.out⟩
    · have p_B : ((nB : Int) > 0) := by omega
      rw [if_pos (by simp []; try omega)] at hrl
      have HRL := Lib.hid hrl
      clear hrl z_B
      go_wp2_with (first | ((with_reducible refine (has_115 _ _ HL1.out).mono ?_); rintro x wz ⟨rfl, rfl⟩) | ((with_reducible refine (has_110 _ _ HL1.out).mono ?_); rintro x wz ⟨rfl, rfl⟩) | ((with_reducible refine (has_105 _ _ HL1.out).mono ?_); rintro x wz ⟨rfl, rfl⟩) | ((with_reducible refine (has_99 _ _ HL1.out).mono ?_); rintro x wz ⟨rfl, rfl⟩) | ((with_reducible refine (has_98 _ _ HL1.out).mono ?_); rintro x wz ⟨rfl, rfl⟩) | ((with_reducible refine (has_100 _ _ HL1.out).mono ?_); rintro x wz ⟨rfl, rfl⟩))
      go_returns
      exact ⟨by rw [HRL.out]; rfl, B2.out⟩
  · have p_code : ((code : Int) > 0) := by omega
    rw [if_pos (by simp []; try omega)] at hrl
    have HRL := Lib.hid hrl
    clear hrl z_code
    go_wp2_with (first | ((with_reducible refine (has_115 _ _ HL1.out).mono ?_); rintro x wz ⟨rfl, rfl⟩) | ((with_reducible refine (has_110 _ _ HL1.out).mono ?_); rintro x wz ⟨rfl, rfl⟩) | ((with_reducible refine (has_105 _ _ HL1.out).mono ?_); rintro x wz ⟨rfl, rfl⟩) | ((with_reducible refine (has_99 _ _ HL1.out).mono ?_); rintro x wz ⟨rfl, rfl⟩) | ((with_reducible refine (has_98 _ _ HL1.out).mono ?_); rintro x wz ⟨rfl, rfl⟩) | ((with_reducible refine (has_100 _ _ HL1.out).mono ?_); rintro x wz ⟨rfl, rfl⟩))
    go_returns
    exact ⟨by rw [HRL.out]; rfl, B2.out⟩
set_option maxRecDepth 100000 in
set_option maxHeartbeats 64000000 in
theorem rline_s (m : Mv) (aB : Option Addr) (nB cB : Nat) (aD : Option Addr) (nD cD : Nat) (w : World) (hB : BR w aB nB m.b) (hD : BR w aD nD m.d) (ok : MvOk m) (hb : m.b.length ≤ 4000000) (hd : m.d.length ≤ 4000000) (hi : isK m.kind = true) (hm : lettersE m.kind = [115]) :
    Calls Tryz.prog 9 #[.agg (mvCs m (.slice aB nB cB) (.slice aD nD cD))] w fun e w' => e = .returned (.string (tx (lineR m))) ∧ Below w.heap.size w w' := by
  have b1 : Below w.heap.size w (w.alloc (.cells (mvCs m (.slice aB nB cB) (.slice aD nD cD)) 35)) := (Below.refl _ _).alloc (Nat.le_refl _) _
  have n1 := Blk.new w (mvCs m (.slice aB nB cB) (.slice aD nD cD)) 35
  have c0 : (w.alloc (.cells (mvCs m (.slice aB nB cB) (.slice aD nD cD)) 35)).cell? ⟨w.heap.size, 0, none⟩ = some (.int .u8 (m.kind : Nat)) := n1.cell 0 _ rfl
  obtain ⟨w1, hw1⟩ : ∃ w1, w.alloc (.cells (mvCs m (.slice aB nB cB) (.slice aD nD cD)) 35) = w1 := ⟨_, rfl⟩
  rw [hw1] at b1 n1
  have hk255 := ok.kind
  have hik : 1 ≤ m.kind ∧ m.kind ≤ 26 := by simpa [isK] using hi
  have hform : formRV m.kind = .tuple #[.string (tx (wordK m.kind)), .string (tx (lettersE m.kind)), .bool true] := by rw [formRV, if_pos hi, wordsR_K m.kind hi]; rfl
  have hrl : lineR m = if condR (lettersE m.kind) m = true then [] else wordK m.kind ++ tailR (lettersE m.kind) m := by
    unfold lineR
    rw [hi, Bool.true_and]
    by_cases hc : condR (lettersE m.kind) m = true
    · rw [if_pos hc, if_neg (by simp [hc])]
    · rw [if_neg hc, if_pos (by simpa using hc)]
  have hwl := wordK_len m.kind (by omega)
  have hlo := letsR_ok m.kind (by omega)
  have hll3 := letsR_len m.kind (by omega)
  have hlt0 := hm
  obtain ⟨R, hR⟩ : ∃ R, lineR m = R := ⟨_, rfl⟩
  obtain ⟨wd, hwd⟩ : ∃ x, wordK m.kind = x := ⟨_, rfl⟩
  obtain ⟨lt, hlt⟩ : ∃ x, lettersE m.kind = x := ⟨_, rfl⟩
  rw [hwd] at hrl hwl hform
  rw [hlt] at hrl hlo hll3 hlt0 hform
  rw [hR] at hrl ⊢
  have hnb := hB.len
  have hnd := hD.len
  have hC : condR lt m = condR lt m := rfl
  have m115 : decide ((115 : UInt8) ∈ lt) = true := by rw [hlt0]; decide
  have m110 : decide ((110 : UInt8) ∈ lt) = false := by rw [hlt0]; decide
  have m105 : decide ((105 : UInt8) ∈ lt) = false := by rw [hlt0]; decide
  have m99 : decide ((99 : UInt8) ∈ lt) = false := by rw [hlt0]; decide
  have m98 : decide ((98 : UInt8) ∈ lt) = false := by rw [hlt0]; decide
  have m100 : decide ((100 : UInt8) ∈ lt) = false := by rw [hlt0]; decide
  conv at hC => rhs; unfold condR; simp only [m115, m110, m105, m99, m98, m100, Bool.not_true, Bool.not_false, Bool.true_and, Bool.false_and, Bool.false_or, Bool.or_false, ← hnb, ← hnd]
  rw [hC] at hrl
  obtain ⟨ll, hll⟩ : ∃ ll, lt.length = ll := ⟨_, rfl⟩
  have hsz : (tx lt).size = ll := by rw [tx_size, hll]
  rw [hll] at hll3
  have HF := Lib.hid (fun (c : UInt8) hc (u : World) (hu : Below w.heap.size w u) => rfield_any c hc m aB nB cB aD nD cD u (hB.below hu) (hD.below hu) ok hb hd)
  have HFL := Lib.hid (fun (c : UInt8) => fieldR_len (c := c) ok hb hd)
  have HFO := Lib.hid (fun (u : World) => rform_any m.kind u hk255)
  rw [hform] at HFO
  obtain ⟨k, hk⟩ : ∃ k, m.kind = k := ⟨_, rfl⟩
  rw [hk] at c0 hk255 HFO
  have HB1 := Lib.hid b1
  have N1 := Lib.hid n1
  have HW1 := Lib.hid hw1
  have HRL := Lib.hid hrl
  have HLL := Lib.hid hll
  have HLO := Lib.hid hlo
  have HL1 : Hid (lt.length ≤ 1000) := Lib.hid (by omega)
  have q1' : Hid (∀ u, Blk u w.heap.size (mvCs m (.slice aB nB cB) (.slice aD nD cD)) 35 → u.cell? ⟨w.heap.size, 1, none⟩ = some (.int .u8 (m.side : Nat)) ∧ u.cell? ⟨w.heap.size, 2, none⟩ = some (.int .i64 m.n) ∧ u.cell? ⟨w.heap.size, 3, none⟩ = some (.int .u64 (m.id : Nat)) ∧ u.cell? ⟨w.heap.size, 4, none⟩ = some (.int .u64 (m.code : Nat)) ∧ u.cell? ⟨w.heap.size, 5, none⟩ = some (.slice aB nB cB) ∧ u.cell? ⟨w.heap.size, 6, none⟩ = some (.int .u32 (m.from_ : Nat)) ∧ u.cell? ⟨w.heap.size, 7, none⟩ = some (.int .u32 (m.to_ : Nat)) ∧ u.cell? ⟨w.heap.size, 8, none⟩ = some (.slice aD nD cD)) := Lib.hid (fun u hu => ⟨hu.cell 1 _ rfl, hu.cell 2 _ rfl, hu.cell 3 _ rfl, hu.cell 4 _ rfl, hu.cell 5 _ rfl, hu.cell 6 _ rfl, hu.cell 7 _ rfl, hu.cell 8 _ rfl⟩)
  obtain ⟨side, hside⟩ : ∃ x, m.side = x := ⟨_, rfl⟩
  obtain ⟨n_, hn_⟩ : ∃ x, m.n = x := ⟨_, rfl⟩
  obtain ⟨id_, hid_⟩ : ∃ x, m.id = x := ⟨_, rfl⟩
  obtain ⟨code, hcode⟩ : ∃ x, m.code = x := ⟨_, rfl⟩
  obtain ⟨from_, hfrom_⟩ : ∃ x, m.from_ = x := ⟨_, rfl⟩
  obtain ⟨to_, hto_⟩ : ∃ x, m.to_ = x := ⟨_, rfl⟩
  rw [hside, hn_, hid_, hcode, hfrom_, hto_] at q1'
  simp only [hn_, hid_, hcode, hfrom_, hto_] at hrl
  clear HRL
  obtain ⟨V0, hV0⟩ : ∃ V, Value.agg (mvCs m (.slice aB nB cB) (.slice aD nD cD)) = V := ⟨_, rfl⟩
  have HV0 := Lib.hid hV0
  clear b1 n1 hw1 ok hB hD hb hd hi hm hform hlt0 hlt hwd hlo hC hll hR hik hnb hnd hside hn_ hid_ hcode hfrom_ hto_ hk hV0
  go_enter Tryz.func9, Tryz.ntmps9
  go_wp2_with (fail)
  rw [HW1.out]
  rw [HV0.out]
  clear c0
  refine (HFO.out w1).mono ?_
  rintro e w2 ⟨rfl, b2⟩
  have B2 := Lib.hid (below_on HB1.out b2 HB1.out.size)
  have N2 := Lib.hid (N1.out.below b2)
  clear b2
  obtain ⟨q1, q2, q3, q4, q5, q6, q7, q8⟩ := q1'.out w2 N2.out
  go_upto_region 2 with (fail)
  simp only [List.append_eq, List.cons_append, List.nil_append]
  by_cases z_n_ : n_ = 0
  · subst z_n_
    by_cases z_id_ : id_ = 0
    · subst z_id_
      by_cases z_code : code = 0
      · subst z_code
        by_cases z_B : nB = 0
        · subst z_B
          by_cases z_from_ : from_ = 0
          · subst z_from_
            by_cases z_to_ : to_ = 0
            · subst z_to_
              by_cases z_D : nD = 0
              · subst z_D
                rw [if_neg (by simp)] at hrl
                have HRL := Lib.hid hrl
                clear hrl
                go_wp2_with (first | ((with_reducible refine (has_115 _ _ HL1.out).mono ?_); rintro x wz ⟨rfl, rfl⟩) | ((with_reducible refine (has_110 _ _ HL1.out).mono ?_); rintro x wz ⟨rfl, rfl⟩) | ((with_reducible refine (has_105 _ _ HL1.out).mono ?_); rintro x wz ⟨rfl, rfl⟩) | ((with_reducible refine (has_99 _ _ HL1.out).mono ?_); rintro x wz ⟨rfl, rfl⟩) | ((with_reducible refine (has_98 _ _ HL1.out).mono ?_); rintro x wz ⟨rfl, rfl⟩) | ((with_reducible refine (has_100 _ _ HL1.out).mono ?_); rintro x wz ⟨rfl, rfl⟩))
                clear m115 m110 m105 m99 m98 m100 q1 q2 q3 q4 q5 q6 q7 q8
                have HST : Hid (RlI w m (.slice aB 0 cB) (.slice aD 0 cD) wd lt wd 0 w2) := Lib.hid ⟨B2.out, N2.out, rfl, by omega⟩
                go_loopw [3, 6] (fun s i wr => ∃ (j : Nat) (acc : List UInt8), i = .int .i64 j ∧ s = .string (tx acc) ∧ j ≤ ll ∧ Hid (RlI w m (.slice aB 0 cB) (.slice aD 0 cD) wd lt acc j wr)) (fun _ i _ => ll - (intOf i).toNat)
                case atStart => exact ⟨0, wd, rfl, rfl, by omega, HST⟩
                case round =>
                  obtain ⟨j, acc, rfl, rfl, hj, hok⟩ := hrel
                  by_cases hjl : j < ll
                  · have hji : (j : Int) < (ll : Int) := by omega
                    have hjlt : j < lt.length := by rw [HLL.out]; exact hjl
                    obtain ⟨c, hc⟩ : ∃ c, lt.getD j 0 = c := ⟨_, rfl⟩
                    have hmi : ∀ h, (tx lt)[j]'h = c := fun h => by rw [tx_get, hc]
                    have hco := HLO.out c (by rw [← hc]; simp [hjlt])
                    have hacc := hok.out.eq
                    rw [tailR_drop hjlt, hc] at hacc
                    have hln := hok.out.len
                    have hfl := HFL.out c
                    obtain ⟨fs, hfs⟩ : ∃ x, fieldR c m = x := ⟨_, rfl⟩
                    rw [hfs] at hacc hfl
                    have HFS := Lib.hid hfs
                    have s1 : ∀ W, (Op.stringOp .add (tx acc) (tx [32])).run Tryz.prog W = .ok (.string (tx (acc ++ [32]))) W := fun W => run_add _ _ _ _ (by simp only [List.length_cons, List.length_nil]; omega)
                    obtain ⟨y1, hy1⟩ : ∃ y, acc ++ [32] = y := ⟨_, rfl⟩
                    rw [hy1] at s1
                    have l1 : y1.length = acc.length + 1 := by rw [← hy1]; simp
                    have s2 : ∀ W, (Op.stringOp .add (tx y1) (tx fs)).run Tryz.prog W = .ok (.string (tx (y1 ++ fs))) W := fun W => run_add _ _ _ _ (by omega)
                    obtain ⟨y2, hy2⟩ : ∃ y, y1 ++ fs = y := ⟨_, rfl⟩
                    rw [hy2] at s2
                    have l2 : y2.length = y1.length + fs.length := by rw [← hy2]; simp
                    have HA2 : Hid (y2 ++ tailR (lt.drop (j + 1)) m = wd ++ tailR lt m) := Lib.hid (by rw [← hacc, ← hy2, ← hy1]; simp)
                    have HL2 : Hid (y2.length ≤ 10 + (j + 1) * 9000001) := Lib.hid (by omega)
                    have HCO := Lib.hid hco
                    have hbl := hok.out.below
                    have hkb := hok.out.blk
                    have BW := Lib.hid hbl
                    have KB := Lib.hid hkb
                    clear hc hco hacc hln hfl hfs hy1 hy2 l1 l2 hbl hkb hjlt
                    go_wp2_with (fail)
                    refine rg_start 9 ?_
                    refine rg_belowB fun p hB' hx hne hC hbel => ?_
                    refine rg_quiet 3 [0,1,2,3,4,5] hC ?_
                    simp only [pickD, List.map_cons, List.map_nil, List.getD_cons_zero, List.getD_cons_succ]
                    go_big_quiet_step (fail)
                    go_big_quiet_step (fail)
                    refine wpQuiet_loadAll Tryz.underlying35 move_size rfl rfl rfl (fun w' hc => KB.out.drew.below (hB' w' hc)) rfl ?_
                    simp only [Act.put, List.setIfInBounds_toArray, List.set_cons_zero, List.set_cons_succ]
                    repeat (go_big_quiet_step (fail))
                    refine wpQuiet_nil ?_
                    refine rg_act 6 ?_
                    go_wp2_with (fail)
                    refine (HF.out c HCO.out wr.drew BW.out.drew).mono ?_
                    rintro e w4 ⟨rfl, b4⟩
                    rw [HFS.out]
                    go_wp2_with (fail)
                    refine ⟨hbel _ b4, ?_⟩
                    refine rg_quiet 0 [7,8] (hbel _ b4) ?_
                    simp only [pickD, List.map_cons, List.map_nil, List.getD_cons_zero, List.getD_cons_succ]; repeat (go_big_quiet_step (fail))
                    refine wpQuiet_nil ?_
                    refine rg_end ?_
                    have B4 := Lib.hid (show Below wr.heap.size wr w4 from (Below.refl _ _).drew.trans b4)
                    have FIN : Hid (RlI w m (.slice aB 0 cB) (.slice aD 0 cD) wd lt y2 (j + 1) w4) := Lib.hid ⟨below_on BW.out B4.out BW.out.size, KB.out.below B4.out, HA2.out, HL2.out⟩
                    clear b4 hx hne hC hbel hB'
                    go_wp2_with (fail)
                    exact ⟨⟨j + 1, y2, by go_num, rfl, by omega, FIN⟩, by simp [intOf]; omega⟩
                  · have hacc := hok.out.eq
                    rw [List.drop_of_length_le (by rw [HLL.out]; omega), show tailR [] m = [] from rfl, List.append_nil] at hacc
                    have HA := Lib.hid (hacc.trans HRL.out.symm)
                    clear hacc
                    go_wp2_with (fail)
                    go_returns
                    exact ⟨by rw [← HA.out]; rfl, hok.out.below⟩
              · have p_D : ((nD : Int) > 0) := by omega
                rw [if_pos (by simp []; try omega)] at hrl
                have HRL := Lib.hid hrl
                clear hrl z_D
                go_wp2_with (first | ((with_reducible refine (has_115 _ _ HL1.out).mono ?_); rintro x wz ⟨rfl, rfl⟩) | ((with_reducible refine (has_110 _ _ HL1.out).mono ?_); rintro x wz ⟨rfl, rfl⟩) | ((with_reducible refine (has_105 _ _ HL1.out).mono ?_); rintro x wz ⟨rfl, rfl⟩) | ((with_reducible refine (has_99 _ _ HL1.out).mono ?_); rintro x wz ⟨rfl, rfl⟩) | ((with_reducible refine (has_98 _ _ HL1.out).mono ?_); rintro x wz ⟨rfl, rfl⟩) | ((with_reducible refine (has_100 _ _ HL1.out).mono ?_); rintro x wz ⟨rfl, rfl⟩))
                go_returns
                exact ⟨by rw [HRL.out]; rfl, B2.out⟩
            · have p_to_ : ((to_ : Int) > 0) := by omega
              rw [if_pos (by simp []; try omega)] at hrl
              have HRL := Lib.hid hrl
              clear hrl z_to_
              go_wp2_with (first | ((with_reducible refine (has_115 _ _ HL1.out).mono ?_); rintro x wz ⟨rfl, rfl⟩) | ((with_reducible refine (has_110 _ _ HL1.out).mono ?_); rintro x wz ⟨rfl, rfl⟩) | ((with_reducible refine (has_105 _ _ HL1.out).mono ?_); rintro x wz ⟨rfl, rfl⟩) | ((with_reducible refine (has_99 _ _ HL1.out).mono ?_); rintro x wz ⟨rfl, rfl⟩) | ((with_reducible refine (has_98 _ _ HL1.out).mono ?_); rintro x wz ⟨rfl, rfl⟩) | ((with_reducible refine (has_100 _ _ HL1.out).mono ?_); rintro x wz ⟨rfl, rfl⟩))
              go_returns
              exact ⟨by rw [HRL.out]; rfl, B2.out⟩
          · have p_from_ : ((from_ : Int) > 0) := by omega
            rw [if_pos (by simp []; try omega)] at hrl
            have HRL := Lib.hid hrl
            clear hrl z_from_
            go_wp2_with (first | ((with_reducible refine (has_115 _ _ HL1.out).mono ?_); rintro x wz ⟨rfl, rfl⟩) | ((with_reducible refine (has_110 _ _ HL1.out).mono ?_); rintro x wz ⟨rfl, rfl⟩) | ((with_reducible refine (has_105 _ _ HL1.out).mono ?_); rintro x wz ⟨rfl, rfl⟩) | ((with_reducible refine (has_99 _ _ HL1.out).mono ?_); rintro x wz ⟨rfl, rfl⟩) | ((with_reducible refine (has_98 _ _ HL1.out).mono ?_); rintro x wz ⟨rfl, rfl⟩) | ((with_reducible refine (has_100 _ _ HL1.out).mono ?_); rintro x wz ⟨rfl, rfl⟩))
            go_returns
            exact ⟨by rw [HRL.out]; rfl, B2.out⟩
        · have p_B : ((nB : Int) > 0) := by omega
          rw [if_pos (by simp []; try omega)] at hrl
          have HRL := Lib.hid hrl
          clear hrl z_B
          go_wp2_with (first | ((with_reducible refine (has_115 _ _ HL1.out).mono ?_); rintro x wz ⟨rfl, rfl⟩) | ((with_reducible refine (has_110 _ _ HL1.out).mono ?_); rintro x wz ⟨rfl, rfl⟩) | ((with_reducible refine (has_105 _ _ HL1.out).mono ?_); rintro x wz ⟨rfl, rfl⟩) | ((with_reducible refine (has_99 _ _ HL1.out).mono ?_); rintro x wz ⟨rfl, rfl⟩) | ((with_reducible refine (has_98 _ _ HL1.out).mono ?_); rintro x wz ⟨rfl, rfl⟩) | ((with_reducible refine (has_100 _ _ HL1.out).mono ?_); rintro x wz ⟨rfl, rfl⟩))
          go_returns
          exact ⟨by rw [HRL.out]; rfl, B2.out⟩
      · have p_code : ((code : Int) > 0) := by omega
        rw [if_pos (by simp []; try omega)] at hrl
        have HRL := Lib.hid hrl
        clear hrl z_code
        go_wp2_with (first | ((with_reducible refine (has_115 _ _ HL1.out).mono ?_); rintro x wz ⟨rfl, rfl⟩) | ((with_reducible refine (has_110 _ _ HL1.out).mono ?_); rintro x wz ⟨rfl, rfl⟩) | ((with_reducible refine (has_105 _ _ HL1.out).mono ?_); rintro x wz ⟨rfl, rfl⟩) | ((with_reducible refine (has_99 _ _ HL1.out).mono ?_); rintro x wz ⟨rfl, rfl⟩) | ((with_reducible refine (has_98 _ _ HL1.out).mono ?_); rintro x wz ⟨rfl, rfl⟩) | ((with_reducible refine (has_100 _ _ HL1.out).mono ?_); rintro x wz ⟨rfl, rfl⟩))
        go_returns
        exact ⟨by rw [HRL.out]; rfl, B2.out⟩
    · have p_id_ : ((id_ : Int) > 0) := by omega
      rw [if_pos (by simp []; try omega)] at hrl
      have HRL := Lib.hid hrl
      clear hrl z_id_
      go_wp2_with (first | ((with_reducible refine (has_115 _ _ HL1.out).mono ?_); rintro x wz ⟨rfl, rfl⟩) | ((with_reducible refine (has_110 _ _ HL1.out).mono ?_); rintro x wz ⟨rfl, rfl⟩) | ((with_reducible refine (has_105 _ _ HL1.out).mono ?_); rintro x wz ⟨rfl, rfl⟩) | ((with_reducible refine (has_99 _ _ HL1.out).mono ?_); rintro x wz ⟨rfl, rfl⟩) | ((with_reducible refine (has_98 _ _ HL1.out).mono ?_); rintro x wz ⟨rfl, rfl⟩) | ((with_reducible refine (has_100 _ _ HL1.out).mono ?_); rintro x wz ⟨rfl, rfl⟩))
      go_returns
      exact ⟨by rw [HRL.out]; rfl, B2.out⟩
  · have p_n_ : ((n_ != 0) = true) := by simpa using z_n_
    rw [if_pos (by simp [z_n_]; try omega)] at hrl
    have HRL := Lib.hid hrl
    clear hrl z_n_
    go_wp2_with (first | ((with_reducible refine (has_115 _ _ HL1.out).mono ?_); rintro x wz ⟨rfl, rfl⟩) | ((with_reducible refine (has_110 _ _ HL1.out).mono ?_); rintro x wz ⟨rfl, rfl⟩) | ((with_reducible refine (has_105 _ _ HL1.out).mono ?_); rintro x wz ⟨rfl, rfl⟩) | ((with_reducible refine (has_99 _ _ HL1.out).mono ?_); rintro x wz ⟨rfl, rfl⟩) | ((with_reducible refine (has_98 _ _ HL1.out).mono ?_); rintro x wz ⟨rfl, rfl⟩) | ((with_reducible refine (has_100 _ _ HL1.out).mono ?_); rintro x wz ⟨rfl, rfl⟩))
    go_returns
    exact ⟨by rw [HRL.out]; rfl, B2.out⟩
set_option maxRecDepth 100000 in
set_option maxHeartbeats 64000000 in
theorem rline_scb (m : Mv) (aB : Option Addr) (nB cB : Nat) (aD : Option Addr) (nD cD : Nat) (w : World) (hB : BR w aB nB m.b) (hD : BR w aD nD m.d) (ok : MvOk m) (hb : m.b.length ≤ 4000000) (hd : m.d.length ≤ 4000000) (hi : isK m.kind = true) (hm : lettersE m.kind = [115, 99, 98]) :
    Calls Tryz.prog 9 #[.agg (mvCs m (.slice aB nB cB) (.slice aD nD cD))] w fun e w' => e = .returned (.string (tx (lineR m))) ∧ Below w.heap.size w w' := by
  have b1 : Below w.heap.size w (w.alloc (.cells (mvCs m (.slice aB nB cB) (.slice aD nD cD)) 35)) := (Below.refl _ _).alloc (Nat.le_refl _) _
  have n1 := Blk.new w (mvCs m (.slice aB nB cB) (.slice aD nD cD)) 35
  have c0 : (w.alloc (.cells (mvCs m (.slice aB nB cB) (.slice aD nD cD)) 35)).cell? ⟨w.heap.size, 0, none⟩ = some (.int .u8 (m.kind : Nat)) := n1.cell 0 _ rfl
  obtain ⟨w1, hw1⟩ : ∃ w1, w.alloc (.cells (mvCs m (.slice aB nB cB) (.slice aD nD cD)) 35) = w1 := ⟨_, rfl⟩
  rw [hw1] at b1 n1
  have hk255 := ok.kind
  have hik : 1 ≤ m.kind ∧ m.kind ≤ 26 := by simpa [isK] using hi
  have hform : formRV m.kind = .tuple #[.string (tx (wordK m.kind)), .string (tx (lettersE m.kind)), .bool true] := by rw [formRV, if_pos hi, wordsR_K m.kind hi]; rfl
  have hrl : lineR m = if condR (lettersE m.kind) m = true then [] else wordK m.kind ++ tailR (lettersE m.kind) m := by
    unfold lineR
    rw [hi, Bool.true_and]
    by_cases hc : condR (lettersE m.kind) m = true
    · rw [if_pos hc, if_neg (by simp [hc])]
    · rw [if_neg hc, if_pos (by simpa using hc)]
  have hwl := wordK_len m.kind (by omega)
  have hlo := letsR_ok m.kind (by omega)
  have hll3 := letsR_len m.kind (by omega)
  have hlt0 := hm
  obtain ⟨R, hR⟩ : ∃ R, lineR m = R := ⟨_, rfl⟩
  obtain ⟨wd, hwd⟩ : ∃ x, wordK m.kind = x := ⟨_, rfl⟩
  obtain ⟨lt, hlt⟩ : ∃ x, lettersE m.kind = x := ⟨_, rfl⟩
  rw [hwd] at hrl hwl hform
  rw [hlt] at hrl hlo hll3 hlt0 hform
  rw [hR] at hrl ⊢
  have hnb := hB.len
  have hnd := hD.len
  have hC : condR lt m = condR lt m := rfl
  have m115 : decide ((115 : UInt8) ∈ lt) = true := by rw [hlt0]; decide
  have m110 : decide ((110 : UInt8) ∈ lt) = false := by rw [hlt0]; decide
  have m105 : decide ((105 : UInt8) ∈ lt) = false := by rw [hlt0]; decide
  have m99 : decide ((99 : UInt8) ∈ lt) = true := by rw [hlt0]; decide
  have m98 : decide ((98 : UInt8) ∈ lt) = true := by rw [hlt0]; decide
  have m100 : decide ((100 : UInt8) ∈ lt) = false := by rw [hlt0]; decide
  conv at hC => rhs; unfold condR; simp only [m115, m110, m105, m99, m98, m100, Bool.not_true, Bool.not_false, Bool.true_and, Bool.false_and, Bool.false_or, Bool.or_false, ← hnb, ← hnd]
  rw [hC] at hrl
  obtain ⟨ll, hll⟩ : ∃ ll, lt.length = ll := ⟨_, rfl⟩
  have hsz : (tx lt).size = ll := by rw [tx_size, hll]
  rw [hll] at hll3
  have HF := Lib.hid (fun (c : UInt8) hc (u : World) (hu : Below w.heap.size w u) => rfield_any c hc m aB nB cB aD nD cD u (hB.below hu) (hD.below hu) ok hb hd)
  have HFL := Lib.hid (fun (c : UInt8) => fieldR_len (c := c) ok hb hd)
  have HFO := Lib.hid (fun (u : World) => rform_any m.kind u hk255)
  rw [hform] at HFO
  obtain ⟨k, hk⟩ : ∃ k, m.kind = k := ⟨_, rfl⟩
  rw [hk] at c0 hk255 HFO
  have HB1 := Lib.hid b1
  have N1 := Lib.hid n1
  have HW1 := Lib.hid hw1
  have HRL := Lib.hid hrl
  have HLL := Lib.hid hll
  have HLO := Lib.hid hlo
  have HL1 : Hid (lt.length ≤ 1000) := Lib.hid (by omega)
  have q1' : Hid (∀ u, Blk u w.heap.size (mvCs m (.slice aB nB cB) (.slice aD nD cD)) 35 → u.cell? ⟨w.heap.size, 1, none⟩ = some (.int .u8 (m.side : Nat)) ∧ u.cell? ⟨w.heap.size, 2, none⟩ = some (.int .i64 m.n) ∧ u.cell? ⟨w.heap.size, 3, none⟩ = some (.int .u64 (m.id : Nat)) ∧ u.cell? ⟨w.heap.size, 4, none⟩ = some (.int .u64 (m.code : Nat)) ∧ u.cell? ⟨w.heap.size, 5, none⟩ = some (.slice aB nB cB) ∧ u.cell? ⟨w.heap.size, 6, none⟩ = some (.int .u32 (m.from_ : Nat)) ∧ u.cell? ⟨w.heap.size, 7, none⟩ = some (.int .u32 (m.to_ : Nat)) ∧ u.cell? ⟨w.heap.size, 8, none⟩ = some (.slice aD nD cD)) := Lib.hid (fun u hu => ⟨hu.cell 1 _ rfl, hu.cell 2 _ rfl, hu.cell 3 _ rfl, hu.cell 4 _ rfl, hu.cell 5 _ rfl, hu.cell 6 _ rfl, hu.cell 7 _ rfl, hu.cell 8 _ rfl⟩)
  obtain ⟨side, hside⟩ : ∃ x, m.side = x := ⟨_, rfl⟩
  obtain ⟨n_, hn_⟩ : ∃ x, m.n = x := ⟨_, rfl⟩
  obtain ⟨id_, hid_⟩ : ∃ x, m.id = x := ⟨_, rfl⟩
  obtain ⟨code, hcode⟩ : ∃ x, m.code = x := ⟨_, rfl⟩
  obtain ⟨from_, hfrom_⟩ : ∃ x, m.from_ = x := ⟨_, rfl⟩
  obtain ⟨to_, hto_⟩ : ∃ x, m.to_ = x := ⟨_, rfl⟩
  rw [hside, hn_, hid_, hcode, hfrom_, hto_] at q1'
  simp only [hn_, hid_, hfrom_, hto_] at hrl
  clear HRL
  obtain ⟨V0, hV0⟩ : ∃ V, Value.agg (mvCs m (.slice aB nB cB) (.slice aD nD cD)) = V := ⟨_, rfl⟩
  have HV0 := Lib.hid hV0
  clear b1 n1 hw1 ok hB hD hb hd hi hm hform hlt0 hlt hwd hlo hC hll hR hik hnb hnd hside hn_ hid_ hcode hfrom_ hto_ hk hV0
  go_enter Tryz.func9, Tryz.ntmps9
  go_wp2_with (fail)
  rw [HW1.out]
  rw [HV0.out]
  clear c0
  refine (HFO.out w1).mono ?_
  rintro e w2 ⟨rfl, b2⟩
  have B2 := Lib.hid (below_on HB1.out b2 HB1.out.size)
  have N2 := Lib.hid (N1.out.below b2)
  clear b2
  obtain ⟨q1, q2, q3, q4, q5, q6, q7, q8⟩ := q1'.out w2 N2.out
  go_upto_region 2 with (fail)
  simp only [List.append_eq, List.cons_append, List.nil_append]
  by_cases z_n_ : n_ = 0
  · subst z_n_
    by_cases z_id_ : id_ = 0
    · subst z_id_
      by_cases z_from_ : from_ = 0
      · subst z_from_
        by_cases z_to_ : to_ = 0
        · subst z_to_
          by_cases z_D : nD = 0
          · subst z_D
            rw [if_neg (by simp)] at hrl
            have HRL := Lib.hid hrl
            clear hrl
            go_wp2_with (first | ((with_reducible refine (has_115 _ _ HL1.out).mono ?_); rintro x wz ⟨rfl, rfl⟩) | ((with_reducible refine (has_110 _ _ HL1.out).mono ?_); rintro x wz ⟨rfl, rfl⟩) | ((with_reducible refine (has_105 _ _ HL1.out).mono ?_); rintro x wz ⟨rfl, rfl⟩) | ((with_reducible refine (has_99 _ _ HL1.out).mono ?_); rintro x wz ⟨rfl, rfl⟩) | ((with_reducible refine (has_98 _ _ HL1.out).mono ?_); rintro x wz ⟨rfl, rfl⟩) | ((with_reducible refine (has_100 _ _ HL1.out).mono ?_); rintro x wz ⟨rfl, rfl⟩))
            clear m115 m110 m105 m99 m98 m100 q1 q2 q3 q4 q5 q6 q7 q8
            have HST : Hid (RlI w m (.slice aB nB cB) (.slice aD 0 cD) wd lt wd 0 w2) := Lib.hid ⟨B2.out, N2.out, rfl, by omega⟩
            go_loopw [3, 6] (fun s i wr => ∃ (j : Nat) (acc : List UInt8), i = .int .i64 j ∧ s = .string (tx acc) ∧ j ≤ ll ∧ Hid (RlI w m (.slice aB nB cB) (.slice aD 0 cD) wd lt acc j wr)) (fun _ i _ => ll - (intOf i).toNat)
            case atStart => exact ⟨0, wd, rfl, rfl, by omega, HST⟩
            case round =>
              obtain ⟨j, acc, rfl, rfl, hj, hok⟩ := hrel
              by_cases hjl : j < ll
              · have hji : (j : Int) < (ll : Int) := by omega
                have hjlt : j < lt.length := by rw [HLL.out]; exact hjl
                obtain ⟨c, hc⟩ : ∃ c, lt.getD j 0 = c := ⟨_, rfl⟩
                have hmi : ∀ h, (tx lt)[j]'h = c := fun h => by rw [tx_get, hc]
                have hco := HLO.out c (by rw [← hc]; simp [hjlt])
                have hacc := hok.out.eq
                rw [tailR_drop hjlt, hc] at hacc
                have hln := hok.out.len
                have hfl := HFL.out c
                obtain ⟨fs, hfs⟩ : ∃ x, fieldR c m = x := ⟨_, rfl⟩
                rw [hfs] at hacc hfl
                have HFS := Lib.hid hfs
                have s1 : ∀ W, (Op.stringOp .add (tx acc) (tx [32])).run Tryz.prog W = .ok (.string (tx (acc ++ [32]))) W := fun W => run_add _ _ _ _ (by simp only [List.length_cons, List.length_nil]; omega)
                obtain ⟨y1, hy1⟩ : ∃ y, acc ++ [32] = y := ⟨_, rfl⟩
                rw [hy1] at s1
                have l1 : y1.length = acc.length + 1 := by rw [← hy1]; simp
                have s2 : ∀ W, (Op.stringOp .add (tx y1) (tx fs)).run Tryz.prog W = .ok (.string (tx (y1 ++ fs))) W := fun W => run_add _ _ _ _ (by omega)
                obtain ⟨y2, hy2⟩ : ∃ y, y1 ++ fs = y := ⟨_, rfl⟩
                rw [hy2] at s2
                have l2 : y2.length = y1.length + fs.length := by rw [← hy2]; simp
                have HA2 : Hid (y2 ++ tailR (lt.drop (j + 1)) m = wd ++ tailR lt m) := Lib.hid (by rw [← hacc, ← hy2, ← hy1]; simp)
                have HL2 : Hid (y2.length ≤ 10 + (j + 1) * 9000001) := Lib.hid (by omega)
                have HCO := Lib.hid hco
                have hbl := hok.out.below
                have hkb := hok.out.blk
                have BW := Lib.hid hbl
                have KB := Lib.hid hkb
                clear hc hco hacc hln hfl hfs hy1 hy2 l1 l2 hbl hkb hjlt
                go_wp2_with (fail)
                refine rg_start 9 ?_
                refine rg_belowB fun p hB' hx hne hC hbel => ?_
                refine rg_quiet 3 [0,1,2,3,4,5] hC ?_
                simp only [pickD, List.map_cons, List.map_nil, List.getD_cons_zero, List.getD_cons_succ]
                go_big_quiet_step (fail)
                go_big_quiet_step (fail)
                refine wpQuiet_loadAll Tryz.underlying35 move_size rfl rfl rfl (fun w' hc => KB.out.drew.below (hB' w' hc)) rfl ?_
                simp only [Act.put, List.setIfInBounds_toArray, List.set_cons_zero, List.set_cons_succ]
                repeat (go_big_quiet_step (fail))
                refine wpQuiet_nil ?_
                refine rg_act 6 ?_
                go_wp2_with (fail)
                refine (HF.out c HCO.out wr.drew BW.out.drew).mono ?_
                rintro e w4 ⟨rfl, b4⟩
                rw [HFS.out]
                go_wp2_with (fail)
                refine ⟨hbel _ b4, ?_⟩
                refine rg_quiet 0 [7,8] (hbel _ b4) ?_
                simp only [pickD, List.map_cons, List.map_nil, List.getD_cons_zero, List.getD_cons_succ]; repeat (go_big_quiet_step (fail))
                refine wpQuiet_nil ?_
                refine rg_end ?_
                have B4 := Lib.hid (show Below wr.heap.size wr w4 from (Below.refl _ _).drew.trans b4)
                have FIN : Hid (RlI w m (.slice aB nB cB) (.slice aD 0 cD) wd lt y2 (j + 1) w4) := Lib.hid ⟨below_on BW.out B4.out BW.out.size, KB.out.below B4.out, HA2.out, HL2.out⟩
                clear b4 hx hne hC hbel hB'
                go_wp2_with (fail)
                exact ⟨⟨j + 1, y2, by go_num, rfl, by omega, FIN⟩, by simp [intOf]; omega⟩
              · have hacc := hok.out.eq
                rw [List.drop_of_length_le (by rw [HLL.out]; omega), show tailR [] m = [] from rfl, List.append_nil] at hacc
                have HA := Lib.hid (hacc.trans HRL.out.symm)
                clear hacc
                go_wp2_with (fail)
                go_returns
                exact ⟨by rw [← HA.out]; rfl, hok.out.below⟩
          · have p_D : ((nD : Int) > 0) := by omega
            rw [if_pos (by simp []; try omega)] at hrl
            have HRL := Lib.hid hrl
            clear hrl z_D
            go_wp2_with (first | ((with_reducible refine (has_115 _ _ HL1.out).mono ?_); rintro x wz ⟨rfl, rfl⟩) | ((with_reducible refine (has_110 _ _ HL1.out).mono ?_); rintro x wz ⟨rfl, rfl⟩) | ((with_reducible refine (has_105 _ _ HL1.out).mono ?_); rintro x wz ⟨rfl, rfl⟩) | ((with_reducible refine (has_99 _ _ HL1.out).mono ?_); rintro x wz ⟨rfl, rfl⟩) | ((with_reducible refine (has_98 _ _ HL1.out).mono ?_); rintro x wz ⟨rfl, rfl⟩) | ((with_reducible refine (has_100 _ _ HL1.out).mono ?_); rintro x wz ⟨rfl, rfl⟩))
            go_returns
            exact ⟨by rw [HRL.out]; rfl, B2.out⟩
        · have p_to_ : ((to_ : Int) > 0) := by omega
          rw [if_pos (by simp []; try omega)] at hrl
          have HRL := Lib.hid hrl
          clear hrl z_to_
          go_wp2_with (first | ((with_reducible refine (has_115 _ _ HL1.out).mono ?_); rintro x wz ⟨rfl, rfl⟩) | ((with_reducible refine (has_110 _ _ HL1.out).mono ?_); rintro x wz ⟨rfl, rfl⟩) | ((with_reducible refine (has_105 _ _ HL1.out).mono ?_); rintro x wz ⟨rfl, rfl⟩) | ((with_reducible refine (has_99 _ _ HL1.out).mono ?_); rintro x wz ⟨rfl, rfl⟩) | ((with_reducible refine (has_98 _ _ HL1.out).mono ?_); rintro x wz ⟨rfl, rfl⟩) | ((with_reducible refine (has_100 _ _ HL1.out).mono ?_); rintro x wz ⟨rfl, rfl⟩))
          go_returns
          exact ⟨by rw [HRL.out]; rfl, B2.out⟩
      · have p_from_ : ((from_ : Int) > 0) := by omega
        rw [if_pos (by simp []; try omega)] at hrl
        have HRL := Lib.hid hrl
        clear hrl z_from_
        go_wp2_with (first | ((with_reducible refine (has_115 _ _ HL1.out).mono ?_); rintro x wz ⟨rfl, rfl⟩) | ((with_reducible refine (has_110 _ _ HL1.out).mono ?_); rintro x wz ⟨rfl, rfl⟩) | ((with_reducible refine (has_105 _ _ HL1.out).mono ?_); rintro x wz ⟨rfl, rfl⟩) | ((with_reducible refine (has_99 _ _ HL1.out).mono ?_); rintro x wz ⟨rfl, rfl⟩) | ((with_reducible refine (has_98 _ _ HL1.out).mono ?_); rintro x wz ⟨rfl, rfl⟩) | ((with_reducible refine (has_100 _ _ HL1.out).mono ?_); rintro x wz ⟨rfl, rfl⟩))
        go_returns
        exact ⟨by rw [HRL.out]; rfl, B2.out⟩
    · have p_id_ : ((id_ : Int) > 0) := by omega
      rw [if_pos (by simp []; try omega)] at hrl
      have HRL := Lib.hid hrl
      clear hrl z_id_
      go_wp2_with (first | ((with_reducible refine (has_115 _ _ HL1.out).mono ?_); rintro x wz ⟨rfl, rfl⟩) | ((with_reducible refine (has_110 _ _ HL1.out).mono ?_); rintro x wz ⟨rfl, rfl⟩) | ((with_reducible refine (has_105 _ _ HL1.out).mono ?_); rintro x wz ⟨rfl, rfl⟩) | ((with_reducible refine (has_99 _ _ HL1.out).mono ?_); rintro x wz ⟨rfl, rfl⟩) | ((with_reducible refine (has_98 _ _ HL1.out).mono ?_); rintro x wz ⟨rfl, rfl⟩) | ((with_reducible refine (has_100 _ _ HL1.out).mono ?_); rintro x wz ⟨rfl, rfl⟩))
      go_returns
      exact ⟨by rw [HRL.out]; rfl, B2.out⟩
  · have p_n_ : ((n_ != 0) = true) := by simpa using z_n_
    rw [if_pos (by simp [z_n_]; try omega)] at hrl
    have HRL := Lib.hid hrl
    clear hrl z_n_
    go_wp2_with (first | ((with_reducible refine (has_115 _ _ HL1.out).mono ?_); rintro x wz ⟨rfl, rfl⟩) | ((with_reducible refine (has_110 _ _ HL1.out).mono ?_); rintro x wz ⟨rfl, rfl⟩) | ((with_reducible refine (has_105 _ _ HL1.out).mono ?_); rintro x wz ⟨rfl, rfl⟩) | ((with_reducible refine (has_99 _ _ HL1.out).mono ?_); rintro x wz ⟨rfl, rfl⟩) | ((with_reducible refine (has_98 _ _ HL1.out).mono ?_); rintro x wz ⟨rfl, rfl⟩) | ((with_reducible refine (has_100 _ _ HL1.out).mono ?_); rintro x wz ⟨rfl, rfl⟩))
    go_returns
    exact ⟨by rw [HRL.out]; rfl, B2.out⟩
end Go.Proofs.YthangjgdjhhfgaaGreatDoor
