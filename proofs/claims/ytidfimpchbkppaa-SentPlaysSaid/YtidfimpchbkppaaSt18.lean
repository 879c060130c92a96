/- SentPlays: the law walked. -/
import Derived.Test.YtidfimpchbkppaaSt17
import Derived.Test.YtidfimpchbkppaaRf14
namespace Go.Proofs.Ytidfimpchbkppaa
open Go.RowKit
set_option linter.unusedVariables false

theorem DoAt15.ok {w : World} {a : Option Addr} {D : List DoS} (h : DoAt15 w a D) {i : Nat} {d : DoS} (hd : D[i]? = some d) : DoOk w d := by
  obtain ⟨hi, _⟩ := List.getElem?_eq_some_iff.1 hd
  obtain ⟨_, _, d', hd', _, _, h1, _⟩ := h.get i hi
  rw [hd] at hd'
  cases hd'
  exact h1
theorem sp_mixed : Try.prog.follows .mixedOrders = true := by kernel_rfl
theorem sp_goes : Rf.runs Try.prog 38 100000 = true := by kernel_rfl
theorem spworks_any (w : World) : Calls Try.prog 38 #[] w fun e w' => e = .returned (.bool true) ∧ Below w.heap.size w w' := Rf.runs_true sp_mixed sp_goes w

set_option maxRecDepth 100000 in
set_option maxHeartbeats 16000000 in
theorem plays_law (a : Option Addr) (cap : Nat) (D : List DoS) (w : World) (hm : D.length ≤ 140737488355328) (hD : DoAt15 w a D) :
    Calls Try.prog 12 #[.slice a D.length cap] w fun e w' => e = .returned (.bool true) ∧ Below w.heap.size w w' := by
  have HD := Lib.hid hD
  clear hD
  obtain ⟨nD, hnD⟩ : ∃ n, D.length = n := ⟨_, rfl⟩
  rw [hnD] at hm ⊢
  have ND := Lib.hid hnD
  clear hnD
  go_enter Try.func12, Try.ntmps12
  go_wp2_with (fail)
  refine (heavy15_any a _ cap D w ND.out.symm (by rw [ND.out]; exact hm) HD.out).mono ?_
  rintro e w1 ⟨hb1, v, rfl, hv⟩
  have HV := Lib.hid hv
  have X1 := Lib.hid hb1
  clear hb1 hv
  cases v with
  | true =>
    go_wp2_with (fail)
    refine (spworks_any w1).mono ?_
    rintro e w2 ⟨rfl, hb⟩
    go_wp2_with (fail)
    go_returns
    exact ⟨rfl, below_on X1.out hb X1.out.size⟩
  | false =>
    obtain ⟨hD3, hlg⟩ := HV.out rfl
    have HLG := Lib.hid hlg
    have hnd : nD ≤ 600 := by rw [← ND.out]; exact hD3
    clear hD3 hlg HV
    go_wp2_with (fail)
    have hbz : Blk ((w1.alloc (.cells #[.slice none 0 0, .bool false, .int .u64 0, .int .u64 0, .int .u64 0, .int .u64 0] 66)).alloc (.cells #[.slice none 0 0, .bool false, .int .u64 0, .int .u64 0, .int .u64 0, .int .u64 0] 64)) w1.heap.size #[.slice none 0 0, .bool false, .int .u64 0, .int .u64 0, .int .u64 0, .int .u64 0] 66 := (Blk.new w1 #[.slice none 0 0, .bool false, .int .u64 0, .int .u64 0, .int .u64 0, .int .u64 0] 66).alloc _
    have hrz : Blk ((w1.alloc (.cells #[.slice none 0 0, .bool false, .int .u64 0, .int .u64 0, .int .u64 0, .int .u64 0] 66)).alloc (.cells #[.slice none 0 0, .bool false, .int .u64 0, .int .u64 0, .int .u64 0, .int .u64 0] 64)) (w1.heap.size + 1) #[.slice none 0 0, .bool false, .int .u64 0, .int .u64 0, .int .u64 0, .int .u64 0] 64 := by
      have := Blk.new (w1.alloc (.cells #[.slice none 0 0, .bool false, .int .u64 0, .int .u64 0, .int .u64 0, .int .u64 0] 66)) #[.slice none 0 0, .bool false, .int .u64 0, .int .u64 0, .int .u64 0, .int .u64 0] 64
      simpa using this
    have b2 : Below w.heap.size w ((w1.alloc (.cells #[.slice none 0 0, .bool false, .int .u64 0, .int .u64 0, .int .u64 0, .int .u64 0] 66)).alloc (.cells #[.slice none 0 0, .bool false, .int .u64 0, .int .u64 0, .int .u64 0, .int .u64 0] 64)) := (X1.out.alloc X1.out.size _).alloc (by have := X1.out.size; simp; omega) _
    obtain ⟨rb, hrb⟩ : ∃ x, w1.heap.size + 1 = x := ⟨_, rfl⟩
    obtain ⟨b, hbb⟩ : ∃ x, w1.heap.size = x := ⟨_, rfl⟩
    have hwb : w.heap.size ≤ b := by rw [← hbb]; exact X1.out.size
    obtain ⟨w2, hw2⟩ : ∃ z, (w1.alloc (.cells #[.slice none 0 0, .bool false, .int .u64 0, .int .u64 0, .int .u64 0, .int .u64 0] 66)).alloc (.cells #[.slice none 0 0, .bool false, .int .u64 0, .int .u64 0, .int .u64 0, .int .u64 0] 64) = z := ⟨_, rfl⟩
    rw [hw2] at hbz hrz b2 ⊢
    rw [hrb] at hrz ⊢
    have hnbr : ¬ b = rb := by omega
    have hwr : w.heap.size ≤ rb := by omega
    rw [hbb] at hbz ⊢
    have HI0 : Hid (PlayInv w2 b rb none 0 0 [] [] false 0 0 0 0 0) := Lib.hid ⟨⟨none, 0, 0, hbz, rfl, Ps.nil _, fun x hx => nomatch hx⟩, hrz, rfl, Ps.nil _, (fun x hx => nomatch hx), hnbr, PI.start⟩
    have X2 := Lib.hid b2
    clear b2 hbz hrz hw2 hbb hrb X1
    go_loopw [6, 7, 8, 9, 10, 11, 12, 13, 14, 15, 16, 17, 18, 20, 29] (fun _ _ _ _ _ _ _ _ _ _ _ _ _ _ i wr => ∃ (k : Nat) (ar : Option Addr) (nr cr : Nat) (L R : List Pk) (has : Bool) (lg lk lt top : Int), i = .int .i64 k ∧ k ≤ nD ∧ Below w.heap.size w wr ∧ Hid (PlayInv wr b rb ar nr cr L R has lg lk lt top k)) (fun _ _ _ _ _ _ _ _ _ _ _ _ _ _ i _ => nD - (intOf i).toNat)
    case atStart => exact ⟨0, none, 0, 0, [], [], false, 0, 0, 0, 0, rfl, by omega, X2.out, HI0⟩
    case round =>
      clear HI0
      obtain ⟨k, ar, nr, cr, L, R, has, lg, lk, lt, top, rfl, hk, bw, hok⟩ := hrel
      by_cases hlt : k < nD
      · obtain ⟨bb, off, d, hd, ha, hb, dok, c0, c1, c2, c3, c4, c5, c6, c7, c8, c9⟩ := (HD.out.below bw).get k (by rw [ND.out]; exact hlt)
        subst ha
        have hlight := HLG.out d (List.mem_of_getElem? hd)
        have dokw := HD.out.ok hd
        obtain ⟨kind, ⟨pn, at_, size, el, after, fa, fn, fc⟩, l, la, lc, now, delay, fs⟩ := d
        obtain ⟨h1, h2, h6, h7, h8, h9, h10, h11⟩ := dok
        obtain ⟨_, _, h6w, h7w, _, _, _, _⟩ := dokw
        unfold DoLight at hlight
        simp only at *
        obtain ⟨g0, g1, g2, g3, g4, g5⟩ := hlight
        obtain ⟨nl, hnl⟩ : ∃ n, l.length = n := ⟨_, rfl⟩
        rw [hnl] at c7 h10 g0
        clear hd
        obtain ⟨q, hq⟩ : ∃ q, wr.heap.size = q := ⟨_, rfl⟩
        have hbx := Blk.new wr #[.int .u8 kind, .int .u64 pn, .int .u64 at_, .int .u64 size, .bool el, .int .u64 after, .slice fa fn fc, .slice la nl lc, .int .u64 now, .int .u64 delay] 71
        have hbA : Below wr.heap.size wr (wr.alloc (.cells #[.int .u8 kind, .int .u64 pn, .int .u64 at_, .int .u64 size, .bool el, .int .u64 after, .slice fa fn fc, .slice la nl lc, .int .u64 now, .int .u64 delay] 71)) := (Below.refl _ _).alloc (Nat.le_refl _) _
        have hbW : Below w.heap.size w (wr.alloc (.cells #[.int .u8 kind, .int .u64 pn, .int .u64 at_, .int .u64 size, .bool el, .int .u64 after, .slice fa fn fc, .slice la nl lc, .int .u64 now, .int .u64 delay] 71)) := bw.alloc bw.size _
        have hblt : b < wr.heap.size := by obtain ⟨_, _, _, h, _⟩ := hok.out.ss; exact Blk.lt h
        have hrlt : rb < wr.heap.size := hok.out.rs.lt
        have hnrq : ¬ rb = wr.heap.size := by omega
        have hI := hok.out.below hbA
        have hRS := h6.below hbA
        have hSR := h7.on hbA
        have hpi := hok.out.pi
        have hrr := hpi.rest
        have ri0 := hok.out.rs.cell 0 _ rfl
        have ri1 := hok.out.rs.cell 1 _ rfl
        have ri2 := hok.out.rs.cell 2 _ rfl
        have ri3 := hok.out.rs.cell 3 _ rfl
        have ri4 := hok.out.rs.cell 4 _ rfl
        have ri5 := hok.out.rs.cell 5 _ rfl
        have rr0 := hI.rs.cell 0 _ rfl
        have rr1 := hI.rs.cell 1 _ rfl
        have rr2 := hI.rs.cell 2 _ rfl
        have rr3 := hI.rs.cell 3 _ rfl
        have rr4 := hI.rs.cell 4 _ rfl
        have rr5 := hI.rs.cell 5 _ rfl
        obtain ⟨wB, hwB⟩ : ∃ z, wr.alloc (.cells #[.int .u8 kind, .int .u64 pn, .int .u64 at_, .int .u64 size, .bool el, .int .u64 after, .slice fa fn fc, .slice la nl lc, .int .u64 now, .int .u64 delay] 71) = z := ⟨_, rfl⟩
        have hszB : wB.heap.size = wr.heap.size + 1 := by rw [← hwB]; simp
        have hbq : b < q := by omega
        have hrq : rb < q := by omega
        have hqB : q < wB.heap.size := by omega
        have hwB0 : w.heap.size ≤ wB.heap.size := by omega
        rw [hwB, hq] at hbx
        rw [hwB] at hI hRS hSR hbW
        have HBX := Lib.hid hbx
        have HII := Lib.hid hI
        have HWB := Lib.hid hwB
        have HQ := Lib.hid hq
        have HBW := Lib.hid hbW
        have HRS := Lib.hid hRS
        have HSR := Lib.hid hSR
        have HPK := Lib.hid h2
        have HRW := Lib.hid h6w
        have HSW := Lib.hid h7w
        have HNL := Lib.hid hnl
        have HPI := Lib.hid hpi
        have hLk := hpi.len
        have hlgb := hpi.ulg
        have htopb := hpi.utop
        have hLl : L.length ≤ 600 := by omega
        have hRl : R.length ≤ 600 := by omega
        have HRR := Lib.hid hrr
        have hrn : nr ≤ 600 := by have := hok.out.rn; omega
        obtain ⟨u1, u2, u3, u4⟩ := h2
        unfold u64b' at u1 u2 u3 u4 h8 h9
        clear hbx hbA hI hwB hq hok hbW h6 h7 h6w h7w hRS hSR hnl hpi hrr hszB
        by_cases hk0 : kind = 0
        · subst hk0
          go_wp2_with (fail)
          rw [HWB.out, HQ.out]
          clear ri0 ri1 ri2 ri3 ri4 ri5 rr0 rr1 rr2 rr3 rr4 rr5 c0 c1 c2 c3 c4 c5 c6 c7 c8 c9
          by_cases hno : pn < top ∨ 4611686018427387903 < pn
          · refine (radd_not ⟨pn, at_, size, el, after, fa, fn, fc⟩ ar nr cr has lg lk lt top wB HPK.out ⟨htopb.1, by omega⟩ hno).mono ?_
            rintro e x1 ⟨hb1, rfl⟩
            unfold stV
            have hqx := HBX.out.below hb1
            have hrx := (HII.out.below hb1).rs
            have q0 := hqx.cell 0 _ rfl
            have q1 := hqx.cell 1 _ rfl
            have q2 := hqx.cell 2 _ rfl
            have q3 := hqx.cell 3 _ rfl
            have q4 := hqx.cell 4 _ rfl
            have q5 := hqx.cell 5 _ rfl
            have q6 := hqx.cell 6 _ rfl
            have q7 := hqx.cell 7 _ rfl
            have q8 := hqx.cell 8 _ rfl
            have q9 := hqx.cell 9 _ rfl
            have m0 := hrx.cell 0 _ rfl
            have mf0 := hrx.free 0
            have m1 := hrx.cell 1 _ rfl
            have mf1 := hrx.free 1
            have m2 := hrx.cell 2 _ rfl
            have mf2 := hrx.free 2
            have m3 := hrx.cell 3 _ rfl
            have mf3 := hrx.free 3
            have m4 := hrx.cell 4 _ rfl
            have mf4 := hrx.free 4
            have m5 := hrx.cell 5 _ rfl
            have mf5 := hrx.free 5
            have lq1 : q < x1.heap.size := by have := hb1.size; omega
            have lr1 : rb < x1.heap.size := by omega
            have nqr : ¬ q = rb := by omega
            have nq1 : ¬ q = x1.heap.size := by omega
            have nr1 : ¬ rb = x1.heap.size := by omega
            clear hqx hrx
            go_wp2_with (fail)
            have hu0 := (HII.out.below hb1).rs
            have hu1 := hu0.set 0 (.slice ar nr cr)
            have hu2 := hu1.set 1 (.bool has)
            have hu3 := hu2.set 2 (.int .u64 lg)
            have hu4 := hu3.set 3 (.int .u64 lk)
            have hu5 := hu4.set 4 (.int .u64 lt)
            have hu6 := hu5.set 5 (.int .u64 top)
            have hu7 : Blk _ rb #[.slice ar nr cr, .bool has, .int .u64 lg, .int .u64 lk, .int .u64 lt, .int .u64 top] 64 := (hu6.congr (by simp)).alloc (.cells #[.slice ar nr cr, .bool has, .int .u64 lg, .int .u64 lk, .int .u64 lt, .int .u64 top] 64)
            have on2 := ((((((((Only.refl (· = rb) x1).set 0 (.slice ar nr cr)).set 1 (.bool has)).set 2 (.int .u64 lg)).set 3 (.int .u64 lk)).set 4 (.int .u64 lt)).set 5 (.int .u64 top)).alloc (.cells #[.slice ar nr cr, .bool has, .int .u64 lg, .int .u64 lk, .int .u64 lt, .int .u64 top] 64))
            obtain ⟨x2, hx2⟩ : ∃ ww, (((((((x1.setCell ⟨rb, 0, none⟩ (.slice ar nr cr)).setCell ⟨rb, 1, none⟩ (.bool has)).setCell ⟨rb, 2, none⟩ (.int .u64 lg)).setCell ⟨rb, 3, none⟩ (.int .u64 lk)).setCell ⟨rb, 4, none⟩ (.int .u64 lt)).setCell ⟨rb, 5, none⟩ (.int .u64 top)).alloc (.cells #[.slice ar nr cr, .bool has, .int .u64 lg, .int .u64 lk, .int .u64 lt, .int .u64 top] 64)) = ww := ⟨_, rfl⟩
            rw [hx2] at hu7 on2 ⊢
            clear hu0 hu1 hu2 hu3 hu4 hu5 hu6 hx2
            have hss2 := (HII.out.ss.only hb1).turn on2 hnbr (fun z hz _ => hz) (fun z hz _ => hz)
            have hqx2 := on2.blk (HBX.out.below hb1) nqr
            have hbw2 := below_onto (below_on HBW.out hb1 HBW.out.size) on2 (by have := hb1.size; omega) (by intro z hz h; omega)
            have hsz2 : x1.heap.size ≤ x2.heap.size := on2.size
            have SS2 := Lib.hid hss2
            have QX2 := Lib.hid hqx2
            have BW2 := Lib.hid hbw2
            have U7 := Lib.hid hu7
            have ON2 := Lib.hid on2
            have lr2 : rb < x2.heap.size := by omega
            have lb2 : b < x2.heap.size := by omega
            have hF2 : Hid (∀ z, x2.heap.size ≤ z → z ≠ rb) := Lib.hid (fun z hz => by omega)
            clear hss2 hqx2 hbw2 hu7 on2 q0 q1 q2 q3 q4 q5 q6 q7 q8 q9 m0 mf0 m1 mf1 m2 mf2 m3 mf3 m4 mf4 m5 mf5
            obtain ⟨a9, n9, c9, hB9, hn9, hP9, hne9⟩ := SS2.out
            refine (sadd_not b ⟨pn, at_, size, el, after, fa, fn, fc⟩ a9 n9 c9 has lg lk lt top x2 hB9 HPK.out ⟨htopb.1, by omega⟩ hno).mono ?_
            rintro e x3 ⟨hb3, rfl⟩
            have hrp := ((HII.out.rp.below hb1).only2 ON2.out (fun x hx h0 => (HII.out.rf x hx h0).2)).below hb3
            have K1 : Hid (PlayInv x3 b rb ar nr cr L R has lg lk lt top (k + 1)) := Lib.hid ⟨SS2.out.only hb3, U7.out.below hb3, HII.out.rn, hrp, HII.out.rf, hnbr, HPI.out.next⟩
            have BW3 := Lib.hid (below_on BW2.out hb3 BW2.out.size)
            clear hrp hB9 hn9 hP9 hne9 hb3 hb1 SS2 QX2 BW2 U7 ON2 hF2 hno HII HBX HWB HQ HBW HRS HSR HPK HNL HPI HRR
            have hpo := K1.out.pi
            have hrl := hpo.rest
            have hLk2 := hpo.len
            have hRR : (R).length ≤ 601 := by have := hrl.2.2.2.2.2; omega
            have hNR : nr ≤ 601 := by have := K1.out.rn; omega
            have hsz : ∀ p ∈ R, 0 ≤ p.size ∧ p.size ≤ 1099511627776 := fun p hp => ⟨(K1.out.rp.ok p hp).2.2.1.1, hrl.2.2.1 p hp⟩
            have HSZ := Lib.hid hsz
            have HRN := Lib.hid K1.out.rn
            have p0 := K1.out.rs.cell 0 _ rfl
            have hrlW : rb < x3.heap.size := K1.out.rs.lt
            have hblW : b < x3.heap.size := by obtain ⟨_, _, _, h, _⟩ := K1.out.ss; exact Blk.lt h
            clear hpo hrl hsz
            go_wp2_with (fail)
            clear p0
            go_loopw [17, 18, 20, 131] (fun s v _ i wr => ∃ (j : Nat) (z : Int) (u : Bool), i = .int .i64 j ∧ s = .int .u64 z ∧ v = .bool u ∧ j ≤ nr ∧ Below x3.heap.size x3 wr ∧ Hid (sizes ((R).take j) = z ∧ ((R).take j).any (·.el) = u)) (fun _ _ _ i _ => nr - (intOf i).toNat)
            case atStart => exact ⟨0, 0, false, rfl, rfl, rfl, by omega, Below.refl _ _, Lib.hid ⟨rfl, rfl⟩⟩
            case round =>
              obtain ⟨j, z, u, rfl, rfl, rfl, hj, bj, hzu⟩ := hrel
              have hzb := sizes_bnd (L := (R).take j) (fun p hp => HSZ.out p (List.mem_of_mem_take hp))
              rw [hzu.out.1, List.length_take] at hzb
              have hzb2 : 0 ≤ z ∧ z ≤ 1099511627776000 := by
                have := Nat.min_le_right j (R).length
                omega
              clear hzb
              by_cases hlt2 : j < nr
              · have hjR : j < (R).length := by have := HRN.out; omega
                obtain ⟨gb, go, hga, hgb, pp, hpe, hpm, d0, d1, d2, d3, d4, d5, i0, i1, i2, i4⟩ := (K1.out.rp.below bj).at_ hjR
                have hszp := HSZ.out pp hpm
                have s1 := sizes_succ hjR
                rw [hzu.out.1, hpe] at s1
                obtain ⟨el2, hel2⟩ : ∃ x, pp.el = x := ⟨_, rfl⟩
                have s2 : ((R).take (j + 1)).any (·.el) = (u || el2) := by
                  rw [List.take_add_one, List.getElem?_eq_getElem hjR, List.any_append, hzu.out.2]
                  have e9 : (R)[j] = pp := by rw [← hpe]; simp [hjR]
                  rw [e9]
                  simp [hel2]
                have S1 := Lib.hid s1
                have S2 := Lib.hid s2
                have hx9 := Blk.new wr #[.int .u64 pp.pn, .int .u64 pp.at_, .int .u64 pp.size, .bool pp.el, .int .u64 pp.after, .slice pp.fa pp.fn pp.fc] 69
                have hb9 := bj.alloc bj.size (.cells #[.int .u64 pp.pn, .int .u64 pp.at_, .int .u64 pp.size, .bool pp.el, .int .u64 pp.after, .slice pp.fa pp.fn pp.fc] 69)
                have hnq9 : ¬ rb = wr.heap.size := by have := bj.size; omega
                cases hga
                rw [hel2] at d3 hx9 hb9
                clear s1 s2 hpe hpm hzu
                cases u with
                | true =>
                  go_wp2_with (fail)
                  obtain ⟨wx, hwx⟩ : ∃ ww, wr.alloc (.cells #[.int .u64 pp.pn, .int .u64 pp.at_, .int .u64 pp.size, .bool el2, .int .u64 pp.after, .slice pp.fa pp.fn pp.fc] 69) = ww := ⟨_, rfl⟩
                  obtain ⟨qx, hqx⟩ : ∃ ww, wr.heap.size = ww := ⟨_, rfl⟩
                  rw [hwx, hqx] at hx9 ⊢
                  rw [hwx] at hb9
                  have e2 := hx9.cell 2 _ rfl
                  have e3 := hx9.cell 3 _ rfl
                  have B9 := Lib.hid (below_on hb9 ((Below.refl _ _).drew) hb9.size)
                  refine rg_start 11 ?_
                  refine rg_same fun p hx hne hC => ?_
                  refine rg_quiet 0 [0,1,2,3,4,5,6,7,8,9,10] hC ?_
                  simp only [pickD, List.map_cons, List.map_nil, List.getD_cons_zero, List.getD_cons_succ]; repeat (go_big_quiet_step (fail))
                  refine wpQuiet_nil ?_
                  refine rg_end ?_
                  clear hx hne hC
                  go_wp2_with (fail)
                  exact ⟨⟨j + 1, z + pp.size, true, by go_num, by go_num, rfl, by omega, B9.out, Lib.hid ⟨S1.out, S2.out⟩⟩, by simp [intOf]; omega⟩
                | false =>
                  go_wp2_with (fail)
                  obtain ⟨wx, hwx⟩ : ∃ ww, wr.alloc (.cells #[.int .u64 pp.pn, .int .u64 pp.at_, .int .u64 pp.size, .bool el2, .int .u64 pp.after, .slice pp.fa pp.fn pp.fc] 69) = ww := ⟨_, rfl⟩
                  obtain ⟨qx, hqx⟩ : ∃ ww, wr.heap.size = ww := ⟨_, rfl⟩
                  rw [hwx, hqx] at hx9 ⊢
                  rw [hwx] at hb9
                  have e2 := hx9.cell 2 _ rfl
                  have e3 := hx9.cell 3 _ rfl
                  have B9 := Lib.hid (below_on hb9 ((Below.refl _ _).drew) hb9.size)
                  refine rg_start 11 ?_
                  refine rg_same fun p hx hne hC => ?_
                  refine rg_quiet 0 [0,1,2,3,4,5,6,7,8,9,10] hC ?_
                  simp only [pickD, List.map_cons, List.map_nil, List.getD_cons_zero, List.getD_cons_succ]; repeat (go_big_quiet_step (fail))
                  refine wpQuiet_nil ?_
                  refine rg_end ?_
                  clear hx hne hC
                  go_wp2_with (fail)
                  exact ⟨⟨j + 1, z + pp.size, el2, by go_num, by go_num, rfl, by omega, B9.out, Lib.hid ⟨S1.out, by rw [S2.out]; rfl⟩⟩, by simp [intOf]; omega⟩
              · obtain rfl : nr = j := by omega
                have hzu2 := hzu.out
                rw [show (R).take nr = R by rw [HRN.out, List.take_length]] at hzu2
                have hK2 := K1.out.below bj
                obtain ⟨a9, n9, c9, hB9, hn9, hP9, hne9⟩ := hK2.ss
                have hSA := sameall_any a9 n9 c9 ar nr cr L R has lg lk lt top wr.drew hn9 hK2.rn (hP9.below (Below.refl _ _).drew) (hK2.rp.below (Below.refl _ _).drew) (by omega) hK2.pi.sim.alike
                have hBY := fun W (hW : Below wr.heap.size wr W) => bytes15_any b (· ≠ rb) L has lg lk lt top W (hK2.ss.only hW) (by omega) hK2.pi.sz
                have hWA := fun W (hW : Below wr.heap.size wr W) => waits15_any b (· ≠ rb) L has lg lk lt top W (hK2.ss.only hW) (by omega)
                rw [show sizes (L) = z by rw [hK2.pi.sim.sizes]; exact hzu2.1] at hBY
                rw [show (L).any (·.el) = u by rw [hK2.pi.sim.any]; exact hzu2.2] at hWA
                have s0 := Blk.cell hB9 0 _ rfl
                have s1 := Blk.cell hB9 1 _ rfl
                have s2 := Blk.cell hB9 2 _ rfl
                have s3 := Blk.cell hB9 3 _ rfl
                have s4 := Blk.cell hB9 4 _ rfl
                have s5 := Blk.cell hB9 5 _ rfl
                have t0 := hK2.rs.cell 0 _ rfl
                have t1 := hK2.rs.cell 1 _ rfl
                have t2 := hK2.rs.cell 2 _ rfl
                have t3 := hK2.rs.cell 3 _ rfl
                have t4 := hK2.rs.cell 4 _ rfl
                have t5 := hK2.rs.cell 5 _ rfl
                have lb : b < wr.heap.size := Blk.lt hB9
                have lr : rb < wr.heap.size := hK2.rs.lt
                unfold stV at hSA
                have SA := Lib.hid hSA
                have BY := Lib.hid hBY
                have WA := Lib.hid hWA
                have BJ := Lib.hid bj
                clear hzu2 hzu hK2 hB9 hn9 hP9 hne9 hSA hBY hWA bj hzb2
                go_wp2_with (fail)
                refine rg_start 19 ?_
                refine rg_below fun p hx hne hC hbel => ?_
                have k0 : ∀ z : Wd p, z.w.cell? ⟨b, 0, none⟩ = some (.slice a9 n9 c9) := fun z => (hx z _ _ _ lb).trans s0
                have k1 : ∀ z : Wd p, z.w.cell? ⟨b, 1, none⟩ = some (.bool has) := fun z => (hx z _ _ _ lb).trans s1
                have k2 : ∀ z : Wd p, z.w.cell? ⟨b, 2, none⟩ = some (.int .u64 lg) := fun z => (hx z _ _ _ lb).trans s2
                have k3 : ∀ z : Wd p, z.w.cell? ⟨b, 3, none⟩ = some (.int .u64 lk) := fun z => (hx z _ _ _ lb).trans s3
                have k4 : ∀ z : Wd p, z.w.cell? ⟨b, 4, none⟩ = some (.int .u64 lt) := fun z => (hx z _ _ _ lb).trans s4
                have k5 : ∀ z : Wd p, z.w.cell? ⟨b, 5, none⟩ = some (.int .u64 top) := fun z => (hx z _ _ _ lb).trans s5
                have l0 : ∀ z : Wd p, z.w.cell? ⟨rb, 0, none⟩ = some (.slice ar nr cr) := fun z => (hx z _ _ _ lr).trans t0
                have l1 : ∀ z : Wd p, z.w.cell? ⟨rb, 1, none⟩ = some (.bool has) := fun z => (hx z _ _ _ lr).trans t1
                have l2 : ∀ z : Wd p, z.w.cell? ⟨rb, 2, none⟩ = some (.int .u64 lg) := fun z => (hx z _ _ _ lr).trans t2
                have l3 : ∀ z : Wd p, z.w.cell? ⟨rb, 3, none⟩ = some (.int .u64 lk) := fun z => (hx z _ _ _ lr).trans t3
                have l4 : ∀ z : Wd p, z.w.cell? ⟨rb, 4, none⟩ = some (.int .u64 lt) := fun z => (hx z _ _ _ lr).trans t4
                have l5 : ∀ z : Wd p, z.w.cell? ⟨rb, 5, none⟩ = some (.int .u64 top) := fun z => (hx z _ _ _ lr).trans t5
                refine rg_quiet 14 [0,1,2,3,4] hC ?_
                simp only [pickD, List.map_cons, List.map_nil, List.getD_cons_zero, List.getD_cons_succ]; repeat (go_big_quiet_step (fail))
                refine wpQuiet_nil ?_
                refine rg_cut 5 ?_
                clear hx hne hC k0 k1 k2 k3 k4 k5 l0 l1 l2 l3 l4 l5 hbel s0 s1 s2 s3 s4 s5 t0 t1 t2 t3 t4 t5
                go_wp2_with (fail)
                refine SA.out.mono ?_
                rintro e wS ⟨hbS, rfl⟩
                have hbS2 : Below wr.heap.size wr wS := below_on ((Below.refl _ _).drew) hbS (Nat.le_refl _)
                have BS := Lib.hid hbS2
                clear hbS hbS2 SA
                go_wp2_with (fail)
                refine rg_below fun p hx hne hC hbel => ?_
                refine rg_quiet 9 [6,7,8,10] hC ?_
                simp only [pickD, List.map_cons, List.map_nil, List.getD_cons_zero, List.getD_cons_succ]; repeat (go_big_quiet_step (fail))
                refine wpQuiet_nil ?_
                refine rg_act 9 ?_
                go_wp2_with (fail)
                refine (BY.out _ BS.out).mono ?_
                rintro e wT ⟨hbT, rfl⟩
                have hCT := hbel _ hbT
                have BT := Lib.hid hbT
                clear hbT
                go_wp2_with (fail)
                refine ⟨hCT, ?_⟩
                refine rg_quiet 3 [11,12,13,14,16] hCT ?_
                simp only [pickD, List.map_cons, List.map_nil, List.getD_cons_zero, List.getD_cons_succ]; repeat (go_big_quiet_step (fail))
                refine wpQuiet_nil ?_
                refine rg_act 15 ?_
                go_wp2_with (fail)
                refine (WA.out _ (below_on BS.out BT.out BS.out.size)).mono ?_
                rintro e wU ⟨hbU, rfl⟩
                have hbU2 := below_on BT.out hbU BT.out.size
                have hCU := hbel _ hbU2
                have BU := Lib.hid hbU2
                clear hbU hbU2
                go_wp2_with (fail)
                refine ⟨hCU, ?_⟩
                refine rg_quiet 0 [17,18] hCU ?_
                simp only [pickD, List.map_cons, List.map_nil, List.getD_cons_zero, List.getD_cons_succ]; repeat (go_big_quiet_step (fail))
                refine wpQuiet_nil ?_
                refine rg_end ?_
                have hall : Below x3.heap.size x3 wU := below_on BJ.out (below_on BS.out BU.out BS.out.size) BJ.out.size
                have HALL := Lib.hid hall
                clear hall hx hne hC hbel hCT hCU
                go_wp2_with (fail)
                exact ⟨⟨k + 1, ar, nr, cr, L, R, has, lg, lk, lt, top, by go_num, by omega, below_on BW3.out HALL.out BW3.out.size, Lib.hid (K1.out.below HALL.out)⟩, by simp [intOf]; omega⟩
          · obtain ⟨hno1, hno2⟩ := not_or.1 hno
            have hrn9 := HII.out.rn
            refine (radd_any ⟨pn, at_, size, el, after, fa, fn, fc⟩ R ar nr cr has lg lk lt top wB hrn9 HII.out.rp (by omega) HPK.out ⟨htopb.1, by omega⟩ hno1 hno2).mono ?_
            clear hrn9
            rintro e x1 ⟨hb1, a', c', rfl, hfar, hps⟩
            unfold stV
            simp only at hps ⊢
            obtain ⟨lt', hlt'⟩ : ∃ x, (if el = true then at_ else lt) = x := ⟨_, rfl⟩
            have hne' : ∀ x, a' = some x → x.block ≠ b ∧ x.block ≠ rb := fun x hx => by have := hfar x hx; omega
            have HPS := Lib.hid hps
            have HNE := Lib.hid hne'
            have HLT := Lib.hid hlt'
            rw [hlt']
            clear hfar hps hne' hlt'
            have hqx := HBX.out.below hb1
            have hrx := (HII.out.below hb1).rs
            have q0 := hqx.cell 0 _ rfl
            have q1 := hqx.cell 1 _ rfl
            have q2 := hqx.cell 2 _ rfl
            have q3 := hqx.cell 3 _ rfl
            have q4 := hqx.cell 4 _ rfl
            have q5 := hqx.cell 5 _ rfl
            have q6 := hqx.cell 6 _ rfl
            have q7 := hqx.cell 7 _ rfl
            have q8 := hqx.cell 8 _ rfl
            have q9 := hqx.cell 9 _ rfl
            have m0 := hrx.cell 0 _ rfl
            have mf0 := hrx.free 0
            have m1 := hrx.cell 1 _ rfl
            have mf1 := hrx.free 1
            have m2 := hrx.cell 2 _ rfl
            have mf2 := hrx.free 2
            have m3 := hrx.cell 3 _ rfl
            have mf3 := hrx.free 3
            have m4 := hrx.cell 4 _ rfl
            have mf4 := hrx.free 4
            have m5 := hrx.cell 5 _ rfl
            have mf5 := hrx.free 5
            have lq1 : q < x1.heap.size := by have := hb1.size; omega
            have lr1 : rb < x1.heap.size := by omega
            have nqr : ¬ q = rb := by omega
            have nq1 : ¬ q = x1.heap.size := by omega
            have nr1 : ¬ rb = x1.heap.size := by omega
            clear hqx hrx
            go_wp2_with (fail)
            have hu0 := (HII.out.below hb1).rs
            have hu1 := hu0.set 0 (.slice a' (nr + 1) c')
            have hu2 := hu1.set 1 (.bool has)
            have hu3 := hu2.set 2 (.int .u64 lg)
            have hu4 := hu3.set 3 (.int .u64 lk)
            have hu5 := hu4.set 4 (.int .u64 lt')
            have hu6 := hu5.set 5 (.int .u64 (pn + 1))
            have hu7 : Blk _ rb #[.slice a' (nr + 1) c', .bool has, .int .u64 lg, .int .u64 lk, .int .u64 lt', .int .u64 (pn + 1)] 64 := (hu6.congr (by simp)).alloc (.cells #[.slice a' (nr + 1) c', .bool has, .int .u64 lg, .int .u64 lk, .int .u64 lt', .int .u64 (pn + 1)] 64)
            have on2 := ((((((((Only.refl (· = rb) x1).set 0 (.slice a' (nr + 1) c')).set 1 (.bool has)).set 2 (.int .u64 lg)).set 3 (.int .u64 lk)).set 4 (.int .u64 lt')).set 5 (.int .u64 (pn + 1))).alloc (.cells #[.slice a' (nr + 1) c', .bool has, .int .u64 lg, .int .u64 lk, .int .u64 lt', .int .u64 (pn + 1)] 64))
            obtain ⟨x2, hx2⟩ : ∃ ww, (((((((x1.setCell ⟨rb, 0, none⟩ (.slice a' (nr + 1) c')).setCell ⟨rb, 1, none⟩ (.bool has)).setCell ⟨rb, 2, none⟩ (.int .u64 lg)).setCell ⟨rb, 3, none⟩ (.int .u64 lk)).setCell ⟨rb, 4, none⟩ (.int .u64 lt')).setCell ⟨rb, 5, none⟩ (.int .u64 (pn + 1))).alloc (.cells #[.slice a' (nr + 1) c', .bool has, .int .u64 lg, .int .u64 lk, .int .u64 lt', .int .u64 (pn + 1)] 64)) = ww := ⟨_, rfl⟩
            rw [hx2] at hu7 on2 ⊢
            clear hu0 hu1 hu2 hu3 hu4 hu5 hu6 hx2
            have hss2 := (HII.out.ss.only hb1).turn on2 hnbr (fun z hz _ => hz) (fun z hz _ => hz)
            have hqx2 := on2.blk (HBX.out.below hb1) nqr
            have hbw2 := below_onto (below_on HBW.out hb1 HBW.out.size) on2 (by have := hb1.size; omega) (by intro z hz h; omega)
            have hsz2 : x1.heap.size ≤ x2.heap.size := on2.size
            have SS2 := Lib.hid hss2
            have QX2 := Lib.hid hqx2
            have BW2 := Lib.hid hbw2
            have U7 := Lib.hid hu7
            have ON2 := Lib.hid on2
            have lr2 : rb < x2.heap.size := by omega
            have lb2 : b < x2.heap.size := by omega
            have hF2 : Hid (∀ z, x2.heap.size ≤ z → z ≠ rb) := Lib.hid (fun z hz => by omega)
            clear hss2 hqx2 hbw2 hu7 on2 q0 q1 q2 q3 q4 q5 q6 q7 q8 q9 m0 mf0 m1 mf1 m2 mf2 m3 mf3 m4 mf4 m5 mf5
            obtain ⟨a9, n9, c9, hB9, hn9, hP9, hne9⟩ := SS2.out
            refine (sadd_any b ⟨pn, at_, size, el, after, fa, fn, fc⟩ fs L a9 n9 c9 has lg lk lt top x2 hB9 hn9 hP9 (by omega) HPK.out (HSW.out.on BW2.out) (by simp only; omega) ⟨htopb.1, by omega⟩ (by simp only; omega) (by simp only; omega)).mono ?_
            rintro e x3 ⟨ho3, rfl, a5, c5, hsb, hfar5, ff, fk, hps5⟩
            simp only at hsb hps5
            rw [HLT.out] at hsb
            have hrp := (HPS.out.only ON2.out (fun x hx => (HNE.out x hx).2)).only ho3 (fun x hx => (HNE.out x hx).1)
            have hss3 : SS x3 b (· ≠ rb) (L ++ [⟨pn, at_, size, el, 0, ff, fn, fk⟩]) has lg lk lt' (pn + 1) := ⟨a5, n9 + 1, c5, hsb, by simp [hn9], hps5, fun x hx _ => ⟨(hfar5 x hx).1, hF2.out _ (hfar5 x hx).2⟩⟩
            have hkk : PlayInv x3 b rb a' (nr + 1) c' (L ++ [⟨pn, at_, size, el, 0, ff, fn, fk⟩]) (R ++ [⟨pn, at_, size, el, 0, fa, fn, fc⟩]) has lg lk lt' (pn + 1) (k + 1) := ⟨hss3, ho3.blk U7.out (fun h => hnbr h.symm), by have := HII.out.rn; simp; omega, hrp, fun x hx _ => HNE.out x hx, hnbr, HPI.out.add ⟨pn, at_, size, el, 0, ff, fn, fk⟩ ⟨pn, at_, size, el, 0, fa, fn, fc⟩ rfl (by simp only; omega) (by simp only; omega) g2 g5 rfl⟩
            have BW3 := Lib.hid (below_onto BW2.out ho3 BW2.out.size (by intro z hz h; omega))
            obtain ⟨L1, hL1⟩ : ∃ x, (L ++ [(⟨pn, at_, size, el, 0, ff, fn, fk⟩ : Pk)]) = x := ⟨_, rfl⟩
            obtain ⟨R1, hR1⟩ : ∃ x, (R ++ [(⟨pn, at_, size, el, 0, fa, fn, fc⟩ : Pk)]) = x := ⟨_, rfl⟩
            obtain ⟨nr1, hnr1⟩ : ∃ x, nr + 1 = x := ⟨_, rfl⟩
            obtain ⟨top1, htop1⟩ : ∃ x, pn + 1 = x := ⟨_, rfl⟩
            rw [hL1, hR1, hnr1, htop1] at hkk
            have K1 := Lib.hid hkk
            clear hrp hss3 hkk hsb hfar5 hps5 ho3 hL1 hR1 hnr1 htop1 hB9 hn9 hP9 hne9 hb1 SS2 QX2 BW2 U7 ON2 hF2 hno HII HBX HWB HQ HBW HRS HSR HPK HNL HPI HRR HPS HNE HLT
            have hpo := K1.out.pi
            have hrl := hpo.rest
            have hLk2 := hpo.len
            have hRR : (R1).length ≤ 601 := by have := hrl.2.2.2.2.2; omega
            have hNR : nr1 ≤ 601 := by have := K1.out.rn; omega
            have hsz : ∀ p ∈ R1, 0 ≤ p.size ∧ p.size ≤ 1099511627776 := fun p hp => ⟨(K1.out.rp.ok p hp).2.2.1.1, hrl.2.2.1 p hp⟩
            have HSZ := Lib.hid hsz
            have HRN := Lib.hid K1.out.rn
            have p0 := K1.out.rs.cell 0 _ rfl
            have hrlW : rb < x3.heap.size := K1.out.rs.lt
            have hblW : b < x3.heap.size := by obtain ⟨_, _, _, h, _⟩ := K1.out.ss; exact Blk.lt h
            clear hpo hrl hsz
            go_wp2_with (fail)
            clear p0
            go_loopw [17, 18, 20, 131] (fun s v _ i wr => ∃ (j : Nat) (z : Int) (u : Bool), i = .int .i64 j ∧ s = .int .u64 z ∧ v = .bool u ∧ j ≤ nr1 ∧ Below x3.heap.size x3 wr ∧ Hid (sizes ((R1).take j) = z ∧ ((R1).take j).any (·.el) = u)) (fun _ _ _ i _ => nr1 - (intOf i).toNat)
            case atStart => exact ⟨0, 0, false, rfl, rfl, rfl, by omega, Below.refl _ _, Lib.hid ⟨rfl, rfl⟩⟩
            case round =>
              obtain ⟨j, z, u, rfl, rfl, rfl, hj, bj, hzu⟩ := hrel
              have hzb := sizes_bnd (L := (R1).take j) (fun p hp => HSZ.out p (List.mem_of_mem_take hp))
              rw [hzu.out.1, List.length_take] at hzb
              have hzb2 : 0 ≤ z ∧ z ≤ 1099511627776000 := by
                have := Nat.min_le_right j (R1).length
                omega
              clear hzb
              by_cases hlt2 : j < nr1
              · have hjR : j < (R1).length := by have := HRN.out; omega
                obtain ⟨gb, go, hga, hgb, pp, hpe, hpm, d0, d1, d2, d3, d4, d5, i0, i1, i2, i4⟩ := (K1.out.rp.below bj).at_ hjR
                have hszp := HSZ.out pp hpm
                have s1 := sizes_succ hjR
                rw [hzu.out.1, hpe] at s1
                obtain ⟨el2, hel2⟩ : ∃ x, pp.el = x := ⟨_, rfl⟩
                have s2 : ((R1).take (j + 1)).any (·.el) = (u || el2) := by
                  rw [List.take_add_one, List.getElem?_eq_getElem hjR, List.any_append, hzu.out.2]
                  have e9 : (R1)[j] = pp := by rw [← hpe]; simp [hjR]
                  rw [e9]
                  simp [hel2]
                have S1 := Lib.hid s1
                have S2 := Lib.hid s2
                have hx9 := Blk.new wr #[.int .u64 pp.pn, .int .u64 pp.at_, .int .u64 pp.size, .bool pp.el, .int .u64 pp.after, .slice pp.fa pp.fn pp.fc] 69
                have hb9 := bj.alloc bj.size (.cells #[.int .u64 pp.pn, .int .u64 pp.at_, .int .u64 pp.size, .bool pp.el, .int .u64 pp.after, .slice pp.fa pp.fn pp.fc] 69)
                have hnq9 : ¬ rb = wr.heap.size := by have := bj.size; omega
                cases hga
                rw [hel2] at d3 hx9 hb9
                clear s1 s2 hpe hpm hzu
                cases u with
                | true =>
                  go_wp2_with (fail)
                  obtain ⟨wx, hwx⟩ : ∃ ww, wr.alloc (.cells #[.int .u64 pp.pn, .int .u64 pp.at_, .int .u64 pp.size, .bool el2, .int .u64 pp.after, .slice pp.fa pp.fn pp.fc] 69) = ww := ⟨_, rfl⟩
                  obtain ⟨qx, hqx⟩ : ∃ ww, wr.heap.size = ww := ⟨_, rfl⟩
                  rw [hwx, hqx] at hx9 ⊢
                  rw [hwx] at hb9
                  have e2 := hx9.cell 2 _ rfl
                  have e3 := hx9.cell 3 _ rfl
                  have B9 := Lib.hid (below_on hb9 ((Below.refl _ _).drew) hb9.size)
                  refine rg_start 11 ?_
                  refine rg_same fun p hx hne hC => ?_
                  refine rg_quiet 0 [0,1,2,3,4,5,6,7,8,9,10] hC ?_
                  simp only [pickD, List.map_cons, List.map_nil, List.getD_cons_zero, List.getD_cons_succ]; repeat (go_big_quiet_step (fail))
                  refine wpQuiet_nil ?_
                  refine rg_end ?_
                  clear hx hne hC
                  go_wp2_with (fail)
                  exact ⟨⟨j + 1, z + pp.size, true, by go_num, by go_num, rfl, by omega, B9.out, Lib.hid ⟨S1.out, S2.out⟩⟩, by simp [intOf]; omega⟩
                | false =>
                  go_wp2_with (fail)
                  obtain ⟨wx, hwx⟩ : ∃ ww, wr.alloc (.cells #[.int .u64 pp.pn, .int .u64 pp.at_, .int .u64 pp.size, .bool el2, .int .u64 pp.after, .slice pp.fa pp.fn pp.fc] 69) = ww := ⟨_, rfl⟩
                  obtain ⟨qx, hqx⟩ : ∃ ww, wr.heap.size = ww := ⟨_, rfl⟩
                  rw [hwx, hqx] at hx9 ⊢
                  rw [hwx] at hb9
                  have e2 := hx9.cell 2 _ rfl
                  have e3 := hx9.cell 3 _ rfl
                  have B9 := Lib.hid (below_on hb9 ((Below.refl _ _).drew) hb9.size)
                  refine rg_start 11 ?_
                  refine rg_same fun p hx hne hC => ?_
                  refine rg_quiet 0 [0,1,2,3,4,5,6,7,8,9,10] hC ?_
                  simp only [pickD, List.map_cons, List.map_nil, List.getD_cons_zero, List.getD_cons_succ]; repeat (go_big_quiet_step (fail))
                  refine wpQuiet_nil ?_
                  refine rg_end ?_
                  clear hx hne hC
                  go_wp2_with (fail)
                  exact ⟨⟨j + 1, z + pp.size, el2, by go_num, by go_num, rfl, by omega, B9.out, Lib.hid ⟨S1.out, by rw [S2.out]; rfl⟩⟩, by simp [intOf]; omega⟩
              · obtain rfl : nr1 = j := by omega
                have hzu2 := hzu.out
                rw [show (R1).take nr1 = R1 by rw [HRN.out, List.take_length]] at hzu2
                have hK2 := K1.out.below bj
                obtain ⟨a9, n9, c9, hB9, hn9, hP9, hne9⟩ := hK2.ss
                have hSA := sameall_any a9 n9 c9 a' nr1 c' L1 R1 has lg lk lt' top1 wr.drew hn9 hK2.rn (hP9.below (Below.refl _ _).drew) (hK2.rp.below (Below.refl _ _).drew) (by omega) hK2.pi.sim.alike
                have hBY := fun W (hW : Below wr.heap.size wr W) => bytes15_any b (· ≠ rb) L1 has lg lk lt' top1 W (hK2.ss.only hW) (by omega) hK2.pi.sz
                have hWA := fun W (hW : Below wr.heap.size wr W) => waits15_any b (· ≠ rb) L1 has lg lk lt' top1 W (hK2.ss.only hW) (by omega)
                rw [show sizes (L1) = z by rw [hK2.pi.sim.sizes]; exact hzu2.1] at hBY
                rw [show (L1).any (·.el) = u by rw [hK2.pi.sim.any]; exact hzu2.2] at hWA
                have s0 := Blk.cell hB9 0 _ rfl
                have s1 := Blk.cell hB9 1 _ rfl
                have s2 := Blk.cell hB9 2 _ rfl
                have s3 := Blk.cell hB9 3 _ rfl
                have s4 := Blk.cell hB9 4 _ rfl
                have s5 := Blk.cell hB9 5 _ rfl
                have t0 := hK2.rs.cell 0 _ rfl
                have t1 := hK2.rs.cell 1 _ rfl
                have t2 := hK2.rs.cell 2 _ rfl
                have t3 := hK2.rs.cell 3 _ rfl
                have t4 := hK2.rs.cell 4 _ rfl
                have t5 := hK2.rs.cell 5 _ rfl
                have lb : b < wr.heap.size := Blk.lt hB9
                have lr : rb < wr.heap.size := hK2.rs.lt
                unfold stV at hSA
                have SA := Lib.hid hSA
                have BY := Lib.hid hBY
                have WA := Lib.hid hWA
                have BJ := Lib.hid bj
                clear hzu2 hzu hK2 hB9 hn9 hP9 hne9 hSA hBY hWA bj hzb2
                go_wp2_with (fail)
                refine rg_start 19 ?_
                refine rg_below fun p hx hne hC hbel => ?_
                have k0 : ∀ z : Wd p, z.w.cell? ⟨b, 0, none⟩ = some (.slice a9 n9 c9) := fun z => (hx z _ _ _ lb).trans s0
                have k1 : ∀ z : Wd p, z.w.cell? ⟨b, 1, none⟩ = some (.bool has) := fun z => (hx z _ _ _ lb).trans s1
                have k2 : ∀ z : Wd p, z.w.cell? ⟨b, 2, none⟩ = some (.int .u64 lg) := fun z => (hx z _ _ _ lb).trans s2
                have k3 : ∀ z : Wd p, z.w.cell? ⟨b, 3, none⟩ = some (.int .u64 lk) := fun z => (hx z _ _ _ lb).trans s3
                have k4 : ∀ z : Wd p, z.w.cell? ⟨b, 4, none⟩ = some (.int .u64 lt') := fun z => (hx z _ _ _ lb).trans s4
                have k5 : ∀ z : Wd p, z.w.cell? ⟨b, 5, none⟩ = some (.int .u64 top1) := fun z => (hx z _ _ _ lb).trans s5
                have l0 : ∀ z : Wd p, z.w.cell? ⟨rb, 0, none⟩ = some (.slice a' nr1 c') := fun z => (hx z _ _ _ lr).trans t0
                have l1 : ∀ z : Wd p, z.w.cell? ⟨rb, 1, none⟩ = some (.bool has) := fun z => (hx z _ _ _ lr).trans t1
                have l2 : ∀ z : Wd p, z.w.cell? ⟨rb, 2, none⟩ = some (.int .u64 lg) := fun z => (hx z _ _ _ lr).trans t2
                have l3 : ∀ z : Wd p, z.w.cell? ⟨rb, 3, none⟩ = some (.int .u64 lk) := fun z => (hx z _ _ _ lr).trans t3
                have l4 : ∀ z : Wd p, z.w.cell? ⟨rb, 4, none⟩ = some (.int .u64 lt') := fun z => (hx z _ _ _ lr).trans t4
                have l5 : ∀ z : Wd p, z.w.cell? ⟨rb, 5, none⟩ = some (.int .u64 top1) := fun z => (hx z _ _ _ lr).trans t5
                refine rg_quiet 14 [0,1,2,3,4] hC ?_
                simp only [pickD, List.map_cons, List.map_nil, List.getD_cons_zero, List.getD_cons_succ]; repeat (go_big_quiet_step (fail))
                refine wpQuiet_nil ?_
                refine rg_cut 5 ?_
                clear hx hne hC k0 k1 k2 k3 k4 k5 l0 l1 l2 l3 l4 l5 hbel s0 s1 s2 s3 s4 s5 t0 t1 t2 t3 t4 t5
                go_wp2_with (fail)
                refine SA.out.mono ?_
                rintro e wS ⟨hbS, rfl⟩
                have hbS2 : Below wr.heap.size wr wS := below_on ((Below.refl _ _).drew) hbS (Nat.le_refl _)
                have BS := Lib.hid hbS2
                clear hbS hbS2 SA
                go_wp2_with (fail)
                refine rg_below fun p hx hne hC hbel => ?_
                refine rg_quiet 9 [6,7,8,10] hC ?_
                simp only [pickD, List.map_cons, List.map_nil, List.getD_cons_zero, List.getD_cons_succ]; repeat (go_big_quiet_step (fail))
                refine wpQuiet_nil ?_
                refine rg_act 9 ?_
                go_wp2_with (fail)
                refine (BY.out _ BS.out).mono ?_
                rintro e wT ⟨hbT, rfl⟩
                have hCT := hbel _ hbT
                have BT := Lib.hid hbT
                clear hbT
                go_wp2_with (fail)
                refine ⟨hCT, ?_⟩
                refine rg_quiet 3 [11,12,13,14,16] hCT ?_
                simp only [pickD, List.map_cons, List.map_nil, List.getD_cons_zero, List.getD_cons_succ]; repeat (go_big_quiet_step (fail))
                refine wpQuiet_nil ?_
                refine rg_act 15 ?_
                go_wp2_with (fail)
                refine (WA.out _ (below_on BS.out BT.out BS.out.size)).mono ?_
                rintro e wU ⟨hbU, rfl⟩
                have hbU2 := below_on BT.out hbU BT.out.size
                have hCU := hbel _ hbU2
                have BU := Lib.hid hbU2
                clear hbU hbU2
                go_wp2_with (fail)
                refine ⟨hCU, ?_⟩
                refine rg_quiet 0 [17,18] hCU ?_
                simp only [pickD, List.map_cons, List.map_nil, List.getD_cons_zero, List.getD_cons_succ]; repeat (go_big_quiet_step (fail))
                refine wpQuiet_nil ?_
                refine rg_end ?_
                have hall : Below x3.heap.size x3 wU := below_on BJ.out (below_on BS.out BU.out BS.out.size) BJ.out.size
                have HALL := Lib.hid hall
                clear hall hx hne hC hbel hCT hCU
                go_wp2_with (fail)
                exact ⟨⟨k + 1, a', nr1, c', L1, R1, has, lg, lk, lt', top1, by go_num, by omega, below_on BW3.out HALL.out BW3.out.size, Lib.hid (K1.out.below HALL.out)⟩, by simp [intOf]; omega⟩
        · by_cases hk1 : kind = 1
          · subst hk1
            go_wp2_with (fail)
            rw [HWB.out, HQ.out]
            clear ri0 ri1 ri2 ri3 ri4 ri5 rr0 rr1 rr2 rr3 rr4 rr5 c0 c1 c2 c3 c4 c5 c6 c7 c8 c9
            have hRA := rack_play la nl lc l R ar nr cr has lg lk lt top wB HII.out.rn HII.out.rp (by omega) HNL.out.symm HRS.out (by have := HNL.out; omega) hlgb htopb HRR.out.1 (fun p hp => by have := HRR.out.2.2.2.1 p hp; omega)
            have hlgb' := ackLg_bnd (has := has) (l := l) (fun r hr => (HRS.out.bnd r hr).1.1) hlgb htopb
            have hSA := fun (W : World) (hW : SS W b (· ≠ rb) L has lg lk lt top) hF (hRW : Rs W la lc l) => sack_play b (· ≠ rb) la nl lc l L has lg lk lt top W hW hF (by omega) ⟨hlgb.1, by omega⟩ ⟨htopb.1, by omega⟩ HNL.out.symm hRW (by have := HNL.out; omega) (fun p hp => by have := HRR.out.2.2.2.2.1 p hp; omega)
            obtain ⟨has', hhas'⟩ : ∃ x, ackHas has l top = x := ⟨_, rfl⟩
            obtain ⟨lg', hlg'⟩ : ∃ x, ackLg has lg l top = x := ⟨_, rfl⟩
            obtain ⟨er, her⟩ : ∃ x, ackErr l top = x := ⟨_, rfl⟩
            have herr : (ackOk l top = true ∧ er = 0) ∨ (ackOk l top = false ∧ er = 5) := by
              rw [← her]
              unfold ackErr
              cases ackOk l top <;> simp
            obtain ⟨ok, hok'⟩ : ∃ x, ackOk l top = x := ⟨_, rfl⟩
            rw [hhas', hlg', hok'] at hRA
            rw [hhas', hlg', her] at hSA
            rw [hlg'] at hlgb'
            rw [hok'] at herr
            have hsimO := HPI.out.sim.filter (ackQ l top) (ackQ_norm l top)
            have hsimL := (HPI.out.sim.filter (fun p => !ackQ l top p) (fun p => rfl)).bump hsimO
            have hpi1 := HPI.out.take (ackQ l top) (bump (L.filter (ackQ l top))) (bump (R.filter (ackQ l top))) hsimL (fun p => ⟨rfl, rfl, rfl, by show p.after + (over p _ : Int) ≤ _; have := over_le p (L.filter (ackQ l top)); omega⟩) hlgb'
            have hl0 : (L.filter (ackQ l top)).length ≤ 600 := by have := List.length_filter_le (ackQ l top) L; omega
            have hrl0 : (R.filter fun p => !ackQ l top p).length ≤ R.length := List.length_filter_le _ R
            obtain ⟨O1, hO1⟩ : ∃ x, L.filter (ackQ l top) = x := ⟨_, rfl⟩
            obtain ⟨O2, hO2⟩ : ∃ x, R.filter (ackQ l top) = x := ⟨_, rfl⟩
            rw [hO1] at hSA hpi1 hsimO hl0
            rw [hO2] at hRA hpi1 hsimO
            obtain ⟨L1, hL1⟩ : ∃ x, ((L.filter fun p => !ackQ l top p).map (bump O1)) = x := ⟨_, rfl⟩
            obtain ⟨R1, hR1⟩ : ∃ x, ((R.filter fun p => !ackQ l top p).map (bump O2)) = x := ⟨_, rfl⟩
            have hR1l : R1.length ≤ R.length := by rw [← hR1, List.length_map]; exact hrl0
            rw [hL1] at hSA hpi1
            rw [hR1] at hRA hpi1
            have HRA := Lib.hid hRA
            have HSA := Lib.hid hSA
            have HP1 := Lib.hid hpi1
            have HSO := Lib.hid hsimO
            have HR1L := Lib.hid hR1l
            clear hRA hSA hpi1 hsimO hsimL hrl0 hhas' hlg' her hok' hO1 hO2 hL1 hR1 hR1l hlgb'
            refine HRA.out.mono ?_
            rintro e x1 ⟨hb1, ao, no, co, al, nal, cal, rfl, hno, hnal, hpo, hpal, hfar, hfao⟩
            unfold stV
            have hnal6 : nal ≤ 600 := by have := HR1L.out; omega
            have HNO := Lib.hid hno
            have HNAL := Lib.hid hnal
            have HPO := Lib.hid hpo
            have HPAL := Lib.hid hpal
            have HFAR : Hid (∀ x, al = some x → 0 < R1.length → x.block ≠ b ∧ x.block ≠ rb) := Lib.hid (fun x hx h0 => by
              rcases hfar x hx with h | h
              · omega
              · rw [h] at hx
                exact HII.out.rf x hx (by have := HR1L.out; omega))
            have HFAO : Hid (∀ x, ao = some x → x.block ≠ b ∧ x.block ≠ rb) := Lib.hid (fun x hx => by have := hfao x hx; omega)
            clear hno hnal hpo hpal hfar hfao HRA
            have hqx := HBX.out.below hb1
            have hrx := (HII.out.below hb1).rs
            have q0 := hqx.cell 0 _ rfl
            have q1 := hqx.cell 1 _ rfl
            have q2 := hqx.cell 2 _ rfl
            have q3 := hqx.cell 3 _ rfl
            have q4 := hqx.cell 4 _ rfl
            have q5 := hqx.cell 5 _ rfl
            have q6 := hqx.cell 6 _ rfl
            have q7 := hqx.cell 7 _ rfl
            have q8 := hqx.cell 8 _ rfl
            have q9 := hqx.cell 9 _ rfl
            have m0 := hrx.cell 0 _ rfl
            have mf0 := hrx.free 0
            have m1 := hrx.cell 1 _ rfl
            have mf1 := hrx.free 1
            have m2 := hrx.cell 2 _ rfl
            have mf2 := hrx.free 2
            have m3 := hrx.cell 3 _ rfl
            have mf3 := hrx.free 3
            have m4 := hrx.cell 4 _ rfl
            have mf4 := hrx.free 4
            have m5 := hrx.cell 5 _ rfl
            have mf5 := hrx.free 5
            have lq1 : q < x1.heap.size := by have := hb1.size; omega
            have lr1 : rb < x1.heap.size := by omega
            have nqr : ¬ q = rb := by omega
            have nq1 : ¬ q = x1.heap.size := by omega
            have nr1 : ¬ rb = x1.heap.size := by omega
            clear hqx hrx
            go_wp2_with (fail)
            have hu0 := (HII.out.below hb1).rs
            have hu1 := hu0.set 0 (.slice al nal cal)
            have hu2 := hu1.set 1 (.bool has')
            have hu3 := hu2.set 2 (.int .u64 lg')
            have hu4 := hu3.set 3 (.int .u64 lk)
            have hu5 := hu4.set 4 (.int .u64 lt)
            have hu6 := hu5.set 5 (.int .u64 top)
            have hu7 : Blk _ rb #[.slice al nal cal, .bool has', .int .u64 lg', .int .u64 lk, .int .u64 lt, .int .u64 top] 64 := (hu6.congr (by simp)).alloc (.cells #[.slice al nal cal, .bool has', .int .u64 lg', .int .u64 lk, .int .u64 lt, .int .u64 top] 64)
            have on2 := ((((((((Only.refl (· = rb) x1).set 0 (.slice al nal cal)).set 1 (.bool has')).set 2 (.int .u64 lg')).set 3 (.int .u64 lk)).set 4 (.int .u64 lt)).set 5 (.int .u64 top)).alloc (.cells #[.slice al nal cal, .bool has', .int .u64 lg', .int .u64 lk, .int .u64 lt, .int .u64 top] 64))
            obtain ⟨x2, hx2⟩ : ∃ ww, (((((((x1.setCell ⟨rb, 0, none⟩ (.slice al nal cal)).setCell ⟨rb, 1, none⟩ (.bool has')).setCell ⟨rb, 2, none⟩ (.int .u64 lg')).setCell ⟨rb, 3, none⟩ (.int .u64 lk)).setCell ⟨rb, 4, none⟩ (.int .u64 lt)).setCell ⟨rb, 5, none⟩ (.int .u64 top)).alloc (.cells #[.slice al nal cal, .bool has', .int .u64 lg', .int .u64 lk, .int .u64 lt, .int .u64 top] 64)) = ww := ⟨_, rfl⟩
            rw [hx2] at hu7 on2 ⊢
            clear hu0 hu1 hu2 hu3 hu4 hu5 hu6 hx2
            have hss2 := (HII.out.ss.only hb1).turn on2 hnbr (fun z hz _ => hz) (fun z hz _ => hz)
            have hqx2 := on2.blk (HBX.out.below hb1) nqr
            have hbw2 := below_onto (below_on HBW.out hb1 HBW.out.size) on2 (by have := hb1.size; omega) (by intro z hz h; omega)
            have hsz2 : x1.heap.size ≤ x2.heap.size := on2.size
            have SS2 := Lib.hid hss2
            have QX2 := Lib.hid hqx2
            have BW2 := Lib.hid hbw2
            have U7 := Lib.hid hu7
            have ON2 := Lib.hid on2
            have lr2 : rb < x2.heap.size := by omega
            have lb2 : b < x2.heap.size := by omega
            have hF2 : Hid (∀ z, x2.heap.size ≤ z → z ≠ rb) := Lib.hid (fun z hz => by omega)
            clear hss2 hqx2 hbw2 hu7 on2 q0 q1 q2 q3 q4 q5 q6 q7 q8 q9 m0 mf0 m1 mf1 m2 mf2 m3 mf3 m4 mf4 m5 mf5
            have hrs2 := HRW.out.below BW2.out
            refine (HSA.out x2 SS2.out hF2 hrs2).mono ?_
            rintro e x3 ⟨ho3, v, rfl, ⟨av, nv, cv, rfl, hnv, hpv, hfv⟩, hss3⟩
            have hpo3 := (HPO.out.only ON2.out (fun x hx => (HFAO.out x hx).2)).only ho3 (fun x hx => (HFAO.out x hx).1)
            have hsm := same15r_any av nv cv ao no co O1 O2 x3 hnv HNO.out hpv hpo3 (by omega) HSO.out.alike
            have hrp := (HPAL.out.only2 ON2.out (fun x hx h0 => (HFAR.out x hx h0).2)).only2 ho3 (fun x hx h0 => (HFAR.out x hx h0).1)
            have hkk : PlayInv x3 b rb al nal cal L1 R1 has' lg' lk lt top (k + 1) := ⟨hss3, ho3.blk U7.out (fun h => hnbr h.symm), HNAL.out, hrp, HFAR.out, hnbr, HP1.out⟩
            have BW3 := Lib.hid (below_onto BW2.out ho3 BW2.out.size (by intro z hz h; omega))
            have K0 := Lib.hid hkk
            have HSM := Lib.hid hsm
            clear hrs2 hpo3 hsm hrp hkk hnv hpv hfv hss3 ho3 hb1 SS2 QX2 BW2 U7 ON2 hF2 HII HBX HWB HQ HBW HRS HSR HPK HNL HPI HRR HSA HP1 HSO HR1L HNO HNAL HPO HPAL HFAR HFAO hl0
            rcases herr with ⟨rfl, rfl⟩ | ⟨rfl, rfl⟩
            · go_wp2_with (fail)
              refine HSM.out.mono ?_
              rintro e x4 ⟨hb4, rfl⟩
              have K1 := Lib.hid (K0.out.below hb4)
              have BW4 := Lib.hid (below_on BW3.out hb4 BW3.out.size)
              clear hb4 K0 BW3 HSM
              have hpo := K1.out.pi
              have hrl := hpo.rest
              have hLk2 := hpo.len
              have hRR : (R1).length ≤ 601 := by have := hrl.2.2.2.2.2; omega
              have hNR : nal ≤ 601 := by have := K1.out.rn; omega
              have hsz : ∀ p ∈ R1, 0 ≤ p.size ∧ p.size ≤ 1099511627776 := fun p hp => ⟨(K1.out.rp.ok p hp).2.2.1.1, hrl.2.2.1 p hp⟩
              have HSZ := Lib.hid hsz
              have HRN := Lib.hid K1.out.rn
              have p0 := K1.out.rs.cell 0 _ rfl
              have hrlW : rb < x4.heap.size := K1.out.rs.lt
              have hblW : b < x4.heap.size := by obtain ⟨_, _, _, h, _⟩ := K1.out.ss; exact Blk.lt h
              clear hpo hrl hsz
              go_wp2_with (fail)
              clear p0
              go_loopw [17, 18, 20, 131] (fun s v _ i wr => ∃ (j : Nat) (z : Int) (u : Bool), i = .int .i64 j ∧ s = .int .u64 z ∧ v = .bool u ∧ j ≤ nal ∧ Below x4.heap.size x4 wr ∧ Hid (sizes ((R1).take j) = z ∧ ((R1).take j).any (·.el) = u)) (fun _ _ _ i _ => nal - (intOf i).toNat)
              case atStart => exact ⟨0, 0, false, rfl, rfl, rfl, by omega, Below.refl _ _, Lib.hid ⟨rfl, rfl⟩⟩
              case round =>
                obtain ⟨j, z, u, rfl, rfl, rfl, hj, bj, hzu⟩ := hrel
                have hzb := sizes_bnd (L := (R1).take j) (fun p hp => HSZ.out p (List.mem_of_mem_take hp))
                rw [hzu.out.1, List.length_take] at hzb
                have hzb2 : 0 ≤ z ∧ z ≤ 1099511627776000 := by
                  have := Nat.min_le_right j (R1).length
                  omega
                clear hzb
                by_cases hlt2 : j < nal
                · have hjR : j < (R1).length := by have := HRN.out; omega
                  obtain ⟨gb, go, hga, hgb, pp, hpe, hpm, d0, d1, d2, d3, d4, d5, i0, i1, i2, i4⟩ := (K1.out.rp.below bj).at_ hjR
                  have hszp := HSZ.out pp hpm
                  have s1 := sizes_succ hjR
                  rw [hzu.out.1, hpe] at s1
                  obtain ⟨el2, hel2⟩ : ∃ x, pp.el = x := ⟨_, rfl⟩
                  have s2 : ((R1).take (j + 1)).any (·.el) = (u || el2) := by
                    rw [List.take_add_one, List.getElem?_eq_getElem hjR, List.any_append, hzu.out.2]
                    have e9 : (R1)[j] = pp := by rw [← hpe]; simp [hjR]
                    rw [e9]
                    simp [hel2]
                  have S1 := Lib.hid s1
                  have S2 := Lib.hid s2
                  have hx9 := Blk.new wr #[.int .u64 pp.pn, .int .u64 pp.at_, .int .u64 pp.size, .bool pp.el, .int .u64 pp.after, .slice pp.fa pp.fn pp.fc] 69
                  have hb9 := bj.alloc bj.size (.cells #[.int .u64 pp.pn, .int .u64 pp.at_, .int .u64 pp.size, .bool pp.el, .int .u64 pp.after, .slice pp.fa pp.fn pp.fc] 69)
                  have hnq9 : ¬ rb = wr.heap.size := by have := bj.size; omega
                  cases hga
                  rw [hel2] at d3 hx9 hb9
                  clear s1 s2 hpe hpm hzu
                  cases u with
                  | true =>
                    go_wp2_with (fail)
                    obtain ⟨wx, hwx⟩ : ∃ ww, wr.alloc (.cells #[.int .u64 pp.pn, .int .u64 pp.at_, .int .u64 pp.size, .bool el2, .int .u64 pp.after, .slice pp.fa pp.fn pp.fc] 69) = ww := ⟨_, rfl⟩
                    obtain ⟨qx, hqx⟩ : ∃ ww, wr.heap.size = ww := ⟨_, rfl⟩
                    rw [hwx, hqx] at hx9 ⊢
                    rw [hwx] at hb9
                    have e2 := hx9.cell 2 _ rfl
                    have e3 := hx9.cell 3 _ rfl
                    have B9 := Lib.hid (below_on hb9 ((Below.refl _ _).drew) hb9.size)
                    refine rg_start 11 ?_
                    refine rg_same fun p hx hne hC => ?_
                    refine rg_quiet 0 [0,1,2,3,4,5,6,7,8,9,10] hC ?_
                    simp only [pickD, List.map_cons, List.map_nil, List.getD_cons_zero, List.getD_cons_succ]; repeat (go_big_quiet_step (fail))
                    refine wpQuiet_nil ?_
                    refine rg_end ?_
                    clear hx hne hC
                    go_wp2_with (fail)
                    exact ⟨⟨j + 1, z + pp.size, true, by go_num, by go_num, rfl, by omega, B9.out, Lib.hid ⟨S1.out, S2.out⟩⟩, by simp [intOf]; omega⟩
                  | false =>
                    go_wp2_with (fail)
                    obtain ⟨wx, hwx⟩ : ∃ ww, wr.alloc (.cells #[.int .u64 pp.pn, .int .u64 pp.at_, .int .u64 pp.size, .bool el2, .int .u64 pp.after, .slice pp.fa pp.fn pp.fc] 69) = ww := ⟨_, rfl⟩
                    obtain ⟨qx, hqx⟩ : ∃ ww, wr.heap.size = ww := ⟨_, rfl⟩
                    rw [hwx, hqx] at hx9 ⊢
                    rw [hwx] at hb9
                    have e2 := hx9.cell 2 _ rfl
                    have e3 := hx9.cell 3 _ rfl
                    have B9 := Lib.hid (below_on hb9 ((Below.refl _ _).drew) hb9.size)
                    refine rg_start 11 ?_
                    refine rg_same fun p hx hne hC => ?_
                    refine rg_quiet 0 [0,1,2,3,4,5,6,7,8,9,10] hC ?_
                    simp only [pickD, List.map_cons, List.map_nil, List.getD_cons_zero, List.getD_cons_succ]; repeat (go_big_quiet_step (fail))
                    refine wpQuiet_nil ?_
                    refine rg_end ?_
                    clear hx hne hC
                    go_wp2_with (fail)
                    exact ⟨⟨j + 1, z + pp.size, el2, by go_num, by go_num, rfl, by omega, B9.out, Lib.hid ⟨S1.out, by rw [S2.out]; rfl⟩⟩, by simp [intOf]; omega⟩
                · obtain rfl : nal = j := by omega
                  have hzu2 := hzu.out
                  rw [show (R1).take nal = R1 by rw [HRN.out, List.take_length]] at hzu2
                  have hK2 := K1.out.below bj
                  obtain ⟨a9, n9, c9, hB9, hn9, hP9, hne9⟩ := hK2.ss
                  have hSA := sameall_any a9 n9 c9 al nal cal L1 R1 has' lg' lk lt top wr.drew hn9 hK2.rn (hP9.below (Below.refl _ _).drew) (hK2.rp.below (Below.refl _ _).drew) (by omega) hK2.pi.sim.alike
                  have hBY := fun W (hW : Below wr.heap.size wr W) => bytes15_any b (· ≠ rb) L1 has' lg' lk lt top W (hK2.ss.only hW) (by omega) hK2.pi.sz
                  have hWA := fun W (hW : Below wr.heap.size wr W) => waits15_any b (· ≠ rb) L1 has' lg' lk lt top W (hK2.ss.only hW) (by omega)
                  rw [show sizes (L1) = z by rw [hK2.pi.sim.sizes]; exact hzu2.1] at hBY
                  rw [show (L1).any (·.el) = u by rw [hK2.pi.sim.any]; exact hzu2.2] at hWA
                  have s0 := Blk.cell hB9 0 _ rfl
                  have s1 := Blk.cell hB9 1 _ rfl
                  have s2 := Blk.cell hB9 2 _ rfl
                  have s3 := Blk.cell hB9 3 _ rfl
                  have s4 := Blk.cell hB9 4 _ rfl
                  have s5 := Blk.cell hB9 5 _ rfl
                  have t0 := hK2.rs.cell 0 _ rfl
                  have t1 := hK2.rs.cell 1 _ rfl
                  have t2 := hK2.rs.cell 2 _ rfl
                  have t3 := hK2.rs.cell 3 _ rfl
                  have t4 := hK2.rs.cell 4 _ rfl
                  have t5 := hK2.rs.cell 5 _ rfl
                  have lb : b < wr.heap.size := Blk.lt hB9
                  have lr : rb < wr.heap.size := hK2.rs.lt
                  unfold stV at hSA
                  have SA := Lib.hid hSA
                  have BY := Lib.hid hBY
                  have WA := Lib.hid hWA
                  have BJ := Lib.hid bj
                  clear hzu2 hzu hK2 hB9 hn9 hP9 hne9 hSA hBY hWA bj hzb2
                  go_wp2_with (fail)
                  refine rg_start 19 ?_
                  refine rg_below fun p hx hne hC hbel => ?_
                  have k0 : ∀ z : Wd p, z.w.cell? ⟨b, 0, none⟩ = some (.slice a9 n9 c9) := fun z => (hx z _ _ _ lb).trans s0
                  have k1 : ∀ z : Wd p, z.w.cell? ⟨b, 1, none⟩ = some (.bool has') := fun z => (hx z _ _ _ lb).trans s1
                  have k2 : ∀ z : Wd p, z.w.cell? ⟨b, 2, none⟩ = some (.int .u64 lg') := fun z => (hx z _ _ _ lb).trans s2
                  have k3 : ∀ z : Wd p, z.w.cell? ⟨b, 3, none⟩ = some (.int .u64 lk) := fun z => (hx z _ _ _ lb).trans s3
                  have k4 : ∀ z : Wd p, z.w.cell? ⟨b, 4, none⟩ = some (.int .u64 lt) := fun z => (hx z _ _ _ lb).trans s4
                  have k5 : ∀ z : Wd p, z.w.cell? ⟨b, 5, none⟩ = some (.int .u64 top) := fun z => (hx z _ _ _ lb).trans s5
                  have l0 : ∀ z : Wd p, z.w.cell? ⟨rb, 0, none⟩ = some (.slice al nal cal) := fun z => (hx z _ _ _ lr).trans t0
                  have l1 : ∀ z : Wd p, z.w.cell? ⟨rb, 1, none⟩ = some (.bool has') := fun z => (hx z _ _ _ lr).trans t1
                  have l2 : ∀ z : Wd p, z.w.cell? ⟨rb, 2, none⟩ = some (.int .u64 lg') := fun z => (hx z _ _ _ lr).trans t2
                  have l3 : ∀ z : Wd p, z.w.cell? ⟨rb, 3, none⟩ = some (.int .u64 lk) := fun z => (hx z _ _ _ lr).trans t3
                  have l4 : ∀ z : Wd p, z.w.cell? ⟨rb, 4, none⟩ = some (.int .u64 lt) := fun z => (hx z _ _ _ lr).trans t4
                  have l5 : ∀ z : Wd p, z.w.cell? ⟨rb, 5, none⟩ = some (.int .u64 top) := fun z => (hx z _ _ _ lr).trans t5
                  refine rg_quiet 14 [0,1,2,3,4] hC ?_
                  simp only [pickD, List.map_cons, List.map_nil, List.getD_cons_zero, List.getD_cons_succ]; repeat (go_big_quiet_step (fail))
                  refine wpQuiet_nil ?_
                  refine rg_cut 5 ?_
                  clear hx hne hC k0 k1 k2 k3 k4 k5 l0 l1 l2 l3 l4 l5 hbel s0 s1 s2 s3 s4 s5 t0 t1 t2 t3 t4 t5
                  go_wp2_with (fail)
                  refine SA.out.mono ?_
                  rintro e wS ⟨hbS, rfl⟩
                  have hbS2 : Below wr.heap.size wr wS := below_on ((Below.refl _ _).drew) hbS (Nat.le_refl _)
                  have BS := Lib.hid hbS2
                  clear hbS hbS2 SA
                  go_wp2_with (fail)
                  refine rg_below fun p hx hne hC hbel => ?_
                  refine rg_quiet 9 [6,7,8,10] hC ?_
                  simp only [pickD, List.map_cons, List.map_nil, List.getD_cons_zero, List.getD_cons_succ]; repeat (go_big_quiet_step (fail))
                  refine wpQuiet_nil ?_
                  refine rg_act 9 ?_
                  go_wp2_with (fail)
                  refine (BY.out _ BS.out).mono ?_
                  rintro e wT ⟨hbT, rfl⟩
                  have hCT := hbel _ hbT
                  have BT := Lib.hid hbT
                  clear hbT
                  go_wp2_with (fail)
                  refine ⟨hCT, ?_⟩
                  refine rg_quiet 3 [11,12,13,14,16] hCT ?_
                  simp only [pickD, List.map_cons, List.map_nil, List.getD_cons_zero, List.getD_cons_succ]; repeat (go_big_quiet_step (fail))
                  refine wpQuiet_nil ?_
                  refine rg_act 15 ?_
                  go_wp2_with (fail)
                  refine (WA.out _ (below_on BS.out BT.out BS.out.size)).mono ?_
                  rintro e wU ⟨hbU, rfl⟩
                  have hbU2 := below_on BT.out hbU BT.out.size
                  have hCU := hbel _ hbU2
                  have BU := Lib.hid hbU2
                  clear hbU hbU2
                  go_wp2_with (fail)
                  refine ⟨hCU, ?_⟩
                  refine rg_quiet 0 [17,18] hCU ?_
                  simp only [pickD, List.map_cons, List.map_nil, List.getD_cons_zero, List.getD_cons_succ]; repeat (go_big_quiet_step (fail))
                  refine wpQuiet_nil ?_
                  refine rg_end ?_
                  have hall : Below x4.heap.size x4 wU := below_on BJ.out (below_on BS.out BU.out BS.out.size) BJ.out.size
                  have HALL := Lib.hid hall
                  clear hall hx hne hC hbel hCT hCU
                  go_wp2_with (fail)
                  exact ⟨⟨k + 1, al, nal, cal, L1, R1, has', lg', lk, lt, top, by go_num, by omega, below_on BW4.out HALL.out BW4.out.size, Lib.hid (K1.out.below HALL.out)⟩, by simp [intOf]; omega⟩
            · go_wp2_with (fail)
              refine HSM.out.mono ?_
              rintro e x4 ⟨hb4, rfl⟩
              have K1 := Lib.hid (K0.out.below hb4)
              have BW4 := Lib.hid (below_on BW3.out hb4 BW3.out.size)
              clear hb4 K0 BW3 HSM
              have hpo := K1.out.pi
              have hrl := hpo.rest
              have hLk2 := hpo.len
              have hRR : (R1).length ≤ 601 := by have := hrl.2.2.2.2.2; omega
              have hNR : nal ≤ 601 := by have := K1.out.rn; omega
              have hsz : ∀ p ∈ R1, 0 ≤ p.size ∧ p.size ≤ 1099511627776 := fun p hp => ⟨(K1.out.rp.ok p hp).2.2.1.1, hrl.2.2.1 p hp⟩
              have HSZ := Lib.hid hsz
              have HRN := Lib.hid K1.out.rn
              have p0 := K1.out.rs.cell 0 _ rfl
              have hrlW : rb < x4.heap.size := K1.out.rs.lt
              have hblW : b < x4.heap.size := by obtain ⟨_, _, _, h, _⟩ := K1.out.ss; exact Blk.lt h
              clear hpo hrl hsz
              go_wp2_with (fail)
              clear p0
              go_loopw [17, 18, 20, 131] (fun s v _ i wr => ∃ (j : Nat) (z : Int) (u : Bool), i = .int .i64 j ∧ s = .int .u64 z ∧ v = .bool u ∧ j ≤ nal ∧ Below x4.heap.size x4 wr ∧ Hid (sizes ((R1).take j) = z ∧ ((R1).take j).any (·.el) = u)) (fun _ _ _ i _ => nal - (intOf i).toNat)
              case atStart => exact ⟨0, 0, false, rfl, rfl, rfl, by omega, Below.refl _ _, Lib.hid ⟨rfl, rfl⟩⟩
              case round =>
                obtain ⟨j, z, u, rfl, rfl, rfl, hj, bj, hzu⟩ := hrel
                have hzb := sizes_bnd (L := (R1).take j) (fun p hp => HSZ.out p (List.mem_of_mem_take hp))
                rw [hzu.out.1, List.length_take] at hzb
                have hzb2 : 0 ≤ z ∧ z ≤ 1099511627776000 := by
                  have := Nat.min_le_right j (R1).length
                  omega
                clear hzb
                by_cases hlt2 : j < nal
                · have hjR : j < (R1).length := by have := HRN.out; omega
                  obtain ⟨gb, go, hga, hgb, pp, hpe, hpm, d0, d1, d2, d3, d4, d5, i0, i1, i2, i4⟩ := (K1.out.rp.below bj).at_ hjR
                  have hszp := HSZ.out pp hpm
                  have s1 := sizes_succ hjR
                  rw [hzu.out.1, hpe] at s1
                  obtain ⟨el2, hel2⟩ : ∃ x, pp.el = x := ⟨_, rfl⟩
                  have s2 : ((R1).take (j + 1)).any (·.el) = (u || el2) := by
                    rw [List.take_add_one, List.getElem?_eq_getElem hjR, List.any_append, hzu.out.2]
                    have e9 : (R1)[j] = pp := by rw [← hpe]; simp [hjR]
                    rw [e9]
                    simp [hel2]
                  have S1 := Lib.hid s1
                  have S2 := Lib.hid s2
                  have hx9 := Blk.new wr #[.int .u64 pp.pn, .int .u64 pp.at_, .int .u64 pp.size, .bool pp.el, .int .u64 pp.after, .slice pp.fa pp.fn pp.fc] 69
                  have hb9 := bj.alloc bj.size (.cells #[.int .u64 pp.pn, .int .u64 pp.at_, .int .u64 pp.size, .bool pp.el, .int .u64 pp.after, .slice pp.fa pp.fn pp.fc] 69)
                  have hnq9 : ¬ rb = wr.heap.size := by have := bj.size; omega
                  cases hga
                  rw [hel2] at d3 hx9 hb9
                  clear s1 s2 hpe hpm hzu
                  cases u with
                  | true =>
                    go_wp2_with (fail)
                    obtain ⟨wx, hwx⟩ : ∃ ww, wr.alloc (.cells #[.int .u64 pp.pn, .int .u64 pp.at_, .int .u64 pp.size, .bool el2, .int .u64 pp.after, .slice pp.fa pp.fn pp.fc] 69) = ww := ⟨_, rfl⟩
                    obtain ⟨qx, hqx⟩ : ∃ ww, wr.heap.size = ww := ⟨_, rfl⟩
                    rw [hwx, hqx] at hx9 ⊢
                    rw [hwx] at hb9
                    have e2 := hx9.cell 2 _ rfl
                    have e3 := hx9.cell 3 _ rfl
                    have B9 := Lib.hid (below_on hb9 ((Below.refl _ _).drew) hb9.size)
                    refine rg_start 11 ?_
                    refine rg_same fun p hx hne hC => ?_
                    refine rg_quiet 0 [0,1,2,3,4,5,6,7,8,9,10] hC ?_
                    simp only [pickD, List.map_cons, List.map_nil, List.getD_cons_zero, List.getD_cons_succ]; repeat (go_big_quiet_step (fail))
                    refine wpQuiet_nil ?_
                    refine rg_end ?_
                    clear hx hne hC
                    go_wp2_with (fail)
                    exact ⟨⟨j + 1, z + pp.size, true, by go_num, by go_num, rfl, by omega, B9.out, Lib.hid ⟨S1.out, S2.out⟩⟩, by simp [intOf]; omega⟩
                  | false =>
                    go_wp2_with (fail)
                    obtain ⟨wx, hwx⟩ : ∃ ww, wr.alloc (.cells #[.int .u64 pp.pn, .int .u64 pp.at_, .int .u64 pp.size, .bool el2, .int .u64 pp.after, .slice pp.fa pp.fn pp.fc] 69) = ww := ⟨_, rfl⟩
                    obtain ⟨qx, hqx⟩ : ∃ ww, wr.heap.size = ww := ⟨_, rfl⟩
                    rw [hwx, hqx] at hx9 ⊢
                    rw [hwx] at hb9
                    have e2 := hx9.cell 2 _ rfl
                    have e3 := hx9.cell 3 _ rfl
                    have B9 := Lib.hid (below_on hb9 ((Below.refl _ _).drew) hb9.size)
                    refine rg_start 11 ?_
                    refine rg_same fun p hx hne hC => ?_
                    refine rg_quiet 0 [0,1,2,3,4,5,6,7,8,9,10] hC ?_
                    simp only [pickD, List.map_cons, List.map_nil, List.getD_cons_zero, List.getD_cons_succ]; repeat (go_big_quiet_step (fail))
                    refine wpQuiet_nil ?_
                    refine rg_end ?_
                    clear hx hne hC
                    go_wp2_with (fail)
                    exact ⟨⟨j + 1, z + pp.size, el2, by go_num, by go_num, rfl, by omega, B9.out, Lib.hid ⟨S1.out, by rw [S2.out]; rfl⟩⟩, by simp [intOf]; omega⟩
                · obtain rfl : nal = j := by omega
                  have hzu2 := hzu.out
                  rw [show (R1).take nal = R1 by rw [HRN.out, List.take_length]] at hzu2
                  have hK2 := K1.out.below bj
                  obtain ⟨a9, n9, c9, hB9, hn9, hP9, hne9⟩ := hK2.ss
                  have hSA := sameall_any a9 n9 c9 al nal cal L1 R1 has' lg' lk lt top wr.drew hn9 hK2.rn (hP9.below (Below.refl _ _).drew) (hK2.rp.below (Below.refl _ _).drew) (by omega) hK2.pi.sim.alike
                  have hBY := fun W (hW : Below wr.heap.size wr W) => bytes15_any b (· ≠ rb) L1 has' lg' lk lt top W (hK2.ss.only hW) (by omega) hK2.pi.sz
                  have hWA := fun W (hW : Below wr.heap.size wr W) => waits15_any b (· ≠ rb) L1 has' lg' lk lt top W (hK2.ss.only hW) (by omega)
                  rw [show sizes (L1) = z by rw [hK2.pi.sim.sizes]; exact hzu2.1] at hBY
                  rw [show (L1).any (·.el) = u by rw [hK2.pi.sim.any]; exact hzu2.2] at hWA
                  have s0 := Blk.cell hB9 0 _ rfl
                  have s1 := Blk.cell hB9 1 _ rfl
                  have s2 := Blk.cell hB9 2 _ rfl
                  have s3 := Blk.cell hB9 3 _ rfl
                  have s4 := Blk.cell hB9 4 _ rfl
                  have s5 := Blk.cell hB9 5 _ rfl
                  have t0 := hK2.rs.cell 0 _ rfl
                  have t1 := hK2.rs.cell 1 _ rfl
                  have t2 := hK2.rs.cell 2 _ rfl
                  have t3 := hK2.rs.cell 3 _ rfl
                  have t4 := hK2.rs.cell 4 _ rfl
                  have t5 := hK2.rs.cell 5 _ rfl
                  have lb : b < wr.heap.size := Blk.lt hB9
                  have lr : rb < wr.heap.size := hK2.rs.lt
                  unfold stV at hSA
                  have SA := Lib.hid hSA
                  have BY := Lib.hid hBY
                  have WA := Lib.hid hWA
                  have BJ := Lib.hid bj
                  clear hzu2 hzu hK2 hB9 hn9 hP9 hne9 hSA hBY hWA bj hzb2
                  go_wp2_with (fail)
                  refine rg_start 19 ?_
                  refine rg_below fun p hx hne hC hbel => ?_
                  have k0 : ∀ z : Wd p, z.w.cell? ⟨b, 0, none⟩ = some (.slice a9 n9 c9) := fun z => (hx z _ _ _ lb).trans s0
                  have k1 : ∀ z : Wd p, z.w.cell? ⟨b, 1, none⟩ = some (.bool has') := fun z => (hx z _ _ _ lb).trans s1
                  have k2 : ∀ z : Wd p, z.w.cell? ⟨b, 2, none⟩ = some (.int .u64 lg') := fun z => (hx z _ _ _ lb).trans s2
                  have k3 : ∀ z : Wd p, z.w.cell? ⟨b, 3, none⟩ = some (.int .u64 lk) := fun z => (hx z _ _ _ lb).trans s3
                  have k4 : ∀ z : Wd p, z.w.cell? ⟨b, 4, none⟩ = some (.int .u64 lt) := fun z => (hx z _ _ _ lb).trans s4
                  have k5 : ∀ z : Wd p, z.w.cell? ⟨b, 5, none⟩ = some (.int .u64 top) := fun z => (hx z _ _ _ lb).trans s5
                  have l0 : ∀ z : Wd p, z.w.cell? ⟨rb, 0, none⟩ = some (.slice al nal cal) := fun z => (hx z _ _ _ lr).trans t0
                  have l1 : ∀ z : Wd p, z.w.cell? ⟨rb, 1, none⟩ = some (.bool has') := fun z => (hx z _ _ _ lr).trans t1
                  have l2 : ∀ z : Wd p, z.w.cell? ⟨rb, 2, none⟩ = some (.int .u64 lg') := fun z => (hx z _ _ _ lr).trans t2
                  have l3 : ∀ z : Wd p, z.w.cell? ⟨rb, 3, none⟩ = some (.int .u64 lk) := fun z => (hx z _ _ _ lr).trans t3
                  have l4 : ∀ z : Wd p, z.w.cell? ⟨rb, 4, none⟩ = some (.int .u64 lt) := fun z => (hx z _ _ _ lr).trans t4
                  have l5 : ∀ z : Wd p, z.w.cell? ⟨rb, 5, none⟩ = some (.int .u64 top) := fun z => (hx z _ _ _ lr).trans t5
                  refine rg_quiet 14 [0,1,2,3,4] hC ?_
                  simp only [pickD, List.map_cons, List.map_nil, List.getD_cons_zero, List.getD_cons_succ]; repeat (go_big_quiet_step (fail))
                  refine wpQuiet_nil ?_
                  refine rg_cut 5 ?_
                  clear hx hne hC k0 k1 k2 k3 k4 k5 l0 l1 l2 l3 l4 l5 hbel s0 s1 s2 s3 s4 s5 t0 t1 t2 t3 t4 t5
                  go_wp2_with (fail)
                  refine SA.out.mono ?_
                  rintro e wS ⟨hbS, rfl⟩
                  have hbS2 : Below wr.heap.size wr wS := below_on ((Below.refl _ _).drew) hbS (Nat.le_refl _)
                  have BS := Lib.hid hbS2
                  clear hbS hbS2 SA
                  go_wp2_with (fail)
                  refine rg_below fun p hx hne hC hbel => ?_
                  refine rg_quiet 9 [6,7,8,10] hC ?_
                  simp only [pickD, List.map_cons, List.map_nil, List.getD_cons_zero, List.getD_cons_succ]; repeat (go_big_quiet_step (fail))
                  refine wpQuiet_nil ?_
                  refine rg_act 9 ?_
                  go_wp2_with (fail)
                  refine (BY.out _ BS.out).mono ?_
                  rintro e wT ⟨hbT, rfl⟩
                  have hCT := hbel _ hbT
                  have BT := Lib.hid hbT
                  clear hbT
                  go_wp2_with (fail)
                  refine ⟨hCT, ?_⟩
                  refine rg_quiet 3 [11,12,13,14,16] hCT ?_
                  simp only [pickD, List.map_cons, List.map_nil, List.getD_cons_zero, List.getD_cons_succ]; repeat (go_big_quiet_step (fail))
                  refine wpQuiet_nil ?_
                  refine rg_act 15 ?_
                  go_wp2_with (fail)
                  refine (WA.out _ (below_on BS.out BT.out BS.out.size)).mono ?_
                  rintro e wU ⟨hbU, rfl⟩
                  have hbU2 := below_on BT.out hbU BT.out.size
                  have hCU := hbel _ hbU2
                  have BU := Lib.hid hbU2
                  clear hbU hbU2
                  go_wp2_with (fail)
                  refine ⟨hCU, ?_⟩
                  refine rg_quiet 0 [17,18] hCU ?_
                  simp only [pickD, List.map_cons, List.map_nil, List.getD_cons_zero, List.getD_cons_succ]; repeat (go_big_quiet_step (fail))
                  refine wpQuiet_nil ?_
                  refine rg_end ?_
                  have hall : Below x4.heap.size x4 wU := below_on BJ.out (below_on BS.out BU.out BS.out.size) BJ.out.size
                  have HALL := Lib.hid hall
                  clear hall hx hne hC hbel hCT hCU
                  go_wp2_with (fail)
                  exact ⟨⟨k + 1, al, nal, cal, L1, R1, has', lg', lk, lt, top, by go_num, by omega, below_on BW4.out HALL.out BW4.out.size, Lib.hid (K1.out.below HALL.out)⟩, by simp [intOf]; omega⟩
          · by_cases hk2 : kind = 2
            · subst hk2
              go_wp2_with (fail)
              rw [HWB.out, HQ.out]
              clear ri0 ri1 ri2 ri3 ri4 ri5 rr0 rr1 rr2 rr3 rr4 rr5 c0 c1 c2 c3 c4 c5 c6 c7 c8 c9
              have hRA := rlost_any R ar nr cr has lg lk lt top now delay wB HII.out.rn HII.out.rp (by omega) hlgb (by omega) (by omega) HRR.out.2.1
              have hSA := fun (W : World) (hW : SS W b (· ≠ rb) L has lg lk lt top) hF => slost_any b (· ≠ rb) now delay L has lg lk lt top W hW hF (by omega) ⟨hlgb.1, by omega⟩ (by omega) (by omega) HPI.out.at_
              unfold RLostPost at hRA
              have hsimO := HPI.out.sim.filter (lostQ has lg now delay) (fun p => rfl)
              have hsimL := HPI.out.sim.filter (fun p => !lostQ has lg now delay p) (fun p => rfl)
              rw [← hsimL.loss has lg delay] at hRA
              have hpi1 := HPI.out.take (lostQ has lg now delay) id id (by rw [List.map_id, List.map_id]; exact hsimL) (fun p => ⟨rfl, rfl, rfl, by show p.after ≤ _; omega⟩) hlgb
              rw [List.map_id, List.map_id] at hpi1
              have hl0 : (L.filter (lostQ has lg now delay)).length ≤ 600 := by have := List.length_filter_le (lostQ has lg now delay) L; omega
              have hrl0 : (R.filter fun p => !lostQ has lg now delay p).length ≤ R.length := List.length_filter_le _ R
              obtain ⟨O1, hO1⟩ : ∃ x, L.filter (lostQ has lg now delay) = x := ⟨_, rfl⟩
              obtain ⟨O2, hO2⟩ : ∃ x, R.filter (lostQ has lg now delay) = x := ⟨_, rfl⟩
              obtain ⟨L1, hL1⟩ : ∃ x, (L.filter fun p => !lostQ has lg now delay p) = x := ⟨_, rfl⟩
              obtain ⟨R1, hR1⟩ : ∃ x, (R.filter fun p => !lostQ has lg now delay p) = x := ⟨_, rfl⟩
              rw [hO1, hL1] at hSA
              rw [hL1] at hRA hpi1 
              obtain ⟨lk', hlk'⟩ : ∃ x, lossOf has lg delay L1 = x := ⟨_, rfl⟩
              rw [hlk'] at hSA hRA
              rw [hO2, hR1] at hRA
              rw [hO1, hO2] at hsimO
              rw [hO1] at hl0
              rw [hR1] at hpi1 hrl0
              have HRA := Lib.hid hRA
              have HSA := Lib.hid hSA
              have HP1 := Lib.hid hpi1
              have HSO := Lib.hid hsimO
              have HR1L := Lib.hid hrl0
              clear hRA hSA hpi1 hsimO hsimL hrl0 hO1 hO2 hL1 hR1 hlk'
              refine HRA.out.mono ?_
              rintro e x1 ⟨hb1, ao, no, co, al, nal, cal, rfl, hno, hnal, hpo, hpal, hfao, hfar⟩
              unfold stV
              have hnal6 : nal ≤ 600 := by have := HR1L.out; omega
              have HNO := Lib.hid hno
              have HNAL := Lib.hid hnal
              have HPO := Lib.hid hpo
              have HPAL := Lib.hid hpal
              have HFAR : Hid (∀ x, al = some x → x.block ≠ b ∧ x.block ≠ rb) := Lib.hid (fun x hx => by have := hfar x hx; omega)
              have HFAO : Hid (∀ x, ao = some x → x.block ≠ b ∧ x.block ≠ rb) := Lib.hid (fun x hx => by have := hfao x hx; omega)
              clear hno hnal hpo hpal hfar hfao HRA
              have hqx := HBX.out.below hb1
              have hrx := (HII.out.below hb1).rs
              have q0 := hqx.cell 0 _ rfl
              have q1 := hqx.cell 1 _ rfl
              have q2 := hqx.cell 2 _ rfl
              have q3 := hqx.cell 3 _ rfl
              have q4 := hqx.cell 4 _ rfl
              have q5 := hqx.cell 5 _ rfl
              have q6 := hqx.cell 6 _ rfl
              have q7 := hqx.cell 7 _ rfl
              have q8 := hqx.cell 8 _ rfl
              have q9 := hqx.cell 9 _ rfl
              have m0 := hrx.cell 0 _ rfl
              have mf0 := hrx.free 0
              have m1 := hrx.cell 1 _ rfl
              have mf1 := hrx.free 1
              have m2 := hrx.cell 2 _ rfl
              have mf2 := hrx.free 2
              have m3 := hrx.cell 3 _ rfl
              have mf3 := hrx.free 3
              have m4 := hrx.cell 4 _ rfl
              have mf4 := hrx.free 4
              have m5 := hrx.cell 5 _ rfl
              have mf5 := hrx.free 5
              have lq1 : q < x1.heap.size := by have := hb1.size; omega
              have lr1 : rb < x1.heap.size := by omega
              have nqr : ¬ q = rb := by omega
              have nq1 : ¬ q = x1.heap.size := by omega
              have nr1 : ¬ rb = x1.heap.size := by omega
              clear hqx hrx
              go_wp2_with (fail)
              have hu0 := (HII.out.below hb1).rs
              have hu1 := hu0.set 0 (.slice al nal cal)
              have hu2 := hu1.set 1 (.bool has)
              have hu3 := hu2.set 2 (.int .u64 lg)
              have hu4 := hu3.set 3 (.int .u64 lk')
              have hu5 := hu4.set 4 (.int .u64 lt)
              have hu6 := hu5.set 5 (.int .u64 top)
              have hu7 : Blk _ rb #[.slice al nal cal, .bool has, .int .u64 lg, .int .u64 lk', .int .u64 lt, .int .u64 top] 64 := (hu6.congr (by simp)).alloc (.cells #[.slice al nal cal, .bool has, .int .u64 lg, .int .u64 lk', .int .u64 lt, .int .u64 top] 64)
              have on2 := ((((((((Only.refl (· = rb) x1).set 0 (.slice al nal cal)).set 1 (.bool has)).set 2 (.int .u64 lg)).set 3 (.int .u64 lk')).set 4 (.int .u64 lt)).set 5 (.int .u64 top)).alloc (.cells #[.slice al nal cal, .bool has, .int .u64 lg, .int .u64 lk', .int .u64 lt, .int .u64 top] 64))
              obtain ⟨x2, hx2⟩ : ∃ ww, (((((((x1.setCell ⟨rb, 0, none⟩ (.slice al nal cal)).setCell ⟨rb, 1, none⟩ (.bool has)).setCell ⟨rb, 2, none⟩ (.int .u64 lg)).setCell ⟨rb, 3, none⟩ (.int .u64 lk')).setCell ⟨rb, 4, none⟩ (.int .u64 lt)).setCell ⟨rb, 5, none⟩ (.int .u64 top)).alloc (.cells #[.slice al nal cal, .bool has, .int .u64 lg, .int .u64 lk', .int .u64 lt, .int .u64 top] 64)) = ww := ⟨_, rfl⟩
              rw [hx2] at hu7 on2 ⊢
              clear hu0 hu1 hu2 hu3 hu4 hu5 hu6 hx2
              have hss2 := (HII.out.ss.only hb1).turn on2 hnbr (fun z hz _ => hz) (fun z hz _ => hz)
              have hqx2 := on2.blk (HBX.out.below hb1) nqr
              have hbw2 := below_onto (below_on HBW.out hb1 HBW.out.size) on2 (by have := hb1.size; omega) (by intro z hz h; omega)
              have hsz2 : x1.heap.size ≤ x2.heap.size := on2.size
              have SS2 := Lib.hid hss2
              have QX2 := Lib.hid hqx2
              have BW2 := Lib.hid hbw2
              have U7 := Lib.hid hu7
              have ON2 := Lib.hid on2
              have lr2 : rb < x2.heap.size := by omega
              have lb2 : b < x2.heap.size := by omega
              have hF2 : Hid (∀ z, x2.heap.size ≤ z → z ≠ rb) := Lib.hid (fun z hz => by omega)
              clear hss2 hqx2 hbw2 hu7 on2 q0 q1 q2 q3 q4 q5 q6 q7 q8 q9 m0 mf0 m1 mf1 m2 mf2 m3 mf3 m4 mf4 m5 mf5
              refine (HSA.out x2 SS2.out hF2).mono ?_
              rintro e x3 ⟨ho3, v, rfl, ⟨av, nv, cv, rfl, hnv, hpv, hfv⟩, hss3⟩
              have hpo3 := (HPO.out.only ON2.out (fun x hx => (HFAO.out x hx).2)).only ho3 (fun x hx => (HFAO.out x hx).1)
              have hsm := same15r_any av nv cv ao no co O1 O2 x3 hnv HNO.out hpv hpo3 (by omega) HSO.out.alike
              have hrp := (HPAL.out.only ON2.out (fun x hx => (HFAR.out x hx).2)).only ho3 (fun x hx => (HFAR.out x hx).1)
              have hkk : PlayInv x3 b rb al nal cal L1 R1 has lg lk' lt top (k + 1) := ⟨hss3, ho3.blk U7.out (fun h => hnbr h.symm), HNAL.out, hrp, fun x hx _ => HFAR.out x hx, hnbr, HP1.out⟩
              have BW3 := Lib.hid (below_onto BW2.out ho3 BW2.out.size (by intro z hz h; omega))
              have K0 := Lib.hid hkk
              have HSM := Lib.hid hsm
              clear hpo3 hsm hrp hkk hnv hpv hfv hss3 ho3 hb1 SS2 QX2 BW2 U7 ON2 hF2 HII HBX HWB HQ HBW HRS HSR HPK HNL HPI HRR HSA HP1 HSO HR1L HNO HNAL HPO HPAL HFAR HFAO hl0
              go_wp2_with (fail)
              refine HSM.out.mono ?_
              rintro e x4 ⟨hb4, rfl⟩
              have K1 := Lib.hid (K0.out.below hb4)
              have BW4 := Lib.hid (below_on BW3.out hb4 BW3.out.size)
              clear hb4 K0 BW3 HSM
              have hpo := K1.out.pi
              have hrl := hpo.rest
              have hLk2 := hpo.len
              have hRR : (R1).length ≤ 601 := by have := hrl.2.2.2.2.2; omega
              have hNR : nal ≤ 601 := by have := K1.out.rn; omega
              have hsz : ∀ p ∈ R1, 0 ≤ p.size ∧ p.size ≤ 1099511627776 := fun p hp => ⟨(K1.out.rp.ok p hp).2.2.1.1, hrl.2.2.1 p hp⟩
              have HSZ := Lib.hid hsz
              have HRN := Lib.hid K1.out.rn
              have p0 := K1.out.rs.cell 0 _ rfl
              have hrlW : rb < x4.heap.size := K1.out.rs.lt
              have hblW : b < x4.heap.size := by obtain ⟨_, _, _, h, _⟩ := K1.out.ss; exact Blk.lt h
              clear hpo hrl hsz
              go_wp2_with (fail)
              clear p0
              go_loopw [17, 18, 20, 131] (fun s v _ i wr => ∃ (j : Nat) (z : Int) (u : Bool), i = .int .i64 j ∧ s = .int .u64 z ∧ v = .bool u ∧ j ≤ nal ∧ Below x4.heap.size x4 wr ∧ Hid (sizes ((R1).take j) = z ∧ ((R1).take j).any (·.el) = u)) (fun _ _ _ i _ => nal - (intOf i).toNat)
              case atStart => exact ⟨0, 0, false, rfl, rfl, rfl, by omega, Below.refl _ _, Lib.hid ⟨rfl, rfl⟩⟩
              case round =>
                obtain ⟨j, z, u, rfl, rfl, rfl, hj, bj, hzu⟩ := hrel
                have hzb := sizes_bnd (L := (R1).take j) (fun p hp => HSZ.out p (List.mem_of_mem_take hp))
                rw [hzu.out.1, List.length_take] at hzb
                have hzb2 : 0 ≤ z ∧ z ≤ 1099511627776000 := by
                  have := Nat.min_le_right j (R1).length
                  omega
                clear hzb
                by_cases hlt2 : j < nal
                · have hjR : j < (R1).length := by have := HRN.out; omega
                  obtain ⟨gb, go, hga, hgb, pp, hpe, hpm, d0, d1, d2, d3, d4, d5, i0, i1, i2, i4⟩ := (K1.out.rp.below bj).at_ hjR
                  have hszp := HSZ.out pp hpm
                  have s1 := sizes_succ hjR
                  rw [hzu.out.1, hpe] at s1
                  obtain ⟨el2, hel2⟩ : ∃ x, pp.el = x := ⟨_, rfl⟩
                  have s2 : ((R1).take (j + 1)).any (·.el) = (u || el2) := by
                    rw [List.take_add_one, List.getElem?_eq_getElem hjR, List.any_append, hzu.out.2]
                    have e9 : (R1)[j] = pp := by rw [← hpe]; simp [hjR]
                    rw [e9]
                    simp [hel2]
                  have S1 := Lib.hid s1
                  have S2 := Lib.hid s2
                  have hx9 := Blk.new wr #[.int .u64 pp.pn, .int .u64 pp.at_, .int .u64 pp.size, .bool pp.el, .int .u64 pp.after, .slice pp.fa pp.fn pp.fc] 69
                  have hb9 := bj.alloc bj.size (.cells #[.int .u64 pp.pn, .int .u64 pp.at_, .int .u64 pp.size, .bool pp.el, .int .u64 pp.after, .slice pp.fa pp.fn pp.fc] 69)
                  have hnq9 : ¬ rb = wr.heap.size := by have := bj.size; omega
                  cases hga
                  rw [hel2] at d3 hx9 hb9
                  clear s1 s2 hpe hpm hzu
                  cases u with
                  | true =>
                    go_wp2_with (fail)
                    obtain ⟨wx, hwx⟩ : ∃ ww, wr.alloc (.cells #[.int .u64 pp.pn, .int .u64 pp.at_, .int .u64 pp.size, .bool el2, .int .u64 pp.after, .slice pp.fa pp.fn pp.fc] 69) = ww := ⟨_, rfl⟩
                    obtain ⟨qx, hqx⟩ : ∃ ww, wr.heap.size = ww := ⟨_, rfl⟩
                    rw [hwx, hqx] at hx9 ⊢
                    rw [hwx] at hb9
                    have e2 := hx9.cell 2 _ rfl
                    have e3 := hx9.cell 3 _ rfl
                    have B9 := Lib.hid (below_on hb9 ((Below.refl _ _).drew) hb9.size)
                    refine rg_start 11 ?_
                    refine rg_same fun p hx hne hC => ?_
                    refine rg_quiet 0 [0,1,2,3,4,5,6,7,8,9,10] hC ?_
                    simp only [pickD, List.map_cons, List.map_nil, List.getD_cons_zero, List.getD_cons_succ]; repeat (go_big_quiet_step (fail))
                    refine wpQuiet_nil ?_
                    refine rg_end ?_
                    clear hx hne hC
                    go_wp2_with (fail)
                    exact ⟨⟨j + 1, z + pp.size, true, by go_num, by go_num, rfl, by omega, B9.out, Lib.hid ⟨S1.out, S2.out⟩⟩, by simp [intOf]; omega⟩
                  | false =>
                    go_wp2_with (fail)
                    obtain ⟨wx, hwx⟩ : ∃ ww, wr.alloc (.cells #[.int .u64 pp.pn, .int .u64 pp.at_, .int .u64 pp.size, .bool el2, .int .u64 pp.after, .slice pp.fa pp.fn pp.fc] 69) = ww := ⟨_, rfl⟩
                    obtain ⟨qx, hqx⟩ : ∃ ww, wr.heap.size = ww := ⟨_, rfl⟩
                    rw [hwx, hqx] at hx9 ⊢
                    rw [hwx] at hb9
                    have e2 := hx9.cell 2 _ rfl
                    have e3 := hx9.cell 3 _ rfl
                    have B9 := Lib.hid (below_on hb9 ((Below.refl _ _).drew) hb9.size)
                    refine rg_start 11 ?_
                    refine rg_same fun p hx hne hC => ?_
                    refine rg_quiet 0 [0,1,2,3,4,5,6,7,8,9,10] hC ?_
                    simp only [pickD, List.map_cons, List.map_nil, List.getD_cons_zero, List.getD_cons_succ]; repeat (go_big_quiet_step (fail))
                    refine wpQuiet_nil ?_
                    refine rg_end ?_
                    clear hx hne hC
                    go_wp2_with (fail)
                    exact ⟨⟨j + 1, z + pp.size, el2, by go_num, by go_num, rfl, by omega, B9.out, Lib.hid ⟨S1.out, by rw [S2.out]; rfl⟩⟩, by simp [intOf]; omega⟩
                · obtain rfl : nal = j := by omega
                  have hzu2 := hzu.out
                  rw [show (R1).take nal = R1 by rw [HRN.out, List.take_length]] at hzu2
                  have hK2 := K1.out.below bj
                  obtain ⟨a9, n9, c9, hB9, hn9, hP9, hne9⟩ := hK2.ss
                  have hSA := sameall_any a9 n9 c9 al nal cal L1 R1 has lg lk' lt top wr.drew hn9 hK2.rn (hP9.below (Below.refl _ _).drew) (hK2.rp.below (Below.refl _ _).drew) (by omega) hK2.pi.sim.alike
                  have hBY := fun W (hW : Below wr.heap.size wr W) => bytes15_any b (· ≠ rb) L1 has lg lk' lt top W (hK2.ss.only hW) (by omega) hK2.pi.sz
                  have hWA := fun W (hW : Below wr.heap.size wr W) => waits15_any b (· ≠ rb) L1 has lg lk' lt top W (hK2.ss.only hW) (by omega)
                  rw [show sizes (L1) = z by rw [hK2.pi.sim.sizes]; exact hzu2.1] at hBY
                  rw [show (L1).any (·.el) = u by rw [hK2.pi.sim.any]; exact hzu2.2] at hWA
                  have s0 := Blk.cell hB9 0 _ rfl
                  have s1 := Blk.cell hB9 1 _ rfl
                  have s2 := Blk.cell hB9 2 _ rfl
                  have s3 := Blk.cell hB9 3 _ rfl
                  have s4 := Blk.cell hB9 4 _ rfl
                  have s5 := Blk.cell hB9 5 _ rfl
                  have t0 := hK2.rs.cell 0 _ rfl
                  have t1 := hK2.rs.cell 1 _ rfl
                  have t2 := hK2.rs.cell 2 _ rfl
                  have t3 := hK2.rs.cell 3 _ rfl
                  have t4 := hK2.rs.cell 4 _ rfl
                  have t5 := hK2.rs.cell 5 _ rfl
                  have lb : b < wr.heap.size := Blk.lt hB9
                  have lr : rb < wr.heap.size := hK2.rs.lt
                  unfold stV at hSA
                  have SA := Lib.hid hSA
                  have BY := Lib.hid hBY
                  have WA := Lib.hid hWA
                  have BJ := Lib.hid bj
                  clear hzu2 hzu hK2 hB9 hn9 hP9 hne9 hSA hBY hWA bj hzb2
                  go_wp2_with (fail)
                  refine rg_start 19 ?_
                  refine rg_below fun p hx hne hC hbel => ?_
                  have k0 : ∀ z : Wd p, z.w.cell? ⟨b, 0, none⟩ = some (.slice a9 n9 c9) := fun z => (hx z _ _ _ lb).trans s0
                  have k1 : ∀ z : Wd p, z.w.cell? ⟨b, 1, none⟩ = some (.bool has) := fun z => (hx z _ _ _ lb).trans s1
                  have k2 : ∀ z : Wd p, z.w.cell? ⟨b, 2, none⟩ = some (.int .u64 lg) := fun z => (hx z _ _ _ lb).trans s2
                  have k3 : ∀ z : Wd p, z.w.cell? ⟨b, 3, none⟩ = some (.int .u64 lk') := fun z => (hx z _ _ _ lb).trans s3
                  have k4 : ∀ z : Wd p, z.w.cell? ⟨b, 4, none⟩ = some (.int .u64 lt) := fun z => (hx z _ _ _ lb).trans s4
                  have k5 : ∀ z : Wd p, z.w.cell? ⟨b, 5, none⟩ = some (.int .u64 top) := fun z => (hx z _ _ _ lb).trans s5
                  have l0 : ∀ z : Wd p, z.w.cell? ⟨rb, 0, none⟩ = some (.slice al nal cal) := fun z => (hx z _ _ _ lr).trans t0
                  have l1 : ∀ z : Wd p, z.w.cell? ⟨rb, 1, none⟩ = some (.bool has) := fun z => (hx z _ _ _ lr).trans t1
                  have l2 : ∀ z : Wd p, z.w.cell? ⟨rb, 2, none⟩ = some (.int .u64 lg) := fun z => (hx z _ _ _ lr).trans t2
                  have l3 : ∀ z : Wd p, z.w.cell? ⟨rb, 3, none⟩ = some (.int .u64 lk') := fun z => (hx z _ _ _ lr).trans t3
                  have l4 : ∀ z : Wd p, z.w.cell? ⟨rb, 4, none⟩ = some (.int .u64 lt) := fun z => (hx z _ _ _ lr).trans t4
                  have l5 : ∀ z : Wd p, z.w.cell? ⟨rb, 5, none⟩ = some (.int .u64 top) := fun z => (hx z _ _ _ lr).trans t5
                  refine rg_quiet 14 [0,1,2,3,4] hC ?_
                  simp only [pickD, List.map_cons, List.map_nil, List.getD_cons_zero, List.getD_cons_succ]; repeat (go_big_quiet_step (fail))
                  refine wpQuiet_nil ?_
                  refine rg_cut 5 ?_
                  clear hx hne hC k0 k1 k2 k3 k4 k5 l0 l1 l2 l3 l4 l5 hbel s0 s1 s2 s3 s4 s5 t0 t1 t2 t3 t4 t5
                  go_wp2_with (fail)
                  refine SA.out.mono ?_
                  rintro e wS ⟨hbS, rfl⟩
                  have hbS2 : Below wr.heap.size wr wS := below_on ((Below.refl _ _).drew) hbS (Nat.le_refl _)
                  have BS := Lib.hid hbS2
                  clear hbS hbS2 SA
                  go_wp2_with (fail)
                  refine rg_below fun p hx hne hC hbel => ?_
                  refine rg_quiet 9 [6,7,8,10] hC ?_
                  simp only [pickD, List.map_cons, List.map_nil, List.getD_cons_zero, List.getD_cons_succ]; repeat (go_big_quiet_step (fail))
                  refine wpQuiet_nil ?_
                  refine rg_act 9 ?_
                  go_wp2_with (fail)
                  refine (BY.out _ BS.out).mono ?_
                  rintro e wT ⟨hbT, rfl⟩
                  have hCT := hbel _ hbT
                  have BT := Lib.hid hbT
                  clear hbT
                  go_wp2_with (fail)
                  refine ⟨hCT, ?_⟩
                  refine rg_quiet 3 [11,12,13,14,16] hCT ?_
                  simp only [pickD, List.map_cons, List.map_nil, List.getD_cons_zero, List.getD_cons_succ]; repeat (go_big_quiet_step (fail))
                  refine wpQuiet_nil ?_
                  refine rg_act 15 ?_
                  go_wp2_with (fail)
                  refine (WA.out _ (below_on BS.out BT.out BS.out.size)).mono ?_
                  rintro e wU ⟨hbU, rfl⟩
                  have hbU2 := below_on BT.out hbU BT.out.size
                  have hCU := hbel _ hbU2
                  have BU := Lib.hid hbU2
                  clear hbU hbU2
                  go_wp2_with (fail)
                  refine ⟨hCU, ?_⟩
                  refine rg_quiet 0 [17,18] hCU ?_
                  simp only [pickD, List.map_cons, List.map_nil, List.getD_cons_zero, List.getD_cons_succ]; repeat (go_big_quiet_step (fail))
                  refine wpQuiet_nil ?_
                  refine rg_end ?_
                  have hall : Below x4.heap.size x4 wU := below_on BJ.out (below_on BS.out BU.out BS.out.size) BJ.out.size
                  have HALL := Lib.hid hall
                  clear hall hx hne hC hbel hCT hCU
                  go_wp2_with (fail)
                  exact ⟨⟨k + 1, al, nal, cal, L1, R1, has, lg, lk', lt, top, by go_num, by omega, below_on BW4.out HALL.out BW4.out.size, Lib.hid (K1.out.below HALL.out)⟩, by simp [intOf]; omega⟩
            · by_cases hk3 : kind = 3
              · subst hk3
                go_wp2_with (fail)
                rw [HWB.out, HQ.out]
                clear ri0 ri1 ri2 ri3 ri4 ri5 rr0 rr1 rr2 rr3 rr4 rr5 c0 c1 c2 c3 c4 c5 c6 c7 c8 c9
                have r0 := HII.out.rs.cell 0 _ rfl
                have hrB : rb < wB.heap.size := by omega
                refine rg_start 6 ?_
                refine rg_besides (· = b) fun p hx hne hC hbel => ?_
                have k0 : ∀ z : Wd p, z.w.cell? ⟨rb, 0, none⟩ = some (.slice ar nr cr) := fun z => (hx z _ _ _ hrB (fun h => hnbr h.symm)).trans r0
                refine rg_quiet 3 [0,2,3] hC ?_
                simp only [pickD, List.map_cons, List.map_nil, List.getD_cons_zero, List.getD_cons_succ]; repeat (go_big_quiet_step (fail))
                refine wpQuiet_nil ?_
                refine rg_act 1 ?_
                clear r0 k0
                go_wp2_with (fail)
                refine (sclear_any b (· ≠ rb) L has lg lk lt top wB.drew (HII.out.ss.only (Below.refl _ _).drew) (Lib.hid (fun z hz => by have h : wB.heap.size ≤ z := hz; omega)) (by omega)).mono ?_
                rintro e x1 ⟨ho1, v, rfl, ⟨av, nv, cv, rfl, hnv, hpv, hfv⟩, hss⟩
                have hC1 := hbel x1 ho1.block
                have ho1' : Only (· = b) wB x1 := Only.trans (only_of_below (Below.refl _ _).drew _) ho1
                have hrp1 := HII.out.rp.only2 ho1' (fun x hx h0 => (HII.out.rf x hx h0).1)
                have hsm := same15r_any av nv cv ar nr cr L R x1 hnv HII.out.rn hpv hrp1 (by omega) HPI.out.sim.alike
                have hrs1 := ho1'.blk HII.out.rs (fun h => hnbr h.symm)
                have bw1 := below_onto HBW.out ho1' HBW.out.size (by intro z hz h; omega)
                have HSM := Lib.hid hsm
                have HSS := Lib.hid hss
                have HRS1 := Lib.hid hrs1
                have BW1 := Lib.hid bw1
                clear hsm hss hrs1 bw1 hrp1 ho1 ho1' hnv hpv hfv
                go_wp2_with (fail)
                refine ⟨hC1, ?_⟩
                refine rg_cut 4 ?_
                clear hx hne hC hC1 hbel
                go_wp2_with (fail)
                refine HSM.out.mono ?_
                rintro e x2 ⟨hb2, rfl⟩
                go_wp2_with (fail)
                refine rg_below fun p hx hne hC hbel => ?_
                refine rg_quiet 0 [5] hC ?_
                simp only [pickD, List.map_cons, List.map_nil, List.getD_cons_zero, List.getD_cons_succ]; repeat (go_big_quiet_step (fail))
                refine wpQuiet_nil ?_
                refine rg_end ?_
                have hrs2 := HRS1.out.below hb2
                have m0 := hrs2.cell 0 _ rfl
                have mf0 := hrs2.free 0
                have m3 := hrs2.cell 3 _ rfl
                have mf3 := hrs2.free 3
                have hu2 := ((hrs2.set 0 (.slice none 0 0)).set 3 (.int .u64 0)).congr (cs' := #[.slice none 0 0, .bool has, .int .u64 lg, .int .u64 0, .int .u64 lt, .int .u64 top]) (by simp)
                have on2 := ((Only.refl (· = rb) x2).set 0 (.slice none 0 0)).set 3 (.int .u64 0)
                have hss2 := (HSS.out.only hb2).turn on2 hnbr (fun z hz _ => hz) (fun z hz _ => hz)
                have hpi1 : PI [] [] lg top (k + 1) := ⟨rfl, by simp [pns], by simp, by simp, by simp, by simp, by simp, hlgb, htopb⟩
                have K1 : Hid (PlayInv ((x2.setCell ⟨rb, 0, none⟩ (.slice none 0 0)).setCell ⟨rb, 3, none⟩ (.int .u64 0)) b rb none 0 0 [] [] has lg 0 lt top (k + 1)) := Lib.hid ⟨hss2, hu2, rfl, Ps.nil _, (fun x hx => nomatch hx), hnbr, hpi1⟩
                have BW3 := Lib.hid (below_onto (below_on BW1.out hb2 BW1.out.size) on2 (by have h1 := BW1.out.size; have h2 := hb2.size; omega) (by intro z hz h; omega))
                have p0' := K1.out.rs.cell 0 _ rfl
                clear hx hne hC hbel hrs2 hu2 on2 hss2 hpi1 hb2 HSM HSS HRS1 BW1 HII HBX HWB HQ HBW HRS HSR HPK HNL HPI HRR
                go_wp2_with (fail)
                obtain ⟨x3, hx3⟩ : ∃ ww, (x2.setCell ⟨rb, 0, none⟩ (.slice none 0 0)).setCell ⟨rb, 3, none⟩ (.int .u64 0) = ww := ⟨_, rfl⟩
                rw [hx3] at K1 BW3 ⊢
                clear m0 mf0 m3 mf3 hx3 p0'
                have hpo := K1.out.pi
                have hrl := hpo.rest
                have hLk2 := hpo.len
                have hRR : (([] : List Pk)).length ≤ 601 := by have := hrl.2.2.2.2.2; omega
                have hNR : 0 ≤ 601 := by have := K1.out.rn; omega
                have hsz : ∀ p ∈ ([] : List Pk), 0 ≤ p.size ∧ p.size ≤ 1099511627776 := by simp
                have HSZ := Lib.hid hsz
                have HRN := Lib.hid K1.out.rn
                have p0 := K1.out.rs.cell 0 _ rfl
                have hrlW : rb < x3.heap.size := K1.out.rs.lt
                have hblW : b < x3.heap.size := by obtain ⟨_, _, _, h, _⟩ := K1.out.ss; exact Blk.lt h
                clear hpo hrl hsz
                go_wp2_with (fail)
                clear p0
                go_loopw [17, 18, 20, 131] (fun s v _ i wr => ∃ (j : Nat) (z : Int) (u : Bool), i = .int .i64 j ∧ s = .int .u64 z ∧ v = .bool u ∧ j ≤ 0 ∧ Below x3.heap.size x3 wr ∧ Hid (sizes ((([] : List Pk)).take j) = z ∧ ((([] : List Pk)).take j).any (·.el) = u)) (fun _ _ _ i _ => 0 - (intOf i).toNat)
                case atStart => exact ⟨0, 0, false, rfl, rfl, rfl, by omega, Below.refl _ _, Lib.hid ⟨rfl, rfl⟩⟩
                case round =>
                  obtain ⟨j, z, u, rfl, rfl, rfl, hj, bj, hzu⟩ := hrel
                  have hzb := sizes_bnd (L := (([] : List Pk)).take j) (fun p hp => HSZ.out p (List.mem_of_mem_take hp))
                  rw [hzu.out.1, List.length_take] at hzb
                  have hzb2 : 0 ≤ z ∧ z ≤ 1099511627776000 := by
                    have := Nat.min_le_right j (([] : List Pk)).length
                    omega
                  clear hzb
                  · have hjz : j = 0 := by omega
                    subst hjz
                    have hzu2 := hzu.out
                    rw [show (([] : List Pk)).take 0 = ([] : List Pk) by rw [HRN.out, List.take_length]] at hzu2
                    have hK2 := K1.out.below bj
                    obtain ⟨a9, n9, c9, hB9, hn9, hP9, hne9⟩ := hK2.ss
                    have hSA := sameall_any a9 n9 c9 none 0 0 ([] : List Pk) ([] : List Pk) has lg 0 lt top wr.drew hn9 hK2.rn (hP9.below (Below.refl _ _).drew) (hK2.rp.below (Below.refl _ _).drew) (by omega) hK2.pi.sim.alike
                    have hBY := fun W (hW : Below wr.heap.size wr W) => bytes15_any b (· ≠ rb) ([] : List Pk) has lg 0 lt top W (hK2.ss.only hW) (by omega) hK2.pi.sz
                    have hWA := fun W (hW : Below wr.heap.size wr W) => waits15_any b (· ≠ rb) ([] : List Pk) has lg 0 lt top W (hK2.ss.only hW) (by omega)
                    rw [show sizes (([] : List Pk)) = z by rw [hK2.pi.sim.sizes]; exact hzu2.1] at hBY
                    rw [show (([] : List Pk)).any (·.el) = u by rw [hK2.pi.sim.any]; exact hzu2.2] at hWA
                    have s0 := Blk.cell hB9 0 _ rfl
                    have s1 := Blk.cell hB9 1 _ rfl
                    have s2 := Blk.cell hB9 2 _ rfl
                    have s3 := Blk.cell hB9 3 _ rfl
                    have s4 := Blk.cell hB9 4 _ rfl
                    have s5 := Blk.cell hB9 5 _ rfl
                    have t0 := hK2.rs.cell 0 _ rfl
                    have t1 := hK2.rs.cell 1 _ rfl
                    have t2 := hK2.rs.cell 2 _ rfl
                    have t3 := hK2.rs.cell 3 _ rfl
                    have t4 := hK2.rs.cell 4 _ rfl
                    have t5 := hK2.rs.cell 5 _ rfl
                    have lb : b < wr.heap.size := Blk.lt hB9
                    have lr : rb < wr.heap.size := hK2.rs.lt
                    unfold stV at hSA
                    have SA := Lib.hid hSA
                    have BY := Lib.hid hBY
                    have WA := Lib.hid hWA
                    have BJ := Lib.hid bj
                    clear hzu2 hzu hK2 hB9 hn9 hP9 hne9 hSA hBY hWA bj hzb2
                    go_wp2_with (fail)
                    refine rg_start 19 ?_
                    refine rg_below fun p hx hne hC hbel => ?_
                    have k0 : ∀ z : Wd p, z.w.cell? ⟨b, 0, none⟩ = some (.slice a9 n9 c9) := fun z => (hx z _ _ _ lb).trans s0
                    have k1 : ∀ z : Wd p, z.w.cell? ⟨b, 1, none⟩ = some (.bool has) := fun z => (hx z _ _ _ lb).trans s1
                    have k2 : ∀ z : Wd p, z.w.cell? ⟨b, 2, none⟩ = some (.int .u64 lg) := fun z => (hx z _ _ _ lb).trans s2
                    have k3 : ∀ z : Wd p, z.w.cell? ⟨b, 3, none⟩ = some (.int .u64 0) := fun z => (hx z _ _ _ lb).trans s3
                    have k4 : ∀ z : Wd p, z.w.cell? ⟨b, 4, none⟩ = some (.int .u64 lt) := fun z => (hx z _ _ _ lb).trans s4
                    have k5 : ∀ z : Wd p, z.w.cell? ⟨b, 5, none⟩ = some (.int .u64 top) := fun z => (hx z _ _ _ lb).trans s5
                    have l0 : ∀ z : Wd p, z.w.cell? ⟨rb, 0, none⟩ = some (.slice none 0 0) := fun z => (hx z _ _ _ lr).trans t0
                    have l1 : ∀ z : Wd p, z.w.cell? ⟨rb, 1, none⟩ = some (.bool has) := fun z => (hx z _ _ _ lr).trans t1
                    have l2 : ∀ z : Wd p, z.w.cell? ⟨rb, 2, none⟩ = some (.int .u64 lg) := fun z => (hx z _ _ _ lr).trans t2
                    have l3 : ∀ z : Wd p, z.w.cell? ⟨rb, 3, none⟩ = some (.int .u64 0) := fun z => (hx z _ _ _ lr).trans t3
                    have l4 : ∀ z : Wd p, z.w.cell? ⟨rb, 4, none⟩ = some (.int .u64 lt) := fun z => (hx z _ _ _ lr).trans t4
                    have l5 : ∀ z : Wd p, z.w.cell? ⟨rb, 5, none⟩ = some (.int .u64 top) := fun z => (hx z _ _ _ lr).trans t5
                    refine rg_quiet 14 [0,1,2,3,4] hC ?_
                    simp only [pickD, List.map_cons, List.map_nil, List.getD_cons_zero, List.getD_cons_succ]; repeat (go_big_quiet_step (fail))
                    refine wpQuiet_nil ?_
                    refine rg_cut 5 ?_
                    clear hx hne hC k0 k1 k2 k3 k4 k5 l0 l1 l2 l3 l4 l5 hbel s0 s1 s2 s3 s4 s5 t0 t1 t2 t3 t4 t5
                    go_wp2_with (fail)
                    refine SA.out.mono ?_
                    rintro e wS ⟨hbS, rfl⟩
                    have hbS2 : Below wr.heap.size wr wS := below_on ((Below.refl _ _).drew) hbS (Nat.le_refl _)
                    have BS := Lib.hid hbS2
                    clear hbS hbS2 SA
                    go_wp2_with (fail)
                    refine rg_below fun p hx hne hC hbel => ?_
                    refine rg_quiet 9 [6,7,8,10] hC ?_
                    simp only [pickD, List.map_cons, List.map_nil, List.getD_cons_zero, List.getD_cons_succ]; repeat (go_big_quiet_step (fail))
                    refine wpQuiet_nil ?_
                    refine rg_act 9 ?_
                    go_wp2_with (fail)
                    refine (BY.out _ BS.out).mono ?_
                    rintro e wT ⟨hbT, rfl⟩
                    have hCT := hbel _ hbT
                    have BT := Lib.hid hbT
                    clear hbT
                    go_wp2_with (fail)
                    refine ⟨hCT, ?_⟩
                    refine rg_quiet 3 [11,12,13,14,16] hCT ?_
                    simp only [pickD, List.map_cons, List.map_nil, List.getD_cons_zero, List.getD_cons_succ]; repeat (go_big_quiet_step (fail))
                    refine wpQuiet_nil ?_
                    refine rg_act 15 ?_
                    go_wp2_with (fail)
                    refine (WA.out _ (below_on BS.out BT.out BS.out.size)).mono ?_
                    rintro e wU ⟨hbU, rfl⟩
                    have hbU2 := below_on BT.out hbU BT.out.size
                    have hCU := hbel _ hbU2
                    have BU := Lib.hid hbU2
                    clear hbU hbU2
                    go_wp2_with (fail)
                    refine ⟨hCU, ?_⟩
                    refine rg_quiet 0 [17,18] hCU ?_
                    simp only [pickD, List.map_cons, List.map_nil, List.getD_cons_zero, List.getD_cons_succ]; repeat (go_big_quiet_step (fail))
                    refine wpQuiet_nil ?_
                    refine rg_end ?_
                    have hall : Below x3.heap.size x3 wU := below_on BJ.out (below_on BS.out BU.out BS.out.size) BJ.out.size
                    have HALL := Lib.hid hall
                    clear hall hx hne hC hbel hCT hCU
                    go_wp2_with (fail)
                    exact ⟨⟨k + 1, none, 0, 0, ([] : List Pk), ([] : List Pk), has, lg, 0, lt, top, by go_num, by omega, below_on BW3.out HALL.out BW3.out.size, Lib.hid (K1.out.below HALL.out)⟩, by simp [intOf]; omega⟩
              · have e0 : (kind == 0) = false := by simpa using hk0
                have e1 : (kind == 1) = false := by simpa using hk1
                have e2 : (kind == 2) = false := by simpa using hk2
                have e3 : (kind == 3) = false := by simpa using hk3
                have hkk : PlayInv wB b rb ar nr cr L R has lg lk lt top (k + 1) := ⟨HII.out.ss, HII.out.rs, HII.out.rn, HII.out.rp, HII.out.rf, hnbr, HPI.out.next⟩
                have K1 := Lib.hid hkk
                clear hkk
                go_wp2_with (fail)
                rw [HWB.out]
                clear HII HBX HWB HQ ri0 ri1 ri2 ri3 ri4 ri5 rr0 rr1 rr2 rr3 rr4 rr5 c0 c1 c2 c3 c4 c5 c6 c7 c8 c9
                have hpo := K1.out.pi
                have hrl := hpo.rest
                have hLk2 := hpo.len
                have hRR : (R).length ≤ 601 := by have := hrl.2.2.2.2.2; omega
                have hNR : nr ≤ 601 := by have := K1.out.rn; omega
                have hsz : ∀ p ∈ R, 0 ≤ p.size ∧ p.size ≤ 1099511627776 := fun p hp => ⟨(K1.out.rp.ok p hp).2.2.1.1, hrl.2.2.1 p hp⟩
                have HSZ := Lib.hid hsz
                have HRN := Lib.hid K1.out.rn
                have p0 := K1.out.rs.cell 0 _ rfl
                have hrlW : rb < wB.heap.size := K1.out.rs.lt
                have hblW : b < wB.heap.size := by obtain ⟨_, _, _, h, _⟩ := K1.out.ss; exact Blk.lt h
                clear hpo hrl hsz
                go_wp2_with (fail)
                clear p0
                go_loopw [17, 18, 20, 131] (fun s v _ i wr => ∃ (j : Nat) (z : Int) (u : Bool), i = .int .i64 j ∧ s = .int .u64 z ∧ v = .bool u ∧ j ≤ nr ∧ Below wB.heap.size wB wr ∧ Hid (sizes ((R).take j) = z ∧ ((R).take j).any (·.el) = u)) (fun _ _ _ i _ => nr - (intOf i).toNat)
                case atStart => exact ⟨0, 0, false, rfl, rfl, rfl, by omega, Below.refl _ _, Lib.hid ⟨rfl, rfl⟩⟩
                case round =>
                  obtain ⟨j, z, u, rfl, rfl, rfl, hj, bj, hzu⟩ := hrel
                  have hzb := sizes_bnd (L := (R).take j) (fun p hp => HSZ.out p (List.mem_of_mem_take hp))
                  rw [hzu.out.1, List.length_take] at hzb
                  have hzb2 : 0 ≤ z ∧ z ≤ 1099511627776000 := by
                    have := Nat.min_le_right j (R).length
                    omega
                  clear hzb
                  by_cases hlt2 : j < nr
                  · have hjR : j < (R).length := by have := HRN.out; omega
                    obtain ⟨gb, go, hga, hgb, pp, hpe, hpm, d0, d1, d2, d3, d4, d5, i0, i1, i2, i4⟩ := (K1.out.rp.below bj).at_ hjR
                    have hszp := HSZ.out pp hpm
                    have s1 := sizes_succ hjR
                    rw [hzu.out.1, hpe] at s1
                    obtain ⟨el2, hel2⟩ : ∃ x, pp.el = x := ⟨_, rfl⟩
                    have s2 : ((R).take (j + 1)).any (·.el) = (u || el2) := by
                      rw [List.take_add_one, List.getElem?_eq_getElem hjR, List.any_append, hzu.out.2]
                      have e9 : (R)[j] = pp := by rw [← hpe]; simp [hjR]
                      rw [e9]
                      simp [hel2]
                    have S1 := Lib.hid s1
                    have S2 := Lib.hid s2
                    have hx9 := Blk.new wr #[.int .u64 pp.pn, .int .u64 pp.at_, .int .u64 pp.size, .bool pp.el, .int .u64 pp.after, .slice pp.fa pp.fn pp.fc] 69
                    have hb9 := bj.alloc bj.size (.cells #[.int .u64 pp.pn, .int .u64 pp.at_, .int .u64 pp.size, .bool pp.el, .int .u64 pp.after, .slice pp.fa pp.fn pp.fc] 69)
                    have hnq9 : ¬ rb = wr.heap.size := by have := bj.size; omega
                    cases hga
                    rw [hel2] at d3 hx9 hb9
                    clear s1 s2 hpe hpm hzu
                    cases u with
                    | true =>
                      go_wp2_with (fail)
                      obtain ⟨wx, hwx⟩ : ∃ ww, wr.alloc (.cells #[.int .u64 pp.pn, .int .u64 pp.at_, .int .u64 pp.size, .bool el2, .int .u64 pp.after, .slice pp.fa pp.fn pp.fc] 69) = ww := ⟨_, rfl⟩
                      obtain ⟨qx, hqx⟩ : ∃ ww, wr.heap.size = ww := ⟨_, rfl⟩
                      rw [hwx, hqx] at hx9 ⊢
                      rw [hwx] at hb9
                      have e2 := hx9.cell 2 _ rfl
                      have e3 := hx9.cell 3 _ rfl
                      have B9 := Lib.hid (below_on hb9 ((Below.refl _ _).drew) hb9.size)
                      refine rg_start 11 ?_
                      refine rg_same fun p hx hne hC => ?_
                      refine rg_quiet 0 [0,1,2,3,4,5,6,7,8,9,10] hC ?_
                      simp only [pickD, List.map_cons, List.map_nil, List.getD_cons_zero, List.getD_cons_succ]; repeat (go_big_quiet_step (fail))
                      refine wpQuiet_nil ?_
                      refine rg_end ?_
                      clear hx hne hC
                      go_wp2_with (fail)
                      exact ⟨⟨j + 1, z + pp.size, true, by go_num, by go_num, rfl, by omega, B9.out, Lib.hid ⟨S1.out, S2.out⟩⟩, by simp [intOf]; omega⟩
                    | false =>
                      go_wp2_with (fail)
                      obtain ⟨wx, hwx⟩ : ∃ ww, wr.alloc (.cells #[.int .u64 pp.pn, .int .u64 pp.at_, .int .u64 pp.size, .bool el2, .int .u64 pp.after, .slice pp.fa pp.fn pp.fc] 69) = ww := ⟨_, rfl⟩
                      obtain ⟨qx, hqx⟩ : ∃ ww, wr.heap.size = ww := ⟨_, rfl⟩
                      rw [hwx, hqx] at hx9 ⊢
                      rw [hwx] at hb9
                      have e2 := hx9.cell 2 _ rfl
                      have e3 := hx9.cell 3 _ rfl
                      have B9 := Lib.hid (below_on hb9 ((Below.refl _ _).drew) hb9.size)
                      refine rg_start 11 ?_
                      refine rg_same fun p hx hne hC => ?_
                      refine rg_quiet 0 [0,1,2,3,4,5,6,7,8,9,10] hC ?_
                      simp only [pickD, List.map_cons, List.map_nil, List.getD_cons_zero, List.getD_cons_succ]; repeat (go_big_quiet_step (fail))
                      refine wpQuiet_nil ?_
                      refine rg_end ?_
                      clear hx hne hC
                      go_wp2_with (fail)
                      exact ⟨⟨j + 1, z + pp.size, el2, by go_num, by go_num, rfl, by omega, B9.out, Lib.hid ⟨S1.out, by rw [S2.out]; rfl⟩⟩, by simp [intOf]; omega⟩
                  · obtain rfl : nr = j := by omega
                    have hzu2 := hzu.out
                    rw [show (R).take nr = R by rw [HRN.out, List.take_length]] at hzu2
                    have hK2 := K1.out.below bj
                    obtain ⟨a9, n9, c9, hB9, hn9, hP9, hne9⟩ := hK2.ss
                    have hSA := sameall_any a9 n9 c9 ar nr cr L R has lg lk lt top wr.drew hn9 hK2.rn (hP9.below (Below.refl _ _).drew) (hK2.rp.below (Below.refl _ _).drew) (by omega) hK2.pi.sim.alike
                    have hBY := fun W (hW : Below wr.heap.size wr W) => bytes15_any b (· ≠ rb) L has lg lk lt top W (hK2.ss.only hW) (by omega) hK2.pi.sz
                    have hWA := fun W (hW : Below wr.heap.size wr W) => waits15_any b (· ≠ rb) L has lg lk lt top W (hK2.ss.only hW) (by omega)
                    rw [show sizes (L) = z by rw [hK2.pi.sim.sizes]; exact hzu2.1] at hBY
                    rw [show (L).any (·.el) = u by rw [hK2.pi.sim.any]; exact hzu2.2] at hWA
                    have s0 := Blk.cell hB9 0 _ rfl
                    have s1 := Blk.cell hB9 1 _ rfl
                    have s2 := Blk.cell hB9 2 _ rfl
                    have s3 := Blk.cell hB9 3 _ rfl
                    have s4 := Blk.cell hB9 4 _ rfl
                    have s5 := Blk.cell hB9 5 _ rfl
                    have t0 := hK2.rs.cell 0 _ rfl
                    have t1 := hK2.rs.cell 1 _ rfl
                    have t2 := hK2.rs.cell 2 _ rfl
                    have t3 := hK2.rs.cell 3 _ rfl
                    have t4 := hK2.rs.cell 4 _ rfl
                    have t5 := hK2.rs.cell 5 _ rfl
                    have lb : b < wr.heap.size := Blk.lt hB9
                    have lr : rb < wr.heap.size := hK2.rs.lt
                    unfold stV at hSA
                    have SA := Lib.hid hSA
                    have BY := Lib.hid hBY
                    have WA := Lib.hid hWA
                    have BJ := Lib.hid bj
                    clear hzu2 hzu hK2 hB9 hn9 hP9 hne9 hSA hBY hWA bj hzb2
                    go_wp2_with (fail)
                    refine rg_start 19 ?_
                    refine rg_below fun p hx hne hC hbel => ?_
                    have k0 : ∀ z : Wd p, z.w.cell? ⟨b, 0, none⟩ = some (.slice a9 n9 c9) := fun z => (hx z _ _ _ lb).trans s0
                    have k1 : ∀ z : Wd p, z.w.cell? ⟨b, 1, none⟩ = some (.bool has) := fun z => (hx z _ _ _ lb).trans s1
                    have k2 : ∀ z : Wd p, z.w.cell? ⟨b, 2, none⟩ = some (.int .u64 lg) := fun z => (hx z _ _ _ lb).trans s2
                    have k3 : ∀ z : Wd p, z.w.cell? ⟨b, 3, none⟩ = some (.int .u64 lk) := fun z => (hx z _ _ _ lb).trans s3
                    have k4 : ∀ z : Wd p, z.w.cell? ⟨b, 4, none⟩ = some (.int .u64 lt) := fun z => (hx z _ _ _ lb).trans s4
                    have k5 : ∀ z : Wd p, z.w.cell? ⟨b, 5, none⟩ = some (.int .u64 top) := fun z => (hx z _ _ _ lb).trans s5
                    have l0 : ∀ z : Wd p, z.w.cell? ⟨rb, 0, none⟩ = some (.slice ar nr cr) := fun z => (hx z _ _ _ lr).trans t0
                    have l1 : ∀ z : Wd p, z.w.cell? ⟨rb, 1, none⟩ = some (.bool has) := fun z => (hx z _ _ _ lr).trans t1
                    have l2 : ∀ z : Wd p, z.w.cell? ⟨rb, 2, none⟩ = some (.int .u64 lg) := fun z => (hx z _ _ _ lr).trans t2
                    have l3 : ∀ z : Wd p, z.w.cell? ⟨rb, 3, none⟩ = some (.int .u64 lk) := fun z => (hx z _ _ _ lr).trans t3
                    have l4 : ∀ z : Wd p, z.w.cell? ⟨rb, 4, none⟩ = some (.int .u64 lt) := fun z => (hx z _ _ _ lr).trans t4
                    have l5 : ∀ z : Wd p, z.w.cell? ⟨rb, 5, none⟩ = some (.int .u64 top) := fun z => (hx z _ _ _ lr).trans t5
                    refine rg_quiet 14 [0,1,2,3,4] hC ?_
                    simp only [pickD, List.map_cons, List.map_nil, List.getD_cons_zero, List.getD_cons_succ]; repeat (go_big_quiet_step (fail))
                    refine wpQuiet_nil ?_
                    refine rg_cut 5 ?_
                    clear hx hne hC k0 k1 k2 k3 k4 k5 l0 l1 l2 l3 l4 l5 hbel s0 s1 s2 s3 s4 s5 t0 t1 t2 t3 t4 t5
                    go_wp2_with (fail)
                    refine SA.out.mono ?_
                    rintro e wS ⟨hbS, rfl⟩
                    have hbS2 : Below wr.heap.size wr wS := below_on ((Below.refl _ _).drew) hbS (Nat.le_refl _)
                    have BS := Lib.hid hbS2
                    clear hbS hbS2 SA
                    go_wp2_with (fail)
                    refine rg_below fun p hx hne hC hbel => ?_
                    refine rg_quiet 9 [6,7,8,10] hC ?_
                    simp only [pickD, List.map_cons, List.map_nil, List.getD_cons_zero, List.getD_cons_succ]; repeat (go_big_quiet_step (fail))
                    refine wpQuiet_nil ?_
                    refine rg_act 9 ?_
                    go_wp2_with (fail)
                    refine (BY.out _ BS.out).mono ?_
                    rintro e wT ⟨hbT, rfl⟩
                    have hCT := hbel _ hbT
                    have BT := Lib.hid hbT
                    clear hbT
                    go_wp2_with (fail)
                    refine ⟨hCT, ?_⟩
                    refine rg_quiet 3 [11,12,13,14,16] hCT ?_
                    simp only [pickD, List.map_cons, List.map_nil, List.getD_cons_zero, List.getD_cons_succ]; repeat (go_big_quiet_step (fail))
                    refine wpQuiet_nil ?_
                    refine rg_act 15 ?_
                    go_wp2_with (fail)
                    refine (WA.out _ (below_on BS.out BT.out BS.out.size)).mono ?_
                    rintro e wU ⟨hbU, rfl⟩
                    have hbU2 := below_on BT.out hbU BT.out.size
                    have hCU := hbel _ hbU2
                    have BU := Lib.hid hbU2
                    clear hbU hbU2
                    go_wp2_with (fail)
                    refine ⟨hCU, ?_⟩
                    refine rg_quiet 0 [17,18] hCU ?_
                    simp only [pickD, List.map_cons, List.map_nil, List.getD_cons_zero, List.getD_cons_succ]; repeat (go_big_quiet_step (fail))
                    refine wpQuiet_nil ?_
                    refine rg_end ?_
                    have hall : Below wB.heap.size wB wU := below_on BJ.out (below_on BS.out BU.out BS.out.size) BJ.out.size
                    have HALL := Lib.hid hall
                    clear hall hx hne hC hbel hCT hCU
                    go_wp2_with (fail)
                    exact ⟨⟨k + 1, ar, nr, cr, L, R, has, lg, lk, lt, top, by go_num, by omega, below_on HBW.out HALL.out HBW.out.size, Lib.hid (K1.out.below HALL.out)⟩, by simp [intOf]; omega⟩
      · obtain rfl : nD = k := by omega
        go_wp2_with (fail)
        refine (spworks_any wr).mono ?_
        rintro e w3 ⟨rfl, hb⟩
        go_wp2_with (fail)
        go_returns
        exact ⟨rfl, below_on bw hb bw.size⟩

set_option maxRecDepth 100000 in
theorem walk_SentPlays (H : Type) (enc : TypeId × Value → H) (w : World) (base : Nat) (v0 : Value) (d0 : DataW H) (p0 : List MemPlace)
    (o0 : Value.okWide Try.prog w .any base 59 v0) (h0 : DataW.Trod enc Try.prog w 0 (fun _ => true) true 59 v0 d0 p0) (z0 : Sized Try.prog 59 d0) :
    Calls Try.prog 12 #[v0] w fun e w' => e = .returned (.bool true) ∧ Below w.heap.size w w' := by
  obtain ⟨a, D, cap, rfl, hm, hD⟩ := open_do15 h0 z0 o0
  exact plays_law a cap D w hm hD
end Go.Proofs.Ytidfimpchbkppaa
