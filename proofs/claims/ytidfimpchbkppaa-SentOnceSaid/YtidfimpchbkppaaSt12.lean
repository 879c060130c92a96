/- SentOnce: the law walked. -/
import Derived.Test.YtidfimpchbkppaaSt11
import Derived.Test.YtidfimpchbkppaaRf14
namespace Go.Proofs.Ytidfimpchbkppaa
open Go.RowKit
set_option linter.unusedVariables false

theorem st_mixed : Try.prog.follows .mixedOrders = true := by kernel_rfl
theorem st_goes : Rf.runs Try.prog 38 100000 = true := by kernel_rfl
theorem stworks_any (w : World) : Calls Try.prog 38 #[] w fun e w' => e = .returned (.bool true) ∧ Below w.heap.size w w' := Rf.runs_true st_mixed st_goes w

set_option maxRecDepth 100000 in
set_option maxHeartbeats 16000000 in
theorem sent_law (a : Option Addr) (cap : Nat) (D : List DoS) (w : World) (hm : D.length ≤ 140737488355328) (hD : DoAt15 w a D) :
    Calls Try.prog 10 #[.slice a D.length cap] w fun e w' => e = .returned (.bool true) ∧ Below w.heap.size w w' := by
  have HD := Lib.hid hD
  clear hD
  obtain ⟨nD, hnD⟩ : ∃ n, D.length = n := ⟨_, rfl⟩
  rw [hnD] at hm ⊢
  have ND := Lib.hid hnD
  clear hnD
  go_enter Try.func10, Try.ntmps10
  go_wp2_with (fail)
  refine (heavy15_any a _ cap D w ND.out.symm (by rw [ND.out]; exact hm) HD.out).mono ?_
  rintro e w1 ⟨hb1, v, rfl, hv⟩
  have HV := Lib.hid hv
  have X1 := Lib.hid hb1
  clear hb1 hv
  cases v with
  | true =>
    go_wp2_with (fail)
    refine (stworks_any w1).mono ?_
    rintro e w2 ⟨rfl, hb⟩
    go_wp2_with (fail)
    go_returns
    exact ⟨rfl, below_on X1.out hb X1.out.size⟩
  | false =>
    obtain ⟨hD3, hlg⟩ := HV.out rfl
    have HLG := Lib.hid hlg
    have hnd : nD ≤ 600 := by rw [← ND.out]; exact hD3
    clear hD3 hlg HV
    go_wp2_with (fail)
    have hbz := Blk.new w1 #[.slice none 0 0, .bool false, .int .u64 0, .int .u64 0, .int .u64 0, .int .u64 0] 66
    obtain ⟨b, hbb⟩ : ∃ b, w1.heap.size = b := ⟨_, rfl⟩
    have hwb : w.heap.size ≤ b := by rw [← hbb]; exact X1.out.size
    have b2 : Below w.heap.size w (w1.alloc (.cells #[.slice none 0 0, .bool false, .int .u64 0, .int .u64 0, .int .u64 0, .int .u64 0] 66)) := X1.out.alloc X1.out.size _
    have hsz : (w1.alloc (.cells #[.slice none 0 0, .bool false, .int .u64 0, .int .u64 0, .int .u64 0, .int .u64 0] 66)).heap.size = b + 1 := by rw [← hbb]; simp
    obtain ⟨w2, hw2⟩ : ∃ z, w1.alloc (.cells #[.slice none 0 0, .bool false, .int .u64 0, .int .u64 0, .int .u64 0, .int .u64 0] 66) = z := ⟨_, rfl⟩
    rw [hw2] at hbz b2 hsz ⊢
    rw [hbb] at hbz ⊢
    have HI0 : Hid (SentInv w2 (b + 1) b none 0 0 none 0 0 [] false 0 0 0 0 [] [] 0) := Lib.hid ⟨⟨none, 0, 0, hbz, rfl, Ps.nil _, fun x hx => nomatch hx⟩, OwnS.nil _ _ _ _, OwnS.nil _ _ _ _, (fun x y hx => nomatch hx), by omega, by omega, SI.start, by simp⟩
    have X2 := Lib.hid b2
    clear b2 hbz hw2 hbb X1 hsz
    go_loopw [4, 5, 6, 7, 9, 10, 12, 13, 14, 16, 24] (fun sa st sk sh _ _ _ _ _ _ i wr => ∃ (k : Nat) (aa : Option Addr) (na ca : Nat) (ta : Option Addr) (nt ct : Nat) (L : List Pk) (has : Bool) (lg lk lt top : Int) (A T : List Int), i = .int .i64 k ∧ sa = .slice aa na ca ∧ st = .slice ta nt ct ∧ sk = .int .u64 lg ∧ sh = .bool has ∧ k ≤ nD ∧ Below w.heap.size w wr ∧ Hid (SentInv wr (b + 1) b aa na ca ta nt ct L has lg lk lt top A T k)) (fun _ _ _ _ _ _ _ _ _ _ i _ => nD - (intOf i).toNat)
    case atStart => exact ⟨0, none, 0, 0, none, 0, 0, [], false, 0, 0, 0, 0, [], [], rfl, rfl, rfl, rfl, rfl, by omega, X2.out, HI0⟩
    case round =>
      clear HI0
      obtain ⟨k, aa, na, ca, ta, nt, ct, L, has, lg, lk, lt, top, A, T, rfl, rfl, rfl, rfl, rfl, hk, bw, hok⟩ := hrel
      by_cases hlt : k < nD
      · obtain ⟨bb, off, d, hd, ha, hb, dok, c0, c1, c2, c3, c4, c5, c6, c7, c8, c9⟩ := (HD.out.below bw).get k (by rw [ND.out]; exact hlt)
        subst ha
        have hlight := HLG.out d (List.mem_of_getElem? hd)
        obtain ⟨kind, ⟨pn, at_, size, el, after, fa, fn, fc⟩, l, la, lc, now, delay, fs⟩ := d
        obtain ⟨h1, h2, h6, h7, h8, h9, h10, h11⟩ := dok
        unfold DoLight at hlight
        simp only at *
        obtain ⟨g0, g1, g2, g3, g4, g5⟩ := hlight
        obtain ⟨nl, hnl⟩ : ∃ n, l.length = n := ⟨_, rfl⟩
        rw [hnl] at c7 h10 g0
        clear hd
        obtain ⟨q, hq⟩ : ∃ q, wr.heap.size = q := ⟨_, rfl⟩
        have hbx := Blk.new wr #[.int .u8 kind, .int .u64 pn, .int .u64 at_, .int .u64 size, .bool el, .int .u64 after, .slice fa fn fc, .slice la nl lc, .int .u64 now, .int .u64 delay] 71
        have hbA : Below wr.heap.size wr (wr.alloc (.cells #[.int .u8 kind, .int .u64 pn, .int .u64 at_, .int .u64 size, .bool el, .int .u64 after, .slice fa fn fc, .slice la nl lc, .int .u64 now, .int .u64 delay] 71)) := (Below.refl _ _).alloc (Nat.le_refl _) _
        have hbW : Below w.heap.size w (wr.alloc (.cells #[.int .u8 kind, .int .u64 pn, .int .u64 at_, .int .u64 size, .bool el, .int .u64 after, .slice fa fn fc, .slice la nl lc, .int .u64 now, .int .u64 delay] 71)) := bw.alloc bw.size _
        have hbq : b < q := by have := hok.out.bb; have := hok.out.bw; omega
        have hI := hok.out.below hbA
        have hRS := h6.below hbA
        have hSR := h7.on hbA
        have hlens := hok.out.lens
        obtain ⟨wB, hwB⟩ : ∃ z, wr.alloc (.cells #[.int .u8 kind, .int .u64 pn, .int .u64 at_, .int .u64 size, .bool el, .int .u64 after, .slice fa fn fc, .slice la nl lc, .int .u64 now, .int .u64 delay] 71) = z := ⟨_, rfl⟩
        rw [hwB, hq] at hbx
        rw [hwB] at hI hRS hSR hbW
        have HBX := Lib.hid hbx
        have HII := Lib.hid hI
        have HWB := Lib.hid hwB
        have HQ := Lib.hid hq
        have HBW := Lib.hid hbW
        have HRS := Lib.hid hRS
        have HSR := Lib.hid hSR
        have HPK := Lib.hid h2
        have HNL := Lib.hid hnl
        obtain ⟨z1, z2, z3, z4⟩ := hlens
        have hna : na ≤ 600 := by omega
        have hnt : nt ≤ 600 := by omega
        have hLl : L.length ≤ 600 := by omega
        have hTl : T.length ≤ 600 := by omega
        obtain ⟨u1, u2, u3, u4⟩ := h2
        unfold u64b' at u1 u2 u3 u4 h8 h9
        clear hbx hbA hI hwB hq hok hbW h6 h7 hRS hSR hnl z1 z2 z3 z4
        by_cases hk0 : kind = 0
        · subst hk0
          go_wp2_with (fail)
          rw [HWB.out, HQ.out]
          obtain ⟨a9, n9, c9, hB9, hn9, hP9, hne9⟩ := HII.out.ss
          by_cases hno : pn < top ∨ 4611686018427387903 < pn
          · refine (sadd_not b ⟨pn, at_, size, el, after, fa, fn, fc⟩ a9 n9 c9 has lg lk lt top wB hB9 HPK.out HII.out.si.utop hno).mono ?_
            rintro e x1 ⟨hb1, rfl⟩
            have K1 := Lib.hid (HII.out.below hb1).mid0
            have BW1 := Lib.hid (below_on HBW.out hb1 HBW.out.size)
            clear hB9 hn9 hP9 hne9 hb1 hno HII HBX HWB HQ HBW HRS HSR HPK HNL
            go_wp2_with (fail)
            have HPS := Lib.hid K1.out.op
            have HON := Lib.hid K1.out.on
            have hnt9 : nt ≤ 601 := by omega
            go_loopw [5, 13, 14, 91] (fun s _ _ i wr => ∃ (j : Nat) (tb : Option Addr) (nb cb : Nat), i = .int .i64 j ∧ s = .slice tb nb cb ∧ j ≤ 0 ∧ Hid (nb = nt + j) ∧ Hid (TL x1 wr (b + 1) ta tb nb cb (T ++ pns (([] : List Pk).take j)))) (fun _ _ _ i _ => 0 - (intOf i).toNat)
            case atStart => exact ⟨0, ta, nt, ct, rfl, rfl, by omega, Lib.hid (by omega), Lib.hid (by simpa [pns] using TL.start (ta := ta) K1.out.td)⟩
            case round =>
              obtain ⟨j, tb, nb, cb, rfl, rfl, hj, hnb, htl⟩ := hrel
              have hnb2 : nb ≤ 1300 := by have := hnb.out; omega
              · have hjz : Hid (j = 0) := Lib.hid (by omega)
                have htl2 := htl.out
                rw [show (([] : List Pk)).take j = ([] : List Pk) by simp] at htl2
                obtain ⟨a9, n9, c9, hB9, hn9, hP9, hne9⟩ := K1.out.ss
                have hbt9 : ¬ Bk ta b := fun ⟨y, hy, he⟩ => by have := (K1.out.td.block hy).1; omega
                have hS9 := htl2.2.1.blk (show Blk x1 b _ _ from hB9) hbt9
                have hP92 := hP9.only2 htl2.2.1 (fun x hx h0 => fun ⟨y, hy, he⟩ => (hne9 x hx h0).2 y (.inr hy) he.symm)
                have HTL := Lib.hid htl2
                have HPL := Lib.hid hP9
                have HNE := Lib.hid hne9
                have HNN := Lib.hid hn9
                have HSB9 := Lib.hid hB9
                have p0 := hS9.cell 0 _ rfl
                have hn96 : n9 ≤ 601 := by have := K1.out.si.len; have := K1.out.cnt; omega
                clear htl htl2 hP92 hP9 hne9 hn9 hB9 hS9
                go_wp2_with (fail)
                clear p0
                go_loopw [5, 16, 121] (fun s _ i wr => ∃ (j : Nat) (tb : Option Addr) (nb cb : Nat), i = .int .i64 j ∧ s = .slice tb nb cb ∧ j ≤ n9 ∧ Hid (nb = nt + j) ∧ Hid (TL x1 wr (b + 1) ta tb nb cb (T ++ pns ([] : List Pk) ++ pns (L.take j)))) (fun _ _ i _ => n9 - (intOf i).toNat)
                case atStart => exact ⟨0, tb, nb, cb, rfl, rfl, by omega, Lib.hid (by have := hnb.out; omega), Lib.hid (by simpa [pns] using HTL.out)⟩
                case round =>
                  clear HTL
                  obtain ⟨j, tb, nb, cb, rfl, rfl, hj, hnb, htl⟩ := hrel
                  have hnb2 : nb ≤ 1910 := by have := hnb.out; omega
                  have hps := HPL.out.only2 htl.out.2.1 (fun x hx h0 => fun ⟨y, hy, he⟩ => (HNE.out x hx h0).2 y (.inr hy) he.symm)
                  by_cases hlt3 : j < n9
                  · have hjO : j < (L).length := by have := HNN.out; omega
                    obtain ⟨gb, go, hga, hgb, pp, hpe, hpm, d0, d1, d2, d3, d4, d5, i0, i1, i2, i4⟩ := hps.at_ hjO
                    have hts := pns_take_succ hjO
                    rw [hpe] at hts
                    have HTS := Lib.hid hts
                    have hsz9 := htl.out.2.1.size
                    have hbase := K1.out.bw
                    have hb9 : Below wr.heap.size wr (wr.alloc (.cells #[.int .u64 pp.pn, .int .u64 pp.at_, .int .u64 pp.size, .bool pp.el, .int .u64 pp.after, .slice pp.fa pp.fn pp.fc] 69)) := (Below.refl _ _).alloc (Nat.le_refl _) _
                    cases hga
                    have wx9 : True := trivial
                    go_wp2_with (at_builtin; refine Stop.mk ?_)
                    refine Stop.out ?_
                    refine wpList_app u64_et rfl rfl (base := b + 1) rfl rfl ((htl.out.1.below hb9).below ((Below.refl _ _).alloc (Nat.le_refl _) _)) (news := [.int .u64 pp.pn]) (by simpa using SrcAt.one (wr.alloc (.cells #[.int .u64 pp.pn, .int .u64 pp.at_, .int .u64 pp.size, .bool pp.el, .int .u64 pp.after, .slice pp.fa pp.fn pp.fc] 69)) (.int .u64 pp.pn) 28 rfl) (by simp only [maxLen]; omega) (by omega) (by simp; omega) ?_
                    intro tc cc w5 ho5 on5 hat
                    have HTL2 : Hid (TL x1 w5 (b + 1) ta tc (nb + 1) cc (T ++ pns ([] : List Pk) ++ pns (L.take (j + 1)))) := Lib.hid (by rw [HTS.out, ← List.append_assoc]; exact TL.app htl.out (below_on hb9 ((Below.refl _ _).alloc (Nat.le_refl _) _) (by simp)) ho5 on5 hat)
                    clear ho5 on5 hat htl
                    go_wp2_with (fail)
                    exact ⟨⟨j + 1, tc, nb + 1, cc, rfl, rfl, by omega, Lib.hid (by have := hnb.out; omega), HTL2⟩, by simp [intOf]; omega⟩
                  · obtain rfl : n9 = j := by omega
                    have htl2 := htl.out
                    rw [show (L).take n9 = L by rw [HNN.out, List.take_length]] at htl2
                    have hperm := K1.out.si.perm
                    have htw := K1.out.si.twf
                    have haw := K1.out.si.awf
                    have hsA := (OwnS.sl (L := A) (K1.out.ad.only htl2.2.1 (fun x hx ⟨y, hy, he⟩ => K1.out.ne x y hx hy he.symm)) (fun x hx => u64_wf (haw x hx).1 (haw x hx).2)).2
                    have hsT := (OwnS.sl (L := T ++ pns ([] : List Pk) ++ pns L) htl2.1 (fun x hx => u64_wf (htw x hx).1 (htw x hx).2)).2
                    have hsame := same15_any tb aa nb na cb ca (T ++ pns ([] : List Pk) ++ pns L) A wr (ints_len htl2.1) (ints_len K1.out.ad) hsT hsA hperm K1.out.si.nd (by have := ints_len htl2.1; omega)
                    have HSM := Lib.hid hsame
                    have HTL3 := Lib.hid htl2
                    have hbt9 : ¬ Bk ta b := fun ⟨y, hy, he⟩ => by have := (K1.out.td.block hy).1; omega
                    have hS9 := htl2.2.1.blk (show Blk x1 b _ _ from HSB9.out) hbt9
                    have hBW3 := TL.below0 K1.out htl2 BW1.out hwb
                    have HBW3 := Lib.hid hBW3
                    have HS9 := Lib.hid hS9
                    have hmm : n9 ≤ nb := by have := hnb.out; omega
                    clear hperm htw haw hsA hsT hsame htl2 htl hps hS9 hBW3
                    go_wp2_with (fail)
                    refine HSM.out.mono ?_
                    rintro e wz ⟨hbz, rfl⟩
                    have p0 := (HS9.out.below hbz).cell 0 _ rfl
                    have hfin := fun (m : Nat) hm => Mid.done K1.out HTL3.out hbz (m := m) hm
                    have HFIN := Lib.hid hfin
                    have HOWN := Lib.hid (HTL3.out.1.below hbz)
                    have hbw4 := below_on HBW3.out hbz HBW3.out.size
                    have HBW4 := Lib.hid hbw4
                    clear hfin hbz hbw4
                    go_wp2_with (with_reducible refine stop_cut ?_)
                    refine Stop.out ?_
                    refine wpList_cut_own u64_et rfl rfl rfl rfl HOWN.out (nt) (by have := hnb.out; omega) (by have := hnb.out; omega) ?_
                    clear p0
                    go_wp2_with (fail)
                    exact ⟨⟨k + 1, aa, na, ca, tb, nt, cb, L, has, lg, lk, lt, top, A, T ++ pns ([] : List Pk), by go_num, rfl, rfl, rfl, rfl, by omega, HBW4.out, Lib.hid (HFIN.out _ (by have h7 := HON.out; have h8 := ints_len K1.out.td; omega))⟩, by simp [intOf]; omega⟩
          · obtain ⟨hno1, hno2⟩ := not_or.1 hno
            refine (sadd_any b ⟨pn, at_, size, el, after, fa, fn, fc⟩ fs L a9 n9 c9 has lg lk lt top wB hB9 hn9 hP9 (by omega) HPK.out HSR.out (by simp only; omega) HII.out.si.utop hno1 hno2).mono ?_
            rintro e x1 ⟨ho1, rfl, a', c', hsb, hfar, ff, fk, hps⟩
            simp only at hsb hps
            obtain ⟨lt', hlt'⟩ : ∃ x, (if el = true then at_ else lt) = x := ⟨_, rfl⟩
            rw [hlt'] at hsb
            have hbx1 := ho1.blk HBX.out (by omega)
            have d1 := hbx1.cell 1 _ rfl
            have hadds := fun (w2 w3 : World) hw2 (ab : Option Addr) (cb : Nat) own on3 hat => SentInv.adds HII.out ho1 ⟨pn, at_, size, el, 0, ff, fn, fk⟩ (lt' := lt') hsb (by omega) hfar hps hno1 hno2 g2 rfl (w2 := w2) (w3 := w3) hw2 (ab := ab) (cb := cb) own on3 hat
            have hown := HII.out.ad.only ho1 (fun x hx e => by have := (HII.out.ad.block hx).1; omega)
            have hbwx := below_onto HBW.out ho1 HBW.out.size (by intro z hz h; omega)
            have HADD := Lib.hid hadds
            have HOWN := Lib.hid hown
            have HBWX := Lib.hid hbwx
            have hszx : b + 1 ≤ x1.heap.size := Nat.le_trans HII.out.bw ho1.size
            clear hB9 hn9 hP9 hne9 hno hsb hps hfar hlt' hbx1 hadds hown hbwx ho1 HII HBX HWB HQ HBW HRS HSR HPK HNL
            go_wp2_with (at_builtin; refine Stop.mk ?_)
            refine Stop.out ?_
            refine wpList_app u64_et rfl rfl (base := b + 1) rfl rfl (HOWN.out.below ((Below.refl _ _).alloc (Nat.le_refl _) _)) (SrcAt.one _ (.int .u64 pn) _ rfl) (by simp only [maxLen]; omega) (by omega) (by simp; omega) ?_
            intro ab cx x5 ho5 on5 hat5
            have hk : Mid x5 (b + 1) b ab (na + 1) cx ta nt ct none 0 0 (L ++ [(⟨pn, at_, size, el, 0, ff, fn, fk⟩ : Pk)]) [] has lg lk lt' (pn + 1) (A ++ [pn]) T (k + 1) := HADD.out _ _ ((Below.refl _ _).alloc (Nat.le_refl _) _) _ _ ho5 on5 hat5
            obtain ⟨L1, hL1⟩ : ∃ x, (L ++ [(⟨pn, at_, size, el, 0, ff, fn, fk⟩ : Pk)]) = x := ⟨_, rfl⟩
            obtain ⟨A1, hA1⟩ : ∃ x, A ++ [pn] = x := ⟨_, rfl⟩
            obtain ⟨na1, hna1⟩ : ∃ x, na + 1 = x := ⟨_, rfl⟩
            obtain ⟨top1, htop1⟩ : ∃ x, pn + 1 = x := ⟨_, rfl⟩
            rw [hL1, hA1, hna1, htop1] at hk
            have K1 := Lib.hid hk
            have BW1 := Lib.hid (below_onto (HBWX.out.alloc HBWX.out.size (.cells #[.int .u64 pn] 28)) on5 (by have := HBWX.out.size; simp; omega) (by rintro z hz ⟨y, hy, rfl⟩; have := (HOWN.out.block hy).1; omega))
            rw [hna1]
            clear ho5 on5 hat5 HADD HOWN HBWX d1 hk hL1 hA1 hna1 htop1
            go_wp2_with (fail)
            have HPS := Lib.hid K1.out.op
            have HON := Lib.hid K1.out.on
            have hnt9 : nt ≤ 601 := by omega
            go_loopw [5, 13, 14, 91] (fun s _ _ i wr => ∃ (j : Nat) (tb : Option Addr) (nb cb : Nat), i = .int .i64 j ∧ s = .slice tb nb cb ∧ j ≤ 0 ∧ Hid (nb = nt + j) ∧ Hid (TL x5 wr (b + 1) ta tb nb cb (T ++ pns (([] : List Pk).take j)))) (fun _ _ _ i _ => 0 - (intOf i).toNat)
            case atStart => exact ⟨0, ta, nt, ct, rfl, rfl, by omega, Lib.hid (by omega), Lib.hid (by simpa [pns] using TL.start (ta := ta) K1.out.td)⟩
            case round =>
              obtain ⟨j, tb, nb, cb, rfl, rfl, hj, hnb, htl⟩ := hrel
              have hnb2 : nb ≤ 1300 := by have := hnb.out; omega
              · have hjz : Hid (j = 0) := Lib.hid (by omega)
                have htl2 := htl.out
                rw [show (([] : List Pk)).take j = ([] : List Pk) by simp] at htl2
                obtain ⟨a9, n9, c9, hB9, hn9, hP9, hne9⟩ := K1.out.ss
                have hbt9 : ¬ Bk ta b := fun ⟨y, hy, he⟩ => by have := (K1.out.td.block hy).1; omega
                have hS9 := htl2.2.1.blk (show Blk x5 b _ _ from hB9) hbt9
                have hP92 := hP9.only2 htl2.2.1 (fun x hx h0 => fun ⟨y, hy, he⟩ => (hne9 x hx h0).2 y (.inr hy) he.symm)
                have HTL := Lib.hid htl2
                have HPL := Lib.hid hP9
                have HNE := Lib.hid hne9
                have HNN := Lib.hid hn9
                have HSB9 := Lib.hid hB9
                have p0 := hS9.cell 0 _ rfl
                have hn96 : n9 ≤ 601 := by have := K1.out.si.len; have := K1.out.cnt; omega
                clear htl htl2 hP92 hP9 hne9 hn9 hB9 hS9
                go_wp2_with (fail)
                clear p0
                go_loopw [5, 16, 121] (fun s _ i wr => ∃ (j : Nat) (tb : Option Addr) (nb cb : Nat), i = .int .i64 j ∧ s = .slice tb nb cb ∧ j ≤ n9 ∧ Hid (nb = nt + j) ∧ Hid (TL x5 wr (b + 1) ta tb nb cb (T ++ pns ([] : List Pk) ++ pns (L1.take j)))) (fun _ _ i _ => n9 - (intOf i).toNat)
                case atStart => exact ⟨0, tb, nb, cb, rfl, rfl, by omega, Lib.hid (by have := hnb.out; omega), Lib.hid (by simpa [pns] using HTL.out)⟩
                case round =>
                  clear HTL
                  obtain ⟨j, tb, nb, cb, rfl, rfl, hj, hnb, htl⟩ := hrel
                  have hnb2 : nb ≤ 1910 := by have := hnb.out; omega
                  have hps := HPL.out.only2 htl.out.2.1 (fun x hx h0 => fun ⟨y, hy, he⟩ => (HNE.out x hx h0).2 y (.inr hy) he.symm)
                  by_cases hlt3 : j < n9
                  · have hjO : j < (L1).length := by have := HNN.out; omega
                    obtain ⟨gb, go, hga, hgb, pp, hpe, hpm, d0, d1, d2, d3, d4, d5, i0, i1, i2, i4⟩ := hps.at_ hjO
                    have hts := pns_take_succ hjO
                    rw [hpe] at hts
                    have HTS := Lib.hid hts
                    have hsz9 := htl.out.2.1.size
                    have hbase := K1.out.bw
                    have hb9 : Below wr.heap.size wr (wr.alloc (.cells #[.int .u64 pp.pn, .int .u64 pp.at_, .int .u64 pp.size, .bool pp.el, .int .u64 pp.after, .slice pp.fa pp.fn pp.fc] 69)) := (Below.refl _ _).alloc (Nat.le_refl _) _
                    cases hga
                    have wx9 : True := trivial
                    go_wp2_with (at_builtin; refine Stop.mk ?_)
                    refine Stop.out ?_
                    refine wpList_app u64_et rfl rfl (base := b + 1) rfl rfl ((htl.out.1.below hb9).below ((Below.refl _ _).alloc (Nat.le_refl _) _)) (news := [.int .u64 pp.pn]) (by simpa using SrcAt.one (wr.alloc (.cells #[.int .u64 pp.pn, .int .u64 pp.at_, .int .u64 pp.size, .bool pp.el, .int .u64 pp.after, .slice pp.fa pp.fn pp.fc] 69)) (.int .u64 pp.pn) 28 rfl) (by simp only [maxLen]; omega) (by omega) (by simp; omega) ?_
                    intro tc cc w5 ho5 on5 hat
                    have HTL2 : Hid (TL x5 w5 (b + 1) ta tc (nb + 1) cc (T ++ pns ([] : List Pk) ++ pns (L1.take (j + 1)))) := Lib.hid (by rw [HTS.out, ← List.append_assoc]; exact TL.app htl.out (below_on hb9 ((Below.refl _ _).alloc (Nat.le_refl _) _) (by simp)) ho5 on5 hat)
                    clear ho5 on5 hat htl
                    go_wp2_with (fail)
                    exact ⟨⟨j + 1, tc, nb + 1, cc, rfl, rfl, by omega, Lib.hid (by have := hnb.out; omega), HTL2⟩, by simp [intOf]; omega⟩
                  · obtain rfl : n9 = j := by omega
                    have htl2 := htl.out
                    rw [show (L1).take n9 = L1 by rw [HNN.out, List.take_length]] at htl2
                    have hperm := K1.out.si.perm
                    have htw := K1.out.si.twf
                    have haw := K1.out.si.awf
                    have hsA := (OwnS.sl (L := A1) (K1.out.ad.only htl2.2.1 (fun x hx ⟨y, hy, he⟩ => K1.out.ne x y hx hy he.symm)) (fun x hx => u64_wf (haw x hx).1 (haw x hx).2)).2
                    have hsT := (OwnS.sl (L := T ++ pns ([] : List Pk) ++ pns L1) htl2.1 (fun x hx => u64_wf (htw x hx).1 (htw x hx).2)).2
                    have hsame := same15_any tb ab nb na1 cb cx (T ++ pns ([] : List Pk) ++ pns L1) A1 wr (ints_len htl2.1) (ints_len K1.out.ad) hsT hsA hperm K1.out.si.nd (by have := ints_len htl2.1; omega)
                    have HSM := Lib.hid hsame
                    have HTL3 := Lib.hid htl2
                    have hbt9 : ¬ Bk ta b := fun ⟨y, hy, he⟩ => by have := (K1.out.td.block hy).1; omega
                    have hS9 := htl2.2.1.blk (show Blk x5 b _ _ from HSB9.out) hbt9
                    have hBW3 := TL.below0 K1.out htl2 BW1.out hwb
                    have HBW3 := Lib.hid hBW3
                    have HS9 := Lib.hid hS9
                    have hmm : n9 ≤ nb := by have := hnb.out; omega
                    clear hperm htw haw hsA hsT hsame htl2 htl hps hS9 hBW3
                    go_wp2_with (fail)
                    refine HSM.out.mono ?_
                    rintro e wz ⟨hbz, rfl⟩
                    have p0 := (HS9.out.below hbz).cell 0 _ rfl
                    have hfin := fun (m : Nat) hm => Mid.done K1.out HTL3.out hbz (m := m) hm
                    have HFIN := Lib.hid hfin
                    have HOWN := Lib.hid (HTL3.out.1.below hbz)
                    have hbw4 := below_on HBW3.out hbz HBW3.out.size
                    have HBW4 := Lib.hid hbw4
                    clear hfin hbz hbw4
                    go_wp2_with (with_reducible refine stop_cut ?_)
                    refine Stop.out ?_
                    refine wpList_cut_own u64_et rfl rfl rfl rfl HOWN.out (nt) (by have := hnb.out; omega) (by have := hnb.out; omega) ?_
                    clear p0
                    go_wp2_with (fail)
                    exact ⟨⟨k + 1, ab, na1, cx, tb, nt, cb, L1, has, lg, lk, lt', top1, A1, T ++ pns ([] : List Pk), by go_num, rfl, rfl, rfl, rfl, by omega, HBW4.out, Lib.hid (HFIN.out _ (by have h7 := HON.out; have h8 := ints_len K1.out.td; omega))⟩, by simp [intOf]; omega⟩
        · by_cases hk1 : kind = 1
          · subst hk1
            go_wp2_with (fail)
            rw [HWB.out, HQ.out]
            refine (sack_once b (Far2 aa ta) la nl lc l L has lg lk lt top wB HII.out.ss (Lib.hid HII.out.far) (by omega) HII.out.si.ulg HII.out.si.utop HNL.out.symm HRS.out (by have := HNL.out; omega) (fun p hp => by have := HII.out.si.aft p hp; omega)).mono ?_
            rintro e x1 ⟨ho1, v, z, q', has', lg', rfl, htold, hss, hlg⟩
            obtain ⟨ao, no, co, rfl, hmid⟩ := HII.out.takes ho1 htold hss hlg (fun p => ⟨rfl, rfl, by show p.after + (over p _ : Int) ≤ _; have := over_le p (L.filter q'); omega⟩)
            obtain ⟨L1, hL1⟩ : ∃ x, ((L.filter fun p => !q' p).map (bump (L.filter q'))) = x := ⟨_, rfl⟩
            obtain ⟨O1, hO1⟩ : ∃ x, L.filter q' = x := ⟨_, rfl⟩
            rw [hL1, hO1] at hmid
            have BW1 := Lib.hid (below_onto HBW.out ho1 HBW.out.size (by intro z hz h; omega))
            obtain ⟨a8, n8, c8, hB8, _⟩ := hmid.ss
            have p1 := Blk.cell hB8 1 _ rfl
            have p2 := Blk.cell hB8 2 _ rfl
            have hblt := Blk.lt hB8
            have K0 := Lib.hid hmid
            clear hL1 hO1 htold hss hlg hmid hB8 ho1 HII HBX HWB HQ HBW HRS HSR HPK HNL
            go_wp2_with (fail)
            refine rg_start 12 ?_
            refine rg_same fun p hx hne hC => ?_
            refine rg_quiet 0 [0,1,2,3,4,5,6,7,8,9,10,11] hC ?_
            simp only [pickD, List.map_cons, List.map_nil, List.getD_cons_zero, List.getD_cons_succ]; repeat (go_big_quiet_step (fail))
            refine wpQuiet_nil ?_
            refine rg_end ?_
            clear hx hne hC p1 p2
            have K1 : Hid (Mid x1.drew (b + 1) b aa na ca ta nt ct ao no co L1 O1 has' lg' lk lt top A T (k + 1)) := Lib.hid (K0.out.below ((Below.refl _ _).drew))
            have BW2 := Lib.hid (below_on BW1.out ((Below.refl _ _).drew) BW1.out.size)
            obtain ⟨x2, hx2⟩ : ∃ z, x1.drew = z := ⟨_, rfl⟩
            rw [hx2] at K1 BW2 ⊢
            clear K0 BW1 hx2
            go_wp2_with (fail)
            have HPS := Lib.hid K1.out.op
            have HON := Lib.hid K1.out.on
            have hno : no ≤ 601 := by have h1 := K1.out.on; have h2 := K1.out.si.len; have h3 := K1.out.cnt; rw [List.length_append, show (pns O1).length = (O1).length by simp [pns]] at h2; omega
            have hnt9 : nt ≤ 601 := by have h2 := K1.out.si.len; have h3 := K1.out.cnt; have h4 := ints_len K1.out.td; rw [List.length_append] at h2; omega
            go_loopw [5, 13, 14, 91] (fun s _ _ i wr => ∃ (j : Nat) (tb : Option Addr) (nb cb : Nat), i = .int .i64 j ∧ s = .slice tb nb cb ∧ j ≤ no ∧ Hid (nb = nt + j) ∧ Hid (TL x2 wr (b + 1) ta tb nb cb (T ++ pns (O1.take j)))) (fun _ _ _ i _ => no - (intOf i).toNat)
            case atStart => exact ⟨0, ta, nt, ct, rfl, rfl, by omega, Lib.hid (by omega), Lib.hid (by simpa [pns] using TL.start (ta := ta) K1.out.td)⟩
            case round =>
              obtain ⟨j, tb, nb, cb, rfl, rfl, hj, hnb, htl⟩ := hrel
              have hnb2 : nb ≤ 1300 := by have := hnb.out; omega
              by_cases hlt2 : j < no
              · have hjO : j < (O1).length := by have := HON.out; omega
                have hps := HPS.out.only htl.out.2.1 (fun x hx => K1.out.ot x hx)
                obtain ⟨gb, go, hga, hgb, pp, hpe, hpm, d0, d1, d2, d3, d4, d5, i0, i1, i2, i4⟩ := hps.at_ hjO
                have hts := pns_take_succ hjO
                rw [hpe] at hts
                have HTS := Lib.hid hts
                have hsz9 := htl.out.2.1.size
                have hbase := K1.out.bw
                have hx9 := Blk.new wr #[.int .u64 pp.pn, .int .u64 pp.at_, .int .u64 pp.size, .bool pp.el, .int .u64 pp.after, .slice pp.fa pp.fn pp.fc] 69
                have hb9 : Below wr.heap.size wr (wr.alloc (.cells #[.int .u64 pp.pn, .int .u64 pp.at_, .int .u64 pp.size, .bool pp.el, .int .u64 pp.after, .slice pp.fa pp.fn pp.fc] 69)) := (Below.refl _ _).alloc (Nat.le_refl _) _
                cases hga
                by_cases hj0 : ¬ 0 < j
                · have hdec0 : decide ((0 : Int) < (j : Int)) = false := by simp; omega
                  go_wp2_with (fail)
                  obtain ⟨wx, hwx⟩ : ∃ z, wr.alloc (.cells #[.int .u64 pp.pn, .int .u64 pp.at_, .int .u64 pp.size, .bool pp.el, .int .u64 pp.after, .slice pp.fa pp.fn pp.fc] 69) = z := ⟨_, rfl⟩
                  obtain ⟨qx, hqx⟩ : ∃ z, wr.heap.size = z := ⟨_, rfl⟩
                  rw [hwx, hqx] at hx9 ⊢
                  rw [hwx] at hb9
                  have hszx : b + 1 ≤ wx.heap.size := by have := hb9.size; omega
                  have e0 := hx9.cell 0 _ rfl
                  refine rg_start 13 ?_
                  refine rg_same fun p hx hne hC => ?_
                  refine rg_quiet 0 [0,1,2,3,4,5,6,7,8,9,10,11,12] hC ?_
                  simp only [pickD, List.map_cons, List.map_nil, List.getD_cons_zero, List.getD_cons_succ]; repeat (go_big_quiet_step (fail))
                  refine wpQuiet_nil ?_
                  refine rg_end ?_
                  clear hx hne hC
                  go_wp2_with (at_builtin; refine Stop.mk ?_)
                  refine Stop.out ?_
                  refine wpList_app u64_et rfl rfl (base := b + 1) rfl rfl ((htl.out.1.below (below_on hb9 ((Below.refl _ _).drew) (by simp [← hwx]))).below ((Below.refl _ _).alloc (Nat.le_refl _) _)) (SrcAt.one _ (.int .u64 pp.pn) _ rfl) (by simp only [maxLen]; omega) (by omega) (by simp; omega) ?_
                  intro tc cc w5 ho5 on5 hat
                  have HTL2 : Hid (TL x2 w5 (b + 1) ta tc (nb + 1) cc (T ++ pns (O1.take (j + 1)))) := Lib.hid (by rw [HTS.out, ← List.append_assoc]; exact TL.app htl.out (below_on (below_on hb9 ((Below.refl _ _).drew) (by simp [← hwx])) ((Below.refl _ _).alloc (Nat.le_refl _) _) (by simp [← hwx])) ho5 on5 hat)
                  clear ho5 on5 hat htl
                  go_wp2_with (fail)
                  exact ⟨⟨j + 1, tc, nb + 1, cc, by go_num, rfl, by omega, Lib.hid (by have := hnb.out; omega), HTL2⟩, by simp [intOf]; omega⟩
                · obtain ⟨j', rfl⟩ : ∃ j', j = j' + 1 := ⟨j - 1, by omega⟩
                  clear hj0
                  obtain ⟨gb2, go2, hga2, hgb2, p2, hpe2, hpm2, f0, _⟩ := hps.at_ (i := j') (by omega)
                  cases hga2
                  have hasc := asc_next K1.out.oa (i := j') hjO
                  rw [hpe, hpe2] at hasc
                  have hk1 : ((j' + 1 : Nat) : Int) - 1 = (j' : Int) := by omega
                  have hdec : decide (pp.pn ≤ p2.pn) = false := by simp; omega
                  go_wp2_with (fail)
                  obtain ⟨wx, hwx⟩ : ∃ z, wr.alloc (.cells #[.int .u64 pp.pn, .int .u64 pp.at_, .int .u64 pp.size, .bool pp.el, .int .u64 pp.after, .slice pp.fa pp.fn pp.fc] 69) = z := ⟨_, rfl⟩
                  obtain ⟨qx, hqx⟩ : ∃ z, wr.heap.size = z := ⟨_, rfl⟩
                  have f1 := (hb9.cell (p := ⟨gb, go + j' * 6, none⟩) hgb).trans f0
                  rw [hwx, hqx] at hx9 ⊢
                  rw [hwx] at hb9 f1
                  have hszx : b + 1 ≤ wx.heap.size := by have := hb9.size; omega
                  have e0 := hx9.cell 0 _ rfl
                  refine rg_start 13 ?_
                  refine rg_same fun p hx hne hC => ?_
                  refine rg_quiet 0 [0,1,2,3,4,5,6,7,8,9,10,11,12] hC ?_
                  simp only [pickD, List.map_cons, List.map_nil, List.getD_cons_zero, List.getD_cons_succ]; repeat (go_big_quiet_step (fail))
                  refine wpQuiet_nil ?_
                  refine rg_end ?_
                  clear hx hne hC
                  go_wp2_with (at_builtin; refine Stop.mk ?_)
                  refine Stop.out ?_
                  refine wpList_app u64_et rfl rfl (base := b + 1) rfl rfl ((htl.out.1.below (below_on hb9 ((Below.refl _ _).drew) (by simp [← hwx]))).below ((Below.refl _ _).alloc (Nat.le_refl _) _)) (SrcAt.one _ (.int .u64 pp.pn) _ rfl) (by simp only [maxLen]; omega) (by omega) (by simp; omega) ?_
                  intro tc cc w5 ho5 on5 hat
                  have HTL2 : Hid (TL x2 w5 (b + 1) ta tc (nb + 1) cc (T ++ pns (O1.take ((j' + 1) + 1)))) := Lib.hid (by rw [HTS.out, ← List.append_assoc]; exact TL.app htl.out (below_on (below_on hb9 ((Below.refl _ _).drew) (by simp [← hwx])) ((Below.refl _ _).alloc (Nat.le_refl _) _) (by simp [← hwx])) ho5 on5 hat)
                  clear ho5 on5 hat htl
                  go_wp2_with (fail)
                  exact ⟨⟨j' + 1 + 1, tc, nb + 1, cc, by go_num, rfl, by omega, Lib.hid (by have := hnb.out; omega), HTL2⟩, by simp [intOf]; omega⟩
              · obtain rfl : no = j := by omega
                have htl2 := htl.out
                rw [show (O1).take no = O1 by rw [HON.out, List.take_length]] at htl2
                obtain ⟨a9, n9, c9, hB9, hn9, hP9, hne9⟩ := K1.out.ss
                have hbt9 : ¬ Bk ta b := fun ⟨y, hy, he⟩ => by have := (K1.out.td.block hy).1; omega
                have hS9 := htl2.2.1.blk (show Blk x2 b _ _ from hB9) hbt9
                have hP92 := hP9.only2 htl2.2.1 (fun x hx h0 => fun ⟨y, hy, he⟩ => (hne9 x hx h0).2 y (.inr hy) he.symm)
                have HTL := Lib.hid htl2
                have HPL := Lib.hid hP9
                have HNE := Lib.hid hne9
                have HNN := Lib.hid hn9
                have HSB9 := Lib.hid hB9
                have p0 := hS9.cell 0 _ rfl
                have hn96 : n9 ≤ 601 := by have := K1.out.si.len; have := K1.out.cnt; omega
                clear htl htl2 hP92 hP9 hne9 hn9 hB9 hS9
                go_wp2_with (fail)
                clear p0
                go_loopw [5, 16, 121] (fun s _ i wr => ∃ (j : Nat) (tb : Option Addr) (nb cb : Nat), i = .int .i64 j ∧ s = .slice tb nb cb ∧ j ≤ n9 ∧ Hid (nb = nt + no + j) ∧ Hid (TL x2 wr (b + 1) ta tb nb cb (T ++ pns O1 ++ pns (L1.take j)))) (fun _ _ i _ => n9 - (intOf i).toNat)
                case atStart => exact ⟨0, tb, nb, cb, rfl, rfl, by omega, Lib.hid (by have := hnb.out; omega), Lib.hid (by simpa [pns] using HTL.out)⟩
                case round =>
                  clear HTL
                  obtain ⟨j, tb, nb, cb, rfl, rfl, hj, hnb, htl⟩ := hrel
                  have hnb2 : nb ≤ 1910 := by have := hnb.out; omega
                  have hps := HPL.out.only2 htl.out.2.1 (fun x hx h0 => fun ⟨y, hy, he⟩ => (HNE.out x hx h0).2 y (.inr hy) he.symm)
                  by_cases hlt3 : j < n9
                  · have hjO : j < (L1).length := by have := HNN.out; omega
                    obtain ⟨gb, go, hga, hgb, pp, hpe, hpm, d0, d1, d2, d3, d4, d5, i0, i1, i2, i4⟩ := hps.at_ hjO
                    have hts := pns_take_succ hjO
                    rw [hpe] at hts
                    have HTS := Lib.hid hts
                    have hsz9 := htl.out.2.1.size
                    have hbase := K1.out.bw
                    have hb9 : Below wr.heap.size wr (wr.alloc (.cells #[.int .u64 pp.pn, .int .u64 pp.at_, .int .u64 pp.size, .bool pp.el, .int .u64 pp.after, .slice pp.fa pp.fn pp.fc] 69)) := (Below.refl _ _).alloc (Nat.le_refl _) _
                    cases hga
                    have wx9 : True := trivial
                    go_wp2_with (at_builtin; refine Stop.mk ?_)
                    refine Stop.out ?_
                    refine wpList_app u64_et rfl rfl (base := b + 1) rfl rfl ((htl.out.1.below hb9).below ((Below.refl _ _).alloc (Nat.le_refl _) _)) (news := [.int .u64 pp.pn]) (by simpa using SrcAt.one (wr.alloc (.cells #[.int .u64 pp.pn, .int .u64 pp.at_, .int .u64 pp.size, .bool pp.el, .int .u64 pp.after, .slice pp.fa pp.fn pp.fc] 69)) (.int .u64 pp.pn) 28 rfl) (by simp only [maxLen]; omega) (by omega) (by simp; omega) ?_
                    intro tc cc w5 ho5 on5 hat
                    have HTL2 : Hid (TL x2 w5 (b + 1) ta tc (nb + 1) cc (T ++ pns O1 ++ pns (L1.take (j + 1)))) := Lib.hid (by rw [HTS.out, ← List.append_assoc]; exact TL.app htl.out (below_on hb9 ((Below.refl _ _).alloc (Nat.le_refl _) _) (by simp)) ho5 on5 hat)
                    clear ho5 on5 hat htl
                    go_wp2_with (fail)
                    exact ⟨⟨j + 1, tc, nb + 1, cc, rfl, rfl, by omega, Lib.hid (by have := hnb.out; omega), HTL2⟩, by simp [intOf]; omega⟩
                  · obtain rfl : n9 = j := by omega
                    have htl2 := htl.out
                    rw [show (L1).take n9 = L1 by rw [HNN.out, List.take_length]] at htl2
                    have hperm := K1.out.si.perm
                    have htw := K1.out.si.twf
                    have haw := K1.out.si.awf
                    have hsA := (OwnS.sl (L := A) (K1.out.ad.only htl2.2.1 (fun x hx ⟨y, hy, he⟩ => K1.out.ne x y hx hy he.symm)) (fun x hx => u64_wf (haw x hx).1 (haw x hx).2)).2
                    have hsT := (OwnS.sl (L := T ++ pns O1 ++ pns L1) htl2.1 (fun x hx => u64_wf (htw x hx).1 (htw x hx).2)).2
                    have hsame := same15_any tb aa nb na cb ca (T ++ pns O1 ++ pns L1) A wr (ints_len htl2.1) (ints_len K1.out.ad) hsT hsA hperm K1.out.si.nd (by have := ints_len htl2.1; omega)
                    have HSM := Lib.hid hsame
                    have HTL3 := Lib.hid htl2
                    have hbt9 : ¬ Bk ta b := fun ⟨y, hy, he⟩ => by have := (K1.out.td.block hy).1; omega
                    have hS9 := htl2.2.1.blk (show Blk x2 b _ _ from HSB9.out) hbt9
                    have hBW3 := TL.below0 K1.out htl2 BW2.out hwb
                    have HBW3 := Lib.hid hBW3
                    have HS9 := Lib.hid hS9
                    have hmm : n9 ≤ nb := by have := hnb.out; omega
                    clear hperm htw haw hsA hsT hsame htl2 htl hps hS9 hBW3
                    go_wp2_with (fail)
                    refine HSM.out.mono ?_
                    rintro e wz ⟨hbz, rfl⟩
                    have p0 := (HS9.out.below hbz).cell 0 _ rfl
                    have hfin := fun (m : Nat) hm => Mid.done K1.out HTL3.out hbz (m := m) hm
                    have HFIN := Lib.hid hfin
                    have HOWN := Lib.hid (HTL3.out.1.below hbz)
                    have hbw4 := below_on HBW3.out hbz HBW3.out.size
                    have HBW4 := Lib.hid hbw4
                    clear hfin hbz hbw4
                    go_wp2_with (with_reducible refine stop_cut ?_)
                    refine Stop.out ?_
                    refine wpList_cut_own u64_et rfl rfl rfl rfl HOWN.out (nt + no) (by have := hnb.out; omega) (by have := hnb.out; omega) ?_
                    clear p0
                    go_wp2_with (fail)
                    exact ⟨⟨k + 1, aa, na, ca, tb, nt + no, cb, L1, has', lg', lk, lt, top, A, T ++ pns O1, by go_num, rfl, rfl, rfl, rfl, by omega, HBW4.out, Lib.hid (HFIN.out _ (by have h7 := HON.out; have h8 := ints_len K1.out.td; omega))⟩, by simp [intOf]; omega⟩
          · by_cases hk2 : kind = 2
            · subst hk2
              go_wp2_with (fail)
              rw [HWB.out, HQ.out]
              refine (slost_any b (Far2 aa ta) now delay L has lg lk lt top wB HII.out.ss (Lib.hid HII.out.far) (by omega) HII.out.si.ulg (by omega) (by omega) HII.out.si.at_).mono ?_
              rintro e x1 ⟨ho1, v, rfl, htold, hss⟩
              have hss' : SS x1 b (Far2 aa ta) ((L.filter fun p => !lostQ has lg now delay p).map id) has lg (lossOf has lg delay (L.filter fun p => !lostQ has lg now delay p)) lt top := by rw [List.map_id]; exact hss
              obtain ⟨ao, no, co, rfl, hmid⟩ := HII.out.takes ho1 htold hss' HII.out.si.ulg (fun p => ⟨rfl, rfl, by show p.after ≤ _; omega⟩)
              rw [List.map_id] at hmid
              have hout : ∀ p ∈ L.filter (lostQ has lg now delay), has = true ∧ p.pn < lg := by
                intro p hp
                have := (List.mem_filter.1 hp).2
                unfold lostQ at this
                simp only [Bool.and_eq_true, decide_eq_true_eq] at this
                exact this.1
              obtain ⟨L1, hL1⟩ : ∃ x, (L.filter fun p => !lostQ has lg now delay p) = x := ⟨_, rfl⟩
              obtain ⟨O1, hO1⟩ : ∃ x, L.filter (lostQ has lg now delay) = x := ⟨_, rfl⟩
              obtain ⟨lk', hlk'⟩ : ∃ x, lossOf has lg delay L1 = x := ⟨_, rfl⟩
              rw [hL1, hO1] at hmid
              rw [hO1] at hout
              rw [hlk'] at hmid
              have BW1 := Lib.hid (below_onto HBW.out ho1 HBW.out.size (by intro z hz h; omega))
              have K0 := Lib.hid hmid
              have HOUT := Lib.hid hout
              have hno6 : no ≤ 601 := by have h1 := hmid.on; have h2 := hmid.si.len; have h3 := hmid.cnt; rw [List.length_append, show (pns O1).length = O1.length by simp [pns]] at h2; omega
              clear hL1 hO1 hlk' htold hss hss' hmid hout ho1 HII HBX HWB HQ HBW HRS HSR HPK HNL
              go_wp2_with (fail)
              go_loopw [12, 72] (fun _ i wr => ∃ j : Nat, i = .int .i64 j ∧ j ≤ no ∧ Below x1.heap.size x1 wr) (fun _ i _ => no - (intOf i).toNat)
              case atStart => exact ⟨0, rfl, by omega, Below.refl _ _⟩
              case round =>
                obtain ⟨j, rfl, hj, bj⟩ := hrel
                by_cases hlt2 : j < no
                · have hjO : j < O1.length := by have := K0.out.on; omega
                  obtain ⟨gb, go, hga, hgb, p, hpe, hpm, d0, d1, d2, d3, d4, d5, i0, i1, i2, i4⟩ := (K0.out.op.below bj).at_ hjO
                  obtain ⟨hh, hpl⟩ := HOUT.out p hpm
                  have hdec : decide (lg ≤ p.pn) = false := by simp; omega
                  subst hh
                  cases hga
                  have b9 : Below x1.heap.size x1 (wr.alloc (.cells #[.int .u64 p.pn, .int .u64 p.at_, .int .u64 p.size, .bool p.el, .int .u64 p.after, .slice p.fa p.fn p.fc] 69)) := bj.alloc bj.size _
                  go_wp2_with (fail)
                  exact ⟨⟨j + 1, rfl, by omega, b9⟩, by simp [intOf]; omega⟩
                · obtain rfl : no = j := by omega
                  have K1 := Lib.hid (K0.out.below bj)
                  have BW2 := Lib.hid (below_on BW1.out bj BW1.out.size)
                  obtain ⟨x3, hx3⟩ : ∃ z, wr = z := ⟨_, rfl⟩
                  rw [hx3] at K1 BW2 ⊢
                  clear K0 BW1 bj HOUT hx3
                  go_wp2_with (fail)
                  have HPS := Lib.hid K1.out.op
                  have HON := Lib.hid K1.out.on
                  have hno : no ≤ 601 := by have h1 := K1.out.on; have h2 := K1.out.si.len; have h3 := K1.out.cnt; rw [List.length_append, show (pns O1).length = (O1).length by simp [pns]] at h2; omega
                  have hnt9 : nt ≤ 601 := by have h2 := K1.out.si.len; have h3 := K1.out.cnt; have h4 := ints_len K1.out.td; rw [List.length_append] at h2; omega
                  go_loopw [5, 13, 14, 91] (fun s _ _ i wr => ∃ (j : Nat) (tb : Option Addr) (nb cb : Nat), i = .int .i64 j ∧ s = .slice tb nb cb ∧ j ≤ no ∧ Hid (nb = nt + j) ∧ Hid (TL x3 wr (b + 1) ta tb nb cb (T ++ pns (O1.take j)))) (fun _ _ _ i _ => no - (intOf i).toNat)
                  case atStart => exact ⟨0, ta, nt, ct, rfl, rfl, by omega, Lib.hid (by omega), Lib.hid (by simpa [pns] using TL.start (ta := ta) K1.out.td)⟩
                  case round =>
                    obtain ⟨j, tb, nb, cb, rfl, rfl, hj, hnb, htl⟩ := hrel
                    have hnb2 : nb ≤ 1300 := by have := hnb.out; omega
                    by_cases hlt2 : j < no
                    · have hjO : j < (O1).length := by have := HON.out; omega
                      have hps := HPS.out.only htl.out.2.1 (fun x hx => K1.out.ot x hx)
                      obtain ⟨gb, go, hga, hgb, pp, hpe, hpm, d0, d1, d2, d3, d4, d5, i0, i1, i2, i4⟩ := hps.at_ hjO
                      have hts := pns_take_succ hjO
                      rw [hpe] at hts
                      have HTS := Lib.hid hts
                      have hsz9 := htl.out.2.1.size
                      have hbase := K1.out.bw
                      have hx9 := Blk.new wr #[.int .u64 pp.pn, .int .u64 pp.at_, .int .u64 pp.size, .bool pp.el, .int .u64 pp.after, .slice pp.fa pp.fn pp.fc] 69
                      have hb9 : Below wr.heap.size wr (wr.alloc (.cells #[.int .u64 pp.pn, .int .u64 pp.at_, .int .u64 pp.size, .bool pp.el, .int .u64 pp.after, .slice pp.fa pp.fn pp.fc] 69)) := (Below.refl _ _).alloc (Nat.le_refl _) _
                      cases hga
                      by_cases hj0 : ¬ 0 < j
                      · have hdec0 : decide ((0 : Int) < (j : Int)) = false := by simp; omega
                        go_wp2_with (fail)
                        obtain ⟨wx, hwx⟩ : ∃ z, wr.alloc (.cells #[.int .u64 pp.pn, .int .u64 pp.at_, .int .u64 pp.size, .bool pp.el, .int .u64 pp.after, .slice pp.fa pp.fn pp.fc] 69) = z := ⟨_, rfl⟩
                        obtain ⟨qx, hqx⟩ : ∃ z, wr.heap.size = z := ⟨_, rfl⟩
                        rw [hwx, hqx] at hx9 ⊢
                        rw [hwx] at hb9
                        have hszx : b + 1 ≤ wx.heap.size := by have := hb9.size; omega
                        have e0 := hx9.cell 0 _ rfl
                        refine rg_start 13 ?_
                        refine rg_same fun p hx hne hC => ?_
                        refine rg_quiet 0 [0,1,2,3,4,5,6,7,8,9,10,11,12] hC ?_
                        simp only [pickD, List.map_cons, List.map_nil, List.getD_cons_zero, List.getD_cons_succ]; repeat (go_big_quiet_step (fail))
                        refine wpQuiet_nil ?_
                        refine rg_end ?_
                        clear hx hne hC
                        go_wp2_with (at_builtin; refine Stop.mk ?_)
                        refine Stop.out ?_
                        refine wpList_app u64_et rfl rfl (base := b + 1) rfl rfl ((htl.out.1.below (below_on hb9 ((Below.refl _ _).drew) (by simp [← hwx]))).below ((Below.refl _ _).alloc (Nat.le_refl _) _)) (SrcAt.one _ (.int .u64 pp.pn) _ rfl) (by simp only [maxLen]; omega) (by omega) (by simp; omega) ?_
                        intro tc cc w5 ho5 on5 hat
                        have HTL2 : Hid (TL x3 w5 (b + 1) ta tc (nb + 1) cc (T ++ pns (O1.take (j + 1)))) := Lib.hid (by rw [HTS.out, ← List.append_assoc]; exact TL.app htl.out (below_on (below_on hb9 ((Below.refl _ _).drew) (by simp [← hwx])) ((Below.refl _ _).alloc (Nat.le_refl _) _) (by simp [← hwx])) ho5 on5 hat)
                        clear ho5 on5 hat htl
                        go_wp2_with (fail)
                        exact ⟨⟨j + 1, tc, nb + 1, cc, by go_num, rfl, by omega, Lib.hid (by have := hnb.out; omega), HTL2⟩, by simp [intOf]; omega⟩
                      · obtain ⟨j', rfl⟩ : ∃ j', j = j' + 1 := ⟨j - 1, by omega⟩
                        clear hj0
                        obtain ⟨gb2, go2, hga2, hgb2, p2, hpe2, hpm2, f0, _⟩ := hps.at_ (i := j') (by omega)
                        cases hga2
                        have hasc := asc_next K1.out.oa (i := j') hjO
                        rw [hpe, hpe2] at hasc
                        have hk1 : ((j' + 1 : Nat) : Int) - 1 = (j' : Int) := by omega
                        have hdec : decide (pp.pn ≤ p2.pn) = false := by simp; omega
                        go_wp2_with (fail)
                        obtain ⟨wx, hwx⟩ : ∃ z, wr.alloc (.cells #[.int .u64 pp.pn, .int .u64 pp.at_, .int .u64 pp.size, .bool pp.el, .int .u64 pp.after, .slice pp.fa pp.fn pp.fc] 69) = z := ⟨_, rfl⟩
                        obtain ⟨qx, hqx⟩ : ∃ z, wr.heap.size = z := ⟨_, rfl⟩
                        have f1 := (hb9.cell (p := ⟨gb, go + j' * 6, none⟩) hgb).trans f0
                        rw [hwx, hqx] at hx9 ⊢
                        rw [hwx] at hb9 f1
                        have hszx : b + 1 ≤ wx.heap.size := by have := hb9.size; omega
                        have e0 := hx9.cell 0 _ rfl
                        refine rg_start 13 ?_
                        refine rg_same fun p hx hne hC => ?_
                        refine rg_quiet 0 [0,1,2,3,4,5,6,7,8,9,10,11,12] hC ?_
                        simp only [pickD, List.map_cons, List.map_nil, List.getD_cons_zero, List.getD_cons_succ]; repeat (go_big_quiet_step (fail))
                        refine wpQuiet_nil ?_
                        refine rg_end ?_
                        clear hx hne hC
                        go_wp2_with (at_builtin; refine Stop.mk ?_)
                        refine Stop.out ?_
                        refine wpList_app u64_et rfl rfl (base := b + 1) rfl rfl ((htl.out.1.below (below_on hb9 ((Below.refl _ _).drew) (by simp [← hwx]))).below ((Below.refl _ _).alloc (Nat.le_refl _) _)) (SrcAt.one _ (.int .u64 pp.pn) _ rfl) (by simp only [maxLen]; omega) (by omega) (by simp; omega) ?_
                        intro tc cc w5 ho5 on5 hat
                        have HTL2 : Hid (TL x3 w5 (b + 1) ta tc (nb + 1) cc (T ++ pns (O1.take ((j' + 1) + 1)))) := Lib.hid (by rw [HTS.out, ← List.append_assoc]; exact TL.app htl.out (below_on (below_on hb9 ((Below.refl _ _).drew) (by simp [← hwx])) ((Below.refl _ _).alloc (Nat.le_refl _) _) (by simp [← hwx])) ho5 on5 hat)
                        clear ho5 on5 hat htl
                        go_wp2_with (fail)
                        exact ⟨⟨j' + 1 + 1, tc, nb + 1, cc, by go_num, rfl, by omega, Lib.hid (by have := hnb.out; omega), HTL2⟩, by simp [intOf]; omega⟩
                    · obtain rfl : no = j := by omega
                      have htl2 := htl.out
                      rw [show (O1).take no = O1 by rw [HON.out, List.take_length]] at htl2
                      obtain ⟨a9, n9, c9, hB9, hn9, hP9, hne9⟩ := K1.out.ss
                      have hbt9 : ¬ Bk ta b := fun ⟨y, hy, he⟩ => by have := (K1.out.td.block hy).1; omega
                      have hS9 := htl2.2.1.blk (show Blk x3 b _ _ from hB9) hbt9
                      have hP92 := hP9.only2 htl2.2.1 (fun x hx h0 => fun ⟨y, hy, he⟩ => (hne9 x hx h0).2 y (.inr hy) he.symm)
                      have HTL := Lib.hid htl2
                      have HPL := Lib.hid hP9
                      have HNE := Lib.hid hne9
                      have HNN := Lib.hid hn9
                      have HSB9 := Lib.hid hB9
                      have p0 := hS9.cell 0 _ rfl
                      have hn96 : n9 ≤ 601 := by have := K1.out.si.len; have := K1.out.cnt; omega
                      clear htl htl2 hP92 hP9 hne9 hn9 hB9 hS9
                      go_wp2_with (fail)
                      clear p0
                      go_loopw [5, 16, 121] (fun s _ i wr => ∃ (j : Nat) (tb : Option Addr) (nb cb : Nat), i = .int .i64 j ∧ s = .slice tb nb cb ∧ j ≤ n9 ∧ Hid (nb = nt + no + j) ∧ Hid (TL x3 wr (b + 1) ta tb nb cb (T ++ pns O1 ++ pns (L1.take j)))) (fun _ _ i _ => n9 - (intOf i).toNat)
                      case atStart => exact ⟨0, tb, nb, cb, rfl, rfl, by omega, Lib.hid (by have := hnb.out; omega), Lib.hid (by simpa [pns] using HTL.out)⟩
                      case round =>
                        clear HTL
                        obtain ⟨j, tb, nb, cb, rfl, rfl, hj, hnb, htl⟩ := hrel
                        have hnb2 : nb ≤ 1910 := by have := hnb.out; omega
                        have hps := HPL.out.only2 htl.out.2.1 (fun x hx h0 => fun ⟨y, hy, he⟩ => (HNE.out x hx h0).2 y (.inr hy) he.symm)
                        by_cases hlt3 : j < n9
                        · have hjO : j < (L1).length := by have := HNN.out; omega
                          obtain ⟨gb, go, hga, hgb, pp, hpe, hpm, d0, d1, d2, d3, d4, d5, i0, i1, i2, i4⟩ := hps.at_ hjO
                          have hts := pns_take_succ hjO
                          rw [hpe] at hts
                          have HTS := Lib.hid hts
                          have hsz9 := htl.out.2.1.size
                          have hbase := K1.out.bw
                          have hb9 : Below wr.heap.size wr (wr.alloc (.cells #[.int .u64 pp.pn, .int .u64 pp.at_, .int .u64 pp.size, .bool pp.el, .int .u64 pp.after, .slice pp.fa pp.fn pp.fc] 69)) := (Below.refl _ _).alloc (Nat.le_refl _) _
                          cases hga
                          have wx9 : True := trivial
                          go_wp2_with (at_builtin; refine Stop.mk ?_)
                          refine Stop.out ?_
                          refine wpList_app u64_et rfl rfl (base := b + 1) rfl rfl ((htl.out.1.below hb9).below ((Below.refl _ _).alloc (Nat.le_refl _) _)) (news := [.int .u64 pp.pn]) (by simpa using SrcAt.one (wr.alloc (.cells #[.int .u64 pp.pn, .int .u64 pp.at_, .int .u64 pp.size, .bool pp.el, .int .u64 pp.after, .slice pp.fa pp.fn pp.fc] 69)) (.int .u64 pp.pn) 28 rfl) (by simp only [maxLen]; omega) (by omega) (by simp; omega) ?_
                          intro tc cc w5 ho5 on5 hat
                          have HTL2 : Hid (TL x3 w5 (b + 1) ta tc (nb + 1) cc (T ++ pns O1 ++ pns (L1.take (j + 1)))) := Lib.hid (by rw [HTS.out, ← List.append_assoc]; exact TL.app htl.out (below_on hb9 ((Below.refl _ _).alloc (Nat.le_refl _) _) (by simp)) ho5 on5 hat)
                          clear ho5 on5 hat htl
                          go_wp2_with (fail)
                          exact ⟨⟨j + 1, tc, nb + 1, cc, rfl, rfl, by omega, Lib.hid (by have := hnb.out; omega), HTL2⟩, by simp [intOf]; omega⟩
                        · obtain rfl : n9 = j := by omega
                          have htl2 := htl.out
                          rw [show (L1).take n9 = L1 by rw [HNN.out, List.take_length]] at htl2
                          have hperm := K1.out.si.perm
                          have htw := K1.out.si.twf
                          have haw := K1.out.si.awf
                          have hsA := (OwnS.sl (L := A) (K1.out.ad.only htl2.2.1 (fun x hx ⟨y, hy, he⟩ => K1.out.ne x y hx hy he.symm)) (fun x hx => u64_wf (haw x hx).1 (haw x hx).2)).2
                          have hsT := (OwnS.sl (L := T ++ pns O1 ++ pns L1) htl2.1 (fun x hx => u64_wf (htw x hx).1 (htw x hx).2)).2
                          have hsame := same15_any tb aa nb na cb ca (T ++ pns O1 ++ pns L1) A wr (ints_len htl2.1) (ints_len K1.out.ad) hsT hsA hperm K1.out.si.nd (by have := ints_len htl2.1; omega)
                          have HSM := Lib.hid hsame
                          have HTL3 := Lib.hid htl2
                          have hbt9 : ¬ Bk ta b := fun ⟨y, hy, he⟩ => by have := (K1.out.td.block hy).1; omega
                          have hS9 := htl2.2.1.blk (show Blk x3 b _ _ from HSB9.out) hbt9
                          have hBW3 := TL.below0 K1.out htl2 BW2.out hwb
                          have HBW3 := Lib.hid hBW3
                          have HS9 := Lib.hid hS9
                          have hmm : n9 ≤ nb := by have := hnb.out; omega
                          clear hperm htw haw hsA hsT hsame htl2 htl hps hS9 hBW3
                          go_wp2_with (fail)
                          refine HSM.out.mono ?_
                          rintro e wz ⟨hbz, rfl⟩
                          have p0 := (HS9.out.below hbz).cell 0 _ rfl
                          have hfin := fun (m : Nat) hm => Mid.done K1.out HTL3.out hbz (m := m) hm
                          have HFIN := Lib.hid hfin
                          have HOWN := Lib.hid (HTL3.out.1.below hbz)
                          have hbw4 := below_on HBW3.out hbz HBW3.out.size
                          have HBW4 := Lib.hid hbw4
                          clear hfin hbz hbw4
                          go_wp2_with (with_reducible refine stop_cut ?_)
                          refine Stop.out ?_
                          refine wpList_cut_own u64_et rfl rfl rfl rfl HOWN.out (nt + no) (by have := hnb.out; omega) (by have := hnb.out; omega) ?_
                          clear p0
                          go_wp2_with (fail)
                          exact ⟨⟨k + 1, aa, na, ca, tb, nt + no, cb, L1, has, lg, lk', lt, top, A, T ++ pns O1, by go_num, rfl, rfl, rfl, rfl, by omega, HBW4.out, Lib.hid (HFIN.out _ (by have h7 := HON.out; have h8 := ints_len K1.out.td; omega))⟩, by simp [intOf]; omega⟩
            · by_cases hk3 : kind = 3
              · subst hk3
                go_wp2_with (fail)
                rw [HWB.out, HQ.out]
                refine (sclear_any b (Far2 aa ta) L has lg lk lt top wB HII.out.ss (Lib.hid HII.out.far) (by omega)).mono ?_
                rintro e x1 ⟨ho1, v, rfl, htold, hss⟩
                have ft : L.filter (fun _ => true) = L := List.filter_eq_self.2 (by simp)
                have fz : (L.filter (fun p => !(fun _ => true) p)).map id = [] := by rw [List.map_id]; exact List.filter_eq_nil_iff.2 (by simp)
                obtain ⟨ao, no, co, rfl, hmid⟩ := HII.out.takes (q := fun _ => true) (f := id) ho1 (by rw [ft]; exact htold) (by rw [fz]; exact hss) HII.out.si.ulg (fun p => ⟨rfl, rfl, by show p.after ≤ _; omega⟩)
                rw [fz, ft] at hmid
                have BW1 := Lib.hid (below_onto HBW.out ho1 HBW.out.size (by intro z hz h; omega))
                have K1 := Lib.hid hmid
                clear ft fz htold hss hmid ho1 HII HBX HWB HQ HBW HRS HSR HPK HNL
                go_wp2_with (fail)
                have HPS := Lib.hid K1.out.op
                have HON := Lib.hid K1.out.on
                have hno : no ≤ 601 := by have h1 := K1.out.on; have h2 := K1.out.si.len; have h3 := K1.out.cnt; rw [List.length_append, show (pns L).length = (L).length by simp [pns]] at h2; omega
                have hnt9 : nt ≤ 601 := by have h2 := K1.out.si.len; have h3 := K1.out.cnt; have h4 := ints_len K1.out.td; rw [List.length_append] at h2; omega
                go_loopw [5, 13, 14, 91] (fun s _ _ i wr => ∃ (j : Nat) (tb : Option Addr) (nb cb : Nat), i = .int .i64 j ∧ s = .slice tb nb cb ∧ j ≤ no ∧ Hid (nb = nt + j) ∧ Hid (TL x1 wr (b + 1) ta tb nb cb (T ++ pns (L.take j)))) (fun _ _ _ i _ => no - (intOf i).toNat)
                case atStart => exact ⟨0, ta, nt, ct, rfl, rfl, by omega, Lib.hid (by omega), Lib.hid (by simpa [pns] using TL.start (ta := ta) K1.out.td)⟩
                case round =>
                  obtain ⟨j, tb, nb, cb, rfl, rfl, hj, hnb, htl⟩ := hrel
                  have hnb2 : nb ≤ 1300 := by have := hnb.out; omega
                  by_cases hlt2 : j < no
                  · have hjO : j < (L).length := by have := HON.out; omega
                    have hps := HPS.out.only htl.out.2.1 (fun x hx => K1.out.ot x hx)
                    obtain ⟨gb, go, hga, hgb, pp, hpe, hpm, d0, d1, d2, d3, d4, d5, i0, i1, i2, i4⟩ := hps.at_ hjO
                    have hts := pns_take_succ hjO
                    rw [hpe] at hts
                    have HTS := Lib.hid hts
                    have hsz9 := htl.out.2.1.size
                    have hbase := K1.out.bw
                    have hx9 := Blk.new wr #[.int .u64 pp.pn, .int .u64 pp.at_, .int .u64 pp.size, .bool pp.el, .int .u64 pp.after, .slice pp.fa pp.fn pp.fc] 69
                    have hb9 : Below wr.heap.size wr (wr.alloc (.cells #[.int .u64 pp.pn, .int .u64 pp.at_, .int .u64 pp.size, .bool pp.el, .int .u64 pp.after, .slice pp.fa pp.fn pp.fc] 69)) := (Below.refl _ _).alloc (Nat.le_refl _) _
                    cases hga
                    by_cases hj0 : ¬ 0 < j
                    · have hdec0 : decide ((0 : Int) < (j : Int)) = false := by simp; omega
                      go_wp2_with (fail)
                      obtain ⟨wx, hwx⟩ : ∃ z, wr.alloc (.cells #[.int .u64 pp.pn, .int .u64 pp.at_, .int .u64 pp.size, .bool pp.el, .int .u64 pp.after, .slice pp.fa pp.fn pp.fc] 69) = z := ⟨_, rfl⟩
                      obtain ⟨qx, hqx⟩ : ∃ z, wr.heap.size = z := ⟨_, rfl⟩
                      rw [hwx, hqx] at hx9 ⊢
                      rw [hwx] at hb9
                      have hszx : b + 1 ≤ wx.heap.size := by have := hb9.size; omega
                      have e0 := hx9.cell 0 _ rfl
                      refine rg_start 13 ?_
                      refine rg_same fun p hx hne hC => ?_
                      refine rg_quiet 0 [0,1,2,3,4,5,6,7,8,9,10,11,12] hC ?_
                      simp only [pickD, List.map_cons, List.map_nil, List.getD_cons_zero, List.getD_cons_succ]; repeat (go_big_quiet_step (fail))
                      refine wpQuiet_nil ?_
                      refine rg_end ?_
                      clear hx hne hC
                      go_wp2_with (at_builtin; refine Stop.mk ?_)
                      refine Stop.out ?_
                      refine wpList_app u64_et rfl rfl (base := b + 1) rfl rfl ((htl.out.1.below (below_on hb9 ((Below.refl _ _).drew) (by simp [← hwx]))).below ((Below.refl _ _).alloc (Nat.le_refl _) _)) (SrcAt.one _ (.int .u64 pp.pn) _ rfl) (by simp only [maxLen]; omega) (by omega) (by simp; omega) ?_
                      intro tc cc w5 ho5 on5 hat
                      have HTL2 : Hid (TL x1 w5 (b + 1) ta tc (nb + 1) cc (T ++ pns (L.take (j + 1)))) := Lib.hid (by rw [HTS.out, ← List.append_assoc]; exact TL.app htl.out (below_on (below_on hb9 ((Below.refl _ _).drew) (by simp [← hwx])) ((Below.refl _ _).alloc (Nat.le_refl _) _) (by simp [← hwx])) ho5 on5 hat)
                      clear ho5 on5 hat htl
                      go_wp2_with (fail)
                      exact ⟨⟨j + 1, tc, nb + 1, cc, by go_num, rfl, by omega, Lib.hid (by have := hnb.out; omega), HTL2⟩, by simp [intOf]; omega⟩
                    · obtain ⟨j', rfl⟩ : ∃ j', j = j' + 1 := ⟨j - 1, by omega⟩
                      clear hj0
                      obtain ⟨gb2, go2, hga2, hgb2, p2, hpe2, hpm2, f0, _⟩ := hps.at_ (i := j') (by omega)
                      cases hga2
                      have hasc := asc_next K1.out.oa (i := j') hjO
                      rw [hpe, hpe2] at hasc
                      have hk1 : ((j' + 1 : Nat) : Int) - 1 = (j' : Int) := by omega
                      have hdec : decide (pp.pn ≤ p2.pn) = false := by simp; omega
                      go_wp2_with (fail)
                      obtain ⟨wx, hwx⟩ : ∃ z, wr.alloc (.cells #[.int .u64 pp.pn, .int .u64 pp.at_, .int .u64 pp.size, .bool pp.el, .int .u64 pp.after, .slice pp.fa pp.fn pp.fc] 69) = z := ⟨_, rfl⟩
                      obtain ⟨qx, hqx⟩ : ∃ z, wr.heap.size = z := ⟨_, rfl⟩
                      have f1 := (hb9.cell (p := ⟨gb, go + j' * 6, none⟩) hgb).trans f0
                      rw [hwx, hqx] at hx9 ⊢
                      rw [hwx] at hb9 f1
                      have hszx : b + 1 ≤ wx.heap.size := by have := hb9.size; omega
                      have e0 := hx9.cell 0 _ rfl
                      refine rg_start 13 ?_
                      refine rg_same fun p hx hne hC => ?_
                      refine rg_quiet 0 [0,1,2,3,4,5,6,7,8,9,10,11,12] hC ?_
                      simp only [pickD, List.map_cons, List.map_nil, List.getD_cons_zero, List.getD_cons_succ]; repeat (go_big_quiet_step (fail))
                      refine wpQuiet_nil ?_
                      refine rg_end ?_
                      clear hx hne hC
                      go_wp2_with (at_builtin; refine Stop.mk ?_)
                      refine Stop.out ?_
                      refine wpList_app u64_et rfl rfl (base := b + 1) rfl rfl ((htl.out.1.below (below_on hb9 ((Below.refl _ _).drew) (by simp [← hwx]))).below ((Below.refl _ _).alloc (Nat.le_refl _) _)) (SrcAt.one _ (.int .u64 pp.pn) _ rfl) (by simp only [maxLen]; omega) (by omega) (by simp; omega) ?_
                      intro tc cc w5 ho5 on5 hat
                      have HTL2 : Hid (TL x1 w5 (b + 1) ta tc (nb + 1) cc (T ++ pns (L.take ((j' + 1) + 1)))) := Lib.hid (by rw [HTS.out, ← List.append_assoc]; exact TL.app htl.out (below_on (below_on hb9 ((Below.refl _ _).drew) (by simp [← hwx])) ((Below.refl _ _).alloc (Nat.le_refl _) _) (by simp [← hwx])) ho5 on5 hat)
                      clear ho5 on5 hat htl
                      go_wp2_with (fail)
                      exact ⟨⟨j' + 1 + 1, tc, nb + 1, cc, by go_num, rfl, by omega, Lib.hid (by have := hnb.out; omega), HTL2⟩, by simp [intOf]; omega⟩
                  · obtain rfl : no = j := by omega
                    have htl2 := htl.out
                    rw [show (L).take no = L by rw [HON.out, List.take_length]] at htl2
                    obtain ⟨a9, n9, c9, hB9, hn9, hP9, hne9⟩ := K1.out.ss
                    have hbt9 : ¬ Bk ta b := fun ⟨y, hy, he⟩ => by have := (K1.out.td.block hy).1; omega
                    have hS9 := htl2.2.1.blk (show Blk x1 b _ _ from hB9) hbt9
                    have hP92 := hP9.only2 htl2.2.1 (fun x hx h0 => fun ⟨y, hy, he⟩ => (hne9 x hx h0).2 y (.inr hy) he.symm)
                    have HTL := Lib.hid htl2
                    have HPL := Lib.hid hP9
                    have HNE := Lib.hid hne9
                    have HNN := Lib.hid hn9
                    have HSB9 := Lib.hid hB9
                    have p0 := hS9.cell 0 _ rfl
                    have hn96 : n9 ≤ 601 := by have := K1.out.si.len; have := K1.out.cnt; omega
                    clear htl htl2 hP92 hP9 hne9 hn9 hB9 hS9
                    go_wp2_with (fail)
                    clear p0
                    go_loopw [5, 16, 121] (fun s _ i wr => ∃ (j : Nat) (tb : Option Addr) (nb cb : Nat), i = .int .i64 j ∧ s = .slice tb nb cb ∧ j ≤ n9 ∧ Hid (nb = nt + no + j) ∧ Hid (TL x1 wr (b + 1) ta tb nb cb (T ++ pns L ++ pns (([] : List Pk).take j)))) (fun _ _ i _ => n9 - (intOf i).toNat)
                    case atStart => exact ⟨0, tb, nb, cb, rfl, rfl, by omega, Lib.hid (by have := hnb.out; omega), Lib.hid (by simpa [pns] using HTL.out)⟩
                    case round =>
                      clear HTL
                      obtain ⟨j, tb, nb, cb, rfl, rfl, hj, hnb, htl⟩ := hrel
                      have hnb2 : nb ≤ 1910 := by have := hnb.out; omega
                      have hps := HPL.out.only2 htl.out.2.1 (fun x hx h0 => fun ⟨y, hy, he⟩ => (HNE.out x hx h0).2 y (.inr hy) he.symm)
                      by_cases hlt3 : j < n9
                      · have hjO : j < (([] : List Pk)).length := by have := HNN.out; omega
                        obtain ⟨gb, go, hga, hgb, pp, hpe, hpm, d0, d1, d2, d3, d4, d5, i0, i1, i2, i4⟩ := hps.at_ hjO
                        have hts := pns_take_succ hjO
                        rw [hpe] at hts
                        have HTS := Lib.hid hts
                        have hsz9 := htl.out.2.1.size
                        have hbase := K1.out.bw
                        have hb9 : Below wr.heap.size wr (wr.alloc (.cells #[.int .u64 pp.pn, .int .u64 pp.at_, .int .u64 pp.size, .bool pp.el, .int .u64 pp.after, .slice pp.fa pp.fn pp.fc] 69)) := (Below.refl _ _).alloc (Nat.le_refl _) _
                        cases hga
                        have wx9 : True := trivial
                        go_wp2_with (at_builtin; refine Stop.mk ?_)
                        refine Stop.out ?_
                        refine wpList_app u64_et rfl rfl (base := b + 1) rfl rfl ((htl.out.1.below hb9).below ((Below.refl _ _).alloc (Nat.le_refl _) _)) (news := [.int .u64 pp.pn]) (by simpa using SrcAt.one (wr.alloc (.cells #[.int .u64 pp.pn, .int .u64 pp.at_, .int .u64 pp.size, .bool pp.el, .int .u64 pp.after, .slice pp.fa pp.fn pp.fc] 69)) (.int .u64 pp.pn) 28 rfl) (by simp only [maxLen]; omega) (by omega) (by simp; omega) ?_
                        intro tc cc w5 ho5 on5 hat
                        have HTL2 : Hid (TL x1 w5 (b + 1) ta tc (nb + 1) cc (T ++ pns L ++ pns (([] : List Pk).take (j + 1)))) := Lib.hid (by rw [HTS.out, ← List.append_assoc]; exact TL.app htl.out (below_on hb9 ((Below.refl _ _).alloc (Nat.le_refl _) _) (by simp)) ho5 on5 hat)
                        clear ho5 on5 hat htl
                        go_wp2_with (fail)
                        exact ⟨⟨j + 1, tc, nb + 1, cc, rfl, rfl, by omega, Lib.hid (by have := hnb.out; omega), HTL2⟩, by simp [intOf]; omega⟩
                      · obtain rfl : n9 = j := by omega
                        have htl2 := htl.out
                        rw [show (([] : List Pk)).take n9 = ([] : List Pk) by rw [HNN.out, List.take_length]] at htl2
                        have hperm := K1.out.si.perm
                        have htw := K1.out.si.twf
                        have haw := K1.out.si.awf
                        have hsA := (OwnS.sl (L := A) (K1.out.ad.only htl2.2.1 (fun x hx ⟨y, hy, he⟩ => K1.out.ne x y hx hy he.symm)) (fun x hx => u64_wf (haw x hx).1 (haw x hx).2)).2
                        have hsT := (OwnS.sl (L := T ++ pns L ++ pns ([] : List Pk)) htl2.1 (fun x hx => u64_wf (htw x hx).1 (htw x hx).2)).2
                        have hsame := same15_any tb aa nb na cb ca (T ++ pns L ++ pns ([] : List Pk)) A wr (ints_len htl2.1) (ints_len K1.out.ad) hsT hsA hperm K1.out.si.nd (by have := ints_len htl2.1; omega)
                        have HSM := Lib.hid hsame
                        have HTL3 := Lib.hid htl2
                        have hbt9 : ¬ Bk ta b := fun ⟨y, hy, he⟩ => by have := (K1.out.td.block hy).1; omega
                        have hS9 := htl2.2.1.blk (show Blk x1 b _ _ from HSB9.out) hbt9
                        have hBW3 := TL.below0 K1.out htl2 BW1.out hwb
                        have HBW3 := Lib.hid hBW3
                        have HS9 := Lib.hid hS9
                        have hmm : n9 ≤ nb := by have := hnb.out; omega
                        clear hperm htw haw hsA hsT hsame htl2 htl hps hS9 hBW3
                        go_wp2_with (fail)
                        refine HSM.out.mono ?_
                        rintro e wz ⟨hbz, rfl⟩
                        have p0 := (HS9.out.below hbz).cell 0 _ rfl
                        have hfin := fun (m : Nat) hm => Mid.done K1.out HTL3.out hbz (m := m) hm
                        have HFIN := Lib.hid hfin
                        have HOWN := Lib.hid (HTL3.out.1.below hbz)
                        have hbw4 := below_on HBW3.out hbz HBW3.out.size
                        have HBW4 := Lib.hid hbw4
                        clear hfin hbz hbw4
                        go_wp2_with (with_reducible refine stop_cut ?_)
                        refine Stop.out ?_
                        refine wpList_cut_own u64_et rfl rfl rfl rfl HOWN.out (nt + no) (by have := hnb.out; omega) (by have := hnb.out; omega) ?_
                        clear p0
                        go_wp2_with (fail)
                        exact ⟨⟨k + 1, aa, na, ca, tb, nt + no, cb, ([] : List Pk), has, lg, 0, lt, top, A, T ++ pns L, by go_num, rfl, rfl, rfl, rfl, by omega, HBW4.out, Lib.hid (HFIN.out _ (by have h7 := HON.out; have h8 := ints_len K1.out.td; omega))⟩, by simp [intOf]; omega⟩
              · have e0 : (kind == 0) = false := by simpa using hk0
                have e1 : (kind == 1) = false := by simpa using hk1
                have e2 : (kind == 2) = false := by simpa using hk2
                have e3 : (kind == 3) = false := by simpa using hk3
                have K1 := Lib.hid HII.out.mid0
                go_wp2_with (fail)
                rw [HWB.out]
                clear HII HBX HWB HQ
                have HPS := Lib.hid K1.out.op
                have HON := Lib.hid K1.out.on
                have hnt9 : nt ≤ 601 := by omega
                go_loopw [5, 13, 14, 91] (fun s _ _ i wr => ∃ (j : Nat) (tb : Option Addr) (nb cb : Nat), i = .int .i64 j ∧ s = .slice tb nb cb ∧ j ≤ 0 ∧ Hid (nb = nt + j) ∧ Hid (TL wB wr (b + 1) ta tb nb cb (T ++ pns (([] : List Pk).take j)))) (fun _ _ _ i _ => 0 - (intOf i).toNat)
                case atStart => exact ⟨0, ta, nt, ct, rfl, rfl, by omega, Lib.hid (by omega), Lib.hid (by simpa [pns] using TL.start (ta := ta) K1.out.td)⟩
                case round =>
                  obtain ⟨j, tb, nb, cb, rfl, rfl, hj, hnb, htl⟩ := hrel
                  have hnb2 : nb ≤ 1300 := by have := hnb.out; omega
                  · have hjz : Hid (j = 0) := Lib.hid (by omega)
                    have htl2 := htl.out
                    rw [show (([] : List Pk)).take j = ([] : List Pk) by simp] at htl2
                    obtain ⟨a9, n9, c9, hB9, hn9, hP9, hne9⟩ := K1.out.ss
                    have hbt9 : ¬ Bk ta b := fun ⟨y, hy, he⟩ => by have := (K1.out.td.block hy).1; omega
                    have hS9 := htl2.2.1.blk (show Blk wB b _ _ from hB9) hbt9
                    have hP92 := hP9.only2 htl2.2.1 (fun x hx h0 => fun ⟨y, hy, he⟩ => (hne9 x hx h0).2 y (.inr hy) he.symm)
                    have HTL := Lib.hid htl2
                    have HPL := Lib.hid hP9
                    have HNE := Lib.hid hne9
                    have HNN := Lib.hid hn9
                    have HSB9 := Lib.hid hB9
                    have p0 := hS9.cell 0 _ rfl
                    have hn96 : n9 ≤ 601 := by have := K1.out.si.len; have := K1.out.cnt; omega
                    clear htl htl2 hP92 hP9 hne9 hn9 hB9 hS9
                    go_wp2_with (fail)
                    clear p0
                    go_loopw [5, 16, 121] (fun s _ i wr => ∃ (j : Nat) (tb : Option Addr) (nb cb : Nat), i = .int .i64 j ∧ s = .slice tb nb cb ∧ j ≤ n9 ∧ Hid (nb = nt + j) ∧ Hid (TL wB wr (b + 1) ta tb nb cb (T ++ pns ([] : List Pk) ++ pns (L.take j)))) (fun _ _ i _ => n9 - (intOf i).toNat)
                    case atStart => exact ⟨0, tb, nb, cb, rfl, rfl, by omega, Lib.hid (by have := hnb.out; omega), Lib.hid (by simpa [pns] using HTL.out)⟩
                    case round =>
                      clear HTL
                      obtain ⟨j, tb, nb, cb, rfl, rfl, hj, hnb, htl⟩ := hrel
                      have hnb2 : nb ≤ 1910 := by have := hnb.out; omega
                      have hps := HPL.out.only2 htl.out.2.1 (fun x hx h0 => fun ⟨y, hy, he⟩ => (HNE.out x hx h0).2 y (.inr hy) he.symm)
                      by_cases hlt3 : j < n9
                      · have hjO : j < (L).length := by have := HNN.out; omega
                        obtain ⟨gb, go, hga, hgb, pp, hpe, hpm, d0, d1, d2, d3, d4, d5, i0, i1, i2, i4⟩ := hps.at_ hjO
                        have hts := pns_take_succ hjO
                        rw [hpe] at hts
                        have HTS := Lib.hid hts
                        have hsz9 := htl.out.2.1.size
                        have hbase := K1.out.bw
                        have hb9 : Below wr.heap.size wr (wr.alloc (.cells #[.int .u64 pp.pn, .int .u64 pp.at_, .int .u64 pp.size, .bool pp.el, .int .u64 pp.after, .slice pp.fa pp.fn pp.fc] 69)) := (Below.refl _ _).alloc (Nat.le_refl _) _
                        cases hga
                        have wx9 : True := trivial
                        go_wp2_with (at_builtin; refine Stop.mk ?_)
                        refine Stop.out ?_
                        refine wpList_app u64_et rfl rfl (base := b + 1) rfl rfl ((htl.out.1.below hb9).below ((Below.refl _ _).alloc (Nat.le_refl _) _)) (news := [.int .u64 pp.pn]) (by simpa using SrcAt.one (wr.alloc (.cells #[.int .u64 pp.pn, .int .u64 pp.at_, .int .u64 pp.size, .bool pp.el, .int .u64 pp.after, .slice pp.fa pp.fn pp.fc] 69)) (.int .u64 pp.pn) 28 rfl) (by simp only [maxLen]; omega) (by omega) (by simp; omega) ?_
                        intro tc cc w5 ho5 on5 hat
                        have HTL2 : Hid (TL wB w5 (b + 1) ta tc (nb + 1) cc (T ++ pns ([] : List Pk) ++ pns (L.take (j + 1)))) := Lib.hid (by rw [HTS.out, ← List.append_assoc]; exact TL.app htl.out (below_on hb9 ((Below.refl _ _).alloc (Nat.le_refl _) _) (by simp)) ho5 on5 hat)
                        clear ho5 on5 hat htl
                        go_wp2_with (fail)
                        exact ⟨⟨j + 1, tc, nb + 1, cc, rfl, rfl, by omega, Lib.hid (by have := hnb.out; omega), HTL2⟩, by simp [intOf]; omega⟩
                      · obtain rfl : n9 = j := by omega
                        have htl2 := htl.out
                        rw [show (L).take n9 = L by rw [HNN.out, List.take_length]] at htl2
                        have hperm := K1.out.si.perm
                        have htw := K1.out.si.twf
                        have haw := K1.out.si.awf
                        have hsA := (OwnS.sl (L := A) (K1.out.ad.only htl2.2.1 (fun x hx ⟨y, hy, he⟩ => K1.out.ne x y hx hy he.symm)) (fun x hx => u64_wf (haw x hx).1 (haw x hx).2)).2
                        have hsT := (OwnS.sl (L := T ++ pns ([] : List Pk) ++ pns L) htl2.1 (fun x hx => u64_wf (htw x hx).1 (htw x hx).2)).2
                        have hsame := same15_any tb aa nb na cb ca (T ++ pns ([] : List Pk) ++ pns L) A wr (ints_len htl2.1) (ints_len K1.out.ad) hsT hsA hperm K1.out.si.nd (by have := ints_len htl2.1; omega)
                        have HSM := Lib.hid hsame
                        have HTL3 := Lib.hid htl2
                        have hbt9 : ¬ Bk ta b := fun ⟨y, hy, he⟩ => by have := (K1.out.td.block hy).1; omega
                        have hS9 := htl2.2.1.blk (show Blk wB b _ _ from HSB9.out) hbt9
                        have hBW3 := TL.below0 K1.out htl2 HBW.out hwb
                        have HBW3 := Lib.hid hBW3
                        have HS9 := Lib.hid hS9
                        have hmm : n9 ≤ nb := by have := hnb.out; omega
                        clear hperm htw haw hsA hsT hsame htl2 htl hps hS9 hBW3
                        go_wp2_with (fail)
                        refine HSM.out.mono ?_
                        rintro e wz ⟨hbz, rfl⟩
                        have p0 := (HS9.out.below hbz).cell 0 _ rfl
                        have hfin := fun (m : Nat) hm => Mid.done K1.out HTL3.out hbz (m := m) hm
                        have HFIN := Lib.hid hfin
                        have HOWN := Lib.hid (HTL3.out.1.below hbz)
                        have hbw4 := below_on HBW3.out hbz HBW3.out.size
                        have HBW4 := Lib.hid hbw4
                        clear hfin hbz hbw4
                        go_wp2_with (with_reducible refine stop_cut ?_)
                        refine Stop.out ?_
                        refine wpList_cut_own u64_et rfl rfl rfl rfl HOWN.out (nt) (by have := hnb.out; omega) (by have := hnb.out; omega) ?_
                        clear p0
                        go_wp2_with (fail)
                        exact ⟨⟨k + 1, aa, na, ca, tb, nt, cb, L, has, lg, lk, lt, top, A, T ++ pns ([] : List Pk), by go_num, rfl, rfl, rfl, rfl, by omega, HBW4.out, Lib.hid (HFIN.out _ (by have h7 := HON.out; have h8 := ints_len K1.out.td; omega))⟩, by simp [intOf]; omega⟩
      · obtain rfl : nD = k := by omega
        go_wp2_with (fail)
        refine (stworks_any wr).mono ?_
        rintro e w3 ⟨rfl, hb⟩
        go_wp2_with (fail)
        go_returns
        exact ⟨rfl, below_on bw hb bw.size⟩

set_option maxRecDepth 100000 in
theorem walk_SentOnce (H : Type) (enc : TypeId × Value → H) (w : World) (base : Nat) (v0 : Value) (d0 : DataW H) (p0 : List MemPlace)
    (o0 : Value.okWide Try.prog w .any base 59 v0) (h0 : DataW.Trod enc Try.prog w 0 (fun _ => true) true 59 v0 d0 p0) (z0 : Sized Try.prog 59 d0) :
    Calls Try.prog 10 #[v0] w fun e w' => e = .returned (.bool true) ∧ Below w.heap.size w w' := by
  obtain ⟨a, D, cap, rfl, hm, hD⟩ := open_do15 h0 z0 o0
  exact sent_law a cap D w hm hD
end Go.Proofs.Ytidfimpchbkppaa
