/- HeardOnce: the law walked. -/
import Derived.Test.YtidfimpchbkppaaHd2
import Derived.Test.YtidfimpchbkppaaHd4
import Derived.Test.YtidfimpchbkppaaRf14
import Derived.Test.YtidfimpchbkppaaRgM
namespace Go.Proofs.Ytidfimpchbkppaa
open Go.RowKit
set_option linter.unusedVariables false

theorem hd_mixed : Try.prog.follows .mixedOrders = true := by kernel_rfl
theorem hd_goes : Rf.runs Try.prog 34 100000 = true := by kernel_rfl
theorem hdworks_any (w : World) : Calls Try.prog 34 #[] w fun e w' => e = .returned (.bool true) ∧ Below w.heap.size w w' := Rf.runs_true hd_mixed hd_goes w
theorem cut_none {P C M : List Rg} (hs : ∀ n, inB P n = true → inB C n = true) (h : IsNf (fun n => (inB P n && !inB C n) = true) M) : M = [] := nf_nil11 (h.congr fun n => by
  have := hs n
  cases h1 : inB P n <;> cases h2 : inB C n <;> simp_all)
/-- What the loop keeps. -/
structure HeardInv (w : World) (b : Nat) (a : Option Addr) (n c : Nat) (L : List Rg) (fl : Int) (C : List Rg) (k : Nat) : Prop where
  hh : HH w b L fl
  rc : Rs w a c C
  ne : ∀ x, a = some x → x.block ≠ b
  len : n = C.length
  small : C.length ≤ k
  inv : HI L fl C

set_option maxRecDepth 100000 in
set_option maxHeartbeats 16000000 in
theorem heard_law (a : Option Addr) (cap : Nat) (D : List DoR) (w : World) (hm : D.length ≤ maxLen) (hD : DoAt w a D) :
    Calls Try.prog 9 #[.slice a D.length cap] w fun e w' => e = .returned (.bool true) ∧ Below w.heap.size w w' := by
  unfold maxLen at hm
  have HD := Lib.hid hD
  clear hD
  obtain ⟨nD, hnD⟩ : ∃ n, D.length = n := ⟨_, rfl⟩
  rw [hnD] at hm ⊢
  have ND := Lib.hid hnD
  clear hnD
  go_enter Try.func9, Try.ntmps9
  go_wp2_with (fail)
  refine (heavy_any a _ cap D w ND.out.symm (by rw [ND.out]; omega) HD.out).mono ?_
  rintro e w1 ⟨hb1, v, rfl, hv⟩
  have HV := Lib.hid hv
  have X1 := Lib.hid hb1
  clear hb1 hv
  cases v with
  | true =>
    go_wp2_with (fail)
    refine (hdworks_any w1).mono ?_
    rintro e w2 ⟨rfl, hb⟩
    go_wp2_with (fail)
    go_returns
    exact ⟨rfl, below_on X1.out hb X1.out.size⟩
  | false =>
    obtain ⟨hD3, hpn⟩ := HV.out rfl
    have HPN := Lib.hid hpn
    have hnd : nD ≤ 300 := by rw [← ND.out]; exact hD3
    have HD1 := Lib.hid (HD.out.below X1.out)
    clear hD3 hpn HV HD
    go_wp2_with (fail)
    have hbz := Blk.new w1 #[.slice none 0 0, .int .u64 0, .int .u64 0, .int .u64 0, .int .u64 0, .int .u64 0] 43
    have hI0 : HeardInv (w1.alloc (.cells #[.slice none 0 0, .int .u64 0, .int .u64 0, .int .u64 0, .int .u64 0, .int .u64 0] 43)) w1.heap.size none 0 0 [] 0 [] 0 :=
      ⟨⟨none, 0, 0, 0, 0, 0, hbz, Rs.nil _, (fun x hx => nomatch hx), by unfold u64b; omega, by unfold u64b; omega, by unfold u64b; omega, by unfold u64b; omega, by unfold u64b; omega⟩, Rs.nil _, (fun x hx => nomatch hx), rfl, by simp, HI.start⟩
    obtain ⟨b, hbb⟩ : ∃ b, w1.heap.size = b := ⟨_, rfl⟩
    have hwb : w.heap.size ≤ b := by rw [← hbb]; exact X1.out.size
    have b2 : Below w.heap.size w (w1.alloc (.cells #[.slice none 0 0, .int .u64 0, .int .u64 0, .int .u64 0, .int .u64 0, .int .u64 0] 43)) := X1.out.alloc X1.out.size _
    have hd2 := HD1.out.below ((Below.refl w1.heap.size w1).alloc (Nat.le_refl _) (.cells #[.slice none 0 0, .int .u64 0, .int .u64 0, .int .u64 0, .int .u64 0, .int .u64 0] 43))
    have had : ∀ x, a = some x → 0 < D.length → x.block < b := fun x hx h0 => by
      obtain ⟨bb, off, ha, hlt, _⟩ := HD1.out 0 h0
      rw [hx] at ha
      cases ha
      rw [← hbb]; exact hlt
    obtain ⟨w2, hw2⟩ : ∃ z, w1.alloc (.cells #[.slice none 0 0, .int .u64 0, .int .u64 0, .int .u64 0, .int .u64 0, .int .u64 0] 43) = z := ⟨_, rfl⟩
    rw [hw2] at hI0 b2 hd2 ⊢
    rw [hbb] at hI0 ⊢
    have HI0 := Lib.hid hI0
    have X2 := Lib.hid b2
    have HD2 := Lib.hid hd2
    have HAD := Lib.hid had
    clear hI0 b2 hd2 hbz hw2 hbb HD1 X1 had
    go_loopw [4, 6, 7, 8, 10, 18] (fun o _ _ _ _ i wr => ∃ (k : Nat) (ac : Option Addr) (nc cc : Nat) (L : List Rg) (fl : Int) (C : List Rg), i = .int .i64 k ∧ o = .slice ac nc cc ∧ k ≤ nD ∧ Only (· = b) w2 wr ∧ Hid (HeardInv wr b ac nc cc L fl C k)) (fun _ _ _ _ _ i _ => nD - (intOf i).toNat)
    case atStart => exact ⟨0, none, 0, 0, [], 0, [], rfl, rfl, by omega, Only.refl _ _, HI0⟩
    case round =>
      clear HI0
      obtain ⟨k, ac, nc, cc, L, fl, C, rfl, rfl, hk, bw, hok⟩ := hrel
      by_cases hlt : k < nD
      · obtain ⟨bb, off, ha, hb, c0, c1, c2, c3, c4, h0, h1, h3, h4⟩ := HD2.out k (by rw [ND.out]; exact hlt)
        have hbbb : bb < b := HAD.out ⟨bb, off, none⟩ ha (by rw [ND.out]; omega)
        subst ha
        have hpn := HPN.out k (by rw [ND.out]; exact hlt)
        obtain ⟨r, hr⟩ : ∃ r, D.getD k default = r := ⟨_, rfl⟩
        rw [hr] at c0 c1 c2 c3 c4 h0 h1 h3 h4 hpn
        obtain ⟨kind, pn, wants, now, delay⟩ := r
        simp only at c0 c1 c2 c3 c4 h0 h1 h3 h4 hpn
        replace c0 := (bw.cell (p := ⟨bb, off + k * 5, none⟩) hb (by simp only; omega)).trans c0
        replace c1 := (bw.cell (p := ⟨bb, off + k * 5 + 1, none⟩) hb (by simp only; omega)).trans c1
        replace c2 := (bw.cell (p := ⟨bb, off + k * 5 + 2, none⟩) hb (by simp only; omega)).trans c2
        replace c3 := (bw.cell (p := ⟨bb, off + k * 5 + 3, none⟩) hb (by simp only; omega)).trans c3
        replace c4 := (bw.cell (p := ⟨bb, off + k * 5 + 4, none⟩) hb (by simp only; omega)).trans c4
        clear hr
        have hpb : 0 ≤ pn := h1.1
        obtain ⟨q, hq⟩ : ∃ q, wr.heap.size = q := ⟨_, rfl⟩
        have hbx := Blk.new wr #[.int .u8 kind, .int .u64 pn, .bool wants, .int .u64 now, .int .u64 delay] 58
        have hbA : Below wr.heap.size wr (wr.alloc (.cells #[.int .u8 kind, .int .u64 pn, .bool wants, .int .u64 now, .int .u64 delay] 58)) := (Below.refl _ _).alloc (Nat.le_refl _) _
        have hbq : b < q := by obtain ⟨_, _, _, _, _, _, hh, _⟩ := hok.out.hh; have := hh.lt; omega
        have hI : HeardInv (wr.alloc (.cells #[.int .u8 kind, .int .u64 pn, .bool wants, .int .u64 now, .int .u64 delay] 58)) b ac nc cc L fl C k := ⟨hok.out.hh.below hbA, hok.out.rc.below hbA, hok.out.ne, hok.out.len, hok.out.small, hok.out.inv⟩
        have hO : Only (· = b) w2 (wr.alloc (.cells #[.int .u8 kind, .int .u64 pn, .bool wants, .int .u64 now, .int .u64 delay] 58)) := bw.alloc _
        have hl := hok.out.small
        obtain ⟨wB, hwB⟩ : ∃ z, wr.alloc (.cells #[.int .u8 kind, .int .u64 pn, .bool wants, .int .u64 now, .int .u64 delay] 58) = z := ⟨_, rfl⟩
        rw [hwB, hq] at hbx
        rw [hwB] at hI hO
        have HBX := Lib.hid hbx
        have HII := Lib.hid hI
        have HOO := Lib.hid hO
        have HWB := Lib.hid hwB
        have HQ := Lib.hid hq
        have hnc := hok.out.len
        have hnc2 : nc ≤ 300 := by omega
        clear hbx hbA hI hO hwB hq hok bw hl hnc
        by_cases hk0 : kind = 0
        · subst hk0
          go_wp2_with (fail)
          rw [HWB.out, HQ.out]
          refine (hadd_any b L fl pn wants now delay wB HII.out.hh ⟨hpb, hpn⟩ h3 h4 HII.out.inv.len).mono ?_
          rintro e x1 ⟨ho1, hyes, hno⟩
          have hfr := fun h => HI.fresh (pn := pn) HII.out.inv h
          have hadd := fun {L' M C' : List Rg} {fl' : Int} h => HI.add (pn := pn) (L' := L') (M := M) (C' := C') (fl' := fl') HII.out.inv h
          obtain ⟨v, hv⟩ : ∃ v, (decide (pn < fl) || inB L pn) = v := ⟨_, rfl⟩
          rw [hv] at hyes hno hfr
          have HRC1 : Hid (Rs x1 ac cc C) := Lib.hid (HII.out.rc.only ho1 (fun x hx _ => HII.out.ne x hx))
          have HO1 : Hid (Only (· = b) w2 x1) := Lib.hid (HOO.out.trans ho1)
          have hbx1 := ho1.blk HBX.out (by omega)
          cases v with
          | true =>
            obtain ⟨rfl, hh1⟩ := hyes rfl
            have J1 : Hid (HeardInv x1 b ac nc cc L fl C (k + 1)) := Lib.hid ⟨hh1, HRC1.out, HII.out.ne, HII.out.len, by have := HII.out.small; omega, HII.out.inv⟩
            clear hyes hno hfr hadd hv hh1 ho1 hbx1 HRC1 HBX HII HOO HWB HQ
            go_wp2_with (fail)
            obtain ⟨aL, cL, _, _, _, _, hbh, hRL, hneL, g1, g2, g3, g4, g5⟩ := J1.out.hh
            have p0 := hbh.cell 0 _ rfl
            have p1 := hbh.cell 1 _ rfl
            have hblt := hbh.lt
            have hl64 := J1.out.inv.len
            have hlow := J1.out.inv.low
            have hnl := J1.out.inv.nl
            obtain ⟨nL, hnL⟩ : ∃ n, L.length = n := ⟨_, rfl⟩
            rw [hnL] at p0 hl64
            have HNL := Lib.hid hnL
            have HRL := Lib.hid hRL
            have hA1 : decide (64 < nL) = false := by simp; omega
            have hA2 : decide ((64 : Int) < (nL : Int)) = false := by simp; omega
            have hat := fun (h : 0 < L.length) => hRL.at_ h
            have hlow0 := fun (h : 0 < L.length) => (show fl ≤ (L.getD 0 default).1 by
              refine hlow _ ?_
              rw [inB_iff]
              have h2 := (neat_iff (hRL.bnd)).1 hnl 0 h
              exact ⟨L.getD 0 default, by simp [h], Int.le_refl _, h2.1⟩)
            rw [hnL] at hat hlow0
            have HAT := Lib.hid hat
            have HLW := Lib.hid hlow0
            clear hbh hRL hneL hlow hnl hnL hat hlow0 g1 g2 g3 g4 g5
            refine rg_start 52 ?_
            refine rg_same fun p hx hne hC => ?_
            refine rg_quiet 39 [0, 1, 2, 3, 4, 5, 6, 7, 8, 9, 10, 11, 12] hC ?_
            simp only [pickD, List.map_cons, List.map_nil, List.getD_cons_zero, List.getD_cons_succ]; repeat (go_big_quiet_step (fail))
            refine wpQuiet_nil ?_
            refine rg_cutM 13 ?_
            clear hx hne hC
            go_wp2_with (fail)
            refine (neat_any aL nL cL L _ HNL.out.symm (HRL.out.below (Below.refl _ _).drew)).mono ?_
            rintro e u1 ⟨hb1, v, rfl, hv⟩
            obtain rfl : v = true := hv.2 J1.out.inv.nl
            have BU1 : Hid (Below x1.heap.size x1 u1) := Lib.hid (below_on ((Below.refl _ _).drew) hb1 (Nat.le_refl _))
            have p0' := (BU1.out.cell (p := ⟨b, 0, none⟩) hblt).trans p0
            have p1' := (BU1.out.cell (p := ⟨b, 1, none⟩) hblt).trans p1
            clear hb1 hv
            go_wp2_with (fail)
            refine rg_same fun p hx hne hC => ?_
            refine rg_quiet 29 [14, 15, 16, 17, 18, 19, 20, 21, 22] hC ?_
            simp only [pickD, List.map_cons, List.map_nil, List.getD_cons_zero, List.getD_cons_succ]; repeat (go_big_quiet_step (fail))
            refine wpQuiet_nil ?_
            refine rg_cutM 23 ?_
            clear hx hne hC
            go_wp2_with (fail)
            refine (cut_any aL ac nL nc cL cc L C _ HNL.out.symm J1.out.len (HRL.out.below BU1.out) (J1.out.rc.below BU1.out) (by have := HNL.out; omega) (by have := J1.out.small; omega)).mono ?_
            rintro e u2 ⟨hb2, a9, c9, M9, rfl, ho9, hM9, hn9, hl9⟩
            obtain rfl : M9 = [] := cut_none J1.out.inv.sub hn9
            have BU2 : Hid (Below x1.heap.size x1 u2) := Lib.hid (below_on BU1.out hb2 BU1.out.size)
            have p0'' := (BU2.out.cell (p := ⟨b, 0, none⟩) hblt).trans p0
            have p1'' := (BU2.out.cell (p := ⟨b, 1, none⟩) hblt).trans p1
            clear hb2 ho9 hM9 hn9 hl9 p0' p1'
            simp only [List.length_nil]
            go_wp2_with (fail)
            have HH2 : Hid (HH u2 b L fl) := Lib.hid (J1.out.hh.below BU2.out)
            rcases Nat.eq_zero_or_pos nL with hz | hz
            · have hB2 : decide (0 < nL) = false := by simp; omega
              have hB3 : decide ((0 : Int) < (nL : Int)) = false := by simp; omega
              have HZ := Lib.hid hz
              clear hz
              refine rg_same fun p hx hne hC => ?_
              refine rg_quiet 0 [24, 25, 26, 27, 28, 29, 30, 31, 32, 33, 34, 35, 36, 37, 38, 39, 40, 41, 42, 43, 44, 45, 46, 47, 48, 49, 50, 51] hC ?_
              simp only [pickD, List.map_cons, List.map_nil, List.getD_cons_zero, List.getD_cons_succ]; repeat (go_big_quiet_step (fail))
              refine wpQuiet_nil ?_
              refine rg_end ?_
              clear hx hne hC
              go_wp2_with (fail)
              clear HAT HLW p0 p1 p0'' p1'' hA1 hA2
              go_loopw [10, 137] (fun _ j w' => ∃ m : Nat, j = .int .i64 m ∧ m ≤ nc ∧ Below x1.heap.size x1 w') (fun _ j _ => nc - (intOf j).toNat)
              case atStart => exact ⟨0, rfl, by omega, BU2.out⟩
              case round =>
                obtain ⟨m, rfl, hm2, bm⟩ := hrel
                by_cases hlt2 : m < nc
                · obtain ⟨cb, co, hca, hcb, s1, s2⟩ := (J1.out.rc.below bm).at_ (i := m) (by have := J1.out.len; omega)
                  have hbdm := J1.out.rc.bnd.getD (i := m) (by have := J1.out.len; omega)
                  have hnem := (neat_iff J1.out.rc.bnd).1 J1.out.inv.nc m (by have := J1.out.len; omega)
                  have hin1 : inB C (C.getD m default).1 = true := by
                    rw [inB_iff]
                    exact ⟨C.getD m default, by have := J1.out.len; simp [show m < C.length by omega], Int.le_refl _, hnem.1⟩
                  have hin2 : inB C ((C.getD m default).2 - 1) = true := by
                    rw [inB_iff]
                    exact ⟨C.getD m default, by have := J1.out.len; simp [show m < C.length by omega], by have := hnem.1; omega, by omega⟩
                  have hlt3 := hnem.1
                  have hcv1 := J1.out.inv.cov _ hin1
                  have hcv2 := J1.out.inv.cov _ hin2
                  obtain ⟨r, hr⟩ : ∃ r, C.getD m default = r := ⟨_, rfl⟩
                  rw [hr] at s1 s2 hbdm hin1 hin2 hlt3 hcv1 hcv2
                  have hq1 : (decide (r.1 < fl) || inB L r.1) = true := by rcases hcv1 with h | h <;> simp [h]
                  have hq2 : (decide (r.2 - 1 < fl) || inB L (r.2 - 1)) = true := by rcases hcv2 with h | h <;> simp [h]
                  have hw1 : IntKind.u64.wrap (r.2 - 1) = r.2 - 1 := by rw [IntKind.wrap_u64]; omega
                  have hcm1 := fun W (hW : Below x1.heap.size x1 W) => hcame_any b L fl r.1 W (J1.out.hh.below hW) (by unfold u64b; omega)
                  have hcm2 := fun W (hW : Below x1.heap.size x1 W) => hcame_any b L fl (r.2 - 1) W (J1.out.hh.below hW) (by unfold u64b; omega)
                  simp only [hq1] at hcm1
                  simp only [hq2] at hcm2
                  have HC1 := Lib.hid hcm1
                  have HC2 := Lib.hid hcm2
                  have bx : Below x1.heap.size x1 (wr.alloc (.cells #[.int .u64 r.1, .int .u64 r.2] 31)) := bm.alloc bm.size _
                  have hbxx := Blk.new wr #[.int .u64 r.1, .int .u64 r.2] 31
                  clear hr hnem hin1 hin2 hcv1 hcv2 hq1 hq2 hcm1 hcm2
                  cases hca
                  go_wp2_with (fail)
                  refine (HC1.out _ bx).mono ?_
                  rintro e v1 ⟨hv1, rfl⟩
                  have bv1 : Below x1.heap.size x1 v1 := below_on bx hv1 bx.size
                  have hbx1 := hbxx.below hv1
                  have z2 := hbx1.cell 1 _ rfl
                  clear hv1 hbxx
                  go_wp2_with (fail)
                  refine (HC2.out _ bv1).mono ?_
                  rintro e v2 ⟨hv2, rfl⟩
                  have bv2 : Below x1.heap.size x1 v2 := below_on bv1 hv2 bv1.size
                  clear hv2
                  go_wp2_with (fail)
                  exact ⟨⟨m + 1, by go_num, by omega, bv2⟩, by simp [intOf]; omega⟩
                · obtain rfl : nc = m := by omega
                  go_wp2_with (fail)
                  exact ⟨⟨k + 1, ac, nc, cc, L, fl, C, by go_num, rfl, by omega, HO1.out.trans (onlyb_below bm), Lib.hid ⟨J1.out.hh.below bm, J1.out.rc.below bm, J1.out.ne, J1.out.len, J1.out.small, J1.out.inv⟩⟩, by simp [intOf]; omega⟩
            · obtain ⟨g, og, hga, hgl, t1, t2⟩ := HAT.out hz
              have t1' := (BU2.out.cell (p := ⟨g, og + 0 * 2, none⟩) hgl).trans t1
              have hlw := HLW.out hz
              obtain ⟨x0, hx0⟩ : ∃ x, (L.getD 0 default).1 = x := ⟨_, rfl⟩
              rw [hx0] at t1' hlw
              simp only [Nat.zero_mul, Nat.add_zero] at t1'
              have hB1 : decide (x0 < fl) = false := by simp; omega
              have hB2 : decide (0 < nL) = true := by simp; omega
              have hB3 : decide ((0 : Int) < (nL : Int)) = true := by simp; omega
              rw [hga] at p0''
              clear t1 t2 hx0 hga
              refine rg_same fun p hx hne hC => ?_
              refine rg_quiet 0 [24, 25, 26, 27, 28, 29, 30, 31, 32, 33, 34, 35, 36, 37, 38, 39, 40, 41, 42, 43, 44, 45, 46, 47, 48, 49, 50, 51] hC ?_
              simp only [pickD, List.map_cons, List.map_nil, List.getD_cons_zero, List.getD_cons_succ]; repeat (go_big_quiet_step (fail))
              refine wpQuiet_nil ?_
              refine rg_end ?_
              clear hx hne hC
              go_wp2_with (fail)
              clear HAT HLW p0 p1 p0'' p1'' hA1 hA2
              go_loopw [10, 137] (fun _ j w' => ∃ m : Nat, j = .int .i64 m ∧ m ≤ nc ∧ Below x1.heap.size x1 w') (fun _ j _ => nc - (intOf j).toNat)
              case atStart => exact ⟨0, rfl, by omega, BU2.out⟩
              case round =>
                obtain ⟨m, rfl, hm2, bm⟩ := hrel
                by_cases hlt2 : m < nc
                · obtain ⟨cb, co, hca, hcb, s1, s2⟩ := (J1.out.rc.below bm).at_ (i := m) (by have := J1.out.len; omega)
                  have hbdm := J1.out.rc.bnd.getD (i := m) (by have := J1.out.len; omega)
                  have hnem := (neat_iff J1.out.rc.bnd).1 J1.out.inv.nc m (by have := J1.out.len; omega)
                  have hin1 : inB C (C.getD m default).1 = true := by
                    rw [inB_iff]
                    exact ⟨C.getD m default, by have := J1.out.len; simp [show m < C.length by omega], Int.le_refl _, hnem.1⟩
                  have hin2 : inB C ((C.getD m default).2 - 1) = true := by
                    rw [inB_iff]
                    exact ⟨C.getD m default, by have := J1.out.len; simp [show m < C.length by omega], by have := hnem.1; omega, by omega⟩
                  have hlt3 := hnem.1
                  have hcv1 := J1.out.inv.cov _ hin1
                  have hcv2 := J1.out.inv.cov _ hin2
                  obtain ⟨r, hr⟩ : ∃ r, C.getD m default = r := ⟨_, rfl⟩
                  rw [hr] at s1 s2 hbdm hin1 hin2 hlt3 hcv1 hcv2
                  have hq1 : (decide (r.1 < fl) || inB L r.1) = true := by rcases hcv1 with h | h <;> simp [h]
                  have hq2 : (decide (r.2 - 1 < fl) || inB L (r.2 - 1)) = true := by rcases hcv2 with h | h <;> simp [h]
                  have hw1 : IntKind.u64.wrap (r.2 - 1) = r.2 - 1 := by rw [IntKind.wrap_u64]; omega
                  have hcm1 := fun W (hW : Below x1.heap.size x1 W) => hcame_any b L fl r.1 W (J1.out.hh.below hW) (by unfold u64b; omega)
                  have hcm2 := fun W (hW : Below x1.heap.size x1 W) => hcame_any b L fl (r.2 - 1) W (J1.out.hh.below hW) (by unfold u64b; omega)
                  simp only [hq1] at hcm1
                  simp only [hq2] at hcm2
                  have HC1 := Lib.hid hcm1
                  have HC2 := Lib.hid hcm2
                  have bx : Below x1.heap.size x1 (wr.alloc (.cells #[.int .u64 r.1, .int .u64 r.2] 31)) := bm.alloc bm.size _
                  have hbxx := Blk.new wr #[.int .u64 r.1, .int .u64 r.2] 31
                  clear hr hnem hin1 hin2 hcv1 hcv2 hq1 hq2 hcm1 hcm2
                  cases hca
                  go_wp2_with (fail)
                  refine (HC1.out _ bx).mono ?_
                  rintro e v1 ⟨hv1, rfl⟩
                  have bv1 : Below x1.heap.size x1 v1 := below_on bx hv1 bx.size
                  have hbx1 := hbxx.below hv1
                  have z2 := hbx1.cell 1 _ rfl
                  clear hv1 hbxx
                  go_wp2_with (fail)
                  refine (HC2.out _ bv1).mono ?_
                  rintro e v2 ⟨hv2, rfl⟩
                  have bv2 : Below x1.heap.size x1 v2 := below_on bv1 hv2 bv1.size
                  clear hv2
                  go_wp2_with (fail)
                  exact ⟨⟨m + 1, by go_num, by omega, bv2⟩, by simp [intOf]; omega⟩
                · obtain rfl : nc = m := by omega
                  go_wp2_with (fail)
                  exact ⟨⟨k + 1, ac, nc, cc, L, fl, C, by go_num, rfl, by omega, HO1.out.trans (onlyb_below bm), Lib.hid ⟨J1.out.hh.below bm, J1.out.rc.below bm, J1.out.ne, J1.out.len, J1.out.small, J1.out.inv⟩⟩, by simp [intOf]; omega⟩
          | false =>
            obtain ⟨rfl, M, L', fl', hh1, hMnf, hMl, hor⟩ := hno rfl
            have hf := hfr rfl
            have d1 := hbx1.cell 1 _ rfl
            have hx1b : b < x1.heap.size := by have := ho1.size; have := HQ.out; obtain ⟨_, _, _, _, _, _, h9, _⟩ := hh1; exact h9.lt
            have HH1 := Lib.hid hh1
            have HBX1 := Lib.hid hbx1
            have HAD2 : Hid (∀ C', IsNf (MemR (C ++ [(pn, pn + 1)])) C' → HI L' fl' C') := Lib.hid (fun C' hC' => hadd hv hMnf hC' (by have := HII.out.inv.len; omega) hor)
            have b1 : Below x1.heap.size x1 (x1.alloc (.cells #[.int .u64 pn] 28)) := (Below.refl _ _).alloc (Nat.le_refl _) _
            have hs1 : Sl .u64 (x1.alloc (.cells #[.int .u64 pn] 28)) (some ⟨x1.heap.size, 0, none⟩) 1 [pn] :=
              ⟨IntsAt.of_map (L := [pn]) (T := 28) (Blk.new x1 #[.int .u64 pn] 28) (by simpa using u64_wf h1.1 h1.2), (fun h => nomatch h), by simp, by simp [maxLen]⟩
            have hhas := has_any ac (some ⟨x1.heap.size, 0, none⟩) nc 1 cc 1 C [pn] _ HII.out.len rfl (HRC1.out.below b1) hs1
            simp only [List.all_cons, List.all_nil, Bool.and_true, hf] at hhas
            have HHAS := Lib.hid hhas
            have LEN := Lib.hid HII.out.len
            have SML := Lib.hid HII.out.small
            clear hyes hno hfr hadd hv hh1 ho1 hbx1 hMnf hMl hor hf hs1 hhas HBX HII HOO HWB HQ
            go_wp2_with (fail)
            refine HHAS.out.mono ?_
            rintro e x2 ⟨hb2, rfl⟩
            have b2 : Below x1.heap.size x1 x2 := below_on b1 hb2 (by simp)
            have d2 := (HBX1.out.below b2).cell 1 _ rfl
            have bA : Below x2.heap.size x2 (x2.alloc (.cells #[.int .u64 pn, .int .u64 (pn + 1)] 31)) := (Below.refl _ _).alloc (Nat.le_refl _) _
            have hs1 : Rs (x2.alloc (.cells #[.int .u64 pn, .int .u64 (pn + 1)] 31)) (some ⟨x2.heap.size, 0, none⟩) 1 [(pn, pn + 1)] := Rs.of (by simp) (fun i hi => by
              have hcell := Blk.new x2 #[.int .u64 pn, .int .u64 (pn + 1)] 31
              match i, hi with
              | 0, _ => exact hcell.cell 0 _ rfl
              | 1, _ => exact hcell.cell 1 _ rfl
              | i + 2, hi => exact absurd (show i + 2 < 2 from hi) (by omega)) (fun s hs => by rw [List.mem_singleton.1 hs]; simp only; omega) (by simp) (by simp [maxLen])
            have HRC2 := Lib.hid ((HRC1.out.below b2).below bA)
            have HS1 := Lib.hid hs1
            have HB2 := Lib.hid b2
            clear hb2 hs1 b1 b2 HHAS HRC1
            go_wp2_with (fail)
            refine (add_any ac (some ⟨x2.heap.size, 0, none⟩) nc 1 cc 1 C [(pn, pn + 1)] _ LEN.out rfl HRC2.out HS1.out (by have := LEN.out; omega) (by simp)).mono ?_
            rintro e x3 ⟨hb3, a3, c3', C', rfl, ho3, hC3, hnC, hlC⟩
            have b3 : Below x1.heap.size x1 x3 := below_on HB2.out (below_on bA hb3 (by simp)) HB2.out.size
            have J1 : Hid (HeardInv x3 b a3 C'.length c3' L' fl' C' (k + 1)) := Lib.hid ⟨HH1.out.below b3, (ho3.rs hC3).2, (fun x hx => by have := (ho3.block hx).1; have := HB2.out.size; simp at *; omega), rfl, by have := SML.out; simp only [List.length_singleton] at hlC; omega, HAD2.out C' hnC⟩
            have HO3 : Hid (Only (· = b) w2 x3) := Lib.hid (HO1.out.trans (onlyb_below b3))
            obtain ⟨n3, hn3⟩ : ∃ n, C'.length = n := ⟨_, rfl⟩
            rw [hn3] at J1 ⊢
            have hn3b : n3 ≤ 301 := by have := J1.out.small; have := J1.out.len; omega
            clear hb3 ho3 hC3 hnC hlC b3 bA hn3 HH1 HBX1 HAD2 HRC2 HS1 HB2 HO1 LEN SML d1 d2
            go_wp2_with (fail)
            obtain ⟨aL, cL, _, _, _, _, hbh, hRL, hneL, g1, g2, g3, g4, g5⟩ := J1.out.hh
            have p0 := hbh.cell 0 _ rfl
            have p1 := hbh.cell 1 _ rfl
            have hblt := hbh.lt
            have hl64 := J1.out.inv.len
            have hlow := J1.out.inv.low
            have hnl := J1.out.inv.nl
            obtain ⟨nL, hnL⟩ : ∃ n, L'.length = n := ⟨_, rfl⟩
            rw [hnL] at p0 hl64
            have HNL := Lib.hid hnL
            have HRL := Lib.hid hRL
            have hA1 : decide (64 < nL) = false := by simp; omega
            have hA2 : decide ((64 : Int) < (nL : Int)) = false := by simp; omega
            have hat := fun (h : 0 < L'.length) => hRL.at_ h
            have hlow0 := fun (h : 0 < L'.length) => (show fl' ≤ (L'.getD 0 default).1 by
              refine hlow _ ?_
              rw [inB_iff]
              have h2 := (neat_iff (hRL.bnd)).1 hnl 0 h
              exact ⟨L'.getD 0 default, by simp [h], Int.le_refl _, h2.1⟩)
            rw [hnL] at hat hlow0
            have HAT := Lib.hid hat
            have HLW := Lib.hid hlow0
            clear hbh hRL hneL hlow hnl hnL hat hlow0 g1 g2 g3 g4 g5
            refine rg_start 52 ?_
            refine rg_same fun p hx hne hC => ?_
            refine rg_quiet 39 [0, 1, 2, 3, 4, 5, 6, 7, 8, 9, 10, 11, 12] hC ?_
            simp only [pickD, List.map_cons, List.map_nil, List.getD_cons_zero, List.getD_cons_succ]; repeat (go_big_quiet_step (fail))
            refine wpQuiet_nil ?_
            refine rg_cutM 13 ?_
            clear hx hne hC
            go_wp2_with (fail)
            refine (neat_any aL nL cL L' _ HNL.out.symm (HRL.out.below (Below.refl _ _).drew)).mono ?_
            rintro e u1 ⟨hb1, v, rfl, hv⟩
            obtain rfl : v = true := hv.2 J1.out.inv.nl
            have BU1 : Hid (Below x3.heap.size x3 u1) := Lib.hid (below_on ((Below.refl _ _).drew) hb1 (Nat.le_refl _))
            have p0' := (BU1.out.cell (p := ⟨b, 0, none⟩) hblt).trans p0
            have p1' := (BU1.out.cell (p := ⟨b, 1, none⟩) hblt).trans p1
            clear hb1 hv
            go_wp2_with (fail)
            refine rg_same fun p hx hne hC => ?_
            refine rg_quiet 29 [14, 15, 16, 17, 18, 19, 20, 21, 22] hC ?_
            simp only [pickD, List.map_cons, List.map_nil, List.getD_cons_zero, List.getD_cons_succ]; repeat (go_big_quiet_step (fail))
            refine wpQuiet_nil ?_
            refine rg_cutM 23 ?_
            clear hx hne hC
            go_wp2_with (fail)
            refine (cut_any aL a3 nL n3 cL c3' L' C' _ HNL.out.symm J1.out.len (HRL.out.below BU1.out) (J1.out.rc.below BU1.out) (by have := HNL.out; omega) (by have := J1.out.small; omega)).mono ?_
            rintro e u2 ⟨hb2, a9, c9, M9, rfl, ho9, hM9, hn9, hl9⟩
            obtain rfl : M9 = [] := cut_none J1.out.inv.sub hn9
            have BU2 : Hid (Below x3.heap.size x3 u2) := Lib.hid (below_on BU1.out hb2 BU1.out.size)
            have p0'' := (BU2.out.cell (p := ⟨b, 0, none⟩) hblt).trans p0
            have p1'' := (BU2.out.cell (p := ⟨b, 1, none⟩) hblt).trans p1
            clear hb2 ho9 hM9 hn9 hl9 p0' p1'
            simp only [List.length_nil]
            go_wp2_with (fail)
            have HH2 : Hid (HH u2 b L' fl') := Lib.hid (J1.out.hh.below BU2.out)
            rcases Nat.eq_zero_or_pos nL with hz | hz
            · have hB2 : decide (0 < nL) = false := by simp; omega
              have hB3 : decide ((0 : Int) < (nL : Int)) = false := by simp; omega
              have HZ := Lib.hid hz
              clear hz
              refine rg_same fun p hx hne hC => ?_
              refine rg_quiet 0 [24, 25, 26, 27, 28, 29, 30, 31, 32, 33, 34, 35, 36, 37, 38, 39, 40, 41, 42, 43, 44, 45, 46, 47, 48, 49, 50, 51] hC ?_
              simp only [pickD, List.map_cons, List.map_nil, List.getD_cons_zero, List.getD_cons_succ]; repeat (go_big_quiet_step (fail))
              refine wpQuiet_nil ?_
              refine rg_end ?_
              clear hx hne hC
              go_wp2_with (fail)
              clear HAT HLW p0 p1 p0'' p1'' hA1 hA2
              go_loopw [10, 137] (fun _ j w' => ∃ m : Nat, j = .int .i64 m ∧ m ≤ n3 ∧ Below x3.heap.size x3 w') (fun _ j _ => n3 - (intOf j).toNat)
              case atStart => exact ⟨0, rfl, by omega, BU2.out⟩
              case round =>
                obtain ⟨m, rfl, hm2, bm⟩ := hrel
                by_cases hlt2 : m < n3
                · obtain ⟨cb, co, hca, hcb, s1, s2⟩ := (J1.out.rc.below bm).at_ (i := m) (by have := J1.out.len; omega)
                  have hbdm := J1.out.rc.bnd.getD (i := m) (by have := J1.out.len; omega)
                  have hnem := (neat_iff J1.out.rc.bnd).1 J1.out.inv.nc m (by have := J1.out.len; omega)
                  have hin1 : inB C' (C'.getD m default).1 = true := by
                    rw [inB_iff]
                    exact ⟨C'.getD m default, by have := J1.out.len; simp [show m < C'.length by omega], Int.le_refl _, hnem.1⟩
                  have hin2 : inB C' ((C'.getD m default).2 - 1) = true := by
                    rw [inB_iff]
                    exact ⟨C'.getD m default, by have := J1.out.len; simp [show m < C'.length by omega], by have := hnem.1; omega, by omega⟩
                  have hlt3 := hnem.1
                  have hcv1 := J1.out.inv.cov _ hin1
                  have hcv2 := J1.out.inv.cov _ hin2
                  obtain ⟨r, hr⟩ : ∃ r, C'.getD m default = r := ⟨_, rfl⟩
                  rw [hr] at s1 s2 hbdm hin1 hin2 hlt3 hcv1 hcv2
                  have hq1 : (decide (r.1 < fl') || inB L' r.1) = true := by rcases hcv1 with h | h <;> simp [h]
                  have hq2 : (decide (r.2 - 1 < fl') || inB L' (r.2 - 1)) = true := by rcases hcv2 with h | h <;> simp [h]
                  have hw1 : IntKind.u64.wrap (r.2 - 1) = r.2 - 1 := by rw [IntKind.wrap_u64]; omega
                  have hcm1 := fun W (hW : Below x3.heap.size x3 W) => hcame_any b L' fl' r.1 W (J1.out.hh.below hW) (by unfold u64b; omega)
                  have hcm2 := fun W (hW : Below x3.heap.size x3 W) => hcame_any b L' fl' (r.2 - 1) W (J1.out.hh.below hW) (by unfold u64b; omega)
                  simp only [hq1] at hcm1
                  simp only [hq2] at hcm2
                  have HC1 := Lib.hid hcm1
                  have HC2 := Lib.hid hcm2
                  have bx : Below x3.heap.size x3 (wr.alloc (.cells #[.int .u64 r.1, .int .u64 r.2] 31)) := bm.alloc bm.size _
                  have hbxx := Blk.new wr #[.int .u64 r.1, .int .u64 r.2] 31
                  clear hr hnem hin1 hin2 hcv1 hcv2 hq1 hq2 hcm1 hcm2
                  cases hca
                  go_wp2_with (fail)
                  refine (HC1.out _ bx).mono ?_
                  rintro e v1 ⟨hv1, rfl⟩
                  have bv1 : Below x3.heap.size x3 v1 := below_on bx hv1 bx.size
                  have hbx1 := hbxx.below hv1
                  have z2 := hbx1.cell 1 _ rfl
                  clear hv1 hbxx
                  go_wp2_with (fail)
                  refine (HC2.out _ bv1).mono ?_
                  rintro e v2 ⟨hv2, rfl⟩
                  have bv2 : Below x3.heap.size x3 v2 := below_on bv1 hv2 bv1.size
                  clear hv2
                  go_wp2_with (fail)
                  exact ⟨⟨m + 1, by go_num, by omega, bv2⟩, by simp [intOf]; omega⟩
                · obtain rfl : n3 = m := by omega
                  go_wp2_with (fail)
                  exact ⟨⟨k + 1, a3, n3, c3', L', fl', C', by go_num, rfl, by omega, HO3.out.trans (onlyb_below bm), Lib.hid ⟨J1.out.hh.below bm, J1.out.rc.below bm, J1.out.ne, J1.out.len, J1.out.small, J1.out.inv⟩⟩, by simp [intOf]; omega⟩
            · obtain ⟨g, og, hga, hgl, t1, t2⟩ := HAT.out hz
              have t1' := (BU2.out.cell (p := ⟨g, og + 0 * 2, none⟩) hgl).trans t1
              have hlw := HLW.out hz
              obtain ⟨x0, hx0⟩ : ∃ x, (L'.getD 0 default).1 = x := ⟨_, rfl⟩
              rw [hx0] at t1' hlw
              simp only [Nat.zero_mul, Nat.add_zero] at t1'
              have hB1 : decide (x0 < fl') = false := by simp; omega
              have hB2 : decide (0 < nL) = true := by simp; omega
              have hB3 : decide ((0 : Int) < (nL : Int)) = true := by simp; omega
              rw [hga] at p0''
              clear t1 t2 hx0 hga
              refine rg_same fun p hx hne hC => ?_
              refine rg_quiet 0 [24, 25, 26, 27, 28, 29, 30, 31, 32, 33, 34, 35, 36, 37, 38, 39, 40, 41, 42, 43, 44, 45, 46, 47, 48, 49, 50, 51] hC ?_
              simp only [pickD, List.map_cons, List.map_nil, List.getD_cons_zero, List.getD_cons_succ]; repeat (go_big_quiet_step (fail))
              refine wpQuiet_nil ?_
              refine rg_end ?_
              clear hx hne hC
              go_wp2_with (fail)
              clear HAT HLW p0 p1 p0'' p1'' hA1 hA2
              go_loopw [10, 137] (fun _ j w' => ∃ m : Nat, j = .int .i64 m ∧ m ≤ n3 ∧ Below x3.heap.size x3 w') (fun _ j _ => n3 - (intOf j).toNat)
              case atStart => exact ⟨0, rfl, by omega, BU2.out⟩
              case round =>
                obtain ⟨m, rfl, hm2, bm⟩ := hrel
                by_cases hlt2 : m < n3
                · obtain ⟨cb, co, hca, hcb, s1, s2⟩ := (J1.out.rc.below bm).at_ (i := m) (by have := J1.out.len; omega)
                  have hbdm := J1.out.rc.bnd.getD (i := m) (by have := J1.out.len; omega)
                  have hnem := (neat_iff J1.out.rc.bnd).1 J1.out.inv.nc m (by have := J1.out.len; omega)
                  have hin1 : inB C' (C'.getD m default).1 = true := by
                    rw [inB_iff]
                    exact ⟨C'.getD m default, by have := J1.out.len; simp [show m < C'.length by omega], Int.le_refl _, hnem.1⟩
                  have hin2 : inB C' ((C'.getD m default).2 - 1) = true := by
                    rw [inB_iff]
                    exact ⟨C'.getD m default, by have := J1.out.len; simp [show m < C'.length by omega], by have := hnem.1; omega, by omega⟩
                  have hlt3 := hnem.1
                  have hcv1 := J1.out.inv.cov _ hin1
                  have hcv2 := J1.out.inv.cov _ hin2
                  obtain ⟨r, hr⟩ : ∃ r, C'.getD m default = r := ⟨_, rfl⟩
                  rw [hr] at s1 s2 hbdm hin1 hin2 hlt3 hcv1 hcv2
                  have hq1 : (decide (r.1 < fl') || inB L' r.1) = true := by rcases hcv1 with h | h <;> simp [h]
                  have hq2 : (decide (r.2 - 1 < fl') || inB L' (r.2 - 1)) = true := by rcases hcv2 with h | h <;> simp [h]
                  have hw1 : IntKind.u64.wrap (r.2 - 1) = r.2 - 1 := by rw [IntKind.wrap_u64]; omega
                  have hcm1 := fun W (hW : Below x3.heap.size x3 W) => hcame_any b L' fl' r.1 W (J1.out.hh.below hW) (by unfold u64b; omega)
                  have hcm2 := fun W (hW : Below x3.heap.size x3 W) => hcame_any b L' fl' (r.2 - 1) W (J1.out.hh.below hW) (by unfold u64b; omega)
                  simp only [hq1] at hcm1
                  simp only [hq2] at hcm2
                  have HC1 := Lib.hid hcm1
                  have HC2 := Lib.hid hcm2
                  have bx : Below x3.heap.size x3 (wr.alloc (.cells #[.int .u64 r.1, .int .u64 r.2] 31)) := bm.alloc bm.size _
                  have hbxx := Blk.new wr #[.int .u64 r.1, .int .u64 r.2] 31
                  clear hr hnem hin1 hin2 hcv1 hcv2 hq1 hq2 hcm1 hcm2
                  cases hca
                  go_wp2_with (fail)
                  refine (HC1.out _ bx).mono ?_
                  rintro e v1 ⟨hv1, rfl⟩
                  have bv1 : Below x3.heap.size x3 v1 := below_on bx hv1 bx.size
                  have hbx1 := hbxx.below hv1
                  have z2 := hbx1.cell 1 _ rfl
                  clear hv1 hbxx
                  go_wp2_with (fail)
                  refine (HC2.out _ bv1).mono ?_
                  rintro e v2 ⟨hv2, rfl⟩
                  have bv2 : Below x3.heap.size x3 v2 := below_on bv1 hv2 bv1.size
                  clear hv2
                  go_wp2_with (fail)
                  exact ⟨⟨m + 1, by go_num, by omega, bv2⟩, by simp [intOf]; omega⟩
                · obtain rfl : n3 = m := by omega
                  go_wp2_with (fail)
                  exact ⟨⟨k + 1, a3, n3, c3', L', fl', C', by go_num, rfl, by omega, HO3.out.trans (onlyb_below bm), Lib.hid ⟨J1.out.hh.below bm, J1.out.rc.below bm, J1.out.ne, J1.out.len, J1.out.small, J1.out.inv⟩⟩, by simp [intOf]; omega⟩
        · by_cases hk1 : kind = 1
          · subst hk1
            go_wp2_with (fail)
            rw [HWB.out, HQ.out]
            refine (hack_any b L fl now wB HII.out.hh h3 (by have := HII.out.inv.len; omega)).mono ?_
            rintro e x1 ⟨ho1, hh1, kf, df, is, a', c', K, rfl, hRK, hK32, hKor⟩
            have hKn : NeatFrom (-1) K := by
              rcases hKor with rfl | rfl
              · trivial
              · exact neat_drop HII.out.inv.nl _ (by omega)
            have hKs : ∀ n, inB K n = true → inB C n = true := fun n hn => HII.out.inv.sub n (by
              rcases hKor with rfl | rfl
              · simp [inB] at hn
              · rw [inB_iff] at hn ⊢
                obtain ⟨r, hr, h9⟩ := hn
                exact ⟨r, List.mem_of_mem_drop hr, h9⟩)
            have HRC1 : Hid (Rs x1 ac cc C) := Lib.hid (HII.out.rc.only ho1 (fun x hx _ => HII.out.ne x hx))
            have HO1 : Hid (Only (· = b) w2 x1) := Lib.hid (HOO.out.trans ho1)
            have J1 : Hid (HeardInv x1 b ac nc cc L fl C (k + 1)) := Lib.hid ⟨hh1, HRC1.out, HII.out.ne, HII.out.len, by have := HII.out.small; omega, HII.out.inv⟩
            obtain ⟨nK, hnK⟩ : ∃ n, K.length = n := ⟨_, rfl⟩
            rw [hnK] at hK32 ⊢
            have HNK := Lib.hid hnK
            have HRK := Lib.hid hRK
            have HKN := Lib.hid hKn
            have HKS := Lib.hid hKs
            clear hh1 hKn hKs hKor hRK hnK HRC1 ho1 HII HOO HBX HWB HQ
            go_wp2_with (with_reducible refine stop_storef ?_)
            refine Stop.out ?_
            refine wpList_storef rfl rfl kf df 0 0 a' nK c' (.slice none 0 0) rfl rfl (Blk.new x1 (frameV 0 (.slice none 0 0) 0) 51) frame_size ?_
            intro x2 hbf of
            have b2 : Below x1.heap.size x1 x2 := below_onto ((Below.refl _ _).alloc (Nat.le_refl _) _) of (by simp) (by intro z hz h; omega)
            have hfl := hbf.lt
            have d25 := hbf.cell 25 (.slice a' nK c') rfl
            have HB2 := Lib.hid b2
            clear hbf of b2
            go_wp2_with (fail)
            refine (neat_any a' nK c' K _ HNK.out.symm (HRK.out.below HB2.out)).mono ?_
            rintro e y1 ⟨hb1, v, rfl, hv⟩
            obtain rfl : v = true := hv.2 HKN.out
            have Y1 : Hid (Below x1.heap.size x1 y1) := Lib.hid (below_on HB2.out hb1 HB2.out.size)
            have d25' := (hb1.cell (p := ⟨x1.heap.size, 25, none⟩) hfl).trans d25
            clear hb1 hv
            go_wp2_with (fail)
            refine (cut_any a' ac nK nc c' cc K C _ HNK.out.symm J1.out.len (HRK.out.below Y1.out) (J1.out.rc.below Y1.out) (by have := HNK.out; omega) (by have := J1.out.small; omega)).mono ?_
            rintro e y2 ⟨hb2, a9, c9, M9, rfl, ho9, hM9, hn9, hl9⟩
            obtain rfl : M9 = [] := cut_none HKS.out hn9
            have Y2 := below_on Y1.out hb2 Y1.out.size
            have J2 : Hid (HeardInv y2 b ac nc cc L fl C (k + 1)) := Lib.hid ⟨J1.out.hh.below Y2, J1.out.rc.below Y2, J1.out.ne, J1.out.len, J1.out.small, J1.out.inv⟩
            have HO2 : Hid (Only (· = b) w2 y2) := Lib.hid (HO1.out.trans (onlyb_below Y2))
            clear hb2 ho9 hM9 hn9 hl9 d25 d25' Y1 Y2 HB2 HRK HKN HKS HNK J1 HO1
            simp only [List.length_nil]
            go_wp2_with (fail)
            obtain ⟨aL, cL, _, _, _, _, hbh, hRL, hneL, g1, g2, g3, g4, g5⟩ := J2.out.hh
            have p0 := hbh.cell 0 _ rfl
            have p1 := hbh.cell 1 _ rfl
            have hblt := hbh.lt
            have hl64 := J2.out.inv.len
            have hlow := J2.out.inv.low
            have hnl := J2.out.inv.nl
            obtain ⟨nL, hnL⟩ : ∃ n, L.length = n := ⟨_, rfl⟩
            rw [hnL] at p0 hl64
            have HNL := Lib.hid hnL
            have HRL := Lib.hid hRL
            have hA1 : decide (64 < nL) = false := by simp; omega
            have hA2 : decide ((64 : Int) < (nL : Int)) = false := by simp; omega
            have hat := fun (h : 0 < L.length) => hRL.at_ h
            have hlow0 := fun (h : 0 < L.length) => (show fl ≤ (L.getD 0 default).1 by
              refine hlow _ ?_
              rw [inB_iff]
              have h2 := (neat_iff (hRL.bnd)).1 hnl 0 h
              exact ⟨L.getD 0 default, by simp [h], Int.le_refl _, h2.1⟩)
            rw [hnL] at hat hlow0
            have HAT := Lib.hid hat
            have HLW := Lib.hid hlow0
            clear hbh hRL hneL hlow hnl hnL hat hlow0 g1 g2 g3 g4 g5
            refine rg_start 52 ?_
            refine rg_same fun p hx hne hC => ?_
            refine rg_quiet 39 [0, 1, 2, 3, 4, 5, 6, 7, 8, 9, 10, 11, 12] hC ?_
            simp only [pickD, List.map_cons, List.map_nil, List.getD_cons_zero, List.getD_cons_succ]; repeat (go_big_quiet_step (fail))
            refine wpQuiet_nil ?_
            refine rg_cutM 13 ?_
            clear hx hne hC
            go_wp2_with (fail)
            refine (neat_any aL nL cL L _ HNL.out.symm (HRL.out.below (Below.refl _ _).drew)).mono ?_
            rintro e u1 ⟨hb1, v, rfl, hv⟩
            obtain rfl : v = true := hv.2 J2.out.inv.nl
            have BU1 : Hid (Below y2.heap.size y2 u1) := Lib.hid (below_on ((Below.refl _ _).drew) hb1 (Nat.le_refl _))
            have p0' := (BU1.out.cell (p := ⟨b, 0, none⟩) hblt).trans p0
            have p1' := (BU1.out.cell (p := ⟨b, 1, none⟩) hblt).trans p1
            clear hb1 hv
            go_wp2_with (fail)
            refine rg_same fun p hx hne hC => ?_
            refine rg_quiet 29 [14, 15, 16, 17, 18, 19, 20, 21, 22] hC ?_
            simp only [pickD, List.map_cons, List.map_nil, List.getD_cons_zero, List.getD_cons_succ]; repeat (go_big_quiet_step (fail))
            refine wpQuiet_nil ?_
            refine rg_cutM 23 ?_
            clear hx hne hC
            go_wp2_with (fail)
            refine (cut_any aL ac nL nc cL cc L C _ HNL.out.symm J2.out.len (HRL.out.below BU1.out) (J2.out.rc.below BU1.out) (by have := HNL.out; omega) (by have := J2.out.small; omega)).mono ?_
            rintro e u2 ⟨hb2, a9, c9, M9, rfl, ho9, hM9, hn9, hl9⟩
            obtain rfl : M9 = [] := cut_none J2.out.inv.sub hn9
            have BU2 : Hid (Below y2.heap.size y2 u2) := Lib.hid (below_on BU1.out hb2 BU1.out.size)
            have p0'' := (BU2.out.cell (p := ⟨b, 0, none⟩) hblt).trans p0
            have p1'' := (BU2.out.cell (p := ⟨b, 1, none⟩) hblt).trans p1
            clear hb2 ho9 hM9 hn9 hl9 p0' p1'
            simp only [List.length_nil]
            go_wp2_with (fail)
            have HH2 : Hid (HH u2 b L fl) := Lib.hid (J2.out.hh.below BU2.out)
            rcases Nat.eq_zero_or_pos nL with hz | hz
            · have hB2 : decide (0 < nL) = false := by simp; omega
              have hB3 : decide ((0 : Int) < (nL : Int)) = false := by simp; omega
              have HZ := Lib.hid hz
              clear hz
              refine rg_same fun p hx hne hC => ?_
              refine rg_quiet 0 [24, 25, 26, 27, 28, 29, 30, 31, 32, 33, 34, 35, 36, 37, 38, 39, 40, 41, 42, 43, 44, 45, 46, 47, 48, 49, 50, 51] hC ?_
              simp only [pickD, List.map_cons, List.map_nil, List.getD_cons_zero, List.getD_cons_succ]; repeat (go_big_quiet_step (fail))
              refine wpQuiet_nil ?_
              refine rg_end ?_
              clear hx hne hC
              go_wp2_with (fail)
              clear HAT HLW p0 p1 p0'' p1'' hA1 hA2
              go_loopw [10, 137] (fun _ j w' => ∃ m : Nat, j = .int .i64 m ∧ m ≤ nc ∧ Below y2.heap.size y2 w') (fun _ j _ => nc - (intOf j).toNat)
              case atStart => exact ⟨0, rfl, by omega, BU2.out⟩
              case round =>
                obtain ⟨m, rfl, hm2, bm⟩ := hrel
                by_cases hlt2 : m < nc
                · obtain ⟨cb, co, hca, hcb, s1, s2⟩ := (J2.out.rc.below bm).at_ (i := m) (by have := J2.out.len; omega)
                  have hbdm := J2.out.rc.bnd.getD (i := m) (by have := J2.out.len; omega)
                  have hnem := (neat_iff J2.out.rc.bnd).1 J2.out.inv.nc m (by have := J2.out.len; omega)
                  have hin1 : inB C (C.getD m default).1 = true := by
                    rw [inB_iff]
                    exact ⟨C.getD m default, by have := J2.out.len; simp [show m < C.length by omega], Int.le_refl _, hnem.1⟩
                  have hin2 : inB C ((C.getD m default).2 - 1) = true := by
                    rw [inB_iff]
                    exact ⟨C.getD m default, by have := J2.out.len; simp [show m < C.length by omega], by have := hnem.1; omega, by omega⟩
                  have hlt3 := hnem.1
                  have hcv1 := J2.out.inv.cov _ hin1
                  have hcv2 := J2.out.inv.cov _ hin2
                  obtain ⟨r, hr⟩ : ∃ r, C.getD m default = r := ⟨_, rfl⟩
                  rw [hr] at s1 s2 hbdm hin1 hin2 hlt3 hcv1 hcv2
                  have hq1 : (decide (r.1 < fl) || inB L r.1) = true := by rcases hcv1 with h | h <;> simp [h]
                  have hq2 : (decide (r.2 - 1 < fl) || inB L (r.2 - 1)) = true := by rcases hcv2 with h | h <;> simp [h]
                  have hw1 : IntKind.u64.wrap (r.2 - 1) = r.2 - 1 := by rw [IntKind.wrap_u64]; omega
                  have hcm1 := fun W (hW : Below y2.heap.size y2 W) => hcame_any b L fl r.1 W (J2.out.hh.below hW) (by unfold u64b; omega)
                  have hcm2 := fun W (hW : Below y2.heap.size y2 W) => hcame_any b L fl (r.2 - 1) W (J2.out.hh.below hW) (by unfold u64b; omega)
                  simp only [hq1] at hcm1
                  simp only [hq2] at hcm2
                  have HC1 := Lib.hid hcm1
                  have HC2 := Lib.hid hcm2
                  have bx : Below y2.heap.size y2 (wr.alloc (.cells #[.int .u64 r.1, .int .u64 r.2] 31)) := bm.alloc bm.size _
                  have hbxx := Blk.new wr #[.int .u64 r.1, .int .u64 r.2] 31
                  clear hr hnem hin1 hin2 hcv1 hcv2 hq1 hq2 hcm1 hcm2
                  cases hca
                  go_wp2_with (fail)
                  refine (HC1.out _ bx).mono ?_
                  rintro e v1 ⟨hv1, rfl⟩
                  have bv1 : Below y2.heap.size y2 v1 := below_on bx hv1 bx.size
                  have hbx1 := hbxx.below hv1
                  have z2 := hbx1.cell 1 _ rfl
                  clear hv1 hbxx
                  go_wp2_with (fail)
                  refine (HC2.out _ bv1).mono ?_
                  rintro e v2 ⟨hv2, rfl⟩
                  have bv2 : Below y2.heap.size y2 v2 := below_on bv1 hv2 bv1.size
                  clear hv2
                  go_wp2_with (fail)
                  exact ⟨⟨m + 1, by go_num, by omega, bv2⟩, by simp [intOf]; omega⟩
                · obtain rfl : nc = m := by omega
                  go_wp2_with (fail)
                  exact ⟨⟨k + 1, ac, nc, cc, L, fl, C, by go_num, rfl, by omega, HO2.out.trans (onlyb_below bm), Lib.hid ⟨J2.out.hh.below bm, J2.out.rc.below bm, J2.out.ne, J2.out.len, J2.out.small, J2.out.inv⟩⟩, by simp [intOf]; omega⟩
            · obtain ⟨g, og, hga, hgl, t1, t2⟩ := HAT.out hz
              have t1' := (BU2.out.cell (p := ⟨g, og + 0 * 2, none⟩) hgl).trans t1
              have hlw := HLW.out hz
              obtain ⟨x0, hx0⟩ : ∃ x, (L.getD 0 default).1 = x := ⟨_, rfl⟩
              rw [hx0] at t1' hlw
              simp only [Nat.zero_mul, Nat.add_zero] at t1'
              have hB1 : decide (x0 < fl) = false := by simp; omega
              have hB2 : decide (0 < nL) = true := by simp; omega
              have hB3 : decide ((0 : Int) < (nL : Int)) = true := by simp; omega
              rw [hga] at p0''
              clear t1 t2 hx0 hga
              refine rg_same fun p hx hne hC => ?_
              refine rg_quiet 0 [24, 25, 26, 27, 28, 29, 30, 31, 32, 33, 34, 35, 36, 37, 38, 39, 40, 41, 42, 43, 44, 45, 46, 47, 48, 49, 50, 51] hC ?_
              simp only [pickD, List.map_cons, List.map_nil, List.getD_cons_zero, List.getD_cons_succ]; repeat (go_big_quiet_step (fail))
              refine wpQuiet_nil ?_
              refine rg_end ?_
              clear hx hne hC
              go_wp2_with (fail)
              clear HAT HLW p0 p1 p0'' p1'' hA1 hA2
              go_loopw [10, 137] (fun _ j w' => ∃ m : Nat, j = .int .i64 m ∧ m ≤ nc ∧ Below y2.heap.size y2 w') (fun _ j _ => nc - (intOf j).toNat)
              case atStart => exact ⟨0, rfl, by omega, BU2.out⟩
              case round =>
                obtain ⟨m, rfl, hm2, bm⟩ := hrel
                by_cases hlt2 : m < nc
                · obtain ⟨cb, co, hca, hcb, s1, s2⟩ := (J2.out.rc.below bm).at_ (i := m) (by have := J2.out.len; omega)
                  have hbdm := J2.out.rc.bnd.getD (i := m) (by have := J2.out.len; omega)
                  have hnem := (neat_iff J2.out.rc.bnd).1 J2.out.inv.nc m (by have := J2.out.len; omega)
                  have hin1 : inB C (C.getD m default).1 = true := by
                    rw [inB_iff]
                    exact ⟨C.getD m default, by have := J2.out.len; simp [show m < C.length by omega], Int.le_refl _, hnem.1⟩
                  have hin2 : inB C ((C.getD m default).2 - 1) = true := by
                    rw [inB_iff]
                    exact ⟨C.getD m default, by have := J2.out.len; simp [show m < C.length by omega], by have := hnem.1; omega, by omega⟩
                  have hlt3 := hnem.1
                  have hcv1 := J2.out.inv.cov _ hin1
                  have hcv2 := J2.out.inv.cov _ hin2
                  obtain ⟨r, hr⟩ : ∃ r, C.getD m default = r := ⟨_, rfl⟩
                  rw [hr] at s1 s2 hbdm hin1 hin2 hlt3 hcv1 hcv2
                  have hq1 : (decide (r.1 < fl) || inB L r.1) = true := by rcases hcv1 with h | h <;> simp [h]
                  have hq2 : (decide (r.2 - 1 < fl) || inB L (r.2 - 1)) = true := by rcases hcv2 with h | h <;> simp [h]
                  have hw1 : IntKind.u64.wrap (r.2 - 1) = r.2 - 1 := by rw [IntKind.wrap_u64]; omega
                  have hcm1 := fun W (hW : Below y2.heap.size y2 W) => hcame_any b L fl r.1 W (J2.out.hh.below hW) (by unfold u64b; omega)
                  have hcm2 := fun W (hW : Below y2.heap.size y2 W) => hcame_any b L fl (r.2 - 1) W (J2.out.hh.below hW) (by unfold u64b; omega)
                  simp only [hq1] at hcm1
                  simp only [hq2] at hcm2
                  have HC1 := Lib.hid hcm1
                  have HC2 := Lib.hid hcm2
                  have bx : Below y2.heap.size y2 (wr.alloc (.cells #[.int .u64 r.1, .int .u64 r.2] 31)) := bm.alloc bm.size _
                  have hbxx := Blk.new wr #[.int .u64 r.1, .int .u64 r.2] 31
                  clear hr hnem hin1 hin2 hcv1 hcv2 hq1 hq2 hcm1 hcm2
                  cases hca
                  go_wp2_with (fail)
                  refine (HC1.out _ bx).mono ?_
                  rintro e v1 ⟨hv1, rfl⟩
                  have bv1 : Below y2.heap.size y2 v1 := below_on bx hv1 bx.size
                  have hbx1 := hbxx.below hv1
                  have z2 := hbx1.cell 1 _ rfl
                  clear hv1 hbxx
                  go_wp2_with (fail)
                  refine (HC2.out _ bv1).mono ?_
                  rintro e v2 ⟨hv2, rfl⟩
                  have bv2 : Below y2.heap.size y2 v2 := below_on bv1 hv2 bv1.size
                  clear hv2
                  go_wp2_with (fail)
                  exact ⟨⟨m + 1, by go_num, by omega, bv2⟩, by simp [intOf]; omega⟩
                · obtain rfl : nc = m := by omega
                  go_wp2_with (fail)
                  exact ⟨⟨k + 1, ac, nc, cc, L, fl, C, by go_num, rfl, by omega, HO2.out.trans (onlyb_below bm), Lib.hid ⟨J2.out.hh.below bm, J2.out.rc.below bm, J2.out.ne, J2.out.len, J2.out.small, J2.out.inv⟩⟩, by simp [intOf]; omega⟩
          · by_cases hk2 : kind = 2
            · subst hk2
              go_wp2_with (fail)
              rw [HWB.out, HQ.out]
              refine (hforget_any b L fl pn wB HII.out.hh h1 (by have := HII.out.inv.len; omega)).mono ?_
              rintro e x1 ⟨rfl, ho1, M, hh1, hMnf, hMl⟩
              have hM64 : M.length ≤ 64 := by
                have := cut_low_len (max fl pn) HII.out.inv.nl (by omega) hMnf.neat (fun n => by
                  have e1 : inB [(0, max fl pn)] n = (decide (0 ≤ n) && decide (n < max fl pn)) := by simp [inB]
                  rw [inB_iff, hMnf.mem n, e1]
                  cases inB L n <;> by_cases g1 : 0 ≤ n <;> by_cases g2 : n < max fl pn <;> simp [g1, g2])
                have := HII.out.inv.len
                omega
              have HRC1 : Hid (Rs x1 ac cc C) := Lib.hid (HII.out.rc.only ho1 (fun x hx _ => HII.out.ne x hx))
              have HO1 : Hid (Only (· = b) w2 x1) := Lib.hid (HOO.out.trans ho1)
              have J0 : Hid (HeardInv x1 b ac nc cc M (max fl pn) C (k + 1)) := Lib.hid ⟨hh1, HRC1.out, HII.out.ne, HII.out.len, by have := HII.out.small; omega, HI.forget HII.out.inv hMnf HRC1.out.bnd hM64⟩
              obtain ⟨fm, hfm⟩ : ∃ f, max fl pn = f := ⟨_, rfl⟩
              have J1 : Hid (HeardInv x1 b ac nc cc M fm C (k + 1)) := Lib.hid (by rw [← hfm]; exact J0.out)
              clear hh1 hMnf hMl hM64 HRC1 ho1 J0 hfm HII HOO HBX HWB HQ
              go_wp2_with (fail)
              obtain ⟨aL, cL, _, _, _, _, hbh, hRL, hneL, g1, g2, g3, g4, g5⟩ := J1.out.hh
              have p0 := hbh.cell 0 _ rfl
              have p1 := hbh.cell 1 _ rfl
              have hblt := hbh.lt
              have hl64 := J1.out.inv.len
              have hlow := J1.out.inv.low
              have hnl := J1.out.inv.nl
              obtain ⟨nL, hnL⟩ : ∃ n, M.length = n := ⟨_, rfl⟩
              rw [hnL] at p0 hl64
              have HNL := Lib.hid hnL
              have HRL := Lib.hid hRL
              have hA1 : decide (64 < nL) = false := by simp; omega
              have hA2 : decide ((64 : Int) < (nL : Int)) = false := by simp; omega
              have hat := fun (h : 0 < M.length) => hRL.at_ h
              have hlow0 := fun (h : 0 < M.length) => (show fm ≤ (M.getD 0 default).1 by
                refine hlow _ ?_
                rw [inB_iff]
                have h2 := (neat_iff (hRL.bnd)).1 hnl 0 h
                exact ⟨M.getD 0 default, by simp [h], Int.le_refl _, h2.1⟩)
              rw [hnL] at hat hlow0
              have HAT := Lib.hid hat
              have HLW := Lib.hid hlow0
              clear hbh hRL hneL hlow hnl hnL hat hlow0 g1 g2 g3 g4 g5
              refine rg_start 52 ?_
              refine rg_same fun p hx hne hC => ?_
              refine rg_quiet 39 [0, 1, 2, 3, 4, 5, 6, 7, 8, 9, 10, 11, 12] hC ?_
              simp only [pickD, List.map_cons, List.map_nil, List.getD_cons_zero, List.getD_cons_succ]; repeat (go_big_quiet_step (fail))
              refine wpQuiet_nil ?_
              refine rg_cutM 13 ?_
              clear hx hne hC
              go_wp2_with (fail)
              refine (neat_any aL nL cL M _ HNL.out.symm (HRL.out.below (Below.refl _ _).drew)).mono ?_
              rintro e u1 ⟨hb1, v, rfl, hv⟩
              obtain rfl : v = true := hv.2 J1.out.inv.nl
              have BU1 : Hid (Below x1.heap.size x1 u1) := Lib.hid (below_on ((Below.refl _ _).drew) hb1 (Nat.le_refl _))
              have p0' := (BU1.out.cell (p := ⟨b, 0, none⟩) hblt).trans p0
              have p1' := (BU1.out.cell (p := ⟨b, 1, none⟩) hblt).trans p1
              clear hb1 hv
              go_wp2_with (fail)
              refine rg_same fun p hx hne hC => ?_
              refine rg_quiet 29 [14, 15, 16, 17, 18, 19, 20, 21, 22] hC ?_
              simp only [pickD, List.map_cons, List.map_nil, List.getD_cons_zero, List.getD_cons_succ]; repeat (go_big_quiet_step (fail))
              refine wpQuiet_nil ?_
              refine rg_cutM 23 ?_
              clear hx hne hC
              go_wp2_with (fail)
              refine (cut_any aL ac nL nc cL cc M C _ HNL.out.symm J1.out.len (HRL.out.below BU1.out) (J1.out.rc.below BU1.out) (by have := HNL.out; omega) (by have := J1.out.small; omega)).mono ?_
              rintro e u2 ⟨hb2, a9, c9, M9, rfl, ho9, hM9, hn9, hl9⟩
              obtain rfl : M9 = [] := cut_none J1.out.inv.sub hn9
              have BU2 : Hid (Below x1.heap.size x1 u2) := Lib.hid (below_on BU1.out hb2 BU1.out.size)
              have p0'' := (BU2.out.cell (p := ⟨b, 0, none⟩) hblt).trans p0
              have p1'' := (BU2.out.cell (p := ⟨b, 1, none⟩) hblt).trans p1
              clear hb2 ho9 hM9 hn9 hl9 p0' p1'
              simp only [List.length_nil]
              go_wp2_with (fail)
              have HH2 : Hid (HH u2 b M fm) := Lib.hid (J1.out.hh.below BU2.out)
              rcases Nat.eq_zero_or_pos nL with hz | hz
              · have hB2 : decide (0 < nL) = false := by simp; omega
                have hB3 : decide ((0 : Int) < (nL : Int)) = false := by simp; omega
                have HZ := Lib.hid hz
                clear hz
                refine rg_same fun p hx hne hC => ?_
                refine rg_quiet 0 [24, 25, 26, 27, 28, 29, 30, 31, 32, 33, 34, 35, 36, 37, 38, 39, 40, 41, 42, 43, 44, 45, 46, 47, 48, 49, 50, 51] hC ?_
                simp only [pickD, List.map_cons, List.map_nil, List.getD_cons_zero, List.getD_cons_succ]; repeat (go_big_quiet_step (fail))
                refine wpQuiet_nil ?_
                refine rg_end ?_
                clear hx hne hC
                go_wp2_with (fail)
                clear HAT HLW p0 p1 p0'' p1'' hA1 hA2
                go_loopw [10, 137] (fun _ j w' => ∃ m : Nat, j = .int .i64 m ∧ m ≤ nc ∧ Below x1.heap.size x1 w') (fun _ j _ => nc - (intOf j).toNat)
                case atStart => exact ⟨0, rfl, by omega, BU2.out⟩
                case round =>
                  obtain ⟨m, rfl, hm2, bm⟩ := hrel
                  by_cases hlt2 : m < nc
                  · obtain ⟨cb, co, hca, hcb, s1, s2⟩ := (J1.out.rc.below bm).at_ (i := m) (by have := J1.out.len; omega)
                    have hbdm := J1.out.rc.bnd.getD (i := m) (by have := J1.out.len; omega)
                    have hnem := (neat_iff J1.out.rc.bnd).1 J1.out.inv.nc m (by have := J1.out.len; omega)
                    have hin1 : inB C (C.getD m default).1 = true := by
                      rw [inB_iff]
                      exact ⟨C.getD m default, by have := J1.out.len; simp [show m < C.length by omega], Int.le_refl _, hnem.1⟩
                    have hin2 : inB C ((C.getD m default).2 - 1) = true := by
                      rw [inB_iff]
                      exact ⟨C.getD m default, by have := J1.out.len; simp [show m < C.length by omega], by have := hnem.1; omega, by omega⟩
                    have hlt3 := hnem.1
                    have hcv1 := J1.out.inv.cov _ hin1
                    have hcv2 := J1.out.inv.cov _ hin2
                    obtain ⟨r, hr⟩ : ∃ r, C.getD m default = r := ⟨_, rfl⟩
                    rw [hr] at s1 s2 hbdm hin1 hin2 hlt3 hcv1 hcv2
                    have hq1 : (decide (r.1 < fm) || inB M r.1) = true := by rcases hcv1 with h | h <;> simp [h]
                    have hq2 : (decide (r.2 - 1 < fm) || inB M (r.2 - 1)) = true := by rcases hcv2 with h | h <;> simp [h]
                    have hw1 : IntKind.u64.wrap (r.2 - 1) = r.2 - 1 := by rw [IntKind.wrap_u64]; omega
                    have hcm1 := fun W (hW : Below x1.heap.size x1 W) => hcame_any b M fm r.1 W (J1.out.hh.below hW) (by unfold u64b; omega)
                    have hcm2 := fun W (hW : Below x1.heap.size x1 W) => hcame_any b M fm (r.2 - 1) W (J1.out.hh.below hW) (by unfold u64b; omega)
                    simp only [hq1] at hcm1
                    simp only [hq2] at hcm2
                    have HC1 := Lib.hid hcm1
                    have HC2 := Lib.hid hcm2
                    have bx : Below x1.heap.size x1 (wr.alloc (.cells #[.int .u64 r.1, .int .u64 r.2] 31)) := bm.alloc bm.size _
                    have hbxx := Blk.new wr #[.int .u64 r.1, .int .u64 r.2] 31
                    clear hr hnem hin1 hin2 hcv1 hcv2 hq1 hq2 hcm1 hcm2
                    cases hca
                    go_wp2_with (fail)
                    refine (HC1.out _ bx).mono ?_
                    rintro e v1 ⟨hv1, rfl⟩
                    have bv1 : Below x1.heap.size x1 v1 := below_on bx hv1 bx.size
                    have hbx1 := hbxx.below hv1
                    have z2 := hbx1.cell 1 _ rfl
                    clear hv1 hbxx
                    go_wp2_with (fail)
                    refine (HC2.out _ bv1).mono ?_
                    rintro e v2 ⟨hv2, rfl⟩
                    have bv2 : Below x1.heap.size x1 v2 := below_on bv1 hv2 bv1.size
                    clear hv2
                    go_wp2_with (fail)
                    exact ⟨⟨m + 1, by go_num, by omega, bv2⟩, by simp [intOf]; omega⟩
                  · obtain rfl : nc = m := by omega
                    go_wp2_with (fail)
                    exact ⟨⟨k + 1, ac, nc, cc, M, fm, C, by go_num, rfl, by omega, HO1.out.trans (onlyb_below bm), Lib.hid ⟨J1.out.hh.below bm, J1.out.rc.below bm, J1.out.ne, J1.out.len, J1.out.small, J1.out.inv⟩⟩, by simp [intOf]; omega⟩
              · obtain ⟨g, og, hga, hgl, t1, t2⟩ := HAT.out hz
                have t1' := (BU2.out.cell (p := ⟨g, og + 0 * 2, none⟩) hgl).trans t1
                have hlw := HLW.out hz
                obtain ⟨x0, hx0⟩ : ∃ x, (M.getD 0 default).1 = x := ⟨_, rfl⟩
                rw [hx0] at t1' hlw
                simp only [Nat.zero_mul, Nat.add_zero] at t1'
                have hB1 : decide (x0 < fm) = false := by simp; omega
                have hB2 : decide (0 < nL) = true := by simp; omega
                have hB3 : decide ((0 : Int) < (nL : Int)) = true := by simp; omega
                rw [hga] at p0''
                clear t1 t2 hx0 hga
                refine rg_same fun p hx hne hC => ?_
                refine rg_quiet 0 [24, 25, 26, 27, 28, 29, 30, 31, 32, 33, 34, 35, 36, 37, 38, 39, 40, 41, 42, 43, 44, 45, 46, 47, 48, 49, 50, 51] hC ?_
                simp only [pickD, List.map_cons, List.map_nil, List.getD_cons_zero, List.getD_cons_succ]; repeat (go_big_quiet_step (fail))
                refine wpQuiet_nil ?_
                refine rg_end ?_
                clear hx hne hC
                go_wp2_with (fail)
                clear HAT HLW p0 p1 p0'' p1'' hA1 hA2
                go_loopw [10, 137] (fun _ j w' => ∃ m : Nat, j = .int .i64 m ∧ m ≤ nc ∧ Below x1.heap.size x1 w') (fun _ j _ => nc - (intOf j).toNat)
                case atStart => exact ⟨0, rfl, by omega, BU2.out⟩
                case round =>
                  obtain ⟨m, rfl, hm2, bm⟩ := hrel
                  by_cases hlt2 : m < nc
                  · obtain ⟨cb, co, hca, hcb, s1, s2⟩ := (J1.out.rc.below bm).at_ (i := m) (by have := J1.out.len; omega)
                    have hbdm := J1.out.rc.bnd.getD (i := m) (by have := J1.out.len; omega)
                    have hnem := (neat_iff J1.out.rc.bnd).1 J1.out.inv.nc m (by have := J1.out.len; omega)
                    have hin1 : inB C (C.getD m default).1 = true := by
                      rw [inB_iff]
                      exact ⟨C.getD m default, by have := J1.out.len; simp [show m < C.length by omega], Int.le_refl _, hnem.1⟩
                    have hin2 : inB C ((C.getD m default).2 - 1) = true := by
                      rw [inB_iff]
                      exact ⟨C.getD m default, by have := J1.out.len; simp [show m < C.length by omega], by have := hnem.1; omega, by omega⟩
                    have hlt3 := hnem.1
                    have hcv1 := J1.out.inv.cov _ hin1
                    have hcv2 := J1.out.inv.cov _ hin2
                    obtain ⟨r, hr⟩ : ∃ r, C.getD m default = r := ⟨_, rfl⟩
                    rw [hr] at s1 s2 hbdm hin1 hin2 hlt3 hcv1 hcv2
                    have hq1 : (decide (r.1 < fm) || inB M r.1) = true := by rcases hcv1 with h | h <;> simp [h]
                    have hq2 : (decide (r.2 - 1 < fm) || inB M (r.2 - 1)) = true := by rcases hcv2 with h | h <;> simp [h]
                    have hw1 : IntKind.u64.wrap (r.2 - 1) = r.2 - 1 := by rw [IntKind.wrap_u64]; omega
                    have hcm1 := fun W (hW : Below x1.heap.size x1 W) => hcame_any b M fm r.1 W (J1.out.hh.below hW) (by unfold u64b; omega)
                    have hcm2 := fun W (hW : Below x1.heap.size x1 W) => hcame_any b M fm (r.2 - 1) W (J1.out.hh.below hW) (by unfold u64b; omega)
                    simp only [hq1] at hcm1
                    simp only [hq2] at hcm2
                    have HC1 := Lib.hid hcm1
                    have HC2 := Lib.hid hcm2
                    have bx : Below x1.heap.size x1 (wr.alloc (.cells #[.int .u64 r.1, .int .u64 r.2] 31)) := bm.alloc bm.size _
                    have hbxx := Blk.new wr #[.int .u64 r.1, .int .u64 r.2] 31
                    clear hr hnem hin1 hin2 hcv1 hcv2 hq1 hq2 hcm1 hcm2
                    cases hca
                    go_wp2_with (fail)
                    refine (HC1.out _ bx).mono ?_
                    rintro e v1 ⟨hv1, rfl⟩
                    have bv1 : Below x1.heap.size x1 v1 := below_on bx hv1 bx.size
                    have hbx1 := hbxx.below hv1
                    have z2 := hbx1.cell 1 _ rfl
                    clear hv1 hbxx
                    go_wp2_with (fail)
                    refine (HC2.out _ bv1).mono ?_
                    rintro e v2 ⟨hv2, rfl⟩
                    have bv2 : Below x1.heap.size x1 v2 := below_on bv1 hv2 bv1.size
                    clear hv2
                    go_wp2_with (fail)
                    exact ⟨⟨m + 1, by go_num, by omega, bv2⟩, by simp [intOf]; omega⟩
                  · obtain rfl : nc = m := by omega
                    go_wp2_with (fail)
                    exact ⟨⟨k + 1, ac, nc, cc, M, fm, C, by go_num, rfl, by omega, HO1.out.trans (onlyb_below bm), Lib.hid ⟨J1.out.hh.below bm, J1.out.rc.below bm, J1.out.ne, J1.out.len, J1.out.small, J1.out.inv⟩⟩, by simp [intOf]; omega⟩
            · have e0 : (kind == 0) = false := by simpa using hk0
              have e1 : (kind == 1) = false := by simpa using hk1
              have e2 : (kind == 2) = false := by simpa using hk2
              have J1 : Hid (HeardInv wB b ac nc cc L fl C (k + 1)) := Lib.hid ⟨HII.out.hh, HII.out.rc, HII.out.ne, HII.out.len, by have := HII.out.small; omega, HII.out.inv⟩
              go_wp2_with (fail)
              rw [HWB.out, HQ.out]
              clear HII HBX HWB HQ
              obtain ⟨aL, cL, _, _, _, _, hbh, hRL, hneL, g1, g2, g3, g4, g5⟩ := J1.out.hh
              have p0 := hbh.cell 0 _ rfl
              have p1 := hbh.cell 1 _ rfl
              have hblt := hbh.lt
              have hl64 := J1.out.inv.len
              have hlow := J1.out.inv.low
              have hnl := J1.out.inv.nl
              obtain ⟨nL, hnL⟩ : ∃ n, L.length = n := ⟨_, rfl⟩
              rw [hnL] at p0 hl64
              have HNL := Lib.hid hnL
              have HRL := Lib.hid hRL
              have hA1 : decide (64 < nL) = false := by simp; omega
              have hA2 : decide ((64 : Int) < (nL : Int)) = false := by simp; omega
              have hat := fun (h : 0 < L.length) => hRL.at_ h
              have hlow0 := fun (h : 0 < L.length) => (show fl ≤ (L.getD 0 default).1 by
                refine hlow _ ?_
                rw [inB_iff]
                have h2 := (neat_iff (hRL.bnd)).1 hnl 0 h
                exact ⟨L.getD 0 default, by simp [h], Int.le_refl _, h2.1⟩)
              rw [hnL] at hat hlow0
              have HAT := Lib.hid hat
              have HLW := Lib.hid hlow0
              clear hbh hRL hneL hlow hnl hnL hat hlow0 g1 g2 g3 g4 g5
              refine rg_start 52 ?_
              refine rg_same fun p hx hne hC => ?_
              refine rg_quiet 39 [0, 1, 2, 3, 4, 5, 6, 7, 8, 9, 10, 11, 12] hC ?_
              simp only [pickD, List.map_cons, List.map_nil, List.getD_cons_zero, List.getD_cons_succ]; repeat (go_big_quiet_step (fail))
              refine wpQuiet_nil ?_
              refine rg_cutM 13 ?_
              clear hx hne hC
              go_wp2_with (fail)
              refine (neat_any aL nL cL L _ HNL.out.symm (HRL.out.below (Below.refl _ _).drew)).mono ?_
              rintro e u1 ⟨hb1, v, rfl, hv⟩
              obtain rfl : v = true := hv.2 J1.out.inv.nl
              have BU1 : Hid (Below wB.heap.size wB u1) := Lib.hid (below_on ((Below.refl _ _).drew) hb1 (Nat.le_refl _))
              have p0' := (BU1.out.cell (p := ⟨b, 0, none⟩) hblt).trans p0
              have p1' := (BU1.out.cell (p := ⟨b, 1, none⟩) hblt).trans p1
              clear hb1 hv
              go_wp2_with (fail)
              refine rg_same fun p hx hne hC => ?_
              refine rg_quiet 29 [14, 15, 16, 17, 18, 19, 20, 21, 22] hC ?_
              simp only [pickD, List.map_cons, List.map_nil, List.getD_cons_zero, List.getD_cons_succ]; repeat (go_big_quiet_step (fail))
              refine wpQuiet_nil ?_
              refine rg_cutM 23 ?_
              clear hx hne hC
              go_wp2_with (fail)
              refine (cut_any aL ac nL nc cL cc L C _ HNL.out.symm J1.out.len (HRL.out.below BU1.out) (J1.out.rc.below BU1.out) (by have := HNL.out; omega) (by have := J1.out.small; omega)).mono ?_
              rintro e u2 ⟨hb2, a9, c9, M9, rfl, ho9, hM9, hn9, hl9⟩
              obtain rfl : M9 = [] := cut_none J1.out.inv.sub hn9
              have BU2 : Hid (Below wB.heap.size wB u2) := Lib.hid (below_on BU1.out hb2 BU1.out.size)
              have p0'' := (BU2.out.cell (p := ⟨b, 0, none⟩) hblt).trans p0
              have p1'' := (BU2.out.cell (p := ⟨b, 1, none⟩) hblt).trans p1
              clear hb2 ho9 hM9 hn9 hl9 p0' p1'
              simp only [List.length_nil]
              go_wp2_with (fail)
              have HH2 : Hid (HH u2 b L fl) := Lib.hid (J1.out.hh.below BU2.out)
              rcases Nat.eq_zero_or_pos nL with hz | hz
              · have hB2 : decide (0 < nL) = false := by simp; omega
                have hB3 : decide ((0 : Int) < (nL : Int)) = false := by simp; omega
                have HZ := Lib.hid hz
                clear hz
                refine rg_same fun p hx hne hC => ?_
                refine rg_quiet 0 [24, 25, 26, 27, 28, 29, 30, 31, 32, 33, 34, 35, 36, 37, 38, 39, 40, 41, 42, 43, 44, 45, 46, 47, 48, 49, 50, 51] hC ?_
                simp only [pickD, List.map_cons, List.map_nil, List.getD_cons_zero, List.getD_cons_succ]; repeat (go_big_quiet_step (fail))
                refine wpQuiet_nil ?_
                refine rg_end ?_
                clear hx hne hC
                go_wp2_with (fail)
                clear HAT HLW p0 p1 p0'' p1'' hA1 hA2
                go_loopw [10, 137] (fun _ j w' => ∃ m : Nat, j = .int .i64 m ∧ m ≤ nc ∧ Below wB.heap.size wB w') (fun _ j _ => nc - (intOf j).toNat)
                case atStart => exact ⟨0, rfl, by omega, BU2.out⟩
                case round =>
                  obtain ⟨m, rfl, hm2, bm⟩ := hrel
                  by_cases hlt2 : m < nc
                  · obtain ⟨cb, co, hca, hcb, s1, s2⟩ := (J1.out.rc.below bm).at_ (i := m) (by have := J1.out.len; omega)
                    have hbdm := J1.out.rc.bnd.getD (i := m) (by have := J1.out.len; omega)
                    have hnem := (neat_iff J1.out.rc.bnd).1 J1.out.inv.nc m (by have := J1.out.len; omega)
                    have hin1 : inB C (C.getD m default).1 = true := by
                      rw [inB_iff]
                      exact ⟨C.getD m default, by have := J1.out.len; simp [show m < C.length by omega], Int.le_refl _, hnem.1⟩
                    have hin2 : inB C ((C.getD m default).2 - 1) = true := by
                      rw [inB_iff]
                      exact ⟨C.getD m default, by have := J1.out.len; simp [show m < C.length by omega], by have := hnem.1; omega, by omega⟩
                    have hlt3 := hnem.1
                    have hcv1 := J1.out.inv.cov _ hin1
                    have hcv2 := J1.out.inv.cov _ hin2
                    obtain ⟨r, hr⟩ : ∃ r, C.getD m default = r := ⟨_, rfl⟩
                    rw [hr] at s1 s2 hbdm hin1 hin2 hlt3 hcv1 hcv2
                    have hq1 : (decide (r.1 < fl) || inB L r.1) = true := by rcases hcv1 with h | h <;> simp [h]
                    have hq2 : (decide (r.2 - 1 < fl) || inB L (r.2 - 1)) = true := by rcases hcv2 with h | h <;> simp [h]
                    have hw1 : IntKind.u64.wrap (r.2 - 1) = r.2 - 1 := by rw [IntKind.wrap_u64]; omega
                    have hcm1 := fun W (hW : Below wB.heap.size wB W) => hcame_any b L fl r.1 W (J1.out.hh.below hW) (by unfold u64b; omega)
                    have hcm2 := fun W (hW : Below wB.heap.size wB W) => hcame_any b L fl (r.2 - 1) W (J1.out.hh.below hW) (by unfold u64b; omega)
                    simp only [hq1] at hcm1
                    simp only [hq2] at hcm2
                    have HC1 := Lib.hid hcm1
                    have HC2 := Lib.hid hcm2
                    have bx : Below wB.heap.size wB (wr.alloc (.cells #[.int .u64 r.1, .int .u64 r.2] 31)) := bm.alloc bm.size _
                    have hbxx := Blk.new wr #[.int .u64 r.1, .int .u64 r.2] 31
                    clear hr hnem hin1 hin2 hcv1 hcv2 hq1 hq2 hcm1 hcm2
                    cases hca
                    go_wp2_with (fail)
                    refine (HC1.out _ bx).mono ?_
                    rintro e v1 ⟨hv1, rfl⟩
                    have bv1 : Below wB.heap.size wB v1 := below_on bx hv1 bx.size
                    have hbx1 := hbxx.below hv1
                    have z2 := hbx1.cell 1 _ rfl
                    clear hv1 hbxx
                    go_wp2_with (fail)
                    refine (HC2.out _ bv1).mono ?_
                    rintro e v2 ⟨hv2, rfl⟩
                    have bv2 : Below wB.heap.size wB v2 := below_on bv1 hv2 bv1.size
                    clear hv2
                    go_wp2_with (fail)
                    exact ⟨⟨m + 1, by go_num, by omega, bv2⟩, by simp [intOf]; omega⟩
                  · obtain rfl : nc = m := by omega
                    go_wp2_with (fail)
                    exact ⟨⟨k + 1, ac, nc, cc, L, fl, C, by go_num, rfl, by omega, HOO.out.trans (onlyb_below bm), Lib.hid ⟨J1.out.hh.below bm, J1.out.rc.below bm, J1.out.ne, J1.out.len, J1.out.small, J1.out.inv⟩⟩, by simp [intOf]; omega⟩
              · obtain ⟨g, og, hga, hgl, t1, t2⟩ := HAT.out hz
                have t1' := (BU2.out.cell (p := ⟨g, og + 0 * 2, none⟩) hgl).trans t1
                have hlw := HLW.out hz
                obtain ⟨x0, hx0⟩ : ∃ x, (L.getD 0 default).1 = x := ⟨_, rfl⟩
                rw [hx0] at t1' hlw
                simp only [Nat.zero_mul, Nat.add_zero] at t1'
                have hB1 : decide (x0 < fl) = false := by simp; omega
                have hB2 : decide (0 < nL) = true := by simp; omega
                have hB3 : decide ((0 : Int) < (nL : Int)) = true := by simp; omega
                rw [hga] at p0''
                clear t1 t2 hx0 hga
                refine rg_same fun p hx hne hC => ?_
                refine rg_quiet 0 [24, 25, 26, 27, 28, 29, 30, 31, 32, 33, 34, 35, 36, 37, 38, 39, 40, 41, 42, 43, 44, 45, 46, 47, 48, 49, 50, 51] hC ?_
                simp only [pickD, List.map_cons, List.map_nil, List.getD_cons_zero, List.getD_cons_succ]; repeat (go_big_quiet_step (fail))
                refine wpQuiet_nil ?_
                refine rg_end ?_
                clear hx hne hC
                go_wp2_with (fail)
                clear HAT HLW p0 p1 p0'' p1'' hA1 hA2
                go_loopw [10, 137] (fun _ j w' => ∃ m : Nat, j = .int .i64 m ∧ m ≤ nc ∧ Below wB.heap.size wB w') (fun _ j _ => nc - (intOf j).toNat)
                case atStart => exact ⟨0, rfl, by omega, BU2.out⟩
                case round =>
                  obtain ⟨m, rfl, hm2, bm⟩ := hrel
                  by_cases hlt2 : m < nc
                  · obtain ⟨cb, co, hca, hcb, s1, s2⟩ := (J1.out.rc.below bm).at_ (i := m) (by have := J1.out.len; omega)
                    have hbdm := J1.out.rc.bnd.getD (i := m) (by have := J1.out.len; omega)
                    have hnem := (neat_iff J1.out.rc.bnd).1 J1.out.inv.nc m (by have := J1.out.len; omega)
                    have hin1 : inB C (C.getD m default).1 = true := by
                      rw [inB_iff]
                      exact ⟨C.getD m default, by have := J1.out.len; simp [show m < C.length by omega], Int.le_refl _, hnem.1⟩
                    have hin2 : inB C ((C.getD m default).2 - 1) = true := by
                      rw [inB_iff]
                      exact ⟨C.getD m default, by have := J1.out.len; simp [show m < C.length by omega], by have := hnem.1; omega, by omega⟩
                    have hlt3 := hnem.1
                    have hcv1 := J1.out.inv.cov _ hin1
                    have hcv2 := J1.out.inv.cov _ hin2
                    obtain ⟨r, hr⟩ : ∃ r, C.getD m default = r := ⟨_, rfl⟩
                    rw [hr] at s1 s2 hbdm hin1 hin2 hlt3 hcv1 hcv2
                    have hq1 : (decide (r.1 < fl) || inB L r.1) = true := by rcases hcv1 with h | h <;> simp [h]
                    have hq2 : (decide (r.2 - 1 < fl) || inB L (r.2 - 1)) = true := by rcases hcv2 with h | h <;> simp [h]
                    have hw1 : IntKind.u64.wrap (r.2 - 1) = r.2 - 1 := by rw [IntKind.wrap_u64]; omega
                    have hcm1 := fun W (hW : Below wB.heap.size wB W) => hcame_any b L fl r.1 W (J1.out.hh.below hW) (by unfold u64b; omega)
                    have hcm2 := fun W (hW : Below wB.heap.size wB W) => hcame_any b L fl (r.2 - 1) W (J1.out.hh.below hW) (by unfold u64b; omega)
                    simp only [hq1] at hcm1
                    simp only [hq2] at hcm2
                    have HC1 := Lib.hid hcm1
                    have HC2 := Lib.hid hcm2
                    have bx : Below wB.heap.size wB (wr.alloc (.cells #[.int .u64 r.1, .int .u64 r.2] 31)) := bm.alloc bm.size _
                    have hbxx := Blk.new wr #[.int .u64 r.1, .int .u64 r.2] 31
                    clear hr hnem hin1 hin2 hcv1 hcv2 hq1 hq2 hcm1 hcm2
                    cases hca
                    go_wp2_with (fail)
                    refine (HC1.out _ bx).mono ?_
                    rintro e v1 ⟨hv1, rfl⟩
                    have bv1 : Below wB.heap.size wB v1 := below_on bx hv1 bx.size
                    have hbx1 := hbxx.below hv1
                    have z2 := hbx1.cell 1 _ rfl
                    clear hv1 hbxx
                    go_wp2_with (fail)
                    refine (HC2.out _ bv1).mono ?_
                    rintro e v2 ⟨hv2, rfl⟩
                    have bv2 : Below wB.heap.size wB v2 := below_on bv1 hv2 bv1.size
                    clear hv2
                    go_wp2_with (fail)
                    exact ⟨⟨m + 1, by go_num, by omega, bv2⟩, by simp [intOf]; omega⟩
                  · obtain rfl : nc = m := by omega
                    go_wp2_with (fail)
                    exact ⟨⟨k + 1, ac, nc, cc, L, fl, C, by go_num, rfl, by omega, HOO.out.trans (onlyb_below bm), Lib.hid ⟨J1.out.hh.below bm, J1.out.rc.below bm, J1.out.ne, J1.out.len, J1.out.small, J1.out.inv⟩⟩, by simp [intOf]; omega⟩
      · obtain rfl : nD = k := by omega
        go_wp2_with (fail)
        refine (hdworks_any wr).mono ?_
        rintro e w3 ⟨rfl, hb⟩
        go_wp2_with (fail)
        go_returns
        exact ⟨rfl, below_on (below_onto X2.out bw X2.out.size (by intro z hz h; omega)) hb (by have := X2.out.size; have := bw.size; omega)⟩

set_option maxRecDepth 100000 in
theorem walk_HeardOnce (H : Type) (enc : TypeId × Value → H) (w : World) (base : Nat) (v0 : Value) (d0 : DataW H) (p0 : List MemPlace)
    (o0 : Value.okWide Try.prog w .any base 55 v0) (h0 : DataW.Trod enc Try.prog w 0 (fun _ => true) true 55 v0 d0 p0) :
    Calls Try.prog 9 #[v0] w fun e w' => e = .returned (.bool true) ∧ Below w.heap.size w w' := by
  obtain ⟨a, D, cap, rfl, hm, hD⟩ := open_do o0 h0
  exact heard_law a cap D w hm hD
end Go.Proofs.Ytidfimpchbkppaa
