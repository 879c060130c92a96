/- Out: Miss. -/
import Derived.Test.YtidfimpchbkppaaOu5
namespace Go.Proofs.Ytidfimpchbkppaa
open Go.RowKit
set_option linter.unusedVariables false

theorem BufOk.only {w w' : World} {b : Nat} {s s' : OSt} {Bf : List Int} (h : BufOk w b s Bf) (ho : Only (· = b) w w') (e : s'.ba = s.ba ∧ s'.bn = s.bn ∧ s'.bc = s.bc) : BufOk w' b s' Bf := by
  obtain ⟨h1, h2, h3⟩ := h
  obtain ⟨e1, e2, e3⟩ := e
  unfold BufOk
  rw [e1, e2, e3]
  exact ⟨h1, h2.only ho (fun x hx h0 => h3 x hx h0), h3⟩
theorem AckedOk.only {w w' : World} {b : Nat} {s s' : OSt} {LA : List Rg} (h : AckedOk w b s LA) (ho : Only (· = b) w w') (e : s'.aa = s.aa ∧ s'.an = s.an ∧ s'.ac = s.ac) : AckedOk w' b s' LA := by
  obtain ⟨h1, h2, h3⟩ := h
  obtain ⟨e1, e2, e3⟩ := e
  unfold AckedOk
  rw [e1, e2, e3]
  exact ⟨h1, h2.only ho (fun x hx h0 => h3 x hx h0), h3⟩
theorem LostOk.only {w w' : World} {b : Nat} {s s' : OSt} {LL : List Rg} (h : LostOk w b s LL) (ho : Only (· = b) w w') (e : s'.la = s.la ∧ s'.ln = s.ln ∧ s'.lc = s.lc) : LostOk w' b s' LL := by
  obtain ⟨h1, h2, h3⟩ := h
  obtain ⟨e1, e2, e3⟩ := e
  unfold LostOk
  rw [e1, e2, e3]
  exact ⟨h1, h2.only ho (fun x hx h0 => h3 x hx h0), h3⟩
def OMissPost (w w' : World) (e : Ending) (b : Nat) (s : OSt) (LA LL : List Rg) (off m : Int) (fv : Bool) : Prop :=
  Only (· = b) w w' ∧ e = .returned (.int .i64 0) ∧ ∃ (s' : OSt) (MO ML : List Rg), OB w' b s' ∧ s' = { s with la := s'.la, ln := ML.length, lc := s'.lc, sent := s.sent && !(fv && !s.ack) } ∧ LostOk w' b s' ML ∧
    IsNf (fun x => (inB [(off, off + m)] x && !inB (LA ++ [(0, s.base)]) x) = true) MO ∧ IsNf (MemR (LL ++ MO)) ML
set_option maxRecDepth 100000 in
set_option maxHeartbeats 16000000 in
theorem omiss_any (b : Nat) (s : OSt) (LA LL : List Rg) (off m : Int) (fv : Bool) (w : World) (h : OB w b s) (hs : OOk s) (hA : AckedOk w b s LA) (hL : LostOk w b s LL) (hla : LA.length ≤ 10000) (hll : LL.length ≤ 10000)
    (h1 : 0 ≤ off) (h2 : 0 ≤ m) (h3 : off + m ≤ s.next) (h4 : fv = true → s.sent = true ∧ off + m = s.base + s.bn) :
    Calls Try.prog 61 #[.pointer (some ⟨b, 0, none⟩), .int .u64 off, .int .u64 m, .bool fv] w fun e w' => OMissPost w w' e b s LA LL off m fv := by
  have HW := Lib.hid (owrong_any b s off m fv w h hs h1 h2 h3 h4)
  unfold OB at *
  obtain ⟨ba, bn, bc, base, next, mx, aa, an, ac, la, ln, lc, fin, sent, ack⟩ := s
  obtain ⟨g1, g2, g3, g4⟩ := hs
  obtain ⟨han, hRA, hab⟩ := hA
  obtain ⟨hln, hRL, hlb⟩ := hL
  simp only at *
  have c9 := h.cell 9 _ rfl
  have lb := h.lt
  have hom : off ≤ 100000 ∧ m ≤ 100000 := by omega
  have hanb : an ≤ 10000 := by omega
  have HH := Lib.hid h
  have HAN := Lib.hid han
  have HRA := Lib.hid hRA
  have HLN := Lib.hid hln
  have HRL := Lib.hid hRL
  have HLB := Lib.hid hlb
  clear h han hRA hab hln hRL hlb h4
  go_enter Try.func61, Try.ntmps61
  go_wp2_with (fail)
  refine HW.out.mono ?_
  rintro e w1 ⟨hb1, rfl⟩
  have hB1 := HH.out.below hb1
  have d4 := hB1.cell 4 _ rfl
  have d1 := hB1.cell 1 _ rfl
  have lb1 : b < w1.heap.size := hB1.lt
  have B1 := Lib.hid hb1
  clear hb1 hB1 HW
  go_wp2_with (fail)
  refine rg_start 22 ?_
  refine rg_below fun p hx hne hC hbel => ?_
  have j4 : ∀ z : Wd p, z.w.cell? ⟨b, 4, none⟩ = some (.slice aa an ac) := fun z => (hx z _ _ _ lb1).trans d4
  have j1 : ∀ z : Wd p, z.w.cell? ⟨b, 1, none⟩ = some (.int .u64 base) := fun z => (hx z _ _ _ lb1).trans d1
  refine rg_quiet 6 [0,1,2,3,4,6,7,8,9,10,12,13,14,15,16,17] hC ?_
  simp only [pickD, List.map_cons, List.map_nil, List.getD_cons_zero, List.getD_cons_succ]; repeat (go_big_quiet_step (fail))
  refine wpQuiet_nil ?_
  clear hx hne hC j4 j1 d4 d1
  obtain ⟨v0, hv0⟩ : ∃ z, w1.drew = z := ⟨_, rfl⟩
  have hb0 : Below w.heap.size w v0 := by rw [← hv0]; exact below_on B1.out ((Below.refl w1.heap.size w1).drew) B1.out.size
  rw [hv0] at hbel ⊢
  have B0 := Lib.hid hb0
  have lb0 : b < v0.heap.size := by rw [← hv0]; exact lb1
  have BV0 : Hid (Below v0.heap.size v0 v0) := Lib.hid (Below.refl _ _)
  clear hv0 hb0 B1 lb1
  refine rg_among [5, 11, 18] ?_
  simp only [List.forall_mem_cons, List.getD_cons_zero, List.getD_cons_succ]
  refine ⟨?_, ?_, ?_, by simp⟩
  · skip
    go_wp2_with (fail)
    refine ⟨hbel _ (BV0.out.alloc BV0.out.size _), ?_⟩
    have hz := BV0.out.alloc BV0.out.size (.cells #[.int .u64 off, .int .u64 (off + m)] 31)
    have hk := Blk.new v0 #[.int .u64 off, .int .u64 (off + m)] 31
    have hu : Below v0.heap.size v0 (v0.alloc (.cells #[.int .u64 off, .int .u64 (off + m)] 31)) := (Below.refl _ _).alloc (Nat.le_refl _) _
    have hsz : (v0.alloc (.cells #[.int .u64 off, .int .u64 (off + m)] 31)).heap.size = v0.heap.size + 1 := by simp
    obtain ⟨v1, hv1⟩ : ∃ z, v0.alloc (.cells #[.int .u64 off, .int .u64 (off + m)] 31) = z := ⟨_, rfl⟩
    rw [hv1] at hz hk hu hsz ⊢
    obtain ⟨q1, hq1⟩ : ∃ z, v0.heap.size = z := ⟨_, rfl⟩
    rw [hq1] at hk ⊢
    have BV1 := Lib.hid hz
    have K1 := Lib.hid hk
    clear hz hk hu hsz hv1 hq1
    refine rg_among [11, 18] ?_
    simp only [List.forall_mem_cons, List.getD_cons_zero, List.getD_cons_succ]
    refine ⟨?_, ?_, by simp⟩
    · skip
      go_wp2_with (fail)
      refine (clone_any aa an ac LA v1 HAN.out (HRA.out.below (below_on B0.out BV1.out B0.out.size)) (by omega)).mono ?_
      rintro e v2 ⟨hu, a2, k2, rfl, ho⟩
      rw [← HAN.out] at ho
      have hz := below_on BV1.out hu BV1.out.size
      have BV2 := Lib.hid hz
      have OW_2 := Lib.hid (ho.base_le (base' := v0.heap.size) BV1.out.size)
      have X5_2 := Lib.hid (K1.out.below hu)
      have NE_5_2 : ∀ y, a2 = some y → y.block ≠ q1 := fun y hy => by have h9 := (ho.block hy).1; have h8 := K1.out.lt; omega
      try simp only [← HAN.out]
      go_wp2_with (fail)
      refine ⟨hbel _ hz, ?_⟩
      clear hz hu ho
      refine rg_act 18 ?_
      go_wp2_with (fail)
      refine ⟨hbel _ (BV2.out.alloc BV2.out.size _), ?_⟩
      have hz := BV2.out.alloc BV2.out.size (.cells #[.int .u64 0, .int .u64 base] 31)
      have hk := Blk.new v2 #[.int .u64 0, .int .u64 base] 31
      have hu : Below v2.heap.size v2 (v2.alloc (.cells #[.int .u64 0, .int .u64 base] 31)) := (Below.refl _ _).alloc (Nat.le_refl _) _
      have hsz : (v2.alloc (.cells #[.int .u64 0, .int .u64 base] 31)).heap.size = v2.heap.size + 1 := by simp
      obtain ⟨v3, hv3⟩ : ∃ z, v2.alloc (.cells #[.int .u64 0, .int .u64 base] 31) = z := ⟨_, rfl⟩
      rw [hv3] at hz hk hu hsz ⊢
      obtain ⟨q3, hq3⟩ : ∃ z, v2.heap.size = z := ⟨_, rfl⟩
      rw [hq3] at hk ⊢
      have BV3 := Lib.hid hz
      have K3 := Lib.hid hk
      have X5_3 := Lib.hid (X5_2.out.below hu)
      have OW_3 := Lib.hid (OW_2.out.below hu)
      have NE_18_3 : ∀ y, a2 = some y → y.block ≠ q3 := fun y hy => by have := (OW_2.out.block hy).2.1; omega
      clear hz hk hu hsz hv3 hq3
      refine rg_act 19 ?_
      go_wp2_with (at_builtin; refine Stop.mk ?_)
      refine Stop.out ?_
      refine wpList_app rg_et rfl rfl (base := v0.heap.size) rfl rfl OW_3.out (SrcAt.blk2 (r := ((0 : Int), base)) K3.out) (by simp only [maxLen]; omega) (by omega) BV3.out.size ?_
      intro a4 k4 v4 ho on at9
      rw [show cellsR LA ++ cellsR [((0 : Int), base)] = cellsR (LA ++ [(0, base)]) by rw [cellsR_append]] at ho
      have hz : Below v0.heap.size v0 v4 := below_onto BV3.out on BV3.out.size (by rintro z hz ⟨y, hy, rfl⟩; have := (OW_3.out.block hy).1; omega)
      have BV4 := Lib.hid hz
      have OW_4 := Lib.hid ho
      have X5_4 := Lib.hid (on.blk X5_3.out (by rintro ⟨y, hy, he⟩; exact NE_5_2 y hy he))
      have hsz9 := on.size
      go_wp2_with (fail)
      refine ⟨hbel _ hz, ?_⟩
      clear hz on at9 ho
      refine rg_cut 20 ?_
      have hbG : Bnd (LA ++ [((0 : Int), base)]) := fun r hr => by
        rcases List.mem_append.1 hr with hr | hr
        · exact HRA.out.bnd r hr
        · rw [List.mem_singleton.1 hr]; exact ⟨by omega, by omega⟩
      clear hbel
      have hcut := cut_any (some ⟨q1, 0, none⟩) a4 1 (an + 1) 1 k4 [(off, off + m)] (LA ++ [(0, base)]) v4 rfl (by have := HAN.out; simp; omega) (one_rs X5_4.out (by omega) (by omega)) (OwnS.rs OW_4.out hbG).2 (by simp) (by simp; omega)
      have HCT := Lib.hid hcut
      clear hcut hbG
      go_wp2_with (fail)
      refine HCT.out.mono ?_
      rintro e w3 ⟨hb3, am, cm, MO, rfl, ho3, hbM, hnM, hlM⟩
      have b3 := below_on B0.out (below_on BV4.out hb3 BV4.out.size) B0.out.size
      obtain ⟨nM, hnm⟩ : ∃ n, MO.length = n := ⟨_, rfl⟩
      rw [hnm]
      have hB3 := HH.out.below b3
      have e5 := hB3.cell 5 _ rfl
      have lb3 : b < w3.heap.size := hB3.lt
      have hnmb : nM ≤ 20004 := by simp at hlM; omega
      have hadd := add_any la am ln nM lc cm LL MO w3 HLN.out hnm.symm (HRL.out.below b3) (OwnS.rs ho3 hbM).2 (by omega) (by omega)
      have HAD := Lib.hid hadd
      have B3 := Lib.hid b3
      have NM := Lib.hid hnM
      clear hb3 b3 hB3 ho3 hbM hlM hadd hnm hnM HCT
      go_wp2_with (fail)
      refine rg_below fun p hx hne hC hbel => ?_
      refine rg_quiet 0 [21] hC ?_
      simp only [pickD, List.map_cons, List.map_nil, List.getD_cons_zero, List.getD_cons_succ]; repeat (go_big_quiet_step (fail))
      refine wpQuiet_nil ?_
      refine rg_end ?_
      clear hx hne hC hbel
      go_wp2_with (fail)
      refine HAD.out.mono ?_
      rintro e w4 ⟨hb4, a4, c4, ML, rfl, ho4, hbL, hnL, hlL⟩
      have b4 := below_on B3.out hb4 B3.out.size
      have hB4 := HH.out.below b4
      have e5 := hB4.cell 5 _ rfl
      have m5 := hB4.free 5
      have e7 := hB4.cell 7 _ rfl
      have m7 := hB4.free 7
      have e8 := hB4.cell 8 _ rfl
      have lb4 : b < w4.heap.size := hB4.lt
      have hF4 : ∀ x, a4 = some x → x.block ≠ b := fun x hx => by have := (ho4.block hx).1; omega
      obtain ⟨nL, hnl⟩ : ∃ n, ML.length = n := ⟨_, rfl⟩
      rw [hnl]
      have hrs4 := (OwnS.rs ho4 hbL).2
      have on1 : Only (· = b) w4 (w4.setCell ⟨b, 5, none⟩ (.slice a4 nL c4)) := (Only.refl _ _).set 5 _
      have on2 : Only (· = b) w4 ((w4.setCell ⟨b, 5, none⟩ (.slice a4 nL c4)).setCell ⟨b, 7, none⟩ (.bool false)) := on1.set 7 _
      have ow4 : Only (· = b) w w4 := only_of_below b4 _
      have h5 := hB4.set 5 (.slice a4 nL c4)
      have fin1 : (sent && !(fv && !ack)) = sent → OMissPost w (w4.setCell ⟨b, 5, none⟩ (.slice a4 nL c4)) (.returned (.int .i64 0)) b ⟨ba, bn, bc, base, next, mx, aa, an, ac, la, ln, lc, fin, sent, ack⟩ LA LL off m fv := fun he =>
        ⟨ow4.trans on1, rfl, ⟨ba, bn, bc, base, next, mx, aa, an, ac, a4, nL, c4, fin, sent, ack⟩, MO, ML, h5.congr (by simp), by simp only [he, hnl], ⟨hnl.symm, hrs4.only on1 (fun x hx _ => hF4 x hx), fun x hx _ => hF4 x hx⟩, NM.out, hnL⟩
      have fin2 : (sent && !(fv && !ack)) = false → OMissPost w ((w4.setCell ⟨b, 5, none⟩ (.slice a4 nL c4)).setCell ⟨b, 7, none⟩ (.bool false)) (.returned (.int .i64 0)) b ⟨ba, bn, bc, base, next, mx, aa, an, ac, la, ln, lc, fin, sent, ack⟩ LA LL off m fv := fun he =>
        ⟨ow4.trans on2, rfl, ⟨ba, bn, bc, base, next, mx, aa, an, ac, a4, nL, c4, fin, false, ack⟩, MO, ML, (h5.set 7 (.bool false)).congr (by simp), by simp only [he, hnl], ⟨hnl.symm, hrs4.only on2 (fun x hx _ => hF4 x hx), fun x hx _ => hF4 x hx⟩, NM.out, hnL⟩
      have FIN1 := Lib.hid fin1
      have FIN2 := Lib.hid fin2
      clear hb4 b4 hB4 hF4 hrs4 on1 on2 ow4 h5 fin1 fin2 ho4 hbL hnL hlL hnl HAD
      cases fv with
      | false =>
        go_wp2_with (fail)
        go_returns
        exact FIN1.out (by simp)
      | true =>
        cases ack with
        | true =>
          go_wp2_with (fail)
          go_returns
          exact FIN1.out (by simp)
        | false =>
          go_wp2_with (fail)
          go_returns
          exact FIN2.out (by simp)
    · skip
      go_wp2_with (fail)
      refine ⟨hbel _ (BV1.out.alloc BV1.out.size _), ?_⟩
      have hz := BV1.out.alloc BV1.out.size (.cells #[.int .u64 0, .int .u64 base] 31)
      have hk := Blk.new v1 #[.int .u64 0, .int .u64 base] 31
      have hu : Below v1.heap.size v1 (v1.alloc (.cells #[.int .u64 0, .int .u64 base] 31)) := (Below.refl _ _).alloc (Nat.le_refl _) _
      have hsz : (v1.alloc (.cells #[.int .u64 0, .int .u64 base] 31)).heap.size = v1.heap.size + 1 := by simp
      obtain ⟨v5, hv5⟩ : ∃ z, v1.alloc (.cells #[.int .u64 0, .int .u64 base] 31) = z := ⟨_, rfl⟩
      rw [hv5] at hz hk hu hsz ⊢
      obtain ⟨q5, hq5⟩ : ∃ z, v1.heap.size = z := ⟨_, rfl⟩
      rw [hq5] at hk ⊢
      have BV5 := Lib.hid hz
      have K5 := Lib.hid hk
      have X5_5 := Lib.hid (K1.out.below hu)
      clear hz hk hu hsz hv5 hq5
      refine rg_act 11 ?_
      go_wp2_with (fail)
      refine (clone_any aa an ac LA v5 HAN.out (HRA.out.below (below_on B0.out BV5.out B0.out.size)) (by omega)).mono ?_
      rintro e v6 ⟨hu, a6, k6, rfl, ho⟩
      rw [← HAN.out] at ho
      have hz := below_on BV5.out hu BV5.out.size
      have BV6 := Lib.hid hz
      have OW_6 := Lib.hid (ho.base_le (base' := v0.heap.size) BV5.out.size)
      have X5_6 := Lib.hid (X5_5.out.below hu)
      have X18_6 := Lib.hid (K5.out.below hu)
      have NE_5_6 : ∀ y, a6 = some y → y.block ≠ q1 := fun y hy => by have h9 := (ho.block hy).1; have h8 := X5_5.out.lt; omega
      try simp only [← HAN.out]
      go_wp2_with (fail)
      refine ⟨hbel _ hz, ?_⟩
      clear hz hu ho
      refine rg_act 19 ?_
      go_wp2_with (at_builtin; refine Stop.mk ?_)
      refine Stop.out ?_
      refine wpList_app rg_et rfl rfl (base := v0.heap.size) rfl rfl OW_6.out (SrcAt.blk2 (r := ((0 : Int), base)) X18_6.out) (by simp only [maxLen]; omega) (by omega) BV6.out.size ?_
      intro a7 k7 v7 ho on at9
      rw [show cellsR LA ++ cellsR [((0 : Int), base)] = cellsR (LA ++ [(0, base)]) by rw [cellsR_append]] at ho
      have hz : Below v0.heap.size v0 v7 := below_onto BV6.out on BV6.out.size (by rintro z hz ⟨y, hy, rfl⟩; have := (OW_6.out.block hy).1; omega)
      have BV7 := Lib.hid hz
      have OW_7 := Lib.hid ho
      have X5_7 := Lib.hid (on.blk X5_6.out (by rintro ⟨y, hy, he⟩; exact NE_5_6 y hy he))
      have hsz9 := on.size
      go_wp2_with (fail)
      refine ⟨hbel _ hz, ?_⟩
      clear hz on at9 ho
      refine rg_cut 20 ?_
      have hbG : Bnd (LA ++ [((0 : Int), base)]) := fun r hr => by
        rcases List.mem_append.1 hr with hr | hr
        · exact HRA.out.bnd r hr
        · rw [List.mem_singleton.1 hr]; exact ⟨by omega, by omega⟩
      clear hbel
      have hcut := cut_any (some ⟨q1, 0, none⟩) a7 1 (an + 1) 1 k7 [(off, off + m)] (LA ++ [(0, base)]) v7 rfl (by have := HAN.out; simp; omega) (one_rs X5_7.out (by omega) (by omega)) (OwnS.rs OW_7.out hbG).2 (by simp) (by simp; omega)
      have HCT := Lib.hid hcut
      clear hcut hbG
      go_wp2_with (fail)
      refine HCT.out.mono ?_
      rintro e w3 ⟨hb3, am, cm, MO, rfl, ho3, hbM, hnM, hlM⟩
      have b3 := below_on B0.out (below_on BV7.out hb3 BV7.out.size) B0.out.size
      obtain ⟨nM, hnm⟩ : ∃ n, MO.length = n := ⟨_, rfl⟩
      rw [hnm]
      have hB3 := HH.out.below b3
      have e5 := hB3.cell 5 _ rfl
      have lb3 : b < w3.heap.size := hB3.lt
      have hnmb : nM ≤ 20004 := by simp at hlM; omega
      have hadd := add_any la am ln nM lc cm LL MO w3 HLN.out hnm.symm (HRL.out.below b3) (OwnS.rs ho3 hbM).2 (by omega) (by omega)
      have HAD := Lib.hid hadd
      have B3 := Lib.hid b3
      have NM := Lib.hid hnM
      clear hb3 b3 hB3 ho3 hbM hlM hadd hnm hnM HCT
      go_wp2_with (fail)
      refine rg_below fun p hx hne hC hbel => ?_
      refine rg_quiet 0 [21] hC ?_
      simp only [pickD, List.map_cons, List.map_nil, List.getD_cons_zero, List.getD_cons_succ]; repeat (go_big_quiet_step (fail))
      refine wpQuiet_nil ?_
      refine rg_end ?_
      clear hx hne hC hbel
      go_wp2_with (fail)
      refine HAD.out.mono ?_
      rintro e w4 ⟨hb4, a4, c4, ML, rfl, ho4, hbL, hnL, hlL⟩
      have b4 := below_on B3.out hb4 B3.out.size
      have hB4 := HH.out.below b4
      have e5 := hB4.cell 5 _ rfl
      have m5 := hB4.free 5
      have e7 := hB4.cell 7 _ rfl
      have m7 := hB4.free 7
      have e8 := hB4.cell 8 _ rfl
      have lb4 : b < w4.heap.size := hB4.lt
      have hF4 : ∀ x, a4 = some x → x.block ≠ b := fun x hx => by have := (ho4.block hx).1; omega
      obtain ⟨nL, hnl⟩ : ∃ n, ML.length = n := ⟨_, rfl⟩
      rw [hnl]
      have hrs4 := (OwnS.rs ho4 hbL).2
      have on1 : Only (· = b) w4 (w4.setCell ⟨b, 5, none⟩ (.slice a4 nL c4)) := (Only.refl _ _).set 5 _
      have on2 : Only (· = b) w4 ((w4.setCell ⟨b, 5, none⟩ (.slice a4 nL c4)).setCell ⟨b, 7, none⟩ (.bool false)) := on1.set 7 _
      have ow4 : Only (· = b) w w4 := only_of_below b4 _
      have h5 := hB4.set 5 (.slice a4 nL c4)
      have fin1 : (sent && !(fv && !ack)) = sent → OMissPost w (w4.setCell ⟨b, 5, none⟩ (.slice a4 nL c4)) (.returned (.int .i64 0)) b ⟨ba, bn, bc, base, next, mx, aa, an, ac, la, ln, lc, fin, sent, ack⟩ LA LL off m fv := fun he =>
        ⟨ow4.trans on1, rfl, ⟨ba, bn, bc, base, next, mx, aa, an, ac, a4, nL, c4, fin, sent, ack⟩, MO, ML, h5.congr (by simp), by simp only [he, hnl], ⟨hnl.symm, hrs4.only on1 (fun x hx _ => hF4 x hx), fun x hx _ => hF4 x hx⟩, NM.out, hnL⟩
      have fin2 : (sent && !(fv && !ack)) = false → OMissPost w ((w4.setCell ⟨b, 5, none⟩ (.slice a4 nL c4)).setCell ⟨b, 7, none⟩ (.bool false)) (.returned (.int .i64 0)) b ⟨ba, bn, bc, base, next, mx, aa, an, ac, la, ln, lc, fin, sent, ack⟩ LA LL off m fv := fun he =>
        ⟨ow4.trans on2, rfl, ⟨ba, bn, bc, base, next, mx, aa, an, ac, a4, nL, c4, fin, false, ack⟩, MO, ML, (h5.set 7 (.bool false)).congr (by simp), by simp only [he, hnl], ⟨hnl.symm, hrs4.only on2 (fun x hx _ => hF4 x hx), fun x hx _ => hF4 x hx⟩, NM.out, hnL⟩
      have FIN1 := Lib.hid fin1
      have FIN2 := Lib.hid fin2
      clear hb4 b4 hB4 hF4 hrs4 on1 on2 ow4 h5 fin1 fin2 ho4 hbL hnL hlL hnl HAD
      cases fv with
      | false =>
        go_wp2_with (fail)
        go_returns
        exact FIN1.out (by simp)
      | true =>
        cases ack with
        | true =>
          go_wp2_with (fail)
          go_returns
          exact FIN1.out (by simp)
        | false =>
          go_wp2_with (fail)
          go_returns
          exact FIN2.out (by simp)
  · skip
    go_wp2_with (fail)
    refine (clone_any aa an ac LA v0 HAN.out (HRA.out.below (below_on B0.out BV0.out B0.out.size)) (by omega)).mono ?_
    rintro e v8 ⟨hu, a8, k8, rfl, ho⟩
    rw [← HAN.out] at ho
    have hz := below_on BV0.out hu BV0.out.size
    have BV8 := Lib.hid hz
    have OW_8 := Lib.hid (ho.base_le (base' := v0.heap.size) BV0.out.size)
    try simp only [← HAN.out]
    go_wp2_with (fail)
    refine ⟨hbel _ hz, ?_⟩
    clear hz hu ho
    refine rg_among [5, 18] ?_
    simp only [List.forall_mem_cons, List.getD_cons_zero, List.getD_cons_succ]
    refine ⟨?_, ?_, by simp⟩
    · skip
      go_wp2_with (fail)
      refine ⟨hbel _ (BV8.out.alloc BV8.out.size _), ?_⟩
      have hz := BV8.out.alloc BV8.out.size (.cells #[.int .u64 off, .int .u64 (off + m)] 31)
      have hk := Blk.new v8 #[.int .u64 off, .int .u64 (off + m)] 31
      have hu : Below v8.heap.size v8 (v8.alloc (.cells #[.int .u64 off, .int .u64 (off + m)] 31)) := (Below.refl _ _).alloc (Nat.le_refl _) _
      have hsz : (v8.alloc (.cells #[.int .u64 off, .int .u64 (off + m)] 31)).heap.size = v8.heap.size + 1 := by simp
      obtain ⟨v9, hv9⟩ : ∃ z, v8.alloc (.cells #[.int .u64 off, .int .u64 (off + m)] 31) = z := ⟨_, rfl⟩
      rw [hv9] at hz hk hu hsz ⊢
      obtain ⟨q9, hq9⟩ : ∃ z, v8.heap.size = z := ⟨_, rfl⟩
      rw [hq9] at hk ⊢
      have BV9 := Lib.hid hz
      have K9 := Lib.hid hk
      have OW_9 := Lib.hid (OW_8.out.below hu)
      have NE_5_9 : ∀ y, a8 = some y → y.block ≠ q9 := fun y hy => by have := (OW_8.out.block hy).2.1; omega
      clear hz hk hu hsz hv9 hq9
      refine rg_act 18 ?_
      go_wp2_with (fail)
      refine ⟨hbel _ (BV9.out.alloc BV9.out.size _), ?_⟩
      have hz := BV9.out.alloc BV9.out.size (.cells #[.int .u64 0, .int .u64 base] 31)
      have hk := Blk.new v9 #[.int .u64 0, .int .u64 base] 31
      have hu : Below v9.heap.size v9 (v9.alloc (.cells #[.int .u64 0, .int .u64 base] 31)) := (Below.refl _ _).alloc (Nat.le_refl _) _
      have hsz : (v9.alloc (.cells #[.int .u64 0, .int .u64 base] 31)).heap.size = v9.heap.size + 1 := by simp
      obtain ⟨v10, hv10⟩ : ∃ z, v9.alloc (.cells #[.int .u64 0, .int .u64 base] 31) = z := ⟨_, rfl⟩
      rw [hv10] at hz hk hu hsz ⊢
      obtain ⟨q10, hq10⟩ : ∃ z, v9.heap.size = z := ⟨_, rfl⟩
      rw [hq10] at hk ⊢
      have BV10 := Lib.hid hz
      have K10 := Lib.hid hk
      have X5_10 := Lib.hid (K9.out.below hu)
      have OW_10 := Lib.hid (OW_9.out.below hu)
      have NE_18_10 : ∀ y, a8 = some y → y.block ≠ q10 := fun y hy => by have := (OW_9.out.block hy).2.1; omega
      clear hz hk hu hsz hv10 hq10
      refine rg_act 19 ?_
      go_wp2_with (at_builtin; refine Stop.mk ?_)
      refine Stop.out ?_
      refine wpList_app rg_et rfl rfl (base := v0.heap.size) rfl rfl OW_10.out (SrcAt.blk2 (r := ((0 : Int), base)) K10.out) (by simp only [maxLen]; omega) (by omega) BV10.out.size ?_
      intro a11 k11 v11 ho on at9
      rw [show cellsR LA ++ cellsR [((0 : Int), base)] = cellsR (LA ++ [(0, base)]) by rw [cellsR_append]] at ho
      have hz : Below v0.heap.size v0 v11 := below_onto BV10.out on BV10.out.size (by rintro z hz ⟨y, hy, rfl⟩; have := (OW_10.out.block hy).1; omega)
      have BV11 := Lib.hid hz
      have OW_11 := Lib.hid ho
      have X5_11 := Lib.hid (on.blk X5_10.out (by rintro ⟨y, hy, he⟩; exact NE_5_9 y hy he))
      have hsz9 := on.size
      go_wp2_with (fail)
      refine ⟨hbel _ hz, ?_⟩
      clear hz on at9 ho
      refine rg_cut 20 ?_
      have hbG : Bnd (LA ++ [((0 : Int), base)]) := fun r hr => by
        rcases List.mem_append.1 hr with hr | hr
        · exact HRA.out.bnd r hr
        · rw [List.mem_singleton.1 hr]; exact ⟨by omega, by omega⟩
      clear hbel
      have hcut := cut_any (some ⟨q9, 0, none⟩) a11 1 (an + 1) 1 k11 [(off, off + m)] (LA ++ [(0, base)]) v11 rfl (by have := HAN.out; simp; omega) (one_rs X5_11.out (by omega) (by omega)) (OwnS.rs OW_11.out hbG).2 (by simp) (by simp; omega)
      have HCT := Lib.hid hcut
      clear hcut hbG
      go_wp2_with (fail)
      refine HCT.out.mono ?_
      rintro e w3 ⟨hb3, am, cm, MO, rfl, ho3, hbM, hnM, hlM⟩
      have b3 := below_on B0.out (below_on BV11.out hb3 BV11.out.size) B0.out.size
      obtain ⟨nM, hnm⟩ : ∃ n, MO.length = n := ⟨_, rfl⟩
      rw [hnm]
      have hB3 := HH.out.below b3
      have e5 := hB3.cell 5 _ rfl
      have lb3 : b < w3.heap.size := hB3.lt
      have hnmb : nM ≤ 20004 := by simp at hlM; omega
      have hadd := add_any la am ln nM lc cm LL MO w3 HLN.out hnm.symm (HRL.out.below b3) (OwnS.rs ho3 hbM).2 (by omega) (by omega)
      have HAD := Lib.hid hadd
      have B3 := Lib.hid b3
      have NM := Lib.hid hnM
      clear hb3 b3 hB3 ho3 hbM hlM hadd hnm hnM HCT
      go_wp2_with (fail)
      refine rg_below fun p hx hne hC hbel => ?_
      refine rg_quiet 0 [21] hC ?_
      simp only [pickD, List.map_cons, List.map_nil, List.getD_cons_zero, List.getD_cons_succ]; repeat (go_big_quiet_step (fail))
      refine wpQuiet_nil ?_
      refine rg_end ?_
      clear hx hne hC hbel
      go_wp2_with (fail)
      refine HAD.out.mono ?_
      rintro e w4 ⟨hb4, a4, c4, ML, rfl, ho4, hbL, hnL, hlL⟩
      have b4 := below_on B3.out hb4 B3.out.size
      have hB4 := HH.out.below b4
      have e5 := hB4.cell 5 _ rfl
      have m5 := hB4.free 5
      have e7 := hB4.cell 7 _ rfl
      have m7 := hB4.free 7
      have e8 := hB4.cell 8 _ rfl
      have lb4 : b < w4.heap.size := hB4.lt
      have hF4 : ∀ x, a4 = some x → x.block ≠ b := fun x hx => by have := (ho4.block hx).1; omega
      obtain ⟨nL, hnl⟩ : ∃ n, ML.length = n := ⟨_, rfl⟩
      rw [hnl]
      have hrs4 := (OwnS.rs ho4 hbL).2
      have on1 : Only (· = b) w4 (w4.setCell ⟨b, 5, none⟩ (.slice a4 nL c4)) := (Only.refl _ _).set 5 _
      have on2 : Only (· = b) w4 ((w4.setCell ⟨b, 5, none⟩ (.slice a4 nL c4)).setCell ⟨b, 7, none⟩ (.bool false)) := on1.set 7 _
      have ow4 : Only (· = b) w w4 := only_of_below b4 _
      have h5 := hB4.set 5 (.slice a4 nL c4)
      have fin1 : (sent && !(fv && !ack)) = sent → OMissPost w (w4.setCell ⟨b, 5, none⟩ (.slice a4 nL c4)) (.returned (.int .i64 0)) b ⟨ba, bn, bc, base, next, mx, aa, an, ac, la, ln, lc, fin, sent, ack⟩ LA LL off m fv := fun he =>
        ⟨ow4.trans on1, rfl, ⟨ba, bn, bc, base, next, mx, aa, an, ac, a4, nL, c4, fin, sent, ack⟩, MO, ML, h5.congr (by simp), by simp only [he, hnl], ⟨hnl.symm, hrs4.only on1 (fun x hx _ => hF4 x hx), fun x hx _ => hF4 x hx⟩, NM.out, hnL⟩
      have fin2 : (sent && !(fv && !ack)) = false → OMissPost w ((w4.setCell ⟨b, 5, none⟩ (.slice a4 nL c4)).setCell ⟨b, 7, none⟩ (.bool false)) (.returned (.int .i64 0)) b ⟨ba, bn, bc, base, next, mx, aa, an, ac, la, ln, lc, fin, sent, ack⟩ LA LL off m fv := fun he =>
        ⟨ow4.trans on2, rfl, ⟨ba, bn, bc, base, next, mx, aa, an, ac, a4, nL, c4, fin, false, ack⟩, MO, ML, (h5.set 7 (.bool false)).congr (by simp), by simp only [he, hnl], ⟨hnl.symm, hrs4.only on2 (fun x hx _ => hF4 x hx), fun x hx _ => hF4 x hx⟩, NM.out, hnL⟩
      have FIN1 := Lib.hid fin1
      have FIN2 := Lib.hid fin2
      clear hb4 b4 hB4 hF4 hrs4 on1 on2 ow4 h5 fin1 fin2 ho4 hbL hnL hlL hnl HAD
      cases fv with
      | false =>
        go_wp2_with (fail)
        go_returns
        exact FIN1.out (by simp)
      | true =>
        cases ack with
        | true =>
          go_wp2_with (fail)
          go_returns
          exact FIN1.out (by simp)
        | false =>
          go_wp2_with (fail)
          go_returns
          exact FIN2.out (by simp)
    · skip
      go_wp2_with (fail)
      refine ⟨hbel _ (BV8.out.alloc BV8.out.size _), ?_⟩
      have hz := BV8.out.alloc BV8.out.size (.cells #[.int .u64 0, .int .u64 base] 31)
      have hk := Blk.new v8 #[.int .u64 0, .int .u64 base] 31
      have hu : Below v8.heap.size v8 (v8.alloc (.cells #[.int .u64 0, .int .u64 base] 31)) := (Below.refl _ _).alloc (Nat.le_refl _) _
      have hsz : (v8.alloc (.cells #[.int .u64 0, .int .u64 base] 31)).heap.size = v8.heap.size + 1 := by simp
      obtain ⟨v12, hv12⟩ : ∃ z, v8.alloc (.cells #[.int .u64 0, .int .u64 base] 31) = z := ⟨_, rfl⟩
      rw [hv12] at hz hk hu hsz ⊢
      obtain ⟨q12, hq12⟩ : ∃ z, v8.heap.size = z := ⟨_, rfl⟩
      rw [hq12] at hk ⊢
      have BV12 := Lib.hid hz
      have K12 := Lib.hid hk
      have OW_12 := Lib.hid (OW_8.out.below hu)
      have NE_18_12 : ∀ y, a8 = some y → y.block ≠ q12 := fun y hy => by have := (OW_8.out.block hy).2.1; omega
      clear hz hk hu hsz hv12 hq12
      refine rg_among [5, 19] ?_
      simp only [List.forall_mem_cons, List.getD_cons_zero, List.getD_cons_succ]
      refine ⟨?_, ?_, by simp⟩
      · skip
        go_wp2_with (fail)
        refine ⟨hbel _ (BV12.out.alloc BV12.out.size _), ?_⟩
        have hz := BV12.out.alloc BV12.out.size (.cells #[.int .u64 off, .int .u64 (off + m)] 31)
        have hk := Blk.new v12 #[.int .u64 off, .int .u64 (off + m)] 31
        have hu : Below v12.heap.size v12 (v12.alloc (.cells #[.int .u64 off, .int .u64 (off + m)] 31)) := (Below.refl _ _).alloc (Nat.le_refl _) _
        have hsz : (v12.alloc (.cells #[.int .u64 off, .int .u64 (off + m)] 31)).heap.size = v12.heap.size + 1 := by simp
        obtain ⟨v13, hv13⟩ : ∃ z, v12.alloc (.cells #[.int .u64 off, .int .u64 (off + m)] 31) = z := ⟨_, rfl⟩
        rw [hv13] at hz hk hu hsz ⊢
        obtain ⟨q13, hq13⟩ : ∃ z, v12.heap.size = z := ⟨_, rfl⟩
        rw [hq13] at hk ⊢
        have BV13 := Lib.hid hz
        have K13 := Lib.hid hk
        have X18_13 := Lib.hid (K12.out.below hu)
        have OW_13 := Lib.hid (OW_12.out.below hu)
        have NE_5_13 : ∀ y, a8 = some y → y.block ≠ q13 := fun y hy => by have := (OW_12.out.block hy).2.1; omega
        clear hz hk hu hsz hv13 hq13
        refine rg_act 19 ?_
        go_wp2_with (at_builtin; refine Stop.mk ?_)
        refine Stop.out ?_
        refine wpList_app rg_et rfl rfl (base := v0.heap.size) rfl rfl OW_13.out (SrcAt.blk2 (r := ((0 : Int), base)) X18_13.out) (by simp only [maxLen]; omega) (by omega) BV13.out.size ?_
        intro a14 k14 v14 ho on at9
        rw [show cellsR LA ++ cellsR [((0 : Int), base)] = cellsR (LA ++ [(0, base)]) by rw [cellsR_append]] at ho
        have hz : Below v0.heap.size v0 v14 := below_onto BV13.out on BV13.out.size (by rintro z hz ⟨y, hy, rfl⟩; have := (OW_13.out.block hy).1; omega)
        have BV14 := Lib.hid hz
        have OW_14 := Lib.hid ho
        have X5_14 := Lib.hid (on.blk K13.out (by rintro ⟨y, hy, he⟩; exact NE_5_13 y hy he))
        have hsz9 := on.size
        go_wp2_with (fail)
        refine ⟨hbel _ hz, ?_⟩
        clear hz on at9 ho
        refine rg_cut 20 ?_
        have hbG : Bnd (LA ++ [((0 : Int), base)]) := fun r hr => by
          rcases List.mem_append.1 hr with hr | hr
          · exact HRA.out.bnd r hr
          · rw [List.mem_singleton.1 hr]; exact ⟨by omega, by omega⟩
        clear hbel
        have hcut := cut_any (some ⟨q13, 0, none⟩) a14 1 (an + 1) 1 k14 [(off, off + m)] (LA ++ [(0, base)]) v14 rfl (by have := HAN.out; simp; omega) (one_rs X5_14.out (by omega) (by omega)) (OwnS.rs OW_14.out hbG).2 (by simp) (by simp; omega)
        have HCT := Lib.hid hcut
        clear hcut hbG
        go_wp2_with (fail)
        refine HCT.out.mono ?_
        rintro e w3 ⟨hb3, am, cm, MO, rfl, ho3, hbM, hnM, hlM⟩
        have b3 := below_on B0.out (below_on BV14.out hb3 BV14.out.size) B0.out.size
        obtain ⟨nM, hnm⟩ : ∃ n, MO.length = n := ⟨_, rfl⟩
        rw [hnm]
        have hB3 := HH.out.below b3
        have e5 := hB3.cell 5 _ rfl
        have lb3 : b < w3.heap.size := hB3.lt
        have hnmb : nM ≤ 20004 := by simp at hlM; omega
        have hadd := add_any la am ln nM lc cm LL MO w3 HLN.out hnm.symm (HRL.out.below b3) (OwnS.rs ho3 hbM).2 (by omega) (by omega)
        have HAD := Lib.hid hadd
        have B3 := Lib.hid b3
        have NM := Lib.hid hnM
        clear hb3 b3 hB3 ho3 hbM hlM hadd hnm hnM HCT
        go_wp2_with (fail)
        refine rg_below fun p hx hne hC hbel => ?_
        refine rg_quiet 0 [21] hC ?_
        simp only [pickD, List.map_cons, List.map_nil, List.getD_cons_zero, List.getD_cons_succ]; repeat (go_big_quiet_step (fail))
        refine wpQuiet_nil ?_
        refine rg_end ?_
        clear hx hne hC hbel
        go_wp2_with (fail)
        refine HAD.out.mono ?_
        rintro e w4 ⟨hb4, a4, c4, ML, rfl, ho4, hbL, hnL, hlL⟩
        have b4 := below_on B3.out hb4 B3.out.size
        have hB4 := HH.out.below b4
        have e5 := hB4.cell 5 _ rfl
        have m5 := hB4.free 5
        have e7 := hB4.cell 7 _ rfl
        have m7 := hB4.free 7
        have e8 := hB4.cell 8 _ rfl
        have lb4 : b < w4.heap.size := hB4.lt
        have hF4 : ∀ x, a4 = some x → x.block ≠ b := fun x hx => by have := (ho4.block hx).1; omega
        obtain ⟨nL, hnl⟩ : ∃ n, ML.length = n := ⟨_, rfl⟩
        rw [hnl]
        have hrs4 := (OwnS.rs ho4 hbL).2
        have on1 : Only (· = b) w4 (w4.setCell ⟨b, 5, none⟩ (.slice a4 nL c4)) := (Only.refl _ _).set 5 _
        have on2 : Only (· = b) w4 ((w4.setCell ⟨b, 5, none⟩ (.slice a4 nL c4)).setCell ⟨b, 7, none⟩ (.bool false)) := on1.set 7 _
        have ow4 : Only (· = b) w w4 := only_of_below b4 _
        have h5 := hB4.set 5 (.slice a4 nL c4)
        have fin1 : (sent && !(fv && !ack)) = sent → OMissPost w (w4.setCell ⟨b, 5, none⟩ (.slice a4 nL c4)) (.returned (.int .i64 0)) b ⟨ba, bn, bc, base, next, mx, aa, an, ac, la, ln, lc, fin, sent, ack⟩ LA LL off m fv := fun he =>
          ⟨ow4.trans on1, rfl, ⟨ba, bn, bc, base, next, mx, aa, an, ac, a4, nL, c4, fin, sent, ack⟩, MO, ML, h5.congr (by simp), by simp only [he, hnl], ⟨hnl.symm, hrs4.only on1 (fun x hx _ => hF4 x hx), fun x hx _ => hF4 x hx⟩, NM.out, hnL⟩
        have fin2 : (sent && !(fv && !ack)) = false → OMissPost w ((w4.setCell ⟨b, 5, none⟩ (.slice a4 nL c4)).setCell ⟨b, 7, none⟩ (.bool false)) (.returned (.int .i64 0)) b ⟨ba, bn, bc, base, next, mx, aa, an, ac, la, ln, lc, fin, sent, ack⟩ LA LL off m fv := fun he =>
          ⟨ow4.trans on2, rfl, ⟨ba, bn, bc, base, next, mx, aa, an, ac, a4, nL, c4, fin, false, ack⟩, MO, ML, (h5.set 7 (.bool false)).congr (by simp), by simp only [he, hnl], ⟨hnl.symm, hrs4.only on2 (fun x hx _ => hF4 x hx), fun x hx _ => hF4 x hx⟩, NM.out, hnL⟩
        have FIN1 := Lib.hid fin1
        have FIN2 := Lib.hid fin2
        clear hb4 b4 hB4 hF4 hrs4 on1 on2 ow4 h5 fin1 fin2 ho4 hbL hnL hlL hnl HAD
        cases fv with
        | false =>
          go_wp2_with (fail)
          go_returns
          exact FIN1.out (by simp)
        | true =>
          cases ack with
          | true =>
            go_wp2_with (fail)
            go_returns
            exact FIN1.out (by simp)
          | false =>
            go_wp2_with (fail)
            go_returns
            exact FIN2.out (by simp)
      · skip
        go_wp2_with (at_builtin; refine Stop.mk ?_)
        refine Stop.out ?_
        refine wpList_app rg_et rfl rfl (base := v0.heap.size) rfl rfl OW_12.out (SrcAt.blk2 (r := ((0 : Int), base)) K12.out) (by simp only [maxLen]; omega) (by omega) BV12.out.size ?_
        intro a15 k15 v15 ho on at9
        rw [show cellsR LA ++ cellsR [((0 : Int), base)] = cellsR (LA ++ [(0, base)]) by rw [cellsR_append]] at ho
        have hz : Below v0.heap.size v0 v15 := below_onto BV12.out on BV12.out.size (by rintro z hz ⟨y, hy, rfl⟩; have := (OW_12.out.block hy).1; omega)
        have BV15 := Lib.hid hz
        have OW_15 := Lib.hid ho
        have hsz9 := on.size
        go_wp2_with (fail)
        refine ⟨hbel _ hz, ?_⟩
        clear hz on at9 ho
        refine rg_act 5 ?_
        go_wp2_with (fail)
        refine ⟨hbel _ (BV15.out.alloc BV15.out.size _), ?_⟩
        have hz := BV15.out.alloc BV15.out.size (.cells #[.int .u64 off, .int .u64 (off + m)] 31)
        have hk := Blk.new v15 #[.int .u64 off, .int .u64 (off + m)] 31
        have hu : Below v15.heap.size v15 (v15.alloc (.cells #[.int .u64 off, .int .u64 (off + m)] 31)) := (Below.refl _ _).alloc (Nat.le_refl _) _
        have hsz : (v15.alloc (.cells #[.int .u64 off, .int .u64 (off + m)] 31)).heap.size = v15.heap.size + 1 := by simp
        obtain ⟨v16, hv16⟩ : ∃ z, v15.alloc (.cells #[.int .u64 off, .int .u64 (off + m)] 31) = z := ⟨_, rfl⟩
        rw [hv16] at hz hk hu hsz ⊢
        obtain ⟨q16, hq16⟩ : ∃ z, v15.heap.size = z := ⟨_, rfl⟩
        rw [hq16] at hk ⊢
        have BV16 := Lib.hid hz
        have K16 := Lib.hid hk
        have OW_16 := Lib.hid (OW_15.out.below hu)
        have NE_5_16 : ∀ y, a15 = some y → y.block ≠ q16 := fun y hy => by have := (OW_15.out.block hy).2.1; omega
        clear hz hk hu hsz hv16 hq16
        refine rg_cut 20 ?_
        have hbG : Bnd (LA ++ [((0 : Int), base)]) := fun r hr => by
          rcases List.mem_append.1 hr with hr | hr
          · exact HRA.out.bnd r hr
          · rw [List.mem_singleton.1 hr]; exact ⟨by omega, by omega⟩
        clear hbel
        have hcut := cut_any (some ⟨q16, 0, none⟩) a15 1 (an + 1) 1 k15 [(off, off + m)] (LA ++ [(0, base)]) v16 rfl (by have := HAN.out; simp; omega) (one_rs K16.out (by omega) (by omega)) (OwnS.rs OW_16.out hbG).2 (by simp) (by simp; omega)
        have HCT := Lib.hid hcut
        clear hcut hbG
        go_wp2_with (fail)
        refine HCT.out.mono ?_
        rintro e w3 ⟨hb3, am, cm, MO, rfl, ho3, hbM, hnM, hlM⟩
        have b3 := below_on B0.out (below_on BV16.out hb3 BV16.out.size) B0.out.size
        obtain ⟨nM, hnm⟩ : ∃ n, MO.length = n := ⟨_, rfl⟩
        rw [hnm]
        have hB3 := HH.out.below b3
        have e5 := hB3.cell 5 _ rfl
        have lb3 : b < w3.heap.size := hB3.lt
        have hnmb : nM ≤ 20004 := by simp at hlM; omega
        have hadd := add_any la am ln nM lc cm LL MO w3 HLN.out hnm.symm (HRL.out.below b3) (OwnS.rs ho3 hbM).2 (by omega) (by omega)
        have HAD := Lib.hid hadd
        have B3 := Lib.hid b3
        have NM := Lib.hid hnM
        clear hb3 b3 hB3 ho3 hbM hlM hadd hnm hnM HCT
        go_wp2_with (fail)
        refine rg_below fun p hx hne hC hbel => ?_
        refine rg_quiet 0 [21] hC ?_
        simp only [pickD, List.map_cons, List.map_nil, List.getD_cons_zero, List.getD_cons_succ]; repeat (go_big_quiet_step (fail))
        refine wpQuiet_nil ?_
        refine rg_end ?_
        clear hx hne hC hbel
        go_wp2_with (fail)
        refine HAD.out.mono ?_
        rintro e w4 ⟨hb4, a4, c4, ML, rfl, ho4, hbL, hnL, hlL⟩
        have b4 := below_on B3.out hb4 B3.out.size
        have hB4 := HH.out.below b4
        have e5 := hB4.cell 5 _ rfl
        have m5 := hB4.free 5
        have e7 := hB4.cell 7 _ rfl
        have m7 := hB4.free 7
        have e8 := hB4.cell 8 _ rfl
        have lb4 : b < w4.heap.size := hB4.lt
        have hF4 : ∀ x, a4 = some x → x.block ≠ b := fun x hx => by have := (ho4.block hx).1; omega
        obtain ⟨nL, hnl⟩ : ∃ n, ML.length = n := ⟨_, rfl⟩
        rw [hnl]
        have hrs4 := (OwnS.rs ho4 hbL).2
        have on1 : Only (· = b) w4 (w4.setCell ⟨b, 5, none⟩ (.slice a4 nL c4)) := (Only.refl _ _).set 5 _
        have on2 : Only (· = b) w4 ((w4.setCell ⟨b, 5, none⟩ (.slice a4 nL c4)).setCell ⟨b, 7, none⟩ (.bool false)) := on1.set 7 _
        have ow4 : Only (· = b) w w4 := only_of_below b4 _
        have h5 := hB4.set 5 (.slice a4 nL c4)
        have fin1 : (sent && !(fv && !ack)) = sent → OMissPost w (w4.setCell ⟨b, 5, none⟩ (.slice a4 nL c4)) (.returned (.int .i64 0)) b ⟨ba, bn, bc, base, next, mx, aa, an, ac, la, ln, lc, fin, sent, ack⟩ LA LL off m fv := fun he =>
          ⟨ow4.trans on1, rfl, ⟨ba, bn, bc, base, next, mx, aa, an, ac, a4, nL, c4, fin, sent, ack⟩, MO, ML, h5.congr (by simp), by simp only [he, hnl], ⟨hnl.symm, hrs4.only on1 (fun x hx _ => hF4 x hx), fun x hx _ => hF4 x hx⟩, NM.out, hnL⟩
        have fin2 : (sent && !(fv && !ack)) = false → OMissPost w ((w4.setCell ⟨b, 5, none⟩ (.slice a4 nL c4)).setCell ⟨b, 7, none⟩ (.bool false)) (.returned (.int .i64 0)) b ⟨ba, bn, bc, base, next, mx, aa, an, ac, la, ln, lc, fin, sent, ack⟩ LA LL off m fv := fun he =>
          ⟨ow4.trans on2, rfl, ⟨ba, bn, bc, base, next, mx, aa, an, ac, a4, nL, c4, fin, false, ack⟩, MO, ML, (h5.set 7 (.bool false)).congr (by simp), by simp only [he, hnl], ⟨hnl.symm, hrs4.only on2 (fun x hx _ => hF4 x hx), fun x hx _ => hF4 x hx⟩, NM.out, hnL⟩
        have FIN1 := Lib.hid fin1
        have FIN2 := Lib.hid fin2
        clear hb4 b4 hB4 hF4 hrs4 on1 on2 ow4 h5 fin1 fin2 ho4 hbL hnL hlL hnl HAD
        cases fv with
        | false =>
          go_wp2_with (fail)
          go_returns
          exact FIN1.out (by simp)
        | true =>
          cases ack with
          | true =>
            go_wp2_with (fail)
            go_returns
            exact FIN1.out (by simp)
          | false =>
            go_wp2_with (fail)
            go_returns
            exact FIN2.out (by simp)
  · skip
    go_wp2_with (fail)
    refine ⟨hbel _ (BV0.out.alloc BV0.out.size _), ?_⟩
    have hz := BV0.out.alloc BV0.out.size (.cells #[.int .u64 0, .int .u64 base] 31)
    have hk := Blk.new v0 #[.int .u64 0, .int .u64 base] 31
    have hu : Below v0.heap.size v0 (v0.alloc (.cells #[.int .u64 0, .int .u64 base] 31)) := (Below.refl _ _).alloc (Nat.le_refl _) _
    have hsz : (v0.alloc (.cells #[.int .u64 0, .int .u64 base] 31)).heap.size = v0.heap.size + 1 := by simp
    obtain ⟨v17, hv17⟩ : ∃ z, v0.alloc (.cells #[.int .u64 0, .int .u64 base] 31) = z := ⟨_, rfl⟩
    rw [hv17] at hz hk hu hsz ⊢
    obtain ⟨q17, hq17⟩ : ∃ z, v0.heap.size = z := ⟨_, rfl⟩
    rw [hq17] at hk ⊢
    have BV17 := Lib.hid hz
    have K17 := Lib.hid hk
    clear hz hk hu hsz hv17 hq17
    refine rg_among [5, 11] ?_
    simp only [List.forall_mem_cons, List.getD_cons_zero, List.getD_cons_succ]
    refine ⟨?_, ?_, by simp⟩
    · skip
      go_wp2_with (fail)
      refine ⟨hbel _ (BV17.out.alloc BV17.out.size _), ?_⟩
      have hz := BV17.out.alloc BV17.out.size (.cells #[.int .u64 off, .int .u64 (off + m)] 31)
      have hk := Blk.new v17 #[.int .u64 off, .int .u64 (off + m)] 31
      have hu : Below v17.heap.size v17 (v17.alloc (.cells #[.int .u64 off, .int .u64 (off + m)] 31)) := (Below.refl _ _).alloc (Nat.le_refl _) _
      have hsz : (v17.alloc (.cells #[.int .u64 off, .int .u64 (off + m)] 31)).heap.size = v17.heap.size + 1 := by simp
      obtain ⟨v18, hv18⟩ : ∃ z, v17.alloc (.cells #[.int .u64 off, .int .u64 (off + m)] 31) = z := ⟨_, rfl⟩
      rw [hv18] at hz hk hu hsz ⊢
      obtain ⟨q18, hq18⟩ : ∃ z, v17.heap.size = z := ⟨_, rfl⟩
      rw [hq18] at hk ⊢
      have BV18 := Lib.hid hz
      have K18 := Lib.hid hk
      have X18_18 := Lib.hid (K17.out.below hu)
      clear hz hk hu hsz hv18 hq18
      refine rg_act 11 ?_
      go_wp2_with (fail)
      refine (clone_any aa an ac LA v18 HAN.out (HRA.out.below (below_on B0.out BV18.out B0.out.size)) (by omega)).mono ?_
      rintro e v19 ⟨hu, a19, k19, rfl, ho⟩
      rw [← HAN.out] at ho
      have hz := below_on BV18.out hu BV18.out.size
      have BV19 := Lib.hid hz
      have OW_19 := Lib.hid (ho.base_le (base' := v0.heap.size) BV18.out.size)
      have X5_19 := Lib.hid (K18.out.below hu)
      have X18_19 := Lib.hid (X18_18.out.below hu)
      have NE_5_19 : ∀ y, a19 = some y → y.block ≠ q18 := fun y hy => by have h9 := (ho.block hy).1; have h8 := K18.out.lt; omega
      try simp only [← HAN.out]
      go_wp2_with (fail)
      refine ⟨hbel _ hz, ?_⟩
      clear hz hu ho
      refine rg_act 19 ?_
      go_wp2_with (at_builtin; refine Stop.mk ?_)
      refine Stop.out ?_
      refine wpList_app rg_et rfl rfl (base := v0.heap.size) rfl rfl OW_19.out (SrcAt.blk2 (r := ((0 : Int), base)) X18_19.out) (by simp only [maxLen]; omega) (by omega) BV19.out.size ?_
      intro a20 k20 v20 ho on at9
      rw [show cellsR LA ++ cellsR [((0 : Int), base)] = cellsR (LA ++ [(0, base)]) by rw [cellsR_append]] at ho
      have hz : Below v0.heap.size v0 v20 := below_onto BV19.out on BV19.out.size (by rintro z hz ⟨y, hy, rfl⟩; have := (OW_19.out.block hy).1; omega)
      have BV20 := Lib.hid hz
      have OW_20 := Lib.hid ho
      have X5_20 := Lib.hid (on.blk X5_19.out (by rintro ⟨y, hy, he⟩; exact NE_5_19 y hy he))
      have hsz9 := on.size
      go_wp2_with (fail)
      refine ⟨hbel _ hz, ?_⟩
      clear hz on at9 ho
      refine rg_cut 20 ?_
      have hbG : Bnd (LA ++ [((0 : Int), base)]) := fun r hr => by
        rcases List.mem_append.1 hr with hr | hr
        · exact HRA.out.bnd r hr
        · rw [List.mem_singleton.1 hr]; exact ⟨by omega, by omega⟩
      clear hbel
      have hcut := cut_any (some ⟨q18, 0, none⟩) a20 1 (an + 1) 1 k20 [(off, off + m)] (LA ++ [(0, base)]) v20 rfl (by have := HAN.out; simp; omega) (one_rs X5_20.out (by omega) (by omega)) (OwnS.rs OW_20.out hbG).2 (by simp) (by simp; omega)
      have HCT := Lib.hid hcut
      clear hcut hbG
      go_wp2_with (fail)
      refine HCT.out.mono ?_
      rintro e w3 ⟨hb3, am, cm, MO, rfl, ho3, hbM, hnM, hlM⟩
      have b3 := below_on B0.out (below_on BV20.out hb3 BV20.out.size) B0.out.size
      obtain ⟨nM, hnm⟩ : ∃ n, MO.length = n := ⟨_, rfl⟩
      rw [hnm]
      have hB3 := HH.out.below b3
      have e5 := hB3.cell 5 _ rfl
      have lb3 : b < w3.heap.size := hB3.lt
      have hnmb : nM ≤ 20004 := by simp at hlM; omega
      have hadd := add_any la am ln nM lc cm LL MO w3 HLN.out hnm.symm (HRL.out.below b3) (OwnS.rs ho3 hbM).2 (by omega) (by omega)
      have HAD := Lib.hid hadd
      have B3 := Lib.hid b3
      have NM := Lib.hid hnM
      clear hb3 b3 hB3 ho3 hbM hlM hadd hnm hnM HCT
      go_wp2_with (fail)
      refine rg_below fun p hx hne hC hbel => ?_
      refine rg_quiet 0 [21] hC ?_
      simp only [pickD, List.map_cons, List.map_nil, List.getD_cons_zero, List.getD_cons_succ]; repeat (go_big_quiet_step (fail))
      refine wpQuiet_nil ?_
      refine rg_end ?_
      clear hx hne hC hbel
      go_wp2_with (fail)
      refine HAD.out.mono ?_
      rintro e w4 ⟨hb4, a4, c4, ML, rfl, ho4, hbL, hnL, hlL⟩
      have b4 := below_on B3.out hb4 B3.out.size
      have hB4 := HH.out.below b4
      have e5 := hB4.cell 5 _ rfl
      have m5 := hB4.free 5
      have e7 := hB4.cell 7 _ rfl
      have m7 := hB4.free 7
      have e8 := hB4.cell 8 _ rfl
      have lb4 : b < w4.heap.size := hB4.lt
      have hF4 : ∀ x, a4 = some x → x.block ≠ b := fun x hx => by have := (ho4.block hx).1; omega
      obtain ⟨nL, hnl⟩ : ∃ n, ML.length = n := ⟨_, rfl⟩
      rw [hnl]
      have hrs4 := (OwnS.rs ho4 hbL).2
      have on1 : Only (· = b) w4 (w4.setCell ⟨b, 5, none⟩ (.slice a4 nL c4)) := (Only.refl _ _).set 5 _
      have on2 : Only (· = b) w4 ((w4.setCell ⟨b, 5, none⟩ (.slice a4 nL c4)).setCell ⟨b, 7, none⟩ (.bool false)) := on1.set 7 _
      have ow4 : Only (· = b) w w4 := only_of_below b4 _
      have h5 := hB4.set 5 (.slice a4 nL c4)
      have fin1 : (sent && !(fv && !ack)) = sent → OMissPost w (w4.setCell ⟨b, 5, none⟩ (.slice a4 nL c4)) (.returned (.int .i64 0)) b ⟨ba, bn, bc, base, next, mx, aa, an, ac, la, ln, lc, fin, sent, ack⟩ LA LL off m fv := fun he =>
        ⟨ow4.trans on1, rfl, ⟨ba, bn, bc, base, next, mx, aa, an, ac, a4, nL, c4, fin, sent, ack⟩, MO, ML, h5.congr (by simp), by simp only [he, hnl], ⟨hnl.symm, hrs4.only on1 (fun x hx _ => hF4 x hx), fun x hx _ => hF4 x hx⟩, NM.out, hnL⟩
      have fin2 : (sent && !(fv && !ack)) = false → OMissPost w ((w4.setCell ⟨b, 5, none⟩ (.slice a4 nL c4)).setCell ⟨b, 7, none⟩ (.bool false)) (.returned (.int .i64 0)) b ⟨ba, bn, bc, base, next, mx, aa, an, ac, la, ln, lc, fin, sent, ack⟩ LA LL off m fv := fun he =>
        ⟨ow4.trans on2, rfl, ⟨ba, bn, bc, base, next, mx, aa, an, ac, a4, nL, c4, fin, false, ack⟩, MO, ML, (h5.set 7 (.bool false)).congr (by simp), by simp only [he, hnl], ⟨hnl.symm, hrs4.only on2 (fun x hx _ => hF4 x hx), fun x hx _ => hF4 x hx⟩, NM.out, hnL⟩
      have FIN1 := Lib.hid fin1
      have FIN2 := Lib.hid fin2
      clear hb4 b4 hB4 hF4 hrs4 on1 on2 ow4 h5 fin1 fin2 ho4 hbL hnL hlL hnl HAD
      cases fv with
      | false =>
        go_wp2_with (fail)
        go_returns
        exact FIN1.out (by simp)
      | true =>
        cases ack with
        | true =>
          go_wp2_with (fail)
          go_returns
          exact FIN1.out (by simp)
        | false =>
          go_wp2_with (fail)
          go_returns
          exact FIN2.out (by simp)
    · skip
      go_wp2_with (fail)
      refine (clone_any aa an ac LA v17 HAN.out (HRA.out.below (below_on B0.out BV17.out B0.out.size)) (by omega)).mono ?_
      rintro e v21 ⟨hu, a21, k21, rfl, ho⟩
      rw [← HAN.out] at ho
      have hz := below_on BV17.out hu BV17.out.size
      have BV21 := Lib.hid hz
      have OW_21 := Lib.hid (ho.base_le (base' := v0.heap.size) BV17.out.size)
      have X18_21 := Lib.hid (K17.out.below hu)
      try simp only [← HAN.out]
      go_wp2_with (fail)
      refine ⟨hbel _ hz, ?_⟩
      clear hz hu ho
      refine rg_among [5, 19] ?_
      simp only [List.forall_mem_cons, List.getD_cons_zero, List.getD_cons_succ]
      refine ⟨?_, ?_, by simp⟩
      · skip
        go_wp2_with (fail)
        refine ⟨hbel _ (BV21.out.alloc BV21.out.size _), ?_⟩
        have hz := BV21.out.alloc BV21.out.size (.cells #[.int .u64 off, .int .u64 (off + m)] 31)
        have hk := Blk.new v21 #[.int .u64 off, .int .u64 (off + m)] 31
        have hu : Below v21.heap.size v21 (v21.alloc (.cells #[.int .u64 off, .int .u64 (off + m)] 31)) := (Below.refl _ _).alloc (Nat.le_refl _) _
        have hsz : (v21.alloc (.cells #[.int .u64 off, .int .u64 (off + m)] 31)).heap.size = v21.heap.size + 1 := by simp
        obtain ⟨v22, hv22⟩ : ∃ z, v21.alloc (.cells #[.int .u64 off, .int .u64 (off + m)] 31) = z := ⟨_, rfl⟩
        rw [hv22] at hz hk hu hsz ⊢
        obtain ⟨q22, hq22⟩ : ∃ z, v21.heap.size = z := ⟨_, rfl⟩
        rw [hq22] at hk ⊢
        have BV22 := Lib.hid hz
        have K22 := Lib.hid hk
        have X18_22 := Lib.hid (X18_21.out.below hu)
        have OW_22 := Lib.hid (OW_21.out.below hu)
        have NE_5_22 : ∀ y, a21 = some y → y.block ≠ q22 := fun y hy => by have := (OW_21.out.block hy).2.1; omega
        clear hz hk hu hsz hv22 hq22
        refine rg_act 19 ?_
        go_wp2_with (at_builtin; refine Stop.mk ?_)
        refine Stop.out ?_
        refine wpList_app rg_et rfl rfl (base := v0.heap.size) rfl rfl OW_22.out (SrcAt.blk2 (r := ((0 : Int), base)) X18_22.out) (by simp only [maxLen]; omega) (by omega) BV22.out.size ?_
        intro a23 k23 v23 ho on at9
        rw [show cellsR LA ++ cellsR [((0 : Int), base)] = cellsR (LA ++ [(0, base)]) by rw [cellsR_append]] at ho
        have hz : Below v0.heap.size v0 v23 := below_onto BV22.out on BV22.out.size (by rintro z hz ⟨y, hy, rfl⟩; have := (OW_22.out.block hy).1; omega)
        have BV23 := Lib.hid hz
        have OW_23 := Lib.hid ho
        have X5_23 := Lib.hid (on.blk K22.out (by rintro ⟨y, hy, he⟩; exact NE_5_22 y hy he))
        have hsz9 := on.size
        go_wp2_with (fail)
        refine ⟨hbel _ hz, ?_⟩
        clear hz on at9 ho
        refine rg_cut 20 ?_
        have hbG : Bnd (LA ++ [((0 : Int), base)]) := fun r hr => by
          rcases List.mem_append.1 hr with hr | hr
          · exact HRA.out.bnd r hr
          · rw [List.mem_singleton.1 hr]; exact ⟨by omega, by omega⟩
        clear hbel
        have hcut := cut_any (some ⟨q22, 0, none⟩) a23 1 (an + 1) 1 k23 [(off, off + m)] (LA ++ [(0, base)]) v23 rfl (by have := HAN.out; simp; omega) (one_rs X5_23.out (by omega) (by omega)) (OwnS.rs OW_23.out hbG).2 (by simp) (by simp; omega)
        have HCT := Lib.hid hcut
        clear hcut hbG
        go_wp2_with (fail)
        refine HCT.out.mono ?_
        rintro e w3 ⟨hb3, am, cm, MO, rfl, ho3, hbM, hnM, hlM⟩
        have b3 := below_on B0.out (below_on BV23.out hb3 BV23.out.size) B0.out.size
        obtain ⟨nM, hnm⟩ : ∃ n, MO.length = n := ⟨_, rfl⟩
        rw [hnm]
        have hB3 := HH.out.below b3
        have e5 := hB3.cell 5 _ rfl
        have lb3 : b < w3.heap.size := hB3.lt
        have hnmb : nM ≤ 20004 := by simp at hlM; omega
        have hadd := add_any la am ln nM lc cm LL MO w3 HLN.out hnm.symm (HRL.out.below b3) (OwnS.rs ho3 hbM).2 (by omega) (by omega)
        have HAD := Lib.hid hadd
        have B3 := Lib.hid b3
        have NM := Lib.hid hnM
        clear hb3 b3 hB3 ho3 hbM hlM hadd hnm hnM HCT
        go_wp2_with (fail)
        refine rg_below fun p hx hne hC hbel => ?_
        refine rg_quiet 0 [21] hC ?_
        simp only [pickD, List.map_cons, List.map_nil, List.getD_cons_zero, List.getD_cons_succ]; repeat (go_big_quiet_step (fail))
        refine wpQuiet_nil ?_
        refine rg_end ?_
        clear hx hne hC hbel
        go_wp2_with (fail)
        refine HAD.out.mono ?_
        rintro e w4 ⟨hb4, a4, c4, ML, rfl, ho4, hbL, hnL, hlL⟩
        have b4 := below_on B3.out hb4 B3.out.size
        have hB4 := HH.out.below b4
        have e5 := hB4.cell 5 _ rfl
        have m5 := hB4.free 5
        have e7 := hB4.cell 7 _ rfl
        have m7 := hB4.free 7
        have e8 := hB4.cell 8 _ rfl
        have lb4 : b < w4.heap.size := hB4.lt
        have hF4 : ∀ x, a4 = some x → x.block ≠ b := fun x hx => by have := (ho4.block hx).1; omega
        obtain ⟨nL, hnl⟩ : ∃ n, ML.length = n := ⟨_, rfl⟩
        rw [hnl]
        have hrs4 := (OwnS.rs ho4 hbL).2
        have on1 : Only (· = b) w4 (w4.setCell ⟨b, 5, none⟩ (.slice a4 nL c4)) := (Only.refl _ _).set 5 _
        have on2 : Only (· = b) w4 ((w4.setCell ⟨b, 5, none⟩ (.slice a4 nL c4)).setCell ⟨b, 7, none⟩ (.bool false)) := on1.set 7 _
        have ow4 : Only (· = b) w w4 := only_of_below b4 _
        have h5 := hB4.set 5 (.slice a4 nL c4)
        have fin1 : (sent && !(fv && !ack)) = sent → OMissPost w (w4.setCell ⟨b, 5, none⟩ (.slice a4 nL c4)) (.returned (.int .i64 0)) b ⟨ba, bn, bc, base, next, mx, aa, an, ac, la, ln, lc, fin, sent, ack⟩ LA LL off m fv := fun he =>
          ⟨ow4.trans on1, rfl, ⟨ba, bn, bc, base, next, mx, aa, an, ac, a4, nL, c4, fin, sent, ack⟩, MO, ML, h5.congr (by simp), by simp only [he, hnl], ⟨hnl.symm, hrs4.only on1 (fun x hx _ => hF4 x hx), fun x hx _ => hF4 x hx⟩, NM.out, hnL⟩
        have fin2 : (sent && !(fv && !ack)) = false → OMissPost w ((w4.setCell ⟨b, 5, none⟩ (.slice a4 nL c4)).setCell ⟨b, 7, none⟩ (.bool false)) (.returned (.int .i64 0)) b ⟨ba, bn, bc, base, next, mx, aa, an, ac, la, ln, lc, fin, sent, ack⟩ LA LL off m fv := fun he =>
          ⟨ow4.trans on2, rfl, ⟨ba, bn, bc, base, next, mx, aa, an, ac, a4, nL, c4, fin, false, ack⟩, MO, ML, (h5.set 7 (.bool false)).congr (by simp), by simp only [he, hnl], ⟨hnl.symm, hrs4.only on2 (fun x hx _ => hF4 x hx), fun x hx _ => hF4 x hx⟩, NM.out, hnL⟩
        have FIN1 := Lib.hid fin1
        have FIN2 := Lib.hid fin2
        clear hb4 b4 hB4 hF4 hrs4 on1 on2 ow4 h5 fin1 fin2 ho4 hbL hnL hlL hnl HAD
        cases fv with
        | false =>
          go_wp2_with (fail)
          go_returns
          exact FIN1.out (by simp)
        | true =>
          cases ack with
          | true =>
            go_wp2_with (fail)
            go_returns
            exact FIN1.out (by simp)
          | false =>
            go_wp2_with (fail)
            go_returns
            exact FIN2.out (by simp)
      · skip
        go_wp2_with (at_builtin; refine Stop.mk ?_)
        refine Stop.out ?_
        refine wpList_app rg_et rfl rfl (base := v0.heap.size) rfl rfl OW_21.out (SrcAt.blk2 (r := ((0 : Int), base)) X18_21.out) (by simp only [maxLen]; omega) (by omega) BV21.out.size ?_
        intro a24 k24 v24 ho on at9
        rw [show cellsR LA ++ cellsR [((0 : Int), base)] = cellsR (LA ++ [(0, base)]) by rw [cellsR_append]] at ho
        have hz : Below v0.heap.size v0 v24 := below_onto BV21.out on BV21.out.size (by rintro z hz ⟨y, hy, rfl⟩; have := (OW_21.out.block hy).1; omega)
        have BV24 := Lib.hid hz
        have OW_24 := Lib.hid ho
        have hsz9 := on.size
        go_wp2_with (fail)
        refine ⟨hbel _ hz, ?_⟩
        clear hz on at9 ho
        refine rg_act 5 ?_
        go_wp2_with (fail)
        refine ⟨hbel _ (BV24.out.alloc BV24.out.size _), ?_⟩
        have hz := BV24.out.alloc BV24.out.size (.cells #[.int .u64 off, .int .u64 (off + m)] 31)
        have hk := Blk.new v24 #[.int .u64 off, .int .u64 (off + m)] 31
        have hu : Below v24.heap.size v24 (v24.alloc (.cells #[.int .u64 off, .int .u64 (off + m)] 31)) := (Below.refl _ _).alloc (Nat.le_refl _) _
        have hsz : (v24.alloc (.cells #[.int .u64 off, .int .u64 (off + m)] 31)).heap.size = v24.heap.size + 1 := by simp
        obtain ⟨v25, hv25⟩ : ∃ z, v24.alloc (.cells #[.int .u64 off, .int .u64 (off + m)] 31) = z := ⟨_, rfl⟩
        rw [hv25] at hz hk hu hsz ⊢
        obtain ⟨q25, hq25⟩ : ∃ z, v24.heap.size = z := ⟨_, rfl⟩
        rw [hq25] at hk ⊢
        have BV25 := Lib.hid hz
        have K25 := Lib.hid hk
        have OW_25 := Lib.hid (OW_24.out.below hu)
        have NE_5_25 : ∀ y, a24 = some y → y.block ≠ q25 := fun y hy => by have := (OW_24.out.block hy).2.1; omega
        clear hz hk hu hsz hv25 hq25
        refine rg_cut 20 ?_
        have hbG : Bnd (LA ++ [((0 : Int), base)]) := fun r hr => by
          rcases List.mem_append.1 hr with hr | hr
          · exact HRA.out.bnd r hr
          · rw [List.mem_singleton.1 hr]; exact ⟨by omega, by omega⟩
        clear hbel
        have hcut := cut_any (some ⟨q25, 0, none⟩) a24 1 (an + 1) 1 k24 [(off, off + m)] (LA ++ [(0, base)]) v25 rfl (by have := HAN.out; simp; omega) (one_rs K25.out (by omega) (by omega)) (OwnS.rs OW_25.out hbG).2 (by simp) (by simp; omega)
        have HCT := Lib.hid hcut
        clear hcut hbG
        go_wp2_with (fail)
        refine HCT.out.mono ?_
        rintro e w3 ⟨hb3, am, cm, MO, rfl, ho3, hbM, hnM, hlM⟩
        have b3 := below_on B0.out (below_on BV25.out hb3 BV25.out.size) B0.out.size
        obtain ⟨nM, hnm⟩ : ∃ n, MO.length = n := ⟨_, rfl⟩
        rw [hnm]
        have hB3 := HH.out.below b3
        have e5 := hB3.cell 5 _ rfl
        have lb3 : b < w3.heap.size := hB3.lt
        have hnmb : nM ≤ 20004 := by simp at hlM; omega
        have hadd := add_any la am ln nM lc cm LL MO w3 HLN.out hnm.symm (HRL.out.below b3) (OwnS.rs ho3 hbM).2 (by omega) (by omega)
        have HAD := Lib.hid hadd
        have B3 := Lib.hid b3
        have NM := Lib.hid hnM
        clear hb3 b3 hB3 ho3 hbM hlM hadd hnm hnM HCT
        go_wp2_with (fail)
        refine rg_below fun p hx hne hC hbel => ?_
        refine rg_quiet 0 [21] hC ?_
        simp only [pickD, List.map_cons, List.map_nil, List.getD_cons_zero, List.getD_cons_succ]; repeat (go_big_quiet_step (fail))
        refine wpQuiet_nil ?_
        refine rg_end ?_
        clear hx hne hC hbel
        go_wp2_with (fail)
        refine HAD.out.mono ?_
        rintro e w4 ⟨hb4, a4, c4, ML, rfl, ho4, hbL, hnL, hlL⟩
        have b4 := below_on B3.out hb4 B3.out.size
        have hB4 := HH.out.below b4
        have e5 := hB4.cell 5 _ rfl
        have m5 := hB4.free 5
        have e7 := hB4.cell 7 _ rfl
        have m7 := hB4.free 7
        have e8 := hB4.cell 8 _ rfl
        have lb4 : b < w4.heap.size := hB4.lt
        have hF4 : ∀ x, a4 = some x → x.block ≠ b := fun x hx => by have := (ho4.block hx).1; omega
        obtain ⟨nL, hnl⟩ : ∃ n, ML.length = n := ⟨_, rfl⟩
        rw [hnl]
        have hrs4 := (OwnS.rs ho4 hbL).2
        have on1 : Only (· = b) w4 (w4.setCell ⟨b, 5, none⟩ (.slice a4 nL c4)) := (Only.refl _ _).set 5 _
        have on2 : Only (· = b) w4 ((w4.setCell ⟨b, 5, none⟩ (.slice a4 nL c4)).setCell ⟨b, 7, none⟩ (.bool false)) := on1.set 7 _
        have ow4 : Only (· = b) w w4 := only_of_below b4 _
        have h5 := hB4.set 5 (.slice a4 nL c4)
        have fin1 : (sent && !(fv && !ack)) = sent → OMissPost w (w4.setCell ⟨b, 5, none⟩ (.slice a4 nL c4)) (.returned (.int .i64 0)) b ⟨ba, bn, bc, base, next, mx, aa, an, ac, la, ln, lc, fin, sent, ack⟩ LA LL off m fv := fun he =>
          ⟨ow4.trans on1, rfl, ⟨ba, bn, bc, base, next, mx, aa, an, ac, a4, nL, c4, fin, sent, ack⟩, MO, ML, h5.congr (by simp), by simp only [he, hnl], ⟨hnl.symm, hrs4.only on1 (fun x hx _ => hF4 x hx), fun x hx _ => hF4 x hx⟩, NM.out, hnL⟩
        have fin2 : (sent && !(fv && !ack)) = false → OMissPost w ((w4.setCell ⟨b, 5, none⟩ (.slice a4 nL c4)).setCell ⟨b, 7, none⟩ (.bool false)) (.returned (.int .i64 0)) b ⟨ba, bn, bc, base, next, mx, aa, an, ac, la, ln, lc, fin, sent, ack⟩ LA LL off m fv := fun he =>
          ⟨ow4.trans on2, rfl, ⟨ba, bn, bc, base, next, mx, aa, an, ac, a4, nL, c4, fin, false, ack⟩, MO, ML, (h5.set 7 (.bool false)).congr (by simp), by simp only [he, hnl], ⟨hnl.symm, hrs4.only on2 (fun x hx _ => hF4 x hx), fun x hx _ => hF4 x hx⟩, NM.out, hnL⟩
        have FIN1 := Lib.hid fin1
        have FIN2 := Lib.hid fin2
        clear hb4 b4 hB4 hF4 hrs4 on1 on2 ow4 h5 fin1 fin2 ho4 hbL hnL hlL hnl HAD
        cases fv with
        | false =>
          go_wp2_with (fail)
          go_returns
          exact FIN1.out (by simp)
        | true =>
          cases ack with
          | true =>
            go_wp2_with (fail)
            go_returns
            exact FIN1.out (by simp)
          | false =>
            go_wp2_with (fail)
            go_returns
            exact FIN2.out (by simp)
end Go.Proofs.Ytidfimpchbkppaa
