/- StreamsCodes: the law. -/
import Derived.Test.YtgpnfdeneagdbaaGreatCo26
namespace Go.Proofs.YtgpnfdeneagdbaaGreat
open Go.RowKit
set_option linter.unusedVariables false
set_option linter.unusedSimpArgs false
set_option maxRecDepth 100000 in
set_option maxHeartbeats 16000000 in
theorem law_true (ow pe : List Value) (q r : Nat → Nat) (sa fa : Option Addr) (sn sc fn fcp : Nat) (w : World) (h1 : PaW ow q) (h2 : PaW pe r) (hs1 : sn ≤ maxLen) (hs2 : ElAt w sa sn 1 (fun _ cs => ∃ b, cs = [.bool b])) (hf1 : fn ≤ maxLen) (hf2 : ElAt w fa fn 30 (fun _ cs => ∃ kd id mx, FrW cs kd id mx)) :
    Calls Tryz.prog 3 #[.bool true, .agg ow.toArray, .agg pe.toArray, .slice sa sn sc, .slice fa fn fcp] w fun e w' => LawPost w e w' := by
  have P1 := Lib.hid h1
  have P2 := Lib.hid h2
  have S2 := Lib.hid hs2
  have F2 := Lib.hid hf2
  unfold maxLen at hs1 hf1
  clear h1 h2 hs2 hf2
  obtain ⟨g1, hg1⟩ : ∃ g, heavyB q = g := ⟨_, rfl⟩
  obtain ⟨g2, hg2⟩ : ∃ g, heavyB r = g := ⟨_, rfl⟩
  have HG1 := Lib.hid hg1
  have HG2 := Lib.hid hg2
  have b1 : Below w.heap.size w ((w.alloc (.cells ow.toArray 27)).alloc (.cells pe.toArray 27)) := ((Below.refl _ _).alloc (Nat.le_refl _) _).alloc (by simp) _
  have x1 : Blk ((w.alloc (.cells ow.toArray 27)).alloc (.cells pe.toArray 27)) w.heap.size ow.toArray 27 := (Blk.new w _ _).alloc _
  have z1 : (w.alloc (.cells ow.toArray 27)).heap.size = w.heap.size + 1 := alloc_size' _ _
  have z2 : ((w.alloc (.cells ow.toArray 27)).alloc (.cells pe.toArray 27)).heap.size = w.heap.size + 1 + 1 := by rw [alloc_size', z1]
  have x2 := Blk.new (w.alloc (.cells ow.toArray 27)) pe.toArray 27
  rw [z1] at x2
  clear z1 hg1 hg2
  go_enter Tryz.func3, Tryz.ntmps3
  go_upto_region 1 with (fail)
  generalize ((w.alloc (.cells ow.toArray 27)).alloc (.cells pe.toArray 27)) = w1 at b1 x1 x2 z2 ⊢
  have B1 := Lib.hid b1
  have X1 := Lib.hid x1
  have X2 := Lib.hid x2
  clear b1 x1 x2
  go_wp2_with (with_reducible refine stop_ldp ?_)
  refine Stop.out ?_
  refine wpList_loadPart ow Tryz.underlying27 rfl (by rw [P1.out.len]; exact pa_size) rfl rfl rfl (fun j v hv => by rw [Nat.zero_add]; exact X1.out.cell j v (arr_get hv)) ?_
  go_wp2_with (fail)
  refine (heavy_any ow q w1 P1.out).mono ?_
  rintro e w2 ⟨hb2, rfl⟩
  have B2 := Lib.hid (below_on B1.out hb2 B1.out.size)
  have X12 := Lib.hid (X1.out.below hb2)
  have X22 := Lib.hid (X2.out.below hb2)
  have z22 := hb2.size
  rw [HG1.out]
  clear hb2 X1 X2
  cases g1 with
  | true =>
    go_wp2_with (fail)
    refine (works_any _).mono ?_
    rintro e w9 ⟨rfl, hb9⟩
    go_wp2_with (fail)
    go_returns
    exact ⟨rfl, below_on B2.out hb9 B2.out.size⟩
  | false =>
  go_wp2_with (with_reducible refine stop_ldp ?_)
  refine Stop.out ?_
  refine wpList_loadPart pe Tryz.underlying27 rfl (by rw [P2.out.len]; exact pa_size) rfl rfl rfl (fun j v hv => by rw [Nat.zero_add]; exact X22.out.cell j v (arr_get hv)) ?_
  go_wp2_with (fail)
  refine (heavy_any pe r w2 P2.out).mono ?_
  rintro e w3 ⟨hb3, rfl⟩
  have B3 := Lib.hid (below_on B2.out hb3 B2.out.size)
  have X13 := Lib.hid (X12.out.below hb3)
  have X23 := Lib.hid (X22.out.below hb3)
  have z3 := hb3.size
  rw [HG2.out]
  clear hb3 X12 X22
  cases g2 with
  | true =>
    go_wp2_with (fail)
    refine (works_any _).mono ?_
    rintro e w9 ⟨rfl, hb9⟩
    go_wp2_with (fail)
    go_returns
    exact ⟨rfl, below_on B3.out hb9 B3.out.size⟩
  | false =>
  by_cases hfn : 200 < fn
  · have hfn' : (200 : Int) < (fn : Int) := by omega
    go_wp2_with (fail)
    refine (works_any _).mono ?_
    rintro e w9 ⟨rfl, hb9⟩
    go_wp2_with (fail)
    go_returns
    exact ⟨rfl, below_on B3.out hb9 B3.out.size⟩
  have hfn' : ¬ (200 : Int) < (fn : Int) := by omega
  by_cases hsn : 100 < sn
  · have hsn' : (100 : Int) < (sn : Int) := by omega
    go_wp2_with (fail)
    refine (works_any _).mono ?_
    rintro e w9 ⟨rfl, hb9⟩
    go_wp2_with (fail)
    go_returns
    exact ⟨rfl, below_on B3.out hb9 B3.out.size⟩
  have hsn' : ¬ (100 : Int) < (sn : Int) := by omega
  go_wp2_with (with_reducible refine stop_ldp ?_)
  refine Stop.out ?_
  refine wpList_loadPart ow Tryz.underlying27 rfl (by rw [P1.out.len]; exact pa_size) rfl rfl rfl (fun j v hv => by rw [Nat.zero_add]; exact X13.out.cell j v (arr_get hv)) ?_
  go_wp2_with (with_reducible refine stop_ldp ?_)
  refine Stop.out ?_
  refine wpList_loadPart pe Tryz.underlying27 rfl (by rw [P2.out.len]; exact pa_size) rfl rfl rfl (fun j v hv => by rw [Nat.zero_add]; exact X23.out.cell j v (arr_get hv)) ?_
  go_wp2_with (fail)
  refine (of_any true ow pe q r w3 P1.out P2.out).mono ?_
  rintro e w4 ⟨s, rfl, hsw, hb4, hbs⟩
  have B4 := Lib.hid (below_on B3.out hb4 B3.out.size)
  have X14 := X13.out.below hb4
  have X24 := X23.out.below hb4
  have z4 := hb4.size
  have hss := hbs.lt
  have p7 := X14.cell 7 _ (arr_get (P1.out.c 7 (by omega) (by omega)).1)
  have p8 := X14.cell 8 _ (arr_get (P1.out.c 8 (by omega) (by omega)).1)
  have r7 := X24.cell 7 _ (arr_get (P2.out.c 7 (by omega) (by omega)).1)
  have r8 := X24.cell 8 _ (arr_get (P2.out.c 8 (by omega) (by omega)).1)
  have l7 := X14.lt
  have l8 := X24.lt
  have HBS := Lib.hid hbs
  clear hb4 hbs X14 X24 X13 X23
  go_upto_region 8 with (fail)
  have x5 : Blk (w4.alloc (.cells #[.int .u64 0, .int .u64 0, .int .u64 0, .int .u64 0, .int .u64 0, .int .u64 0, .int .u64 0, .int .u64 0] 38)) w4.heap.size #[.int .u64 0, .int .u64 0, .int .u64 0, .int .u64 0, .int .u64 0, .int .u64 0, .int .u64 0, .int .u64 0] 38 := Blk.new w4 _ _
  have b5 : Below w4.heap.size w4 (w4.alloc (.cells #[.int .u64 0, .int .u64 0, .int .u64 0, .int .u64 0, .int .u64 0, .int .u64 0, .int .u64 0, .int .u64 0] 38)) := (Below.refl _ _).alloc (Nat.le_refl _) _
  have z5 : (w4.alloc (.cells #[.int .u64 0, .int .u64 0, .int .u64 0, .int .u64 0, .int .u64 0, .int .u64 0, .int .u64 0, .int .u64 0] 38)).heap.size = w4.heap.size + 1 := alloc_size' _ _
  generalize (w4.alloc (.cells #[.int .u64 0, .int .u64 0, .int .u64 0, .int .u64 0, .int .u64 0, .int .u64 0, .int .u64 0, .int .u64 0] 38)) = w5 at x5 b5 z5 ⊢
  obtain ⟨o, ho⟩ : ∃ o, w4.heap.size = o := ⟨_, rfl⟩
  rw [ho] at x5 z5 hss l7 l8 ⊢
  replace p7 := (b5.cell (p := ⟨w.heap.size, 7, none⟩) (by show w.heap.size < w4.heap.size; omega)).trans p7
  replace p8 := (b5.cell (p := ⟨w.heap.size, 8, none⟩) (by show w.heap.size < w4.heap.size; omega)).trans p8
  replace r7 := (b5.cell (p := ⟨w.heap.size + 1, 7, none⟩) (by show w.heap.size + 1 < w4.heap.size; omega)).trans r7
  replace r8 := (b5.cell (p := ⟨w.heap.size + 1, 8, none⟩) (by show w.heap.size + 1 < w4.heap.size; omega)).trans r8
  have hno : w.heap.size < o ∧ w.heap.size + 1 < o := ⟨by omega, by omega⟩
  have HBS5 := Lib.hid (HBS.out.below b5)
  have B5 := Lib.hid (below_on B4.out b5 B4.out.size)
  have X5 := Lib.hid x5
  clear HBS b5 x5
  have hwo : w.heap.size ≤ o := by omega
  have hso : s < o := by omega
  have hws : w.heap.size ≤ s := by have := B3.out.size; omega
  clear ho z4 z3 z22 z2
  refine rg_start 23 ?_
  refine rg_besides (· = o) fun p hx hne hC hbes => ?_
  have k7 : ∀ z : Wd p, z.w.cell? ⟨w.heap.size, 7, none⟩ = some (.int .u64 (q 7 : Nat)) := fun z => (hx z _ _ _ (by show w.heap.size < w5.heap.size; omega) (by omega)).trans p7
  have k8 : ∀ z : Wd p, z.w.cell? ⟨w.heap.size, 8, none⟩ = some (.int .u64 (q 8 : Nat)) := fun z => (hx z _ _ _ (by show w.heap.size < w5.heap.size; omega) (by omega)).trans p8
  have j7 : ∀ z : Wd p, z.w.cell? ⟨w.heap.size + 1, 7, none⟩ = some (.int .u64 (r 7 : Nat)) := fun z => (hx z _ _ _ (by show w.heap.size + 1 < w5.heap.size; omega) (by omega)).trans r7
  have j8 : ∀ z : Wd p, z.w.cell? ⟨w.heap.size + 1, 8, none⟩ = some (.int .u64 (r 8 : Nat)) := fun z => (hx z _ _ _ (by show w.heap.size + 1 < w5.heap.size; omega) (by omega)).trans r8
  refine rg_quiet 3 [0,1,2,3,4,5,6,7,8,9,10,11,12,13,14,15,16,17,19,20] hC ?_
  simp only [pickD, List.map_cons, List.map_nil, List.getD_cons_zero, List.getD_cons_succ]; repeat (go_big_quiet_step (fail))
  refine wpQuiet_nil ?_
  refine rg_act 18 ?_
  go_wp2_with (with_reducible refine stop_sto ?_)
  refine Stop.out ?_
  refine wpList_storePart rfl rfl (b := o) (q := 2) (T := 38) [.int .u64 0, .int .u64 0, .int .u64 0, .int .u64 0, .int .u64 0, .int .u64 0, .int .u64 0, .int .u64 0] [.int .u64 (r 7 : Nat), .int .u64 (r 8 : Nat)] rfl rfl X5.out two_size (by simp) (by simp [Value.oneCell']) ?_
  intro w6 hb6 on6
  have hC6 := hbes w6 (fun k hk hs => on6.block k hk hs)
  have HB6 := Lib.hid hb6
  have ON6 := Lib.hid on6
  clear hb6 on6
  go_wp2_with (fail)
  refine ⟨hC6, ?_⟩
  refine rg_quiet 1 [21] hC6 ?_
  simp only [pickD, List.map_cons, List.map_nil, List.getD_cons_zero, List.getD_cons_succ]; repeat (go_big_quiet_step (fail))
  refine wpQuiet_nil ?_
  refine rg_cut 22 ?_
  go_wp2_with (with_reducible refine stop_sto ?_)
  refine Stop.out ?_
  refine wpList_storePart rfl rfl (b := o) (q := 0) (T := 38) _ [.int .u64 (q 7 : Nat), .int .u64 (q 8 : Nat)] rfl rfl HB6.out two_size (by simp) (by simp [Value.oneCell']) ?_
  intro w7 hb7 on7
  have hop : OpAt w7 o (mayF true q r) (fun _ => 0) := Blk.congr hb7 (by simp [opV, mayF, me])
  have on57 : Only (· = o) w5 w7 := ((Only.refl _ _).drew.trans ON6.out).trans on7
  have LI : Hid (LawI w w7 s o (o + 1) true (fun k => q (4 + k)) (fun k => r (4 + k)) (mayF true q r) (fun _ => 0)) := Lib.hid
    ⟨of_set (by omega) (by have := on57.size; omega) P1.out P2.out HG1.out HG2.out (on57.blk HBS5.out (by omega)), hop, below_onto B5.out on57 B5.out.size (fun k hk e => by omega)⟩
  have M20 : Hid (∀ c, c < 4 → mayF true q r c ≤ 20) := Lib.hid (fun c hc => by
    obtain ⟨_, q7, q8⟩ := heavy_le HG1.out
    obtain ⟨_, r7, r8⟩ := heavy_le HG2.out
    unfold mayF
    rcases (by omega : c / 2 = 0 ∨ c / 2 = 1) with h | h <;> rw [h] <;> split <;> simp <;> omega)
  have z7 := on57.size
  clear hb7 on7 on57 hop HB6 ON6 HBS5 X5 B5 B4 B3 B2 B1
  go_wp2_with (fail)
  refine rg_end0 ?_
  clear hx hne hC hC6 hbes k7 k8 j7 j8 p7 p8 r7 r8
  generalize (mayF true q r) = may at LI M20
  generalize (fun k => q (4 + k)) = own at LI
  generalize (fun k => r (4 + k)) = peer at LI
  clear P1 P2 HG1 HG2
  have hob : o < o + 1 := Nat.lt_succ_self o
  obtain ⟨base, hbase⟩ : ∃ base, o + 1 = base := ⟨_, rfl⟩
  rw [hbase] at LI hob
  clear hbase
  go_wp2_with (fail)
  go_loopw [15, 16, 17, 18, 72] (fun _ _ _ _ i wr => ∃ k : Nat, i = .int .i64 k ∧ k ≤ sn ∧ Hid (∃ cn, LawI w wr s o base true own peer may cn)) (fun _ _ _ _ i _ => sn - (intOf i).toNat)
  case atStart => exact ⟨0, rfl, Nat.zero_le _, Lib.hid ⟨_, LI.out⟩⟩
  case round =>
    obtain ⟨k, rfl, hk, hI⟩ := hrel
    clear LI
    by_cases hlt : k < sn
    · obtain ⟨cn, hL⟩ := hI.out
      obtain ⟨eb, eo, ec, rfl, -, -, hec, ⟨un, rfl⟩⟩ := (S2.out.below hL.bel) k hlt
      have hel : wr.cell? ⟨eb, eo + k, none⟩ = some (.bool un) := by have := hec 0 _ rfl; rw [Nat.mul_one] at this; exact this
      clear hec hI
      obtain ⟨cs0, a0, n0, cap0, L0, hS, hSI, hOI, -⟩ := hL.set
      have HLE := Lib.hid hSI.le
      have HS := fun kk hkk => Lib.hid (start_any s base true un own peer may cn cs0 a0 n0 cap0 L0 kk hkk wr hS hSI hOI)
      have HL := Lib.hid hL
      have HBEL := Lib.hid hL.bel
      have low := Blk.lt hL.op
      clear hS hSI hOI hL
      cases un with
      | true =>
        have HT := HS 1 rfl
        unfold StPost at HT
        rw [show me true + 2 * 1 = 3 from rfl] at HT
        clear HS
        obtain ⟨d, hd⟩ : ∃ d, cn 3 = d := ⟨_, rfl⟩
        obtain ⟨M, hM⟩ : ∃ M, may 3 = M := ⟨_, rfl⟩
        have HD := Lib.hid hd
        have hM20 : M ≤ 20 := by rw [← hM]; exact M20.out 3 (by omega)
        have hdM : d ≤ M := by rw [← hM, ← hd]; exact HLE.out 3 (by omega)
        have HOC : Hid (∀ W : World, Only (· = s) wr W → OpAt W o may cn ∧ W.cell? ⟨o, 3, none⟩ = some (.int .u64 (M : Nat)) ∧ W.cell? ⟨o, 7, none⟩ = some (.int .u64 (d : Nat))) := Lib.hid (fun W hW => by
          have h1 : OpAt W o may cn := hW.blk HL.out.op (by omega)
          obtain ⟨h2, h3⟩ := op_at h1 3 (by omega)
          rw [hM] at h2
          rw [hd] at h3
          exact ⟨h1, h2, h3⟩)
        rw [hd, hM] at HT
        clear hd hM
        by_cases hlm : d < M
        · have hlm' : (d : Int) < (M : Int) := by omega
          go_wp2_with (fail)
          refine HT.out.mono ?_
          rintro e w9 ⟨-, hs2⟩
          obtain ⟨idn, rfl, hset, hon⟩ := hs2 hlm
          obtain ⟨hop, hcm, hcd⟩ := HOC.out w9 hon
          have hfz := Blk.free hop 7
          have LN : Hid (LawI w (w9.setCell ⟨o, 7, none⟩ (.int .u64 ((d : Int) + 1))).drew.drew s o base true own peer may (bump cn 3 (d + 1))) := Lib.hid (LawI.drew (LawI.drew (LawI.stor (o := o) hop (below_onto HBEL.out hon HBEL.out.size (fun k' hk' e => by omega)) 3 (d + 1) (by omega) hset (by omega) hob hwo)))
          clear hs2 hset hon hop HT HOC HL HLE
          go_wp2_with (fail)
          refine rg_start 20 ?_
          refine rg_same fun p hx hne hC => ?_
          refine rg_quiet 0 [0,1,2,3,4,5,6,7,8,9,10,11,12,13,14,15,16,17,18,19] hC ?_
          simp only [pickD, List.map_cons, List.map_nil, List.getD_cons_zero, List.getD_cons_succ]; repeat (go_big_quiet_step (fail))
          refine wpQuiet_nil ?_
          refine rg_end ?_
          clear hx hne hC
          go_wp2_with (fail)
          refine rg_start 14 ?_
          refine rg_same fun p hx hne hC => ?_
          refine rg_quiet 1 [0,1,2,3,4,5,6,7,8,9,10,11,12] hC ?_
          simp only [pickD, List.map_cons, List.map_nil, List.getD_cons_zero, List.getD_cons_succ]; repeat (go_big_quiet_step (fail))
          refine wpQuiet_nil ?_
          refine rg_cut 13 ?_
          go_wp2_with (fail)
          refine rg_end0 ?_
          clear hx hne hC
          go_wp2_with (fail)
          exact ⟨⟨k + 1, by go_num, by omega, Lib.hid ⟨_, LN.out⟩⟩, by simp [intOf]; omega⟩
        · have hlm' : ¬ (d : Int) < (M : Int) := by omega
          go_wp2_with (fail)
          refine HT.out.mono ?_
          rintro e w9 ⟨hs1, -⟩
          obtain ⟨rfl, hset, hon⟩ := hs1 (by omega)
          obtain ⟨hop, hcm, hcd⟩ := HOC.out w9 hon
          have LN : Hid (LawI w w9.drew s o base true own peer may cn) := Lib.hid (LawI.drew ⟨hset, hop, below_onto HBEL.out hon HBEL.out.size (fun k' hk' e => by omega)⟩)
          clear hs1 hset hon hop HT HOC HL HLE
          go_wp2_with (fail)
          refine rg_start 20 ?_
          refine rg_same fun p hx hne hC => ?_
          refine rg_quiet 0 [0,1,2,3,4,5,6,7,8,9,10,11,12,13,14,15,16,17,18,19] hC ?_
          simp only [pickD, List.map_cons, List.map_nil, List.getD_cons_zero, List.getD_cons_succ]; repeat (go_big_quiet_step (fail))
          refine wpQuiet_nil ?_
          refine rg_end ?_
          clear hx hne hC
          go_wp2_with (fail)
          exact ⟨⟨k + 1, by go_num, by omega, Lib.hid ⟨_, LN.out⟩⟩, by simp [intOf]; omega⟩
      | false =>
        have HT := HS 0 rfl
        unfold StPost at HT
        rw [show me true + 2 * 0 = 1 from rfl] at HT
        clear HS
        obtain ⟨d, hd⟩ : ∃ d, cn 1 = d := ⟨_, rfl⟩
        obtain ⟨M, hM⟩ : ∃ M, may 1 = M := ⟨_, rfl⟩
        have HD := Lib.hid hd
        have hM20 : M ≤ 20 := by rw [← hM]; exact M20.out 1 (by omega)
        have hdM : d ≤ M := by rw [← hM, ← hd]; exact HLE.out 1 (by omega)
        have HOC : Hid (∀ W : World, Only (· = s) wr W → OpAt W o may cn ∧ W.cell? ⟨o, 2, none⟩ = some (.int .u64 (M : Nat)) ∧ W.cell? ⟨o, 6, none⟩ = some (.int .u64 (d : Nat))) := Lib.hid (fun W hW => by
          have h1 : OpAt W o may cn := hW.blk HL.out.op (by omega)
          obtain ⟨h2, h3⟩ := op_at h1 1 (by omega)
          rw [hM] at h2
          rw [hd] at h3
          exact ⟨h1, h2, h3⟩)
        rw [hd, hM] at HT
        clear hd hM
        by_cases hlm : d < M
        · have hlm' : (d : Int) < (M : Int) := by omega
          go_wp2_with (fail)
          refine HT.out.mono ?_
          rintro e w9 ⟨-, hs2⟩
          obtain ⟨idn, rfl, hset, hon⟩ := hs2 hlm
          obtain ⟨hop, hcm, hcd⟩ := HOC.out w9 hon
          have hfz := Blk.free hop 6
          have LN : Hid (LawI w (w9.setCell ⟨o, 6, none⟩ (.int .u64 ((d : Int) + 1))).drew.drew s o base true own peer may (bump cn 1 (d + 1))) := Lib.hid (LawI.drew (LawI.drew (LawI.stor (o := o) hop (below_onto HBEL.out hon HBEL.out.size (fun k' hk' e => by omega)) 1 (d + 1) (by omega) hset (by omega) hob hwo)))
          clear hs2 hset hon hop HT HOC HL HLE
          go_wp2_with (fail)
          refine rg_start 20 ?_
          refine rg_same fun p hx hne hC => ?_
          refine rg_quiet 0 [0,1,2,3,4,5,6,7,8,9,10,11,12,13,14,15,16,17,18,19] hC ?_
          simp only [pickD, List.map_cons, List.map_nil, List.getD_cons_zero, List.getD_cons_succ]; repeat (go_big_quiet_step (fail))
          refine wpQuiet_nil ?_
          refine rg_end ?_
          clear hx hne hC
          go_wp2_with (fail)
          refine rg_start 14 ?_
          refine rg_same fun p hx hne hC => ?_
          refine rg_quiet 1 [0,1,2,3,4,5,6,7,8,9,10,11,12] hC ?_
          simp only [pickD, List.map_cons, List.map_nil, List.getD_cons_zero, List.getD_cons_succ]; repeat (go_big_quiet_step (fail))
          refine wpQuiet_nil ?_
          refine rg_cut 13 ?_
          go_wp2_with (fail)
          refine rg_end0 ?_
          clear hx hne hC
          go_wp2_with (fail)
          exact ⟨⟨k + 1, by go_num, by omega, Lib.hid ⟨_, LN.out⟩⟩, by simp [intOf]; omega⟩
        · have hlm' : ¬ (d : Int) < (M : Int) := by omega
          go_wp2_with (fail)
          refine HT.out.mono ?_
          rintro e w9 ⟨hs1, -⟩
          obtain ⟨rfl, hset, hon⟩ := hs1 (by omega)
          obtain ⟨hop, hcm, hcd⟩ := HOC.out w9 hon
          have LN : Hid (LawI w w9.drew s o base true own peer may cn) := Lib.hid (LawI.drew ⟨hset, hop, below_onto HBEL.out hon HBEL.out.size (fun k' hk' e => by omega)⟩)
          clear hs1 hset hon hop HT HOC HL HLE
          go_wp2_with (fail)
          refine rg_start 20 ?_
          refine rg_same fun p hx hne hC => ?_
          refine rg_quiet 0 [0,1,2,3,4,5,6,7,8,9,10,11,12,13,14,15,16,17,18,19] hC ?_
          simp only [pickD, List.map_cons, List.map_nil, List.getD_cons_zero, List.getD_cons_succ]; repeat (go_big_quiet_step (fail))
          refine wpQuiet_nil ?_
          refine rg_end ?_
          clear hx hne hC
          go_wp2_with (fail)
          exact ⟨⟨k + 1, by go_num, by omega, Lib.hid ⟨_, LN.out⟩⟩, by simp [intOf]; omega⟩
    · have hke : k = sn := by omega
      clear hlt
      subst hke
      have LI := hI
      clear hI hk
      go_wp2_with (fail)
      go_loopw [20, 21, 121] (fun _ _ i wr => ∃ k : Nat, i = .int .i64 k ∧ k ≤ fn ∧ Hid (∃ cn, LawI w wr s o base true own peer may cn)) (fun _ _ i _ => fn - (intOf i).toNat)
      case atStart => exact ⟨0, rfl, Nat.zero_le _, LI⟩
      case round =>
        clear LI
        obtain ⟨k, rfl, hk, hI⟩ := hrel
        by_cases hlt : k < fn
        · obtain ⟨cn, hL⟩ := hI.out
          obtain ⟨eb, eo, ec, rfl, -, hlen, hec, kd, id, mx, hfw⟩ := (F2.out.below hL.bel) k hlt
          have HL := Lib.hid hL
          have HE := Lib.hid hec
          have HW := Lib.hid hfw
          have LEN := Lib.hid hlen
          have low := Blk.lt hL.op
          clear hec hI hL hfw hlen
          go_wp2_with (with_reducible refine stop_ldf ?_)
          refine Stop.out ?_
          refine wpList_loadPart ec Tryz.underlying45 rfl (by rw [LEN.out]; exact fr_size) rfl rfl rfl HE.out ?_
          go_wp2_with (with_reducible refine stop_sto ?_)
          refine Stop.out ?_
          refine wpList_storePart rfl rfl (b := wr.heap.size) (q := 0) (T := 45) [.int .u64 0, .int .u64 0, .int .u64 0, .int .u64 0, .int .u64 0, .int .u64 0, .bool false, .slice none 0 0, .slice none 0 0, .int .u8 0, .int .u8 0, .int .u8 0, .int .u8 0, .int .u8 0, .int .u8 0, .int .u8 0, .int .u8 0, .int .u8 0, .int .u8 0, .int .u8 0, .int .u8 0, .int .u8 0, .int .u8 0, .int .u8 0, .int .u8 0, .slice none 0 0, .int .u64 0, .int .u64 0, .int .u64 0, .int .u64 0] ec rfl rfl (Blk.new _ _ _) (by rw [LEN.out]; exact fr_size) (by rw [LEN.out]; simp) HW.out.one ?_
          intro w2' hb2 on2
          have x2 : Blk w2' wr.heap.size ec.toArray 45 := by have h := hb2; rw [LEN.out] at h; simpa using h
          have b2 : Below wr.heap.size wr w2' := below_onto ((Below.refl _ _).alloc (Nat.le_refl _) _) on2 (by simp) (fun k' hk' e => by omega)
          have l2 := x2.lt
          have c7 := x2.cell 7 (ec[7]'(by rw [LEN.out]; omega)) (by simp)
          have c2 := x2.cell 2 (ec[2]'(by rw [LEN.out]; omega)) (by simp)
          have c6 := x2.cell 6 (ec[6]'(by rw [LEN.out]; omega)) (by simp)
          have f7 := x2.free 7
          have f2 := x2.free 2
          have f6 := x2.free 6
          have X2 := Lib.hid x2
          have B2 := Lib.hid b2
          clear hb2 on2 x2 b2 HE
          go_upto_region 25 with (fail)
          have x3 : Blk (((w2'.setCell ⟨wr.heap.size, 7, none⟩ (.slice none 0 0)).setCell ⟨wr.heap.size, 2, none⟩ (.int .u64 0)).setCell ⟨wr.heap.size, 6, none⟩ (.bool false)) wr.heap.size (((ec.set 7 (.slice none 0 0)).set 2 (.int .u64 (0 : Nat))).set 6 (.bool false)).toArray 45 := Blk.congr (((X2.out.set 7 _).set 2 _).set 6 _) (by simp)
          have b3 : Below wr.heap.size wr (((w2'.setCell ⟨wr.heap.size, 7, none⟩ (.slice none 0 0)).setCell ⟨wr.heap.size, 2, none⟩ (.int .u64 0)).setCell ⟨wr.heap.size, 6, none⟩ (.bool false)) := ((B2.out.setCell (Nat.le_refl _) _).setCell (Nat.le_refl _) _).setCell (Nat.le_refl _) _
          generalize (((w2'.setCell ⟨wr.heap.size, 7, none⟩ (.slice none 0 0)).setCell ⟨wr.heap.size, 2, none⟩ (.int .u64 0)).setCell ⟨wr.heap.size, 6, none⟩ (.bool false)) = w3' at x3 b3 ⊢
          obtain ⟨f, hf⟩ : ∃ f, wr.heap.size = f := ⟨_, rfl⟩
          have HFC := HW.out.cut
          generalize (((ec.set 7 (.slice none 0 0)).set 2 (.int .u64 (0 : Nat))).set 6 (.bool false)) = fc at x3 HFC
          have FC := Lib.hid HFC
          have L3 := Lib.hid (HL.out.below b3)
          have hid := HW.out.li
          have hof : o < f := by omega
          rw [hf] at x3 ⊢
          have d0 := x3.cell 0 _ (arr_get HFC.k)
          have d1 := x3.cell 1 _ (arr_get HFC.i)
          have lf := x3.lt
          have X3 := Lib.hid x3
          clear HFC x3 b3 hf c7 c2 c6 f7 f2 f6 X2 B2 l2 HL low LEN HW
          obtain ⟨cs0, a0, n0, cap0, LL0, hS, hSI, hOI, -⟩ := L3.out.set
          have HS0 := Lib.hid hS
          have HSI := Lib.hid hSI
          have HOI := Lib.hid hOI
          clear hS hSI hOI
          by_cases k8 : kd = 8
          · subst k8
            have HCD := Lib.hid (code_any o true true may cn id w3' L3.out.op HSI.out.le M20.out hid)
            unfold CodePost at HCD
            rw [show (if true = true then recvB true id else sendsB true id) = recvB true id from rfl, show ((me true : Nat) : Int) = 1 from rfl] at HCD
            obtain ⟨okv, hok⟩ : ∃ okv, recvB true id = okv := ⟨_, rfl⟩
            obtain ⟨C, hCC⟩ : ∃ C, thereC true may cn okv id = C := ⟨_, rfl⟩
            obtain ⟨N, hNN⟩ : ∃ N, thereN true may cn okv id = N := ⟨_, rfl⟩
            rw [hok, hCC, hNN] at HCD
            have HT : Hid (∀ W : World, Only (· = o) w3' W → Calls Tryz.prog 10 #[.pointer (some ⟨s, 0, none⟩), .agg fc.toArray] W.drew fun e w' => e = .returned (.int .u64 (C : Nat)) ∧ SetIs (fun _ => True) w' s base true own peer may N ∧ Only (· = s) W w') := Lib.hid (fun W hW => by
              have hW' : Only (· = o) w3' W.drew := hW.drew
              have h := take8_any s base true own peer may cn cs0 a0 n0 cap0 LL0 fc id mx W.drew (HS0.out.blkOnly hW' (by omega) (fun y hy e => by have := (HS0.out.row.block hy).1; omega)) HSI.out HOI.out hid FC.out
              unfold TkPost at h
              rw [hok, hCC, hNN] at h
              exact h.mono (fun e w' hh => ⟨hh.1, hh.2.1, (Only.refl (· = s) W).drew.trans hh.2.2⟩))
            clear hok hCC hNN HS0 HOI
            go_wp2_with (fail)
            refine HCD.out.mono ?_
            rintro e w4' ⟨rfl, hop4, on4⟩
            have lf4 := on4.size
            have X4 := Lib.hid (on4.blk X3.out (by omega))
            have HOP4 := Lib.hid hop4
            have ON4 := Lib.hid on4
            have HT4 := Lib.hid (HT.out w4' on4)
            clear hop4 on4 HT HCD d0 d1
            go_wp2_with (fail)
            refine rg_start 36 ?_
            refine rg_besides (· = s) fun p hx hne hC hbes => ?_
            have KF : ∀ z, Cls p z → ∀ j v, fc[j]? = some v → z.cell? ⟨f, 0 + j, none⟩ = some v := fun z hz j v hv => by
              obtain ⟨y, rfl⟩ := hz
              rw [Nat.zero_add]
              exact (hx y _ _ _ (by show f < w4'.heap.size; omega) (by omega)).trans (X4.out.cell j v (arr_get hv))
            refine rg_quiet 33 [0,1,3] hC ?_
            simp only [pickD, List.map_cons, List.map_nil, List.getD_cons_zero, List.getD_cons_succ]; repeat (go_big_quiet_step (fail))
            refine wpQuiet_loadPart fc Tryz.underlying45 rfl (by rw [FC.out.len]; exact fr_size) rfl rfl rfl KF ?_
            simp only [Act.put, List.setIfInBounds_toArray, List.set_cons_succ, List.set_cons_zero]
            repeat (go_big_quiet_step (fail))
            refine wpQuiet_nil ?_
            refine rg_act 2 ?_
            go_wp2_with (fail)
            refine HT4.out.mono ?_
            rintro e w9 ⟨rfl, hset, on9⟩
            have hC9 := hbes w9 (fun k' hk' hs' => on9.block k' hk' hs')
            have hop9 : OpAt w9 o may N := on9.blk HOP4.out (by omega)
            obtain ⟨cs9, a9, n9, cap9, L9, h91, h92, h93, -⟩ := hset
            have s5 := h91.blk.cell _ _ (h92.op 0 (by omega))
            have s6 := h91.blk.cell _ _ (h92.op 1 (by omega))
            have s9 := h91.blk.cell _ _ (h92.po 0 (by omega))
            have s10 := h91.blk.cell _ _ (h92.po 1 (by omega))
            have t4 := (op_at hop9 0 (by omega)).2
            have t5 := (op_at hop9 2 (by omega)).2
            have t6 := (op_at hop9 1 (by omega)).2
            have t7 := (op_at hop9 3 (by omega)).2
            have ls9 := h91.blk.lt
            have lo9 := Blk.lt hop9
            have LN : Hid (LawI w w9 s o base true own peer may N) := Lib.hid (⟨⟨cs9, a9, n9, cap9, L9, h91, h92, h93, fun _ _ => trivial⟩, hop9, below_onto (below_onto L3.out.bel ON4.out L3.out.bel.size (fun k' hk' e => by omega)) on9 (Nat.le_trans L3.out.bel.size ON4.out.size) (fun k' hk' e => by omega)⟩)
            have ON9 := Lib.hid on9
            simp only [me, if_true, if_false, Bool.false_eq_true, Nat.reduceAdd, Nat.reduceMul, Nat.reduceSub, Nat.reduceMod, Nat.reduceDiv, Nat.mul_zero, Nat.mul_one, Nat.add_zero, Nat.zero_add, Nat.zero_div, Nat.zero_mod, Nat.zero_mul] at s5 s6 s9 s10 t4 t5 t6 t7
            generalize N 0 = m0 at s5 s6 s9 s10 t4 t5 t6 t7
            generalize N 1 = m1 at s5 s6 s9 s10 t4 t5 t6 t7
            generalize N 2 = m2 at s5 s6 s9 s10 t4 t5 t6 t7
            generalize N 3 = m3 at s5 s6 s9 s10 t4 t5 t6 t7
            clear hop9 h91 h92 h93 on9 HT4 HOP4 ON4 X4 KF hx
            go_wp2_with (fail)
            refine ⟨hC9, ?_⟩
            refine rg_more (fun w' h' => hbes w' (fun k' hk' hs' => (h'.block k' (Nat.lt_of_lt_of_le hk' ON9.out.size)).trans (ON9.out.block k' hk' hs'))) fun p2 hx2 hne2 hCC hbel2 => ?_
            have q5 := fun z : Wd p2 => (hx2 z _ _ _ ls9).trans s5
            have q6 := fun z : Wd p2 => (hx2 z _ _ _ ls9).trans s6
            have q9 := fun z : Wd p2 => (hx2 z _ _ _ ls9).trans s9
            have q10 := fun z : Wd p2 => (hx2 z _ _ _ ls9).trans s10
            have r4 := fun z : Wd p2 => (hx2 z _ _ _ lo9).trans t4
            have r5 := fun z : Wd p2 => (hx2 z _ _ _ lo9).trans t5
            have r6 := fun z : Wd p2 => (hx2 z _ _ _ lo9).trans t6
            have r7 := fun z : Wd p2 => (hx2 z _ _ _ lo9).trans t7
            refine rg_quiet 0 [4,5,6,7,8,9,10,11,12,13,14,15,16,17,18,19,20,21,22,23,24,25,26,27,28,29,30,31,32,33,34,35] hCC ?_
            simp only [pickD, List.map_cons, List.map_nil, List.getD_cons_zero, List.getD_cons_succ]; repeat (go_big_quiet_step (fail))
            obtain ⟨ti, hti⟩ := u64_info
            refine wpQuiet_neSame .u64 Tryz.underlying35 hti u64_cells u64_plain Tryz.underlying23 rfl rfl rfl rfl [(m1 : Int), (m3 : Int)] rfl rfl rfl (fun w => by first | rfl | go_simp) ?_
            simp only [Act.put, List.setIfInBounds_toArray, List.set_cons_succ, List.set_cons_zero]
            repeat (go_big_quiet_step (fail))
            refine wpQuiet_neSame .u64 Tryz.underlying35 hti u64_cells u64_plain Tryz.underlying23 rfl rfl rfl rfl [(m0 : Int), (m2 : Int)] rfl rfl rfl (fun w => by first | rfl | go_simp) ?_
            simp only [Act.put, List.setIfInBounds_toArray, List.set_cons_succ, List.set_cons_zero]
            repeat (go_big_quiet_step (fail))
            refine wpQuiet_nil ?_
            refine rg_end ?_
            clear hx2 hne2 hCC hbel2 q5 q6 q9 q10 r4 r5 r6 r7 hne hC hC9 hbes s5 s6 s9 s10 t4 t5 t6 t7 ls9 lo9
            go_wp2_with (fail)
            exact ⟨⟨k + 1, by go_num, by omega, Lib.hid ⟨_, LN.out⟩⟩, by simp [intOf]; omega⟩
          by_cases k21 : kd = 21
          · subst k21
            have HCD := Lib.hid (code_any o true true may cn id w3' L3.out.op HSI.out.le M20.out hid)
            unfold CodePost at HCD
            rw [show (if true = true then recvB true id else sendsB true id) = recvB true id from rfl, show ((me true : Nat) : Int) = 1 from rfl] at HCD
            obtain ⟨okv, hok⟩ : ∃ okv, recvB true id = okv := ⟨_, rfl⟩
            obtain ⟨C, hCC⟩ : ∃ C, thereC true may cn okv id = C := ⟨_, rfl⟩
            obtain ⟨N, hNN⟩ : ∃ N, thereN true may cn okv id = N := ⟨_, rfl⟩
            rw [hok, hCC, hNN] at HCD
            have HT : Hid (∀ W : World, Only (· = o) w3' W → Calls Tryz.prog 10 #[.pointer (some ⟨s, 0, none⟩), .agg fc.toArray] W.drew fun e w' => e = .returned (.int .u64 (C : Nat)) ∧ SetIs (fun _ => True) w' s base true own peer may N ∧ Only (· = s) W w') := Lib.hid (fun W hW => by
              have hW' : Only (· = o) w3' W.drew := hW.drew
              have h := take21_any s base true own peer may cn cs0 a0 n0 cap0 LL0 fc id mx W.drew (HS0.out.blkOnly hW' (by omega) (fun y hy e => by have := (HS0.out.row.block hy).1; omega)) HSI.out HOI.out hid FC.out
              unfold TkPost at h
              rw [hok, hCC, hNN] at h
              exact h.mono (fun e w' hh => ⟨hh.1, hh.2.1, (Only.refl (· = s) W).drew.trans hh.2.2⟩))
            clear hok hCC hNN HS0 HOI
            go_wp2_with (fail)
            refine HCD.out.mono ?_
            rintro e w4' ⟨rfl, hop4, on4⟩
            have lf4 := on4.size
            have X4 := Lib.hid (on4.blk X3.out (by omega))
            have HOP4 := Lib.hid hop4
            have ON4 := Lib.hid on4
            have HT4 := Lib.hid (HT.out w4' on4)
            clear hop4 on4 HT HCD d0 d1
            go_wp2_with (fail)
            refine rg_start 36 ?_
            refine rg_besides (· = s) fun p hx hne hC hbes => ?_
            have KF : ∀ z, Cls p z → ∀ j v, fc[j]? = some v → z.cell? ⟨f, 0 + j, none⟩ = some v := fun z hz j v hv => by
              obtain ⟨y, rfl⟩ := hz
              rw [Nat.zero_add]
              exact (hx y _ _ _ (by show f < w4'.heap.size; omega) (by omega)).trans (X4.out.cell j v (arr_get hv))
            refine rg_quiet 33 [0,1,3] hC ?_
            simp only [pickD, List.map_cons, List.map_nil, List.getD_cons_zero, List.getD_cons_succ]; repeat (go_big_quiet_step (fail))
            refine wpQuiet_loadPart fc Tryz.underlying45 rfl (by rw [FC.out.len]; exact fr_size) rfl rfl rfl KF ?_
            simp only [Act.put, List.setIfInBounds_toArray, List.set_cons_succ, List.set_cons_zero]
            repeat (go_big_quiet_step (fail))
            refine wpQuiet_nil ?_
            refine rg_act 2 ?_
            go_wp2_with (fail)
            refine HT4.out.mono ?_
            rintro e w9 ⟨rfl, hset, on9⟩
            have hC9 := hbes w9 (fun k' hk' hs' => on9.block k' hk' hs')
            have hop9 : OpAt w9 o may N := on9.blk HOP4.out (by omega)
            obtain ⟨cs9, a9, n9, cap9, L9, h91, h92, h93, -⟩ := hset
            have s5 := h91.blk.cell _ _ (h92.op 0 (by omega))
            have s6 := h91.blk.cell _ _ (h92.op 1 (by omega))
            have s9 := h91.blk.cell _ _ (h92.po 0 (by omega))
            have s10 := h91.blk.cell _ _ (h92.po 1 (by omega))
            have t4 := (op_at hop9 0 (by omega)).2
            have t5 := (op_at hop9 2 (by omega)).2
            have t6 := (op_at hop9 1 (by omega)).2
            have t7 := (op_at hop9 3 (by omega)).2
            have ls9 := h91.blk.lt
            have lo9 := Blk.lt hop9
            have LN : Hid (LawI w w9 s o base true own peer may N) := Lib.hid (⟨⟨cs9, a9, n9, cap9, L9, h91, h92, h93, fun _ _ => trivial⟩, hop9, below_onto (below_onto L3.out.bel ON4.out L3.out.bel.size (fun k' hk' e => by omega)) on9 (Nat.le_trans L3.out.bel.size ON4.out.size) (fun k' hk' e => by omega)⟩)
            have ON9 := Lib.hid on9
            simp only [me, if_true, if_false, Bool.false_eq_true, Nat.reduceAdd, Nat.reduceMul, Nat.reduceSub, Nat.reduceMod, Nat.reduceDiv, Nat.mul_zero, Nat.mul_one, Nat.add_zero, Nat.zero_add, Nat.zero_div, Nat.zero_mod, Nat.zero_mul] at s5 s6 s9 s10 t4 t5 t6 t7
            generalize N 0 = m0 at s5 s6 s9 s10 t4 t5 t6 t7
            generalize N 1 = m1 at s5 s6 s9 s10 t4 t5 t6 t7
            generalize N 2 = m2 at s5 s6 s9 s10 t4 t5 t6 t7
            generalize N 3 = m3 at s5 s6 s9 s10 t4 t5 t6 t7
            clear hop9 h91 h92 h93 on9 HT4 HOP4 ON4 X4 KF hx
            go_wp2_with (fail)
            refine ⟨hC9, ?_⟩
            refine rg_more (fun w' h' => hbes w' (fun k' hk' hs' => (h'.block k' (Nat.lt_of_lt_of_le hk' ON9.out.size)).trans (ON9.out.block k' hk' hs'))) fun p2 hx2 hne2 hCC hbel2 => ?_
            have q5 := fun z : Wd p2 => (hx2 z _ _ _ ls9).trans s5
            have q6 := fun z : Wd p2 => (hx2 z _ _ _ ls9).trans s6
            have q9 := fun z : Wd p2 => (hx2 z _ _ _ ls9).trans s9
            have q10 := fun z : Wd p2 => (hx2 z _ _ _ ls9).trans s10
            have r4 := fun z : Wd p2 => (hx2 z _ _ _ lo9).trans t4
            have r5 := fun z : Wd p2 => (hx2 z _ _ _ lo9).trans t5
            have r6 := fun z : Wd p2 => (hx2 z _ _ _ lo9).trans t6
            have r7 := fun z : Wd p2 => (hx2 z _ _ _ lo9).trans t7
            refine rg_quiet 0 [4,5,6,7,8,9,10,11,12,13,14,15,16,17,18,19,20,21,22,23,24,25,26,27,28,29,30,31,32,33,34,35] hCC ?_
            simp only [pickD, List.map_cons, List.map_nil, List.getD_cons_zero, List.getD_cons_succ]; repeat (go_big_quiet_step (fail))
            obtain ⟨ti, hti⟩ := u64_info
            refine wpQuiet_neSame .u64 Tryz.underlying35 hti u64_cells u64_plain Tryz.underlying23 rfl rfl rfl rfl [(m1 : Int), (m3 : Int)] rfl rfl rfl (fun w => by first | rfl | go_simp) ?_
            simp only [Act.put, List.setIfInBounds_toArray, List.set_cons_succ, List.set_cons_zero]
            repeat (go_big_quiet_step (fail))
            refine wpQuiet_neSame .u64 Tryz.underlying35 hti u64_cells u64_plain Tryz.underlying23 rfl rfl rfl rfl [(m0 : Int), (m2 : Int)] rfl rfl rfl (fun w => by first | rfl | go_simp) ?_
            simp only [Act.put, List.setIfInBounds_toArray, List.set_cons_succ, List.set_cons_zero]
            repeat (go_big_quiet_step (fail))
            refine wpQuiet_nil ?_
            refine rg_end ?_
            clear hx2 hne2 hCC hbel2 q5 q6 q9 q10 r4 r5 r6 r7 hne hC hC9 hbes s5 s6 s9 s10 t4 t5 t6 t7 ls9 lo9
            go_wp2_with (fail)
            exact ⟨⟨k + 1, by go_num, by omega, Lib.hid ⟨_, LN.out⟩⟩, by simp [intOf]; omega⟩
          by_cases k17 : kd = 17
          · subst k17
            have HCD := Lib.hid (code_any o true false may cn id w3' L3.out.op HSI.out.le M20.out hid)
            unfold CodePost at HCD
            rw [show (if false = true then recvB true id else sendsB true id) = sendsB true id from rfl, show ((me true : Nat) : Int) = 1 from rfl] at HCD
            obtain ⟨okv, hok⟩ : ∃ okv, sendsB true id = okv := ⟨_, rfl⟩
            obtain ⟨C, hCC⟩ : ∃ C, thereC true may cn okv id = C := ⟨_, rfl⟩
            obtain ⟨N, hNN⟩ : ∃ N, thereN true may cn okv id = N := ⟨_, rfl⟩
            rw [hok, hCC, hNN] at HCD
            have HT : Hid (∀ W : World, Only (· = o) w3' W → Calls Tryz.prog 10 #[.pointer (some ⟨s, 0, none⟩), .agg fc.toArray] W.drew fun e w' => e = .returned (.int .u64 (C : Nat)) ∧ SetIs (fun _ => True) w' s base true own peer may N ∧ Only (· = s) W w') := Lib.hid (fun W hW => by
              have hW' : Only (· = o) w3' W.drew := hW.drew
              have h := take17_any s base true own peer may cn cs0 a0 n0 cap0 LL0 fc id mx W.drew (HS0.out.blkOnly hW' (by omega) (fun y hy e => by have := (HS0.out.row.block hy).1; omega)) HSI.out HOI.out hid FC.out
              unfold TkPost at h
              rw [hok, hCC, hNN] at h
              exact h.mono (fun e w' hh => ⟨hh.1, hh.2.1, (Only.refl (· = s) W).drew.trans hh.2.2⟩))
            clear hok hCC hNN HS0 HOI
            go_wp2_with (fail)
            refine HCD.out.mono ?_
            rintro e w4' ⟨rfl, hop4, on4⟩
            have lf4 := on4.size
            have X4 := Lib.hid (on4.blk X3.out (by omega))
            have HOP4 := Lib.hid hop4
            have ON4 := Lib.hid on4
            have HT4 := Lib.hid (HT.out w4' on4)
            clear hop4 on4 HT HCD d0 d1
            go_wp2_with (fail)
            refine rg_start 36 ?_
            refine rg_besides (· = s) fun p hx hne hC hbes => ?_
            have KF : ∀ z, Cls p z → ∀ j v, fc[j]? = some v → z.cell? ⟨f, 0 + j, none⟩ = some v := fun z hz j v hv => by
              obtain ⟨y, rfl⟩ := hz
              rw [Nat.zero_add]
              exact (hx y _ _ _ (by show f < w4'.heap.size; omega) (by omega)).trans (X4.out.cell j v (arr_get hv))
            refine rg_quiet 33 [0,1,3] hC ?_
            simp only [pickD, List.map_cons, List.map_nil, List.getD_cons_zero, List.getD_cons_succ]; repeat (go_big_quiet_step (fail))
            refine wpQuiet_loadPart fc Tryz.underlying45 rfl (by rw [FC.out.len]; exact fr_size) rfl rfl rfl KF ?_
            simp only [Act.put, List.setIfInBounds_toArray, List.set_cons_succ, List.set_cons_zero]
            repeat (go_big_quiet_step (fail))
            refine wpQuiet_nil ?_
            refine rg_act 2 ?_
            go_wp2_with (fail)
            refine HT4.out.mono ?_
            rintro e w9 ⟨rfl, hset, on9⟩
            have hC9 := hbes w9 (fun k' hk' hs' => on9.block k' hk' hs')
            have hop9 : OpAt w9 o may N := on9.blk HOP4.out (by omega)
            obtain ⟨cs9, a9, n9, cap9, L9, h91, h92, h93, -⟩ := hset
            have s5 := h91.blk.cell _ _ (h92.op 0 (by omega))
            have s6 := h91.blk.cell _ _ (h92.op 1 (by omega))
            have s9 := h91.blk.cell _ _ (h92.po 0 (by omega))
            have s10 := h91.blk.cell _ _ (h92.po 1 (by omega))
            have t4 := (op_at hop9 0 (by omega)).2
            have t5 := (op_at hop9 2 (by omega)).2
            have t6 := (op_at hop9 1 (by omega)).2
            have t7 := (op_at hop9 3 (by omega)).2
            have ls9 := h91.blk.lt
            have lo9 := Blk.lt hop9
            have LN : Hid (LawI w w9 s o base true own peer may N) := Lib.hid (⟨⟨cs9, a9, n9, cap9, L9, h91, h92, h93, fun _ _ => trivial⟩, hop9, below_onto (below_onto L3.out.bel ON4.out L3.out.bel.size (fun k' hk' e => by omega)) on9 (Nat.le_trans L3.out.bel.size ON4.out.size) (fun k' hk' e => by omega)⟩)
            have ON9 := Lib.hid on9
            simp only [me, if_true, if_false, Bool.false_eq_true, Nat.reduceAdd, Nat.reduceMul, Nat.reduceSub, Nat.reduceMod, Nat.reduceDiv, Nat.mul_zero, Nat.mul_one, Nat.add_zero, Nat.zero_add, Nat.zero_div, Nat.zero_mod, Nat.zero_mul] at s5 s6 s9 s10 t4 t5 t6 t7
            generalize N 0 = m0 at s5 s6 s9 s10 t4 t5 t6 t7
            generalize N 1 = m1 at s5 s6 s9 s10 t4 t5 t6 t7
            generalize N 2 = m2 at s5 s6 s9 s10 t4 t5 t6 t7
            generalize N 3 = m3 at s5 s6 s9 s10 t4 t5 t6 t7
            clear hop9 h91 h92 h93 on9 HT4 HOP4 ON4 X4 KF hx
            go_wp2_with (fail)
            refine ⟨hC9, ?_⟩
            refine rg_more (fun w' h' => hbes w' (fun k' hk' hs' => (h'.block k' (Nat.lt_of_lt_of_le hk' ON9.out.size)).trans (ON9.out.block k' hk' hs'))) fun p2 hx2 hne2 hCC hbel2 => ?_
            have q5 := fun z : Wd p2 => (hx2 z _ _ _ ls9).trans s5
            have q6 := fun z : Wd p2 => (hx2 z _ _ _ ls9).trans s6
            have q9 := fun z : Wd p2 => (hx2 z _ _ _ ls9).trans s9
            have q10 := fun z : Wd p2 => (hx2 z _ _ _ ls9).trans s10
            have r4 := fun z : Wd p2 => (hx2 z _ _ _ lo9).trans t4
            have r5 := fun z : Wd p2 => (hx2 z _ _ _ lo9).trans t5
            have r6 := fun z : Wd p2 => (hx2 z _ _ _ lo9).trans t6
            have r7 := fun z : Wd p2 => (hx2 z _ _ _ lo9).trans t7
            refine rg_quiet 0 [4,5,6,7,8,9,10,11,12,13,14,15,16,17,18,19,20,21,22,23,24,25,26,27,28,29,30,31,32,33,34,35] hCC ?_
            simp only [pickD, List.map_cons, List.map_nil, List.getD_cons_zero, List.getD_cons_succ]; repeat (go_big_quiet_step (fail))
            obtain ⟨ti, hti⟩ := u64_info
            refine wpQuiet_neSame .u64 Tryz.underlying35 hti u64_cells u64_plain Tryz.underlying23 rfl rfl rfl rfl [(m1 : Int), (m3 : Int)] rfl rfl rfl (fun w => by first | rfl | go_simp) ?_
            simp only [Act.put, List.setIfInBounds_toArray, List.set_cons_succ, List.set_cons_zero]
            repeat (go_big_quiet_step (fail))
            refine wpQuiet_neSame .u64 Tryz.underlying35 hti u64_cells u64_plain Tryz.underlying23 rfl rfl rfl rfl [(m0 : Int), (m2 : Int)] rfl rfl rfl (fun w => by first | rfl | go_simp) ?_
            simp only [Act.put, List.setIfInBounds_toArray, List.set_cons_succ, List.set_cons_zero]
            repeat (go_big_quiet_step (fail))
            refine wpQuiet_nil ?_
            refine rg_end ?_
            clear hx2 hne2 hCC hbel2 q5 q6 q9 q10 r4 r5 r6 r7 hne hC hC9 hbes s5 s6 s9 s10 t4 t5 t6 t7 ls9 lo9
            go_wp2_with (fail)
            exact ⟨⟨k + 1, by go_num, by omega, Lib.hid ⟨_, LN.out⟩⟩, by simp [intOf]; omega⟩
          have n8 : ¬ (kd : Int) = 8 := by omega
          have n21 : ¬ (kd : Int) = 21 := by omega
          have n17 : ¬ (kd : Int) = 17 := by omega
          clear k8 k21 k17
          have LN := Lib.hid L3.out
          go_wp2_with (fail)
          exact ⟨⟨k + 1, by go_num, by omega, Lib.hid ⟨_, LN.out⟩⟩, by simp [intOf]; omega⟩
        · have hke : k = fn := by omega
          clear hlt
          subst hke
          obtain ⟨cn, hL⟩ := hI.out
          obtain ⟨cs0, a0, n0, cap0, LL0, hS, hSI, hOI, -⟩ := hL.set
          have d70 := hS.blk.cell 70 _ hS.l
          have ls0 := hS.blk.lt
          have t4 := (op_at hL.op 0 (by omega)).2
          have t5 := (op_at hL.op 2 (by omega)).2
          have t6 := (op_at hL.op 1 (by omega)).2
          have t7 := (op_at hL.op 3 (by omega)).2
          have lo0 := Blk.lt hL.op
          have le0 := hSI.le 0 (by omega)
          have le1 := hSI.le 1 (by omega)
          have le2 := hSI.le 2 (by omega)
          have le3 := hSI.le 3 (by omega)
          have u0 := M20.out 0 (by omega)
          have u1 := M20.out 1 (by omega)
          have u2 := M20.out 2 (by omega)
          have u3 := M20.out 3 (by omega)
          have hn0 : n0 = cn 0 + cn 1 + cn 2 + cn 3 := by rw [hS.len]; exact hOI.len
          have BEL := Lib.hid hL.bel
          simp only [Nat.reduceAdd, Nat.reduceMul, Nat.reduceSub, Nat.reduceMod, Nat.reduceDiv, Nat.mul_zero, Nat.mul_one, Nat.add_zero, Nat.zero_add, Nat.zero_div, Nat.zero_mod, Nat.zero_mul] at t4 t5 t6 t7
          clear hI hk hL hS hSI hOI
          generalize cn 0 = c0 at *
          generalize cn 1 = c1 at *
          generalize cn 2 = c2 at *
          generalize cn 3 = c3 at *
          have v0 : c0 ≤ 20 := by omega
          have v1 : c1 ≤ 20 := by omega
          have v2 : c2 ≤ 20 := by omega
          have v3 : c3 ≤ 20 := by omega
          have HN0 := Lib.hid hn0
          clear le0 le1 le2 le3 u0 u1 u2 u3 hn0
          have x0 := fun W => (run_index22 (.int .u64 (c0 : Nat)) (.int .u64 (c2 : Nat)) (.int .u64 (c1 : Nat)) (.int .u64 (c3 : Nat)) W).1
          have x1 := fun W => (run_index22 (.int .u64 (c0 : Nat)) (.int .u64 (c2 : Nat)) (.int .u64 (c1 : Nat)) (.int .u64 (c3 : Nat)) W).2
          go_wp2_with (fail)
          refine wp_loop_rounds 3 ?_
          rw [rounds_succ]
          go_wp2_with (fail)
          rw [rounds_succ]
          go_wp2_with (fail)
          rw [rounds_succ]
          go_upto_region 41 with (fail)
          rw [show ((c0 : Int) + (c2 : Int) + ((c1 : Int) + (c3 : Int))) = ((n0 : Nat) : Int) by rw [HN0.out]; omega]
          have hn80 : n0 ≤ 80 := by have := HN0.out; omega
          have b9 : Below wr.heap.size wr ((wr.alloc (.cells #[.int .u64 (c0 : Nat), .int .u64 (c2 : Nat)] 35)).alloc (.cells #[.int .u64 (c1 : Nat), .int .u64 (c3 : Nat)] 35)) := ((Below.refl _ _).alloc (Nat.le_refl _) _).alloc (by simp) _
          generalize ((wr.alloc (.cells #[.int .u64 (c0 : Nat), .int .u64 (c2 : Nat)] 35)).alloc (.cells #[.int .u64 (c1 : Nat), .int .u64 (c3 : Nat)] 35)) = w9 at b9 ⊢
          have e70 := (b9.cell (p := ⟨s, 70, none⟩) ls0).trans d70
          have B9 := Lib.hid (below_on BEL.out b9 BEL.out.size)
          clear x0 x1 b9 d70 t4 t5 t6 t7 HN0 v0 v1 v2 v3
          go_wp2_with (fail)
          refine (works_any w9).mono ?_
          rintro e w10 ⟨rfl, hb10⟩
          have B10 := Lib.hid (below_on B9.out hb10 B9.out.size)
          clear hb10
          go_wp2_with (fail)
          go_returns
          exact ⟨rfl, B10.out⟩
end Go.Proofs.YtgpnfdeneagdbaaGreat
