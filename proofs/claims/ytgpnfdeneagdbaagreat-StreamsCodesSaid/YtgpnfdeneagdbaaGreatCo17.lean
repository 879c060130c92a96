/- A set of streams: something is done with a stream's parts. -/
import Derived.Test.YtgpnfdeneagdbaaGreatCo16
namespace Go.Proofs.YtgpnfdeneagdbaaGreat
open Go.RowKit
set_option linter.unusedVariables false
set_option linter.unusedSimpArgs false
theorem so_size : ((Tryz.prog).info? 63).map (·.size) = some 14 := by kernel_rfl
theorem si_size : ((Tryz.prog).info? 66).map (·.size) = some 13 := by kernel_rfl
def WithPost (s base : Nat) (sv : Bool) (own peer : Nat → Nat) (bs bf bc : Nat) (fc : List Value) (cs : Array Value) (n i : Nat) (L : List Strm) (x : Strm) (w : World) (e : Ending) (w' : World) : Prop :=
  e = .returned (.tuple #[]) ∧ ∃ (a' : Option Addr) (c' u : Nat), StAt w' s base sv own peer (cs.setIfInBounds 70 (.slice a' n c')) a' n c' (L.set i { x with urg := u }) ∧ ClAt w' s bs bf bc fc ∧ Only (fun k => k = s ∨ k = bc) w w' ∧ ∀ y, a' = some y → w.heap.size ≤ y.block
theorem with_fin {w W : World} {s base n cap i c3 u g3 bs bf bc : Nat} {sv : Bool} {own peer : Nat → Nat} {fc : List Value} {cs cs7 : Array Value} {a : Option Addr} {L : List Strm} {x : Strm} (H : StAt w s base sv own peer cs a n cap L) (hcs : cs.setIfInBounds 70 (.slice (some ⟨g3, 0, none⟩) n c3) = cs7)
    (hb : Blk W s cs7 54) (hrow : OwnS W base 68 28 (some ⟨g3, 0, none⟩) n c3 ((L.set i { x with urg := u }).flatMap ssV)) (hc : ClAt W s bs bf bc fc) (T : Only (fun k => k = s ∨ k = bc ∨ w.heap.size ≤ k) w W) (hg3 : w.heap.size ≤ g3) :
    WithPost s base sv own peer bs bf bc fc cs n i L x w (.returned (.tuple #[])) W := by
  have hlc : 70 < cs.size := (Array.getElem?_eq_some_iff.1 H.l).1
  subst hcs
  refine ⟨rfl, some ⟨g3, 0, none⟩, c3, u, ⟨hb, ?_, fun k hk => ?_, fun k hk => ?_, by simp [hlc], hrow, by rw [List.length_set]; exact H.len, H.off, Nat.le_trans H.bs T.size⟩, hc, T.mono (fun k hk h => by omega), fun y hy => by cases hy; exact hg3⟩
  · rw [Array.getElem?_setIfInBounds_ne (by omega)]; exact H.srv
  · rw [Array.getElem?_setIfInBounds_ne (by omega)]; exact H.o k hk
  · rw [Array.getElem?_setIfInBounds_ne (by omega)]; exact H.p k hk
set_option maxRecDepth 100000 in
set_option maxHeartbeats 8000000 in
theorem with_any (s base : Nat) (sv : Bool) (own peer may cn : Nat → Nat) (bs bf bc : Nat) (fc : List Value) (kd id mx : Nat) (cs : Array Value) (a : Option Addr) (n cap i : Nat) (L : List Strm) (x : Strm) (w : World)
    (h : StAt w s base sv own peer cs a n cap L) (hI : StI cs sv may cn) (hx : L[i]? = some x) (hn : n ≤ 250) (hid : x.id < 18446744073709551616) (hf : FrC fc kd id mx) (hk : kd = 8 ∨ kd = 17 ∨ kd = 21) (hc : ClAt w s bs bf bc fc) (hr : ∀ y, a = some y → bc ≠ y.block ∧ bs ≠ y.block ∧ bf ≠ y.block) (hlt : bc < w.heap.size ∧ bf < w.heap.size) :
    Calls Tryz.prog 34 #[.pointer (some ⟨s, 0, none⟩), .int .i64 i, .func (.func 35) #[] #[.pointer (some ⟨bs, 0, none⟩), .pointer (some ⟨bf, 0, none⟩), .pointer (some ⟨bc, 0, none⟩)]] w fun e w' => WithPost s base sv own peer bs bf bc fc cs n i L x w e w' := by
  have H := Lib.hid h
  have HI := Lib.hid hI
  have HX := Lib.hid hx
  have HF := Lib.hid hf
  have HK := Lib.hid hk
  have HC := Lib.hid hc
  have HR := Lib.hid hr
  have HLT := Lib.hid hlt
  have c70 := h.blk.cell 70 _ h.l
  have hin : i < n := by rw [h.len]; exact (List.getElem?_eq_some_iff.1 hx).1
  obtain ⟨g, rfl, hbg, hg, hall⟩ := h.row.getS hx
  have HALL := Lib.hid hall
  have hls : s < w.heap.size := h.blk.lt
  clear h hI hx hf hk hc hr hlt hall
  have KO : Hid (∀ W : World, Below w.heap.size w W → ∀ j v, (outV x)[j]? = some v → W.cell? ⟨g, i * 28 + 1 + j, none⟩ = some v) := Lib.hid (fun W hW j v hv => by
    have hj : j < 14 := (List.getElem?_eq_some_iff.1 hv).1
    have e := (HALL.out (1 + j) (by omega)).1
    rw [← Nat.add_assoc] at e
    refine (hW.cell (p := ⟨g, _, none⟩) hg).trans (e.trans ?_)
    rw [ssV_parts, Nat.add_comm 1 j, List.getElem?_cons_succ, List.getElem?_append_left hj, hv])
  have KI : Hid (∀ W : World, Below w.heap.size w W → ∀ j v, (inV' x)[j]? = some v → W.cell? ⟨g, i * 28 + 15 + j, none⟩ = some v) := Lib.hid (fun W hW j v hv => by
    have hj : j < 13 := (List.getElem?_eq_some_iff.1 hv).1
    have e := (HALL.out (15 + j) (by omega)).1
    rw [← Nat.add_assoc] at e
    refine (hW.cell (p := ⟨g, _, none⟩) hg).trans (e.trans ?_)
    rw [ssV_parts, show 15 + j = (14 + j) + 1 by omega, List.getElem?_cons_succ, List.getElem?_append_right (by show 14 ≤ 14 + j; omega), show 14 + j - (outV x).length = j by show 14 + j - 14 = j; omega, hv])
  go_enter Tryz.func34, Tryz.ntmps34
  go_wp2_with (fail)
  refine rg_start 21 ?_
  refine rg_same fun p hx hne hC => ?_
  refine rg_quiet 2 [0,1,2,3,4,5,6,7,8,9,10,11,12,13,14,15,16,17,18] hC ?_
  simp only [pickD, List.map_cons, List.map_nil, List.getD_cons_zero, List.getD_cons_succ]; repeat (go_big_quiet_step (fail))
  refine wpQuiet_loadPart [.slice none 0 0, .int .u64 0, .int .u64 0, .int .u64 x.urg, .slice none 0 0, .slice none 0 0, .bool false, .bool false, .bool false, .bool false, .int .u64 0, .bool false, .bool false, .bool false] Tryz.underlying63 rfl so_size rfl rfl rfl (fun w' hc j v hv => by have := hx ⟨w', hc.out⟩; dsimp only at this; subst this; exact KO.out _ (Below.refl _ _).drew j v hv) ?_
  simp only [Act.put, List.setIfInBounds_toArray, List.set_cons_succ, List.set_cons_zero]
  repeat (go_big_quiet_step (fail))
  refine wpQuiet_loadPart [.slice none 0 0, .int .u64 0, .slice none 0 0, .int .u64 0, .int .u64 x.served, .bool false, .int .u64 0, .bool false, .bool false, .int .u64 0, .bool false, .int .u64 0, .bool false] Tryz.underlying66 rfl si_size rfl rfl rfl (fun w' hc j v hv => by have := hx ⟨w', hc.out⟩; dsimp only at this; subst this; exact KI.out _ (Below.refl _ _).drew j v hv) ?_
  simp only [Act.put, List.setIfInBounds_toArray, List.set_cons_succ, List.set_cons_zero]
  repeat (go_big_quiet_step (fail))
  refine wpQuiet_nil ?_
  refine rg_cut 19 ?_
  go_wp2_with (fail)
  refine rg_same fun p hx hne hC => ?_
  refine rg_quiet 0 [20] hC ?_
  simp only [pickD, List.map_cons, List.map_nil, List.getD_cons_zero, List.getD_cons_succ]; repeat (go_big_quiet_step (fail))
  refine wpQuiet_nil ?_
  refine rg_end ?_
  clear hx hne hC
  have sd1 : SdAt (w.alloc (.cells #[.slice none 0 0, .int .u64 0, .int .u64 0, .int .u64 x.urg, .slice none 0 0, .slice none 0 0, .bool false, .bool false, .bool false, .bool false, .int .u64 0, .bool false, .bool false, .bool false, .slice none 0 0, .int .u64 0, .slice none 0 0, .int .u64 0, .int .u64 x.served, .bool false, .int .u64 0, .bool false, .bool false, .int .u64 0, .bool false, .int .u64 0, .bool false] 99)).drew w.heap.size x := Blk.new w _ _
  have b1 : Below w.heap.size w (w.alloc (.cells #[.slice none 0 0, .int .u64 0, .int .u64 0, .int .u64 x.urg, .slice none 0 0, .slice none 0 0, .bool false, .bool false, .bool false, .bool false, .int .u64 0, .bool false, .bool false, .bool false, .slice none 0 0, .int .u64 0, .slice none 0 0, .int .u64 0, .int .u64 x.served, .bool false, .int .u64 0, .bool false, .bool false, .int .u64 0, .bool false, .int .u64 0, .bool false] 99)).drew := ((Below.refl _ _).alloc (Nat.le_refl _) _).drew
  have z1 : (w.alloc (.cells #[.slice none 0 0, .int .u64 0, .int .u64 0, .int .u64 x.urg, .slice none 0 0, .slice none 0 0, .bool false, .bool false, .bool false, .bool false, .int .u64 0, .bool false, .bool false, .bool false, .slice none 0 0, .int .u64 0, .slice none 0 0, .int .u64 0, .int .u64 x.served, .bool false, .int .u64 0, .bool false, .bool false, .int .u64 0, .bool false, .int .u64 0, .bool false] 99)).drew.heap.size = w.heap.size + 1 := alloc_size' _ _
  generalize (w.alloc (.cells #[.slice none 0 0, .int .u64 0, .int .u64 0, .int .u64 x.urg, .slice none 0 0, .slice none 0 0, .bool false, .bool false, .bool false, .bool false, .int .u64 0, .bool false, .bool false, .bool false, .slice none 0 0, .int .u64 0, .slice none 0 0, .int .u64 0, .int .u64 x.served, .bool false, .int .u64 0, .bool false, .bool false, .int .u64 0, .bool false, .int .u64 0, .bool false] 99)).drew = w1 at sd1 b1 z1 ⊢
  have SD1 := Lib.hid sd1
  have B1 := Lib.hid b1
  have Z1 := Lib.hid z1
  clear sd1 b1 z1
  go_wp2_with (fail)
  refine (used_any w.heap.size x w1 SD1.out).mono ?_
  rintro e w1' ⟨e1, rfl⟩
  obtain rfl : w1 = w1' := e1.symm
  go_wp2_with (fail)
  have hsq : s ≠ w.heap.size := by omega
  refine (takeC_any s w.heap.size bs bf bc cs sv may cn fc kd id mx x w1 (H.out.blk.below B1.out) HI.out SD1.out hsq HF.out HK.out (HC.out.below B1.out) ⟨by have := HC.out.ls; omega, by have := HLT.out; omega, by have := HLT.out; omega⟩).mono ?_
  rintro e w2 ⟨rfl, on2, hb2, hc2, u, hx2⟩
  have c70 := hb2.cell 70 _ H.out.l
  have z2 : w.heap.size + 1 ≤ w2.heap.size := by have := on2.size; have := Z1.out; omega
  have row2 : OwnS w2 base 68 28 (some ⟨g, 0, none⟩) n cap (L.flatMap ssV) := (H.out.row.below B1.out).only on2 (fun y hy e => by
    cases hy
    have h1 : bc ≠ g := (HR.out _ rfl).1
    have h2 := H.out.off
    rcases e with e | e | e
    · have e : g = s := e
      omega
    · have e : g = w.heap.size := e
      omega
    · have e : g = bc := e
      omega)
  have T2 : Only (fun k => k = s ∨ k = bc ∨ w.heap.size ≤ k) w w2 := (only_of_below B1.out _).trans (on2.mono (fun k hk h => by omega))
  have ROW2 := Lib.hid row2
  have HB2 := Lib.hid hb2
  have HC2 := Lib.hid hc2
  have HX2 := Lib.hid hx2
  have T2 := Lib.hid T2
  clear on2 hb2 hc2 hx2 row2
  go_wp2_with (fail)
  refine (clone_any base (some ⟨g, 0, none⟩) n cap L w2 ROW2.out (by omega) (by have := H.out.bs; omega)).mono ?_
  rintro e w3 ⟨a3, c3, rfl, ho3, hb3, hat3⟩
  obtain ⟨g3, rfl, hbg3, hg3, -⟩ := ho3.getS HX.out
  have hg3' : w2.heap.size ≤ g3 := hat3 _ rfl
  have hb23 := HB2.out.below hb3
  have c70' := hb23.cell 70 _ H.out.l
  have f70 := hb23.free 70
  have z3 := hb3.size
  have ROW3 := Lib.hid ho3
  have B3 := Lib.hid hb3
  have HB3 := Lib.hid hb23
  clear ho3 hb3 hat3 hb23 c70
  go_wp2_with (fail)
  have on4 : Only (· = s) w3 (w3.setCell ⟨s, 70, none⟩ (.slice (some ⟨g3, 0, none⟩) n c3)) := (Only.refl _ _).set _ _
  have hb4 := HB3.out.set 70 (.slice (some ⟨g3, 0, none⟩) n c3)
  generalize (w3.setCell ⟨s, 70, none⟩ (.slice (some ⟨g3, 0, none⟩) n c3)) = w4 at on4 hb4 ⊢
  have z4 := on4.size
  have hsz : s < base := H.out.off
  have row4 := ROW3.out.only on4 (fun y hy e => by cases hy; simp at e; omega)
  have hc4 : ClAt w4 s bs bf bc fc := (HC2.out.below B3.out).only (q := s) (on4.mono (fun k _ h => .inl h)) (by have := HC2.out.ne; exact ⟨this.2.1, this.2.2.1, this.1⟩)
  have hx4 : SdAt w4 w.heap.size { x with urg := u } := on4.blk (Blk.below HX2.out B3.out) (fun h => hsq h.symm)
  have T4 : Hid (Only (fun k => k = s ∨ k = bc ∨ w.heap.size ≤ k) w w4) := Lib.hid ((T2.out.trans (only_of_below B3.out _)).trans (on4.mono (fun k _ h => .inl h)))
  have hlc : 70 < cs.size := (Array.getElem?_eq_some_iff.1 H.out.l).1
  have c70 : w4.cell? ⟨s, 70, none⟩ = some (.slice (some ⟨g3, 0, none⟩) n c3) := hb4.cell 70 _ (by simp [hlc])
  have l4 := hb4.lt
  have lq4 := Blk.lt hx4
  obtain ⟨cur, hcur, hct, hcl, hnc, hcm, -⟩ := row4.blkS
  have fit1 : i * 28 + 1 + 14 ≤ cur.length := by rw [hcl]; omega
  obtain ⟨rp1, rp2, rp3⟩ := row_put (u := u) HX.out H.out.len hct (by rw [hcl]; omega)
  have HB4 := Lib.hid hb4
  have HC4 := Lib.hid hc4
  have HX4 := Lib.hid hx4
  have HCUR := Lib.hid hcur
  have RP := Lib.hid (⟨rp1, rp2, rp3⟩ : _ ∧ _ ∧ _)
  have CL := Lib.hid hcl
  have CAP := Lib.hid (⟨hnc, hcm⟩ : _ ∧ _)
  clear on4 hb4 row4 hc4 hx4 hcur hct c70' f70 rp1 rp2 rp3 hcl hnc hcm ROW3 HB3 HC2 HX2 HB2 ROW2
  refine rg_start 26 ?_
  refine rg_besides (· = g3) fun p hx hne hC hbes => ?_
  have k70 : ∀ z : Wd p, z.w.cell? ⟨s, 70, none⟩ = some (.slice (some ⟨g3, 0, none⟩) n c3) := fun z => (hx z _ _ _ l4 (by omega)).trans c70
  have hqg : ¬ w.heap.size = g3 := by omega
  have KSO : ∀ z, Cls p z → ∀ j v, (outV { x with urg := u })[j]? = some v → z.cell? ⟨w.heap.size, 0 + j, none⟩ = some v := fun z hz j v hv => by
    obtain ⟨y, rfl⟩ := hz
    exact (hx y _ _ _ lq4 hqg).trans (HX4.out.out j v hv)
  have KSI : ∀ z, Cls p z → ∀ j v, (inV' { x with urg := u })[j]? = some v → z.cell? ⟨w.heap.size, 14 + j, none⟩ = some v := fun z hz j v hv => by
    obtain ⟨y, rfl⟩ := hz
    exact (hx y _ _ _ lq4 hqg).trans (HX4.out.in_ j v hv)
  refine rg_quiet 4 [0,1,2,3,4,5,6,7,8,9,10,11,12,13,14,15,16,17,18,19,20,21] hC ?_
  simp only [pickD, List.map_cons, List.map_nil, List.getD_cons_zero, List.getD_cons_succ]; repeat (go_big_quiet_step (fail))
  refine wpQuiet_loadPart (outV { x with urg := u }) Tryz.underlying63 rfl so_size rfl rfl rfl KSO ?_
  simp only [Act.put, List.setIfInBounds_toArray, List.set_cons_succ, List.set_cons_zero]
  repeat (go_big_quiet_step (fail))
  refine wpQuiet_loadPart (inV' { x with urg := u }) Tryz.underlying66 rfl si_size rfl rfl rfl KSI ?_
  simp only [Act.put, List.setIfInBounds_toArray, List.set_cons_succ, List.set_cons_zero]
  repeat (go_big_quiet_step (fail))
  refine wpQuiet_nil ?_
  refine rg_act 22 ?_
  go_wp2_with (with_reducible refine stop_sto ?_)
  refine Stop.out ?_
  refine wpList_storePart rfl rfl (b := g3) (q := i * 28 + 1) (T := 68) cur (outV { x with urg := u }) rfl rfl HCUR.out.drew so_size fit1 (outV_one _) ?_
  intro w5 hb5 on5
  have hC5 := hbes w5 (fun k hk hs => on5.block k hk hs)
  have HB5 := Lib.hid hb5
  have ON5 := Lib.hid on5
  clear hb5 on5
  go_wp2_with (fail)
  refine ⟨hC5, ?_⟩
  refine rg_quiet 1 [23,24] hC5 ?_
  simp only [pickD, List.map_cons, List.map_nil, List.getD_cons_zero, List.getD_cons_succ]; repeat (go_big_quiet_step (fail))
  refine wpQuiet_nil ?_
  refine rg_cut 25 ?_
  go_wp2_with (with_reducible refine stop_sto ?_)
  refine Stop.out ?_
  refine wpList_storePart rfl rfl (b := g3) (q := i * 28 + 15) (T := 68) _ (inV' { x with urg := u }) rfl rfl HB5.out si_size (by rw [RP.out.2.1, CL.out]; show i * 28 + 15 + 13 ≤ _; have := CAP.out.1; omega) (inV_one _) ?_
  intro w6 hb6 on6
  have hrow6 : OwnS w6 base 68 28 (some ⟨g3, 0, none⟩) n c3 ((L.set i { x with urg := u }).flatMap ssV) := OwnS.ofBlk hb6 RP.out.1 (by rw [RP.out.2.2, CL.out]) CAP.out.1 CAP.out.2 hbg3
  have on46 : Only (· = g3) w4 w6 := ((Only.refl _ _).drew.trans ON5.out).trans on6
  have ROW6 := Lib.hid hrow6
  have HB6 := Lib.hid (on46.blk HB4.out (by omega))
  have HX6 := Lib.hid (show SdAt w6 w.heap.size { x with urg := u } from on46.blk HX4.out hqg)
  have HC6 : Hid (ClAt w6 s bs bf bc fc) := Lib.hid (by
    have h1 := HC4.out
    have l1 := HC.out.ls
    have l2 := HLT.out
    exact ⟨(on46.cell (p := ⟨bs, 0, none⟩) h1.ls (show bs ≠ g3 by omega)).trans h1.pt, on46.blk h1.f (by omega), on46.blk h1.c (by omega), Nat.lt_of_lt_of_le h1.ls on46.size, h1.ne⟩)
  have T6 : Hid (Only (fun k => k = s ∨ k = bc ∨ w.heap.size ≤ k) w w6) := Lib.hid (T4.out.trans (on46.mono (fun k _ h => by omega)))
  have z6 := on46.size
  clear hb6 on6 hrow6 on46
  go_wp2_with (fail)
  refine rg_end0 ?_
  clear hx hne hC hC5 hbes k70 KSO KSI HB5 ON5 HX4 HC4 HB4 HCUR RP CL CAP T4 fit1 c70
  have HI7 := Lib.hid (HI.out.set70 (.slice (some ⟨g3, 0, none⟩) n c3))
  generalize hcs7 : cs.setIfInBounds 70 (.slice (some ⟨g3, 0, none⟩) n c3) = cs7 at HB6 HI7
  have HCS := Lib.hid hcs7
  clear hcs7
  go_wp2_with (fail)
  refine rg_start 11 ?_
  refine rg_below fun p hx hne hC hbel => ?_
  refine rg_quiet 4 [0,1,2,3,4,5,7] hC ?_
  simp only [pickD, List.map_cons, List.map_nil, List.getD_cons_zero, List.getD_cons_succ]; repeat (go_big_quiet_step (fail))
  refine wpQuiet_nil ?_
  refine rg_act 6 ?_
  go_wp2_with (fail)
  refine (used_any w.heap.size { x with urg := u } w6.drew HX6.out).mono ?_
  rintro e w6' ⟨e1, rfl⟩
  obtain rfl : w6.drew = w6' := e1.symm
  go_wp2_with (fail)
  refine ⟨hC, ?_⟩
  refine rg_quiet 2 [8] hC ?_
  simp only [pickD, List.map_cons, List.map_nil, List.getD_cons_zero, List.getD_cons_succ]; repeat (go_big_quiet_step (fail))
  refine wpQuiet_nil ?_
  refine rg_act 9 ?_
  go_wp2_with (fail)
  have b7 : Below w6.heap.size w6 (w6.drew.alloc (.cells #[.int .u64 0] 23)) := (Below.refl _ w6).drew.alloc (Nat.le_refl _) _
  have hi7 : IntsAt .u64 (w6.drew.alloc (.cells #[.int .u64 0] 23)) (some ⟨w6.heap.size, 0, none⟩) [0] := IntsAt.of_map (Blk.new w6.drew _ _) (by simp [wf0])
  have hC7 := hbel _ (of_drew b7)
  have B7 := Lib.hid b7
  have I7 := Lib.hid hi7
  clear b7 hi7
  refine ⟨hC7, ?_⟩
  clear hC7
  refine rg_cut 10 ?_
  go_wp2_with (fail)
  refine (use_nil s cs7 sv may cn (some ⟨w6.heap.size, 0, none⟩) _ (HB6.out.below B7.out) HI7.out I7.out).mono ?_
  rintro e w8 ⟨rfl, hb8, on8⟩
  have on68 : Only (· = s) w6 w8 := (only_of_below B7.out _).trans on8
  have hrow8 := ROW6.out.only on68 (fun y hy e => by cases hy; simp at e; omega)
  have hx8 : SdAt w8 w.heap.size { x with urg := u } := on68.blk HX6.out (fun h => hsq h.symm)
  have hc8 : ClAt w8 s bs bf bc fc := HC6.out.only (q := s) (on68.mono (fun k _ h => .inl h)) (by have := HC6.out.ne; exact ⟨this.2.1, this.2.2.1, this.1⟩)
  have T8 : Hid (Only (fun k => k = s ∨ k = bc ∨ w.heap.size ≤ k) w w8) := Lib.hid (T6.out.trans (on68.mono (fun k _ h => .inl h)))
  have z8 := on68.size
  have hcs70 : cs7[70]? = some (.slice (some ⟨g3, 0, none⟩) n c3) := by rw [← HCS.out]; simp [hlc]
  have hcs13 : cs7[13]? = some (.bool sv) := by rw [← HCS.out, Array.getElem?_setIfInBounds_ne (by omega)]; exact H.out.srv
  have d70 := hb8.cell 70 _ hcs70
  have d13 := hb8.cell 13 _ hcs13
  have l8 := hb8.lt
  have lq8 := Blk.lt hx8
  have did : w8.cell? ⟨g3, i * 28, none⟩ = some (.int .u64 x.id) := by
    obtain ⟨g', e, _, _, h'⟩ := hrow8.getS (i := i) (x := { x with urg := u }) (by rw [List.getElem?_set_self (by rw [← H.out.len]; exact hin)])
    cases e
    exact (h' 0 (by omega)).1
  have lg8 : g3 < w8.heap.size := by omega
  have HB8 := Lib.hid hb8
  have ROW8 := Lib.hid hrow8
  have HX8 := Lib.hid hx8
  have HC8 := Lib.hid hc8
  clear hb8 on8 on68 hrow8 hx8 hc8 hx hne hC hbel I7 B7 HX6 HC6 T6 ROW6 HB6
  go_wp2_with (fail)
  refine rg_end0 ?_
  go_wp2_with (fail)
  refine rg_start 23 ?_
  refine rg_below fun p hx hne hC hbel => ?_
  have k70 : ∀ z : Wd p, z.w.cell? ⟨s, 70, none⟩ = some (.slice (some ⟨g3, 0, none⟩) n c3) := fun z => (hx z _ _ _ l8).trans d70
  have kid : ∀ z : Wd p, z.w.cell? ⟨g3, i * 28, none⟩ = some (.int .u64 x.id) := fun z => (hx z _ _ _ lg8).trans did
  have KSO : ∀ z, Cls p z → ∀ j v, (outV { x with urg := u })[j]? = some v → z.cell? ⟨w.heap.size, 0 + j, none⟩ = some v := fun z hz j v hv => by
    obtain ⟨y, rfl⟩ := hz
    exact (hx y _ _ _ lq8).trans (HX8.out.out j v hv)
  have KSI : ∀ z, Cls p z → ∀ j v, (inV' { x with urg := u })[j]? = some v → z.cell? ⟨w.heap.size, 14 + j, none⟩ = some v := fun z hz j v hv => by
    obtain ⟨y, rfl⟩ := hz
    exact (hx y _ _ _ lq8).trans (HX8.out.in_ j v hv)
  refine rg_quiet 5 [0,1,2,3,4,5,6,7,8,9,10,11,12,13,14,15,16,17] hC ?_
  simp only [pickD, List.map_cons, List.map_nil, List.getD_cons_zero, List.getD_cons_succ]; repeat (go_big_quiet_step (fail))
  refine wpQuiet_loadPart (outV { x with urg := u }) Tryz.underlying63 rfl so_size rfl rfl rfl KSO ?_
  simp only [Act.put, List.setIfInBounds_toArray, List.set_cons_succ, List.set_cons_zero]
  repeat (go_big_quiet_step (fail))
  refine wpQuiet_loadPart (inV' { x with urg := u }) Tryz.underlying66 rfl si_size rfl rfl rfl KSI ?_
  simp only [Act.put, List.setIfInBounds_toArray, List.set_cons_succ, List.set_cons_zero]
  repeat (go_big_quiet_step (fail))
  refine wpQuiet_nil ?_
  refine rg_among [18, 19] ?_
  simp only [List.forall_mem_cons, List.getD_cons_zero, List.getD_cons_succ]
  refine ⟨?_, ?_, by simp⟩
  · go_wp2_with (fail)
    have x9 : Blk (w8.alloc (.cells (outV (mkS 0 0 0)).toArray 63)).drew w8.heap.size (outV (mkS 0 0 0)).toArray 63 := Blk.new w8 _ _
    have b9 : Below w8.heap.size w8 (w8.alloc (.cells (outV (mkS 0 0 0)).toArray 63)).drew := ((Below.refl _ _).alloc (Nat.le_refl _) _).drew
    have z9 : (w8.alloc (.cells (outV (mkS 0 0 0)).toArray 63)).drew.heap.size = w8.heap.size + 1 := alloc_size' _ _
    simp only [outV, inV', mkS] at x9 b9 z9
    refine ⟨hbel _ (of_drew b9), ?_⟩
    generalize (w8.alloc _).drew = w9 at x9 b9 z9 ⊢
    have X9 := Lib.hid x9
    have B9 := Lib.hid b9
    have Z9 := Lib.hid z9
    clear x9 b9 z9
    refine rg_act 19 ?_
    go_wp2_with (fail)
    have x10 : Blk (w9.alloc (.cells (inV' (mkS 0 0 0)).toArray 66)) w9.heap.size (inV' (mkS 0 0 0)).toArray 66 := Blk.new w9 _ _
    have b10 : Below w9.heap.size w9 (w9.alloc (.cells (inV' (mkS 0 0 0)).toArray 66)) := ((Below.refl _ _).alloc (Nat.le_refl _) _)
    have z10 : (w9.alloc (.cells (inV' (mkS 0 0 0)).toArray 66)).heap.size = w9.heap.size + 1 := alloc_size' _ _
    simp only [outV, inV', mkS] at x10 b10 z10
    have b8 := below_on B9.out b10 B9.out.size
    refine ⟨hbel _ (of_drew b8), ?_⟩
    generalize w9.alloc _ = w10 at x10 b10 z10 b8 ⊢
    have X10 := Lib.hid x10
    have X9 := Lib.hid (X9.out.below b10)
    have B10 := Lib.hid b8
    have Z10 := Lib.hid z10
    clear x10 b10 z10 b8
    have hne : w8.heap.size ≠ w9.heap.size := by have := Z9.out; omega
    refine rg_act 20 ?_
    go_wp2_with (with_reducible refine stop_sto ?_)
    refine Stop.out ?_
    refine wpList_storePart rfl rfl (b := w8.heap.size) (q := 0) (T := 63) (outV (mkS 0 0 0)) (outV { x with urg := u }) rfl rfl X9.out so_size (by show 0 + 14 ≤ 14; omega) (outV_one _) ?_
    intro w11 x11 on11
    have x11 : Blk w11 w8.heap.size (outV { x with urg := u }).toArray 63 := x11
    have b11 : Below w8.heap.size w8 w11 := below_onto B10.out on11 B10.out.size (fun k hk e => by have := Z9.out; omega)
    have hC11 := hbel _ (of_drew b11)
    have Y11 := Lib.hid (on11.blk X10.out (fun h => hne h.symm))
    have X11 := Lib.hid x11
    have B11 := Lib.hid b11
    have z11 := on11.size
    clear x11 b11 on11
    go_wp2_with (fail)
    refine ⟨hC11, ?_⟩
    refine rg_act 21 ?_
    go_wp2_with (with_reducible refine stop_sto ?_)
    refine Stop.out ?_
    refine wpList_storePart rfl rfl (b := w9.heap.size) (q := 0) (T := 66) (inV' (mkS 0 0 0)) (inV' { x with urg := u }) rfl rfl Y11.out si_size (by show 0 + 13 ≤ 13; omega) (inV_one _) ?_
    intro w12 x12 on12
    have x12 : Blk w12 w9.heap.size (inV' { x with urg := u }).toArray 66 := x12
    have b12 : Below w8.heap.size w8 w12 := below_onto B11.out on12 B11.out.size (fun k hk e => by have := Z9.out; omega)
    have hC12 := hbel _ (of_drew b12)
    have X11 := on12.blk X11.out (fun h => hne h)
    have c12 : w12.cell? ⟨w8.heap.size, 12, none⟩ = some (.bool false) := X11.cell 12 _ rfl
    have c6 : w12.cell? ⟨w8.heap.size, 6, none⟩ = some (.bool false) := X11.cell 6 _ rfl
    have c7 : w12.cell? ⟨w9.heap.size, 7, none⟩ = some (.bool false) := x12.cell 7 _ rfl
    have c10 : w12.cell? ⟨w9.heap.size, 10, none⟩ = some (.bool false) := x12.cell 10 _ rfl
    have FIN := Lib.hid (with_fin H.out HCS.out (HB8.out.below b12) (ROW8.out.below b12) (HC8.out.below b12) (T8.out.trans (only_of_below b12 _)) (by omega))
    have h13 := (HB8.out.below b12).cell 13 _ hcs13
    have HS := Lib.hid (sends_any s sv x.id w12 hid h13)
    have HV := Lib.hid (recv_any s sv x.id w12 hid h13)
    clear x12 b12 on12 X11 Y11 X9 X10 B11 B10 B9 z11 Z10 h13
    go_wp2_with (fail)
    refine ⟨hC12, ?_⟩
    refine rg_quiet 0 [22] hC12 ?_
    simp only [pickD, List.map_cons, List.map_nil, List.getD_cons_zero, List.getD_cons_succ]; repeat (go_big_quiet_step (fail))
    refine wpQuiet_nil ?_
    refine rg_end ?_
    clear hx hne hC hC11 hC12 hbel k70 kid KSO KSI did d70 d13 HX8 HB8 ROW8 HC8 T8
    have hor : (sendsB sv x.id || recvB sv x.id) = true := by unfold sendsB recvB; cases uniB x.id <;> cases mineB sv x.id <;> rfl
    obtain ⟨r1, hr1⟩ : ∃ r, sendsB sv x.id = r := ⟨_, rfl⟩
    obtain ⟨r2, hr2⟩ : ∃ r, recvB sv x.id = r := ⟨_, rfl⟩
    rw [hr1] at HS hor
    rw [hr2] at HV hor
    clear hr1 hr2
    go_wp2_with (fail)
    refine HS.out.mono ?_
    rintro e w13 ⟨e1, rfl⟩
    obtain rfl : w12 = w13 := e1.symm
    cases r1 with
    | true =>
      go_wp2_with (fail)
      refine HV.out.mono ?_
      rintro e w13 ⟨e1, rfl⟩
      obtain rfl : w12 = w13 := e1.symm
      cases r2 with
      | true => go_wp2_with (fail); go_returns; exact FIN.out
      | false => go_wp2_with (fail); go_returns; exact FIN.out
    | false =>
      obtain rfl : r2 = true := by simpa using hor
      go_wp2_with (fail)
      refine HV.out.mono ?_
      rintro e w13 ⟨e1, rfl⟩
      obtain rfl : w12 = w13 := e1.symm
      go_wp2_with (fail); go_returns; exact FIN.out
  · go_wp2_with (fail)
    have x9 : Blk (w8.alloc (.cells (inV' (mkS 0 0 0)).toArray 66)).drew w8.heap.size (inV' (mkS 0 0 0)).toArray 66 := Blk.new w8 _ _
    have b9 : Below w8.heap.size w8 (w8.alloc (.cells (inV' (mkS 0 0 0)).toArray 66)).drew := ((Below.refl _ _).alloc (Nat.le_refl _) _).drew
    have z9 : (w8.alloc (.cells (inV' (mkS 0 0 0)).toArray 66)).drew.heap.size = w8.heap.size + 1 := alloc_size' _ _
    simp only [outV, inV', mkS] at x9 b9 z9
    refine ⟨hbel _ (of_drew b9), ?_⟩
    generalize (w8.alloc _).drew = w9 at x9 b9 z9 ⊢
    have X9 := Lib.hid x9
    have B9 := Lib.hid b9
    have Z9 := Lib.hid z9
    clear x9 b9 z9
    refine rg_act 18 ?_
    go_wp2_with (fail)
    have x10 : Blk (w9.alloc (.cells (outV (mkS 0 0 0)).toArray 63)) w9.heap.size (outV (mkS 0 0 0)).toArray 63 := Blk.new w9 _ _
    have b10 : Below w9.heap.size w9 (w9.alloc (.cells (outV (mkS 0 0 0)).toArray 63)) := ((Below.refl _ _).alloc (Nat.le_refl _) _)
    have z10 : (w9.alloc (.cells (outV (mkS 0 0 0)).toArray 63)).heap.size = w9.heap.size + 1 := alloc_size' _ _
    simp only [outV, inV', mkS] at x10 b10 z10
    have b8 := below_on B9.out b10 B9.out.size
    refine ⟨hbel _ (of_drew b8), ?_⟩
    generalize w9.alloc _ = w10 at x10 b10 z10 b8 ⊢
    have X10 := Lib.hid x10
    have X9 := Lib.hid (X9.out.below b10)
    have B10 := Lib.hid b8
    have Z10 := Lib.hid z10
    clear x10 b10 z10 b8
    have hne : w8.heap.size ≠ w9.heap.size := by have := Z9.out; omega
    refine rg_act 20 ?_
    go_wp2_with (with_reducible refine stop_sto ?_)
    refine Stop.out ?_
    refine wpList_storePart rfl rfl (b := w9.heap.size) (q := 0) (T := 63) (outV (mkS 0 0 0)) (outV { x with urg := u }) rfl rfl X10.out so_size (by show 0 + 14 ≤ 14; omega) (outV_one _) ?_
    intro w11 x11 on11
    have x11 : Blk w11 w9.heap.size (outV { x with urg := u }).toArray 63 := x11
    have b11 : Below w8.heap.size w8 w11 := below_onto B10.out on11 B10.out.size (fun k hk e => by have := Z9.out; omega)
    have hC11 := hbel _ (of_drew b11)
    have Y11 := Lib.hid (on11.blk X9.out (fun h => hne h))
    have X11 := Lib.hid x11
    have B11 := Lib.hid b11
    have z11 := on11.size
    clear x11 b11 on11
    go_wp2_with (fail)
    refine ⟨hC11, ?_⟩
    refine rg_act 21 ?_
    go_wp2_with (with_reducible refine stop_sto ?_)
    refine Stop.out ?_
    refine wpList_storePart rfl rfl (b := w8.heap.size) (q := 0) (T := 66) (inV' (mkS 0 0 0)) (inV' { x with urg := u }) rfl rfl Y11.out si_size (by show 0 + 13 ≤ 13; omega) (inV_one _) ?_
    intro w12 x12 on12
    have x12 : Blk w12 w8.heap.size (inV' { x with urg := u }).toArray 66 := x12
    have b12 : Below w8.heap.size w8 w12 := below_onto B11.out on12 B11.out.size (fun k hk e => by have := Z9.out; omega)
    have hC12 := hbel _ (of_drew b12)
    have X11 := on12.blk X11.out (fun h => hne h.symm)
    have c12 : w12.cell? ⟨w9.heap.size, 12, none⟩ = some (.bool false) := X11.cell 12 _ rfl
    have c6 : w12.cell? ⟨w9.heap.size, 6, none⟩ = some (.bool false) := X11.cell 6 _ rfl
    have c7 : w12.cell? ⟨w8.heap.size, 7, none⟩ = some (.bool false) := x12.cell 7 _ rfl
    have c10 : w12.cell? ⟨w8.heap.size, 10, none⟩ = some (.bool false) := x12.cell 10 _ rfl
    have FIN := Lib.hid (with_fin H.out HCS.out (HB8.out.below b12) (ROW8.out.below b12) (HC8.out.below b12) (T8.out.trans (only_of_below b12 _)) (by omega))
    have h13 := (HB8.out.below b12).cell 13 _ hcs13
    have HS := Lib.hid (sends_any s sv x.id w12 hid h13)
    have HV := Lib.hid (recv_any s sv x.id w12 hid h13)
    clear x12 b12 on12 X11 Y11 X9 X10 B11 B10 B9 z11 Z10 h13
    go_wp2_with (fail)
    refine ⟨hC12, ?_⟩
    refine rg_quiet 0 [22] hC12 ?_
    simp only [pickD, List.map_cons, List.map_nil, List.getD_cons_zero, List.getD_cons_succ]; repeat (go_big_quiet_step (fail))
    refine wpQuiet_nil ?_
    refine rg_end ?_
    clear hx hne hC hC11 hC12 hbel k70 kid KSO KSI did d70 d13 HX8 HB8 ROW8 HC8 T8
    have hor : (sendsB sv x.id || recvB sv x.id) = true := by unfold sendsB recvB; cases uniB x.id <;> cases mineB sv x.id <;> rfl
    obtain ⟨r1, hr1⟩ : ∃ r, sendsB sv x.id = r := ⟨_, rfl⟩
    obtain ⟨r2, hr2⟩ : ∃ r, recvB sv x.id = r := ⟨_, rfl⟩
    rw [hr1] at HS hor
    rw [hr2] at HV hor
    clear hr1 hr2
    go_wp2_with (fail)
    refine HS.out.mono ?_
    rintro e w13 ⟨e1, rfl⟩
    obtain rfl : w12 = w13 := e1.symm
    cases r1 with
    | true =>
      go_wp2_with (fail)
      refine HV.out.mono ?_
      rintro e w13 ⟨e1, rfl⟩
      obtain rfl : w12 = w13 := e1.symm
      cases r2 with
      | true => go_wp2_with (fail); go_returns; exact FIN.out
      | false => go_wp2_with (fail); go_returns; exact FIN.out
    | false =>
      obtain rfl : r2 = true := by simpa using hor
      go_wp2_with (fail)
      refine HV.out.mono ?_
      rintro e w13 ⟨e1, rfl⟩
      obtain rfl : w12 = w13 := e1.symm
      go_wp2_with (fail); go_returns; exact FIN.out
end Go.Proofs.YtgpnfdeneagdbaaGreat
