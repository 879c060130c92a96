/- In: join. -/
import Derived.Test.YticnjdlapioppaaSo14
namespace Go.Proofs.Yticnjdlapioppaa
open Go.RowKit
set_option linter.unusedVariables false

theorem Only.block' {S : Nat → Prop} {w : World} {p : Addr} {u : Value} (h : Only S w (w.setCell p u)) (b : Nat) (hs : ¬ S b) : (w.setCell p u).heap[b]? = w.heap[b]? := by
  by_cases hb : b < w.heap.size
  · exact h.block b hb hs
  · have h2 : (w.setCell p u).heap.size = w.heap.size := by simp [World.setCell]
    rw [Array.getElem?_eq_none (by omega), Array.getElem?_eq_none (by omega)]
def JoinPost (T : List Int) (E : Nat) (L G : List Pc) (w w' : World) (e : Ending) : Prop :=
  Below w.heap.size w w' ∧ ∃ N a' c', e = .returned (.slice a' N.length c') ∧ OwnS w' w.heap.size 130 2 a' N.length c' (cellsQ N) ∧ (∀ p ∈ N, PO w' w.heap.size T E p) ∧ Apart N ∧ ∀ x : Nat, CovL L x ∨ CovL G x → CovL N x
set_option maxRecDepth 100000 in
set_option maxHeartbeats 2000000 in
theorem join_any (T : List Int) (E : Nat) (la ga : Option Addr) (n m lc gc : Nat) (L G : List Pc) (w : World) (hT : T.length ≤ 3000) (hT8 : ∀ x ∈ T, (Lit.int .u8 x).wf = true) (hL : Qs w la lc L) (hG : Qs w ga gc G) (hn : n = L.length) (hm : m = G.length)
    (hLp : ∀ p ∈ L, GP w T E p) (hGp : ∀ p ∈ G, GP w T E p) (hl : L.length ≤ 10000) (hg : G.length ≤ 10001) :
    Calls Try.prog 51 #[.slice la n lc, .slice ga m gc] w fun e w' => JoinPost T E L G w w' e := by
  have HL := Lib.hid hL
  have HG := Lib.hid hG
  have HN := Lib.hid hn
  have HM := Lib.hid hm
  have hPA : ∀ p ∈ L ++ G, GP w T E p := fun p hp => (List.mem_append.1 hp).elim (hLp p) (hGp p)
  have HPA := Lib.hid hPA
  have HT8 := Lib.hid hT8
  clear hL hG hn hm hLp hGp hPA hT8
  go_enter Try.func51, Try.ntmps51
  go_wp2_with (fail)
  have x1 := Blk.new w #[.slice la n lc, .slice ga m gc] 69
  have b1 : Below w.heap.size w (w.alloc (.cells #[.slice la n lc, .slice ga m gc] 69)) := (Below.refl _ _).alloc (Nat.le_refl _) _
  generalize w.alloc (.cells #[.slice la n lc, .slice ga m gc] 69) = w1 at x1 b1 ⊢
  have hcc := qconcat_any w.heap.size la ga n m lc gc L G w1 HN.out HM.out x1 (HL.out.below b1) (HG.out.below b1) (by omega) (by omega)
  have HCC := Lib.hid hcc
  have B1 := Lib.hid b1
  clear x1 b1 hcc
  go_wp2_with (fail)
  refine HCC.out.mono ?_
  rintro e w2 ⟨hb2, a2, c2, rfl, ho2⟩
  have hso := sortst_all w1.heap.size _ c2 a2 (L ++ G) w2 rfl ho2 (fun p hp => (HPA.out p hp).ok (by omega)) hb2.size (by simp; omega)
  obtain ⟨N, hN⟩ : ∃ N, (L ++ G).length = N := ⟨_, rfl⟩
  rw [hN] at hso ⊢
  have hNb : N ≤ 20001 := by rw [← hN]; simp; omega
  have HSO := Lib.hid hso
  have B2 : Hid (Below w.heap.size w w2) := Lib.hid (below_on B1.out hb2 B1.out.size)
  have hs2 := hb2.size
  have HS2 := Lib.hid hs2
  have HNN := Lib.hid hN
  clear HCC hso hb2 ho2 hN hs2
  go_wp2_with (fail)
  refine HSO.out.mono ?_
  rintro e w3 ⟨rfl, hb3, M, hM, hperm, hord⟩
  have hMl : M.length = N := by rw [hperm.length_eq]; exact HNN.out
  have B3 : Hid (Below w.heap.size w w3) := Lib.hid (B2.out.trans (hb3.mono B1.out.size))
  have HMQ := Lib.hid hM
  have HPE := Lib.hid hperm
  have hord' : ∀ i j, i ≤ j → j < M.length → (M.getD i default).off ≤ (M.getD j default).off := fun i j h1 h2 => hord i j (Nat.zero_le _) h1 (by omega)
  have HOR := Lib.hid hord'
  have HML := Lib.hid hMl
  have hPM : ∀ k, k < M.length → GP w3 T E (M.getD k default) := fun k hk => (HPA.out _ (hperm.mem_iff.1 (by simp [hk]))).below B3.out
  have HPM := Lib.hid hPM
  clear HSO hb3 hM hperm hord hord' hMl hPM
  go_wp2_with (fail)
  go_loopw [5, 8, 9, 10, 11, 20] (fun o _ _ _ _ i wr => ∃ (k n : Nat) (a : Option Addr) (c : Nat) (O : List Pc), i = .int .i64 k ∧ o = .slice a n c ∧ k ≤ N ∧ n ≤ k ∧ Hid (n = O.length ∧ Below w3.heap.size w3 wr ∧ JI T E w3.heap.size M k O a c wr)) (fun _ _ _ _ _ i _ => N - (intOf i).toNat)
  case atStart => exact ⟨0, 0, none, 0, [], rfl, rfl, by omega, by omega, Lib.hid ⟨rfl, Below.refl _ _, JI.start⟩⟩
  case round =>
    obtain ⟨k, n, a, c, O, rfl, rfl, hk, hnk, hok⟩ := hrel
    have bw := hok.out.2.1
    by_cases hlt : k < N
    · have hltM : k < M.length := by rw [HML.out]; exact hlt
      obtain ⟨gb, go, rfl, hgb, p, hpd, hpm, p0, p1, p2, p3⟩ := (HMQ.out.below bw).at_ hltM
      have hGP := (HPM.out k hltM).below bw
      rw [hpd] at hGP
      obtain ⟨o, ho1, ho2, ho3, ho4, ho5⟩ := hGP
      rw [ho1] at p0 p2 p3
      obtain ⟨po, pa, pn, pc⟩ := p
      simp only at ho1 ho3 ho4 ho5 p0 p1 p2 p3
      have HPD := Lib.hid hpd
      have HO1 := Lib.hid ho1
      have HO2 := Lib.hid ho2
      have HO5 := Lib.hid ho5
      clear hpd hpm ho1 ho2 ho5
      have hki : (k : Int) < (N : Int) := by omega
      have BW := Lib.hid bw
      clear bw
      go_wp2_with (fail)
      have PB : Below wr.heap.size wr (wr.alloc (.cells #[.int .u64 (o : Int), .slice pa pn pc] 130)) := (Below.refl _ _).alloc (Nat.le_refl _) _
      have PN := Blk.new wr #[.int .u64 (o : Int), .slice pa pn pc] 130
      have PS : (wr.alloc (.cells #[.int .u64 (o : Int), .slice pa pn pc] 130)).heap.size = wr.heap.size + 1 := alloc_size _ _
      generalize wr.alloc (.cells #[.int .u64 (o : Int), .slice pa pn pc] 130) = w5 at PB PN PS ⊢
      have PBH := Lib.hid PB
      have r0 := PN.cell 0 _ rfl
      have r1 := PN.cell 1 _ rfl
      clear PB PN
      rcases List.eq_nil_or_concat O with rfl | ⟨A, q, rfl⟩
      · obtain ⟨rfl, _, hji⟩ := hok.out
        have OWN := Lib.hid hji.own
        simp only [List.length_nil, Int.ofNat_zero, Int.cast_ofNat_Int] at OWN ⊢
        clear hji
        refine rg_start 22 ?_
        refine rg_same fun p hx hne hC => ?_
        refine rg_quiet 0 [0,1,2,3,4,5,6,7,8,9,10,11,12,13,14,15,16,17,18,19,20,21] hC ?_
        simp only [pickD, List.map_cons, List.map_nil, List.getD_cons_zero, List.getD_cons_succ]; repeat (go_big_quiet_step (fail))
        refine wpQuiet_nil ?_
        refine rg_end ?_
        clear hx hne hC
        go_wp2_with (fail)
        refine rg_start 10 ?_
        refine rg_below fun p hx hne hC hbel => ?_
        have k0 : ∀ z : Wd p, z.w.cell? ⟨wr.heap.size, 0, none⟩ = some (.int .u64 (o : Int)) := fun z => (hx z _ _ _ (show wr.heap.size < w5.heap.size by omega)).trans r0
        have k1 : ∀ z : Wd p, z.w.cell? ⟨wr.heap.size, 1, none⟩ = some (.slice pa pn pc) := fun z => (hx z _ _ _ (show wr.heap.size < w5.heap.size by omega)).trans r1
        refine rg_quiet 5 [0,1,2,3,4] hC ?_
        simp only [pickD, List.map_cons, List.map_nil, List.getD_cons_zero, List.getD_cons_succ]; repeat (go_big_quiet_step (fail))
        refine wpQuiet_nil ?_
        refine rg_act 5 ?_
        go_wp2_with (fail)
        refine (bclone_any pa pn pc (sub T o pn) _ (by rw [sub_length (by omega)]) ((HO5.out.below PBH.out).below (Below.refl _ _).drew.drew) (by rw [sub_length (by omega)]; omega)).mono ?_
        rintro e w6 ⟨hb6, a6, c6, rfl, ho6⟩
        have b6 : Below w5.heap.size w5 w6 := below_on (Below.refl _ _).drew.drew hb6 (Nat.le_refl _)
        have s6 := b6.size
        have B6 := Lib.hid b6
        have HO6 := Lib.hid ho6
        clear ho6 b6
        go_wp2_with (fail)
        have hC6 := hbel _ hb6
        refine ⟨hC6, ?_⟩
        clear k0 k1
        refine rg_quiet 3 [6] hC6 ?_
        simp only [pickD, List.map_cons, List.map_nil, List.getD_cons_zero, List.getD_cons_succ]; repeat (go_big_quiet_step (fail))
        refine wpQuiet_nil ?_
        refine rg_act 7 ?_
        go_wp2_with (fail)
        refine ⟨hbel _ (hb6.alloc s6 _), ?_⟩
        clear hx hne hC hbel hb6 hC6
        refine rg_cut 8 ?_
        go_wp2_with (at_builtin; refine Stop.mk ?_)
        refine Stop.out ?_
        have b7 : Below w6.heap.size w6 (w6.alloc (.cells #[.int .u64 (o : Int), .slice a6 pn c6] 130)) := (Below.refl _ _).alloc (Nat.le_refl _) _
        have x7 := (Blk.new w6 #[.int .u64 (o : Int), .slice a6 pn c6] 130)
        have s7 : (w6.alloc (.cells #[.int .u64 (o : Int), .slice a6 pn c6] 130)).heap.size = w6.heap.size + 1 := alloc_size _ _
        generalize (w6.alloc (.cells #[.int .u64 (o : Int), .slice a6 pn c6] 130)) = w7 at b7 x7 s7 ⊢
        have bw7 : Below wr.heap.size wr w7 := below_on PBH.out (below_on B6.out b7 s6) (by omega)
        refine wpList_app pc_et rfl rfl (base := w3.heap.size) rfl rfl (OWN.out.below bw7) (SrcAt.blkQ (p := ⟨o, a6, pn, c6⟩) x7) (by simp only [maxLen]; omega) (by omega) (by have := BW.out.size; omega) ?_
        intro a8 c8 w8 ho8 on8 at8
        rw [show cellsQ [] ++ cellsQ [(⟨o, a6, pn, c6⟩ : Pc)] = cellsQ ([] ++ [⟨o, a6, pn, c6⟩]) from (cellsQ_append _ _).symm] at ho8
        have h6 : ∀ x, a6 = some x → w5.heap.size ≤ x.block ∧ x.block < w6.heap.size := fun x hx => ⟨(HO6.out.block hx).1, (HO6.out.block hx).2.1⟩
        have hJ := hok.out.2.2.new (w' := w8) (a' := a8) (c' := c8) (p := ⟨po, pa, pn, pc⟩) (r := ⟨o, a6, pn, c6⟩) hltM HPD.out HOR.out (fun A q h => by simp at h) HO1.out.symm rfl
          ⟨o, rfl, HO2.out, by simp only; omega, by simp only; omega, ((HO6.out.base_le (by have := BW.out.size; show w3.heap.size ≤ w5.heap.size; omega)).below b7).only on8 (fun x hx => by rintro ⟨y, hy, he⟩; have := (OWN.out.block hy).2.1; have := (h6 x hx).1; omega)⟩
          (fun x hx => by have := (h6 x hx).1; omega)
          (fun b hb hne => (on8.block b (by omega) (by rintro ⟨y, hy, he⟩; exact hne y hy he.symm)).trans (bw7.block b hb))
          (by simpa using ho8)
          (fun y hy => (at8 y hy).imp id fun h9 => ⟨by omega, fun x hx => by have := (h6 x hx).2; omega⟩)
        have b38 : Below w3.heap.size w3 w8 := below_onto (BW.out.trans (bw7.mono BW.out.size)) on8 (by have := BW.out.size; omega) (fun z hz ⟨y, hy, he⟩ => by have := (OWN.out.block hy).1; omega)
        have HJ := Lib.hid hJ
        have B38 := Lib.hid b38
        clear ho8 on8 at8 h6 hJ b38 bw7 x7 b7
        go_wp2_with (fail)
        refine rg_same fun p hx hne hC => ?_
        refine rg_quiet 0 [9] hC ?_
        simp only [pickD, List.map_cons, List.map_nil, List.getD_cons_zero, List.getD_cons_succ]; repeat (go_big_quiet_step (fail))
        refine wpQuiet_nil ?_
        refine rg_end ?_
        clear hx hne hC
        go_wp2_with (fail)
        exact ⟨⟨k + 1, _, a8, c8, [] ++ [⟨o, a6, pn, c6⟩], by go_num, rfl, by omega, by omega, Lib.hid ⟨by simp, B38.out, HJ.out⟩⟩, by simp [intOf]; omega⟩
      · rw [List.concat_eq_append] at hok
        obtain ⟨oq, hq1, hq2, hq3, hq4, hq5⟩ := hok.out.2.2.pcs q (by simp)
        obtain ⟨qo, qa, qn, qc⟩ := q
        simp only at hq1 hq3 hq4 hq5
        subst hq1
        obtain ⟨g, rfl, hg1, hg2, cq0, cq1, fq1⟩ := hok.out.2.2.own.lastQ
        obtain ⟨gq, rfl, hgq1, hgq2, _⟩ := hq5.at_ (i := 0) (by simp [bytesV, sub_length hq3, hq4])
        have hggq : gq ≠ g := hok.out.2.2.off _ (List.mem_append_right _ (List.mem_singleton.2 rfl)) ⟨gq, 0, none⟩ ⟨g, 0, none⟩ rfl rfl
        obtain rfl : n = A.length + 1 := by rw [hok.out.1]; simp
        have OWN : Hid (OwnS wr w3.heap.size 130 2 (some ⟨g, 0, none⟩) (A.length + 1) c (cellsQ (A ++ [⟨(oq : Int), some ⟨gq, 0, none⟩, qn, qc⟩]))) := Lib.hid (by simpa using hok.out.2.2.own)
        have OWQ := Lib.hid hq5
        have HQ2 := Lib.hid hq2
        have cq0 := (PBH.out.cell (p := ⟨g, A.length * 2, none⟩) hg2).trans cq0
        have cq1 := (PBH.out.cell (p := ⟨g, A.length * 2 + 1, none⟩) hg2).trans cq1
        simp only at cq0 cq1
        have hn0 : ((A.length : Int) + 1 == 0) = false := by simp; omega
        clear hq5 hq2 fq1
        by_cases hnew : oq + qn < o
        · have hnewi : ((o : Int) > (oq : Int) + (qn : Int)) := by omega
          refine rg_start 22 ?_
          refine rg_same fun p hx hne hC => ?_
          refine rg_quiet 0 [0,1,2,3,4,5,6,7,8,9,10,11,12,13,14,15,16,17,18,19,20,21] hC ?_
          simp only [pickD, List.map_cons, List.map_nil, List.getD_cons_zero, List.getD_cons_succ]; repeat (go_big_quiet_step (fail))
          refine wpQuiet_nil ?_
          refine rg_end ?_
          clear hx hne hC
          go_wp2_with (fail)
          refine rg_start 10 ?_
          refine rg_below fun p hx hne hC hbel => ?_
          have k0 : ∀ z : Wd p, z.w.cell? ⟨wr.heap.size, 0, none⟩ = some (.int .u64 (o : Int)) := fun z => (hx z _ _ _ (show wr.heap.size < w5.heap.size by omega)).trans r0
          have k1 : ∀ z : Wd p, z.w.cell? ⟨wr.heap.size, 1, none⟩ = some (.slice pa pn pc) := fun z => (hx z _ _ _ (show wr.heap.size < w5.heap.size by omega)).trans r1
          refine rg_quiet 5 [0,1,2,3,4] hC ?_
          simp only [pickD, List.map_cons, List.map_nil, List.getD_cons_zero, List.getD_cons_succ]; repeat (go_big_quiet_step (fail))
          refine wpQuiet_nil ?_
          refine rg_act 5 ?_
          go_wp2_with (fail)
          refine (bclone_any pa pn pc (sub T o pn) _ (by rw [sub_length (by omega)]) ((HO5.out.below PBH.out).below (Below.refl _ _).drew.drew) (by rw [sub_length (by omega)]; omega)).mono ?_
          rintro e w6 ⟨hb6, a6, c6, rfl, ho6⟩
          have b6 : Below w5.heap.size w5 w6 := below_on (Below.refl _ _).drew.drew hb6 (Nat.le_refl _)
          have s6 := b6.size
          have B6 := Lib.hid b6
          have HO6 := Lib.hid ho6
          clear ho6 b6
          go_wp2_with (fail)
          have hC6 := hbel _ hb6
          refine ⟨hC6, ?_⟩
          clear k0 k1
          refine rg_quiet 3 [6] hC6 ?_
          simp only [pickD, List.map_cons, List.map_nil, List.getD_cons_zero, List.getD_cons_succ]; repeat (go_big_quiet_step (fail))
          refine wpQuiet_nil ?_
          refine rg_act 7 ?_
          go_wp2_with (fail)
          refine ⟨hbel _ (hb6.alloc s6 _), ?_⟩
          clear hx hne hC hbel hb6 hC6
          refine rg_cut 8 ?_
          go_wp2_with (at_builtin; refine Stop.mk ?_)
          refine Stop.out ?_
          have b7 : Below w6.heap.size w6 (w6.alloc (.cells #[.int .u64 (o : Int), .slice a6 pn c6] 130)) := (Below.refl _ _).alloc (Nat.le_refl _) _
          have x7 := (Blk.new w6 #[.int .u64 (o : Int), .slice a6 pn c6] 130)
          have s7 : (w6.alloc (.cells #[.int .u64 (o : Int), .slice a6 pn c6] 130)).heap.size = w6.heap.size + 1 := alloc_size _ _
          generalize (w6.alloc (.cells #[.int .u64 (o : Int), .slice a6 pn c6] 130)) = w7 at b7 x7 s7 ⊢
          have bw7 : Below wr.heap.size wr w7 := below_on PBH.out (below_on B6.out b7 s6) (by omega)
          refine wpList_app pc_et rfl rfl (base := w3.heap.size) rfl rfl (OWN.out.below bw7) (SrcAt.blkQ (p := ⟨o, a6, pn, c6⟩) x7) (by simp only [maxLen]; omega) (by omega) (by have := BW.out.size; omega) ?_
          intro a8 c8 w8 ho8 on8 at8
          rw [show cellsQ (A ++ [⟨(oq : Int), some ⟨gq, 0, none⟩, qn, qc⟩]) ++ cellsQ [(⟨o, a6, pn, c6⟩ : Pc)] = cellsQ ((A ++ [⟨(oq : Int), some ⟨gq, 0, none⟩, qn, qc⟩]) ++ [⟨o, a6, pn, c6⟩]) from (cellsQ_append _ _).symm] at ho8
          have h6 : ∀ x, a6 = some x → w5.heap.size ≤ x.block ∧ x.block < w6.heap.size := fun x hx => ⟨(HO6.out.block hx).1, (HO6.out.block hx).2.1⟩
          have hJ := hok.out.2.2.new (w' := w8) (a' := a8) (c' := c8) (p := ⟨po, pa, pn, pc⟩) (r := ⟨o, a6, pn, c6⟩) hltM HPD.out HOR.out (fun A2 q2 h => by have h1 := congrArg List.getLast? h; simp at h1; have := HO1.out; rw [← h1]; simp only; omega) HO1.out.symm rfl
            ⟨o, rfl, HO2.out, by simp only; omega, by simp only; omega, ((HO6.out.base_le (by have := BW.out.size; show w3.heap.size ≤ w5.heap.size; omega)).below b7).only on8 (fun x hx => by rintro ⟨y, hy, he⟩; have := (OWN.out.block hy).2.1; have := (h6 x hx).1; omega)⟩
            (fun x hx => by have := (h6 x hx).1; omega)
            (fun b hb hne => (on8.block b (by omega) (by rintro ⟨y, hy, he⟩; exact hne y hy he.symm)).trans (bw7.block b hb))
            (by simpa using ho8)
            (fun y hy => (at8 y hy).imp id fun h9 => ⟨by omega, fun x hx => by have := (h6 x hx).2; omega⟩)
          have b38 : Below w3.heap.size w3 w8 := below_onto (BW.out.trans (bw7.mono BW.out.size)) on8 (by have := BW.out.size; omega) (fun z hz ⟨y, hy, he⟩ => by have := (OWN.out.block hy).1; omega)
          have HJ := Lib.hid hJ
          have B38 := Lib.hid b38
          clear ho8 on8 at8 h6 hJ b38 bw7 x7 b7
          go_wp2_with (fail)
          refine rg_same fun p hx hne hC => ?_
          refine rg_quiet 0 [9] hC ?_
          simp only [pickD, List.map_cons, List.map_nil, List.getD_cons_zero, List.getD_cons_succ]; repeat (go_big_quiet_step (fail))
          refine wpQuiet_nil ?_
          refine rg_end ?_
          clear hx hne hC
          go_wp2_with (fail)
          exact ⟨⟨k + 1, _, a8, c8, (A ++ [⟨(oq : Int), some ⟨gq, 0, none⟩, qn, qc⟩]) ++ [⟨o, a6, pn, c6⟩], by go_num, rfl, by omega, by omega, Lib.hid ⟨by simp, B38.out, HJ.out⟩⟩, by simp [intOf]; omega⟩
        · have hnewi : ¬ ((o : Int) > (oq : Int) + (qn : Int)) := by omega
          obtain ⟨hv, hhv⟩ : ∃ hv : Nat, oq + qn - o = hv := ⟨_, rfl⟩
          have hhvi : (oq : Int) + (qn : Int) - (o : Int) = (hv : Int) := by omega
          have HHV := Lib.hid hhv
          have hvb : hv ≤ 3000 := by omega
          refine rg_start 22 ?_
          refine rg_same fun p hx hne hC => ?_
          refine rg_quiet 0 [0,1,2,3,4,5,6,7,8,9,10,11,12,13,14,15,16,17,18,19,20,21] hC ?_
          simp only [pickD, List.map_cons, List.map_nil, List.getD_cons_zero, List.getD_cons_succ]; repeat (go_big_quiet_step (fail))
          refine wpQuiet_nil ?_
          refine rg_end ?_
          clear hx hne hC
          go_wp2_with (fail)
          refine rg_start 15 ?_
          refine rg_same fun p hx hne hC => ?_
          refine rg_quiet 0 [0,1,2,3,4,5,6,7,8,9,10,11,12,13,14] hC ?_
          simp only [pickD, List.map_cons, List.map_nil, List.getD_cons_zero, List.getD_cons_succ]; repeat (go_big_quiet_step (fail))
          refine wpQuiet_nil ?_
          refine rg_end ?_
          clear hx hne hC
          by_cases hext : hv < pn
          · have hexti : (hv : Int) < (pn : Int) := by omega
            have hdl : (sub T o pn).drop hv = sub T (o + hv) (pn - hv) := sub_drop T o pn hv
            have hsrc := (HO5.out.below PBH.out).back hv (by rw [sub_length (by omega)]; omega)
            have hdn : ((sub T o pn).drop hv).length = pn - hv := by rw [List.length_drop, sub_length (by omega)]
            have hcap := HO5.out.le
            rw [sub_length (by omega)] at hcap
            have hcm := HO5.out.max
            unfold maxLen at hcm
            have hcut := fun W => run_cut_l (P := Try.prog) u8_et (av := pa) (n := pn) (cap := pc) (kl := .u64) hv (by omega) hcap W
            obtain ⟨sa, hsa⟩ : ∃ x, (if pc = hv then pa else pa.map (·.add (hv * 1))) = x := ⟨_, rfl⟩
            obtain ⟨sn, hsn⟩ : ∃ x, pn - hv = x := ⟨_, rfl⟩
            obtain ⟨sc, hsc⟩ : ∃ x, pc - hv = x := ⟨_, rfl⟩
            rw [hsa, hsn, hsc] at hcut
            rw [hsa, hsc] at hsrc
            rw [hsn] at hdl hdn
            have hsnb : sn ≤ 3000 := by omega
            have HSRC := Lib.hid hsrc
            have HDL := Lib.hid hdl
            have HDN := Lib.hid hdn
            have HSN := Lib.hid hsn
            have hgw : g < w5.heap.size := by omega
            have hpw : wr.heap.size < w5.heap.size := by omega
            have hpq : ¬ wr.heap.size = gq := by omega
            have hgq' : ¬ g = gq := fun h => hggq h.symm
            have hqcap := OWQ.out.caps
            clear hsrc hdl hdn hsa hsn hsc
            go_wp2_with (fail)
            refine rg_start 13 ?_
            refine rg_besides (· = gq) fun p hx hne hC hbel => ?_
            have k0 : ∀ z : Wd p, z.w.cell? ⟨g, A.length * 2 + 1, none⟩ = some (.slice (some ⟨gq, 0, none⟩) qn qc) := fun z => (hx z _ _ _ hgw hgq').trans cq1
            have k1 : ∀ z : Wd p, z.w.cell? ⟨wr.heap.size, 1, none⟩ = some (.slice pa pn pc) := fun z => (hx z _ _ _ hpw hpq).trans r1
            refine rg_quiet 4 [0,1,2,3,4,5,6,7,8] hC ?_
            simp only [pickD, List.map_cons, List.map_nil, List.getD_cons_zero, List.getD_cons_succ]; repeat (go_big_quiet_step (fail))
            refine wpQuiet_nil ?_
            refine rg_act 9 ?_
            go_wp2_with (at_builtin; refine Stop.mk ?_)
            refine Stop.out ?_
            refine wpList_app u8_et rfl rfl (base := w3.heap.size) rfl rfl ((OWQ.out.below PBH.out).below (Below.refl _ _).drew.drew.drew) (HDN.out ▸ (HSRC.out.below (Below.refl _ _).drew.drew.drew).src) (by simp only [maxLen]; omega) (by omega) (by have := BW.out.size; show w3.heap.size ≤ w5.heap.size; omega) ?_
            intro a8 c8 w8 ho8 on8 at8
            have on8' : Only (· = gq) w5 w8 := ((Only.refl _ _).drew.drew.drew).trans (on8.mono (fun k _ hk => by obtain ⟨y, hy, he⟩ := hk; cases hy; exact he.symm))
            have hC8 := hbel w8 on8'.block
            rw [HDL.out, show (sub T (o + hv) sn).map (Value.int .u8) = bytesV (sub T (o + hv) sn) from rfl, ← bytesV_append, show o + hv = oq + qn by have := HHV.out; omega, sub_append] at ho8
            have a8g : ∀ x, a8 = some x → x.block = gq ∨ x.block = w5.heap.size := fun x hx => (at8 x hx).imp (fun ⟨z, hz, he⟩ => by cases hz; exact he) id
            have onw : Only (· = gq) wr w8 := below_only PBH.out on8'
            have OW8 := Lib.hid (OWN.out.only onw (fun x hx he => by cases hx; exact hggq he.symm))
            have BB8 := Lib.hid ho8
            have A8G := Lib.hid a8g
            have ON8 := Lib.hid onw
            have s8 := onw.size
            obtain ⟨g2, hg2e, _, hg2l, _, d1, df⟩ := OW8.out.lastQ
            obtain rfl : g = g2 := by cases hg2e; rfl
            clear ho8 on8 at8 a8g onw on8' hg2e
            go_wp2_with (fail)
            refine ⟨hC8, ?_⟩
            clear k0 k1
            refine rg_quiet 1 [10,11] hC8 ?_
            simp only [pickD, List.map_cons, List.map_nil, List.getD_cons_zero, List.getD_cons_succ]; repeat (go_big_quiet_step (fail))
            refine wpQuiet_nil ?_
            clear hx hne hC hbel hC8
            refine rg_cut 12 ?_
            go_wp2_with (fail)
            refine rg_end0 ?_
            have h9 : ∀ b, b ≠ g → (w8.setCell ⟨g, A.length * 2 + 1, none⟩ (.slice a8 (qn + sn) c8)).heap[b]? = w8.heap[b]? := fun b hb => ((Only.refl (· = g) w8).set (A.length * 2 + 1) (.slice a8 (qn + sn) c8)).block' b hb
            have hJ := hok.out.2.2.ext (w' := w8.setCell ⟨g, A.length * 2 + 1, none⟩ (.slice a8 (qn + sn) c8)) (p := ⟨po, pa, pn, pc⟩) (r := ⟨oq, a8, qn + sn, c8⟩) hltM HPD.out (by have := HO1.out; simp only; omega) rfl (by have := HO1.out; have := HHV.out; have := HSN.out; simp only; omega) (by simp only; omega)
              ⟨oq, rfl, HQ2.out, by have := HHV.out; have := HSN.out; simp only; omega, by simp only; omega, BB8.out.keep (fun x hx => h9 _ (by rcases A8G.out x hx with h8 | h8 <;> omega))⟩
              (fun x hx => (A8G.out x hx).imp (fun h8 => ⟨_, rfl, h8⟩) (fun h8 => by omega))
              (fun b hb h1 h2 => (h9 b (h1 _ rfl)).trans (ON8.out.block b hb (h2 _ rfl)))
              (by have := OW8.out.setS g rfl (A.length * 2 + 1) (.slice a8 (qn + sn) c8); rw [cellsQ_set] at this; simpa using this)
            have HJ := Lib.hid hJ
            have B39 : Hid (Below w3.heap.size w3 (w8.setCell ⟨g, A.length * 2 + 1, none⟩ (.slice a8 (qn + sn) c8))) := Lib.hid (below_onto (below_onto BW.out ON8.out BW.out.size (fun z hz he => by omega)) ((Only.refl (· = g) w8).set _ _) (by have := BW.out.size; omega) (fun z hz he => by omega))
            clear hJ h9
            go_wp2_with (fail)
            exact ⟨⟨k + 1, _, _, c, A ++ [⟨(oq : Int), a8, qn + sn, c8⟩], by go_num, rfl, by omega, by omega, Lib.hid ⟨by simp, B39.out, HJ.out⟩⟩, by simp [intOf]; omega⟩
          · have hexti : ¬ (hv : Int) < (pn : Int) := by omega
            have hJ := (hok.out.2.2.skip hltM (by rw [HPD.out]; have := HO1.out; have := HHV.out; simp only; omega)).below (w' := w5.drew.drew) PBH.out.drew.drew
            have HJ := Lib.hid hJ
            have B35 : Hid (Below w3.heap.size w3 w5) := Lib.hid (BW.out.trans (PBH.out.mono BW.out.size))
            clear hJ
            go_wp2_with (fail)
            exact ⟨⟨k + 1, _, _, c, A ++ [⟨(oq : Int), some ⟨gq, 0, none⟩, qn, qc⟩], by go_num, rfl, by omega, by omega, Lib.hid ⟨by simp, B35.out.drew.drew, HJ.out⟩⟩, by simp [intOf]; omega⟩
    · have hki : ¬ (k : Int) < (N : Int) := by omega
      obtain ⟨hn, bw, hJ⟩ := hok.out
      have s3 := B3.out.size
      have hres : JoinPost T E L G w wr (.returned (.slice a n c)) := by
        refine ⟨below_on B3.out bw s3, O, a, c, by rw [hn], hJ.own.base_le s3, fun p hp => ?_, hJ.apart, fun x hx => ?_⟩
        · obtain ⟨o, h1, h2, h3, h4, h5⟩ := hJ.pcs p hp
          exact ⟨o, h1, h2, h3, h4, h5.base_le s3⟩
        · have : CovL (L ++ G) x := hx.elim (fun h => h.mono fun p hp => List.mem_append_left _ hp) (fun h => h.mono fun p hp => List.mem_append_right _ hp)
          obtain ⟨p, hp, x1, x2⟩ := this
          obtain ⟨i, hi, hpi⟩ := List.getElem_of_mem (HPE.out.mem_iff.2 hp)
          have hpi' : M.getD i default = p := by rw [← hpi]; simp [hi]
          exact hJ.cov i (by have := HML.out; omega) x (by rw [hpi']; exact x1) (by rw [hpi']; exact x2)
      have HR := Lib.hid hres
      clear hok hn bw hJ hres
      go_wp2_with (fail)
      go_returns
      exact HR.out
end Go.Proofs.Yticnjdlapioppaa
