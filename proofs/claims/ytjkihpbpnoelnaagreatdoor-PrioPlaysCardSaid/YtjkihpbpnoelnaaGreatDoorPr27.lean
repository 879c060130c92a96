/- PrioPlays: the walk. -/
import Derived.Test.YtjkihpbpnoelnaaGreatDoorPr26
import Derived.Deep.CutRange
import Derived.Deep.CutBlock
namespace Go.Proofs.YtjkihpbpnoelnaaGreatDoor
open Go.RowKit Go.Maps
set_option linter.unusedVariables false
theorem OwnS.srcH {w : World} {base n cap g k : Nat} {e : TypeId} {M : List Strm} (h : OwnS w base e 5 (some ⟨g, 0, none⟩) n cap (M.flatMap refV)) (hn : n = M.length) (hk : k ≤ n) : SrcAt w (some ⟨g, 0, none⟩) k cap 5 ((M.take k).flatMap refV) := by
  refine ⟨by rw [flat_len refV_len, List.length_take]; congr 1; omega, fun ha => (by cases ha), fun x hx j u hj => ?_, refV_one _⟩
  cases hx
  rw [← flat_take refV_len] at hj
  have hlt : j < (M.flatMap refV).length := by
    have := (List.getElem?_eq_some_iff.1 hj).1
    rw [List.length_take] at this; omega
  obtain ⟨g', hg, _, _, hc, _⟩ := h.at_ hlt
  cases hg
  rw [addr_add, Nat.zero_add, hc]
  rw [List.getElem?_take] at hj
  split at hj
  · exact hj
  · cases hj
theorem OwnS.srcL {w : World} {base n cap g l : Nat} {e : TypeId} {M : List Strm} (h : OwnS w base e 5 (some ⟨g, 0, none⟩) n cap (M.flatMap refV)) (hn : n = M.length) (hl : l ≤ n) : SrcAt w (if cap = l then some ⟨g, 0, none⟩ else (some (⟨g, 0, none⟩ : Addr)).map (·.add (l * 5))) (n - l) (cap - l) 5 ((M.drop l).flatMap refV) := by
  have hcap := h.caps
  refine ⟨by rw [flat_len refV_len, List.length_drop, hn], fun ha => (by split at ha <;> cases ha), fun x hx j u hj => ?_, refV_one _⟩
  rw [← flat_drop refV_len, List.getElem?_drop] at hj
  have hlt : l * 5 + j < (M.flatMap refV).length := (List.getElem?_eq_some_iff.1 hj).1
  obtain ⟨g', hg, _, _, hc, _⟩ := h.at_ hlt
  cases hg
  split at hx
  · rename_i hcl
    rw [flat_len refV_len] at hlt; omega
  · cases hx
    show w.cell? (((⟨g, 0, none⟩ : Addr).add (l * 5)).add j) = some u
    rw [addr_add, addr_add, Nat.zero_add, hc]; exact hj
theorem pm_drop {L M : List Strm} (h : L.Perm M) (ids : List Nat) : (dropL ids L).Perm (dropL ids M) := dropL_perm h ids
theorem pm_new2 {L M : List Strm} (h : L.Perm M) {nn : Nat} (hn : nn = M.length) (x y : Strm) : (insL y L).Perm ((M ++ [x]).set nn y) := by
  subst hn
  rw [List.set_append_right _ _ (Nat.le_refl _), Nat.sub_self]
  exact pm_new h y
theorem two_set {M : List Strm} {j u : Nat} {b : Bool} {x : Strm} : (M.set j { x with urg := u }).set j { x with urg := u, inc := b } = M.set j (setX u b x) := by rw [List.set_set]; rfl
set_option maxRecDepth 100000 in
set_option maxHeartbeats 16000000 in
theorem plays_any (a0 : Option Addr) (n c0 : Nat) (D : List DoS) (w : World) (hn : n = D.length) (hm : D.length ≤ 140737488355328) (hD : DoAt w a0 D) :
    Calls Tryz.prog 4 #[.slice a0 n c0] w fun e w' => e = .returned (.bool true) ∧ Below w.heap.size w w' := by
  have HN := Lib.hid hn
  have HD := Lib.hid hD
  have HHV := Lib.hid (heavy_any a0 n c0 D w hn hm hD)
  clear hn hD
  go_enter Tryz.func4, Tryz.ntmps4
  go_wp2_with (fail)
  refine HHV.out.mono ?_
  rintro e w1 ⟨hb1, v, rfl, hv⟩
  have B1 := Lib.hid hb1
  have HV := Lib.hid hv
  clear hb1 hv
  cases v with
  | true =>
    go_wp2_with (fail)
    refine (works_any w1).mono ?_
    rintro e w2 ⟨rfl, hb2⟩
    have b2 := Lib.hid (below_on B1.out hb2 B1.out.size)
    clear hb2
    go_wp2_with (fail)
    go_returns
    exact ⟨rfl, b2.out⟩
  | false =>
    obtain ⟨hn600, hids⟩ := HV.out rfl
    have hn6 : n ≤ 600 := by have := HN.out; omega
    have HIDS := Lib.hid hids
    clear hids hn600 hm
    go_wp2_with (fail)
    refine (new_st w w1 B1.out).mono ?_
    rintro e w2 ⟨q, rfl, hS2, hq2, _⟩
    have H2 := Lib.hid hS2
    clear hS2
    have HF2 : Hid (RSt w q (fun _ => False) none 0 0 0 [] [] w2 ∧ ([] : List Strm).Perm []) := Lib.hid ⟨⟨H2.out.foreign (Only.refl _ _) (fun k h => h.elim) (fun k hk => by rcases hk with ⟨y, hy, _⟩ | hk; cases hy; exact hk.elim), OwnS.nil _ _ _ _, rfl, fun _ _ h => h, fun _ h => h.elim⟩, List.Perm.nil⟩
    clear H2
    go_wp2_with (fail)
    go_loopw [4, 5, 7, 8, 9, 10, 11, 12, 14, 15, 16, 17, 18, 25] (fun r s _ _ _ _ _ _ _ _ _ _ _ i wr => ∃ (k ck : Nat) (a : Option Addr) (nn cap : Nat) (L M : List Strm), r = .slice a nn cap ∧ s = .int .i64 ck ∧ i = .int .i64 k ∧ k ≤ n ∧ ck ≤ k ∧ Hid (RSt w q (fun _ => False) a nn cap ck L M wr ∧ L.Perm M)) (fun _ _ _ _ _ _ _ _ _ _ _ _ _ i _ => n - (intOf i).toNat)
    case atStart => exact ⟨0, 0, none, 0, 0, [], [], rfl, rfl, rfl, by omega, by omega, HF2⟩
    case round =>
      clear HF2
      obtain ⟨k, ck, a, nn, cap, L, M, rfl, rfl, rfl, hk, hck, hF⟩ := hrel
      by_cases hlt : k < n
      · obtain ⟨b, off, d, hd, ha, hb, dok, c0, c1, c2, c3, c4, c5⟩ := (HD.out.below hF.out.1.p.below).get k (by have := HN.out; omega)
        subst ha
        have hidsd := HIDS.out d (List.mem_of_getElem? hd)
        have hslw : Sl .u64 w d.aI d.cI (natI d.ids) := by
          obtain ⟨b', off', d', hd', _, _, dok0, _⟩ := HD.out.get k (by have := HN.out; omega)
          rw [hd] at hd'
          obtain rfl := Option.some.inj hd'
          exact dok0.sl
        obtain ⟨kind, id, u, inc, is, aI, cI, ids⟩ := d
        have DOK := Lib.hid dok
        have hid64 := dok.id
        have hu256 := dok.u
        simp only at *
        obtain ⟨nl, hnl⟩ : ∃ z, ids.length = z := ⟨_, rfl⟩
        rw [hnl] at c5 hidsd
        have HNL := Lib.hid hnl
        obtain ⟨xb, hxb⟩ : ∃ xb, wr.heap.size = xb := ⟨_, rfl⟩
        have hR4 : RSt w q (· = xb) a nn cap ck L M (wr.alloc (.cells #[.int .u8 kind, .int .u64 id, .int .u8 u, .bool inc, .bool is, .slice aI nl cI] 45)) := hF.out.1.box hxb
        have hX4 := Blk.new wr #[.int .u8 kind, .int .u64 id, .int .u8 u, .bool inc, .bool is, .slice aI nl cI] 45
        have hn256 : nn ≤ 256 := hF.out.1.n256 hF.out.2
        have HSL : Hid (∀ W, Below w.heap.size w W → Sl .u64 W aI cI (natI ids)) := Lib.hid (fun W hW => hslw.below hW)
        have HPM := Lib.hid hF.out.2
        have HNOD := Lib.hid (hF.out.1.nod hF.out.2)
        have hxw : w.heap.size ≤ xb := by rw [← hxb]; exact hF.out.1.p.below.size
        rw [hxb] at hX4
        obtain ⟨W4, hW4⟩ : ∃ W4, wr.alloc (.cells #[.int .u8 kind, .int .u64 id, .int .u8 u, .bool inc, .bool is, .slice aI nl cI] 45) = W4 := ⟨_, rfl⟩
        rw [hW4] at hR4 hX4
        have HR4 := Lib.hid hR4
        have HX4 := Lib.hid hX4
        have x1 := hX4.cell 1 _ rfl
        clear hR4 hX4 hd dok hnl hF hslw
        go_wp2_with (fail)
        try rw [hxb]
        try rw [hW4]
        refine (place_any (q + 1) a nn cap M id W4 HR4.out.len HR4.out.own hn256).mono ?_
        rintro e w5 ⟨hb5, v5, rfl, hv5⟩
        have HR := Lib.hid (HR4.out.same hb5)
        have hX5 := HX4.out.below hb5
        have HX5 := Lib.hid hX5
        have HV5 := Lib.hid hv5
        have x0 := hX5.cell 0 _ rfl
        clear hb5 hX5 hv5 x1 HX4 HR4 hW4 hxb c0 c1 c2 c3 c4 c5
        go_upto_block 2 with (fail)
        go_cut [4, 5, 9] from 29 to 196 (fun r s g wc => ∃ (a' : Option Addr) (n' cap' ck' : Nat) (L' M' : List Strm), r = .slice a' n' cap' ∧ s = .int .i64 ck' ∧ g = .bool true ∧ ck' ≤ k + 1 ∧ Hid (RSt w q (· = xb) a' n' cap' ck' L' M' wc ∧ L'.Perm M'))
        case rest =>
          clear HR HX5 HV5 x0 HSL HPM HNOD HNL
          obtain ⟨a', n', cap', ck', L', M', rfl, rfl, rfl, hck', HT⟩ := hcut
          have hLn : L'.length = n' := by rw [HT.out.2.length_eq, HT.out.1.len]
          have HLN := Lib.hid hLn
          clear hLn
          have hne : ((n' : Int) != (n' : Int)) = false := by simp
          go_wp2_with (fail)
          refine (len_st HT.out.1.p).mono ?_
          rintro e w9 ⟨rfl, rfl⟩
          rw [HLN.out]
          go_wp2_with (fail)
          exact ⟨⟨k + 1, ck', a', n', cap', L', M', rfl, rfl, by go_num, by omega, by omega, Lib.hid ⟨HT.out.1.unbox, HT.out.2⟩⟩, by simp [intOf]; omega⟩
        case first =>
          by_cases k0 : kind = 0
          · as_aux_lemma =>
              have e0 : ((kind : Int) == 0) = true := by simp [k0]
              clear k0
              have x1 := HX5.out.cell 1 _ rfl
              have x2 := HX5.out.cell 2 _ rfl
              have x3 := HX5.out.cell 3 _ rfl
              go_wp2_with (fail)
              refine (set_st HR.out.p id u inc hu256 hid64).mono ?_
              rintro e w10 ⟨rfl, hS10, hk10⟩
              have h10 := HR.out.plan hS10 hk10
              have hX10 := hk10.blk HX5.out (fun h => h (.inr rfl))
              have HX10 := Lib.hid hX10
              have x1 := hX10.cell 1 _ rfl
              have x2 := hX10.cell 2 _ rfl
              have x3 := hX10.cell 3 _ rfl
              clear hS10 hk10 hX10 x0
              by_cases h7 : 7 < u
              · have e7 := setR_big (id := id) (L := L) (b := inc) h7
                rw [e7.2] at h10
                rw [e7.1]
                have g7 : decide ((7 : Int) < (u : Int)) = true := decide_eq_true (by omega)
                have g7n : decide (7 < u) = true := decide_eq_true (by omega)
                have HT1 := Lib.hid (And.intro h10 HPM.out)
                clear h10 e7 h7
                go_wp2_with (fail)
                go_meet
                case rel => exact ⟨_, _, _, _, _, _, rfl, rfl, by rfl, by omega, HT1⟩
              · have g7 : decide ((7 : Int) < (u : Int)) = false := decide_eq_false (by omega)
                have g7n : decide (7 < u) = false := decide_eq_false (by omega)
                rcases HV5.out with ⟨hno, rfl⟩ | ⟨j, hj, hjid, rfl⟩
                · have hnoL : hasL id L = false := (hasL_perm HPM.out id).trans hno
                  have hln : L.length = nn := by rw [HPM.out.length_eq, HR.out.len]
                  by_cases h256 : 256 ≤ nn
                  · have e7 := setR_full (id := id) (L := L) (b := inc) h7 hnoL (by rw [hln]; exact h256)
                    rw [e7.2] at h10
                    rw [e7.1]
                    have g8 : decide ((256 : Int) ≤ (nn : Int)) = true := decide_eq_true (by omega)
                    have g8n : decide (256 ≤ nn) = true := decide_eq_true (by omega)
                    have HT1 := Lib.hid (And.intro h10 HPM.out)
                    clear h10 e7 h7 hno hnoL hln h256
                    go_wp2_with (fail)
                    go_meet
                    case rel => exact ⟨_, _, _, _, _, _, rfl, rfl, by rfl, by omega, HT1⟩
                  · have e7 := setR_new (id := id) (L := L) (b := inc) h7 hnoL (by rw [hln]; exact h256)
                    rw [e7.2] at h10
                    rw [e7.1]
                    have g8 : decide ((256 : Int) ≤ (nn : Int)) = false := decide_eq_false (by omega)
                    have g8n : decide (256 ≤ nn) = false := decide_eq_false (by omega)
                    have H10 := Lib.hid h10
                    clear h10 e7 h7 hno hnoL hln h256
                    go_wp2_with (with_reducible refine stop_bs ?_)
                    refine Stop.out ?_
                    refine wpList_br1 rfl rfl rfl rfl ?_
                    go_wp2_with (at_builtin; refine Stop.mk ?_)
                    refine Stop.out ?_
                    have hB11 : Below w10.heap.size w10 (w10.alloc (.cells #[.int .u64 id, .int .u8 0, .bool false, .bool false, .int .i64 0] 48)) := (Below.refl _ _).alloc (Nat.le_refl _) _
                    have h11 := H10.out.same hB11
                    have hX11 := HX10.out.below hB11
                    have hs11 := SrcAt.cells w10 #[.int .u64 id, .int .u8 0, .bool false, .bool false, .int .i64 0] 48 1 5 rfl (fun v hv => by simp at hv; rcases hv with rfl | rfl | rfl | rfl | rfl <;> rfl)
                    refine wpList_app ref_et rfl rfl rfl rfl h11.own hs11 (by unfold maxLen; omega) (by omega) h11.p.bs.2 ?_
                    intro a2 c2 w12 ho2 on2 hat
                    have h12 : RSt w q (· = xb) a2 (nn + 1) c2 ck (insL ⟨id, u, inc, false, 0⟩ L) (M ++ [⟨id, 0, false, false, 0⟩]) w12 := h11.row on2 (by rw [List.flatMap_append]; exact ho2) (by rw [List.length_append, ← h11.len]; rfl) (fun y hy => by
                      rcases hat y hy with h1 | h1
                      · exact .inl h1
                      · exact .inr (by omega))
                    have hX12 := on2.blk hX11 (fun h => h11.off _ h rfl)
                    have HX12 := Lib.hid hX12
                    have hxn : (M ++ [(⟨id, 0, false, false, 0⟩ : Strm)])[nn]? = some ⟨id, 0, false, false, 0⟩ := by rw [List.getElem?_append_right (by rw [← H10.out.len]; exact Nat.le_refl _), ← H10.out.len]; simp
                    have HU := Lib.hid h12
                    have HXX := Lib.hid hxn
                    obtain ⟨g, hga, _⟩ := h12.own.getR hxn
                    have HA := Lib.hid hga
                    rw [hga]
                    clear hga hB11 h11 hX11 hs11 ho2 on2 hat h12 hX12 hxn x1 x2 x3 H10 HX10
                    obtain ⟨x, hxe⟩ : ∃ x : Strm, x = ⟨id, 0, false, false, 0⟩ := ⟨_, rfl⟩
                    rw [← hxe] at HXX HU
                    have HXE := Lib.hid hxe
                    clear hxe
                    obtain ⟨xid, xu, xc, xr, xs⟩ := x
                    have hG := HU.out.own.getR HXX.out
                    obtain ⟨g', hg', hgb, hgl, ⟨_, d1, d2, _, _⟩, hfr⟩ := hG
                    have hgg : g' = g := by have := HA.out.symm.trans hg'; cases this; rfl
                    subst hgg
                    have hf1 := hfr 1 (by omega)
                    have hf2 := hfr 2 (by omega)
                    have x2 := HX12.out.cell 2 _ rfl
                    have x3 := HX12.out.cell 3 _ rfl
                    have lxb := HX12.out.lt
                    have hxg : ¬ xb = g' := fun e => HU.out.off g' ⟨_, HA.out, rfl⟩ e.symm
                    clear hfr hg'
                    go_wp2_with (fail)
                    refine rg_start 16 ?_
                    refine rg_besides (fun k => k = g') fun p hx hne hC hbes => ?_
                    have kx2 : ∀ z : Wd p, z.w.cell? ⟨xb, 2, none⟩ = some (.int .u8 u) := fun z => (hx z _ _ _ lxb hxg).trans x2
                    have kx3 : ∀ z : Wd p, z.w.cell? ⟨xb, 3, none⟩ = some (.bool inc) := fun z => (hx z _ _ _ lxb hxg).trans x3
                    refine rg_quiet 4 [0,1,2,3,4,5,6,7,8,9,10,11] hC ?_
                    simp only [pickD, List.map_cons, List.map_nil, List.getD_cons_zero, List.getD_cons_succ]; repeat (go_big_quiet_step (fail))
                    refine wpQuiet_nil ?_
                    refine rg_act 12 ?_
                    go_wp2_with (fail)
                    refine ⟨hbes _ (fun k hk hs => (((Only.refl (· = g') _).setCell (p := ⟨g', _, none⟩) (.inl rfl) _).drew).block k hk hs), ?_⟩
                    refine rg_quiet 1 [13,14] (hbes _ (fun k hk hs => (((Only.refl (· = g') _).setCell (p := ⟨g', _, none⟩) (.inl rfl) _).drew).block k hk hs)) ?_
                    simp only [pickD, List.map_cons, List.map_nil, List.getD_cons_zero, List.getD_cons_succ]; repeat (go_big_quiet_step (fail))
                    refine wpQuiet_nil ?_
                    refine rg_cut 15 ?_
                    go_wp2_with (fail)
                    refine rg_end0 ?_
                    clear hx hne hC hbes kx2 kx3
                    have hU1 := HU.out.drew.set HA.out HXX.out 1 (by omega) (.int .u8 u) (fun x => { x with urg := u }) (fun x => rfl)
                    have hx2 : ((M ++ [_]).set nn ⟨xid, u, xc, xr, xs⟩)[nn]? = some ⟨xid, u, xc, xr, xs⟩ := List.getElem?_set_self (List.getElem?_eq_some_iff.1 HXX.out).1
                    have hU2 := hU1.set HA.out hx2 2 (by omega) (.bool inc) (fun x => { x with inc := inc }) (fun x => rfl)
                    rw [List.set_set, HA.out] at hU2
                    have hq := HXE.out
                    cases hq
                    have HT1 := Lib.hid (And.intro hU2 (pm_new2 (nn := nn) HPM.out (by have h8 := HU.out.len; simp only [List.length_append, List.length_cons, List.length_nil] at h8; omega) ⟨id, 0, false, false, 0⟩ ⟨id, u, inc, false, 0⟩))
                    clear hU1 hU2 hx2 d1 d2 hf1 hf2 x2 x3
                    go_wp2_with (fail)
                    go_meet
                    case rel => exact ⟨_, _, _, _, _, _, rfl, rfl, by rfl, by omega, HT1⟩
                · have hjn : j < nn := by have := HR.out.len; omega
                  have hhL : hasL id L = true := (hasL_perm HPM.out id).trans (place_yes hj hjid)
                  have e7 := setR_has (id := id) (L := L) (b := inc) h7 hhL
                  rw [e7.2] at h10
                  rw [e7.1]
                  have hjx : M[j]? = some (M.getD j default) := by simp [hj]
                  obtain ⟨x, hxe⟩ : ∃ x, M.getD j default = x := ⟨_, rfl⟩
                  have hpm := pm_upd HPM.out HNOD.out (setX u inc) hj hjid
                  rw [hxe] at hjx hpm
                  have HU := Lib.hid h10
                  have HXX := Lib.hid hjx
                  have HP2 := Lib.hid hpm
                  obtain ⟨g, hga, _⟩ := h10.own.getR hjx
                  have HA := Lib.hid hga
                  rw [hga]
                  clear hga h10 e7 h7 hj hjid hhL hjx hxe hpm x1 x2 x3
                  obtain ⟨xid, xu, xc, xr, xs⟩ := x
                  have hG := HU.out.own.getR HXX.out
                  obtain ⟨g', hg', hgb, hgl, ⟨_, d1, d2, _, _⟩, hfr⟩ := hG
                  have hgg : g' = g := by have := HA.out.symm.trans hg'; cases this; rfl
                  subst hgg
                  have hf1 := hfr 1 (by omega)
                  have hf2 := hfr 2 (by omega)
                  have x2 := HX10.out.cell 2 _ rfl
                  have x3 := HX10.out.cell 3 _ rfl
                  have lxb := HX10.out.lt
                  have hxg : ¬ xb = g' := fun e => HU.out.off g' ⟨_, HA.out, rfl⟩ e.symm
                  clear hfr hg'
                  go_wp2_with (fail)
                  refine rg_start 16 ?_
                  refine rg_besides (fun k => k = g') fun p hx hne hC hbes => ?_
                  have kx2 : ∀ z : Wd p, z.w.cell? ⟨xb, 2, none⟩ = some (.int .u8 u) := fun z => (hx z _ _ _ lxb hxg).trans x2
                  have kx3 : ∀ z : Wd p, z.w.cell? ⟨xb, 3, none⟩ = some (.bool inc) := fun z => (hx z _ _ _ lxb hxg).trans x3
                  refine rg_quiet 4 [0,1,2,3,4,5,6,7,8,9,10,11] hC ?_
                  simp only [pickD, List.map_cons, List.map_nil, List.getD_cons_zero, List.getD_cons_succ]; repeat (go_big_quiet_step (fail))
                  refine wpQuiet_nil ?_
                  refine rg_act 12 ?_
                  go_wp2_with (fail)
                  refine ⟨hbes _ (fun k hk hs => (((Only.refl (· = g') _).setCell (p := ⟨g', _, none⟩) (.inl rfl) _).drew).block k hk hs), ?_⟩
                  refine rg_quiet 1 [13,14] (hbes _ (fun k hk hs => (((Only.refl (· = g') _).setCell (p := ⟨g', _, none⟩) (.inl rfl) _).drew).block k hk hs)) ?_
                  simp only [pickD, List.map_cons, List.map_nil, List.getD_cons_zero, List.getD_cons_succ]; repeat (go_big_quiet_step (fail))
                  refine wpQuiet_nil ?_
                  refine rg_cut 15 ?_
                  go_wp2_with (fail)
                  refine rg_end0 ?_
                  clear hx hne hC hbes kx2 kx3
                  have hU1 := HU.out.drew.set HA.out HXX.out 1 (by omega) (.int .u8 u) (fun x => { x with urg := u }) (fun x => rfl)
                  have hx2 : (M.set j ⟨xid, u, xc, xr, xs⟩)[j]? = some ⟨xid, u, xc, xr, xs⟩ := List.getElem?_set_self (List.getElem?_eq_some_iff.1 HXX.out).1
                  have hU2 := hU1.set HA.out hx2 2 (by omega) (.bool inc) (fun x => { x with inc := inc }) (fun x => rfl)
                  rw [List.set_set, HA.out] at hU2
                  have HT1 := Lib.hid (And.intro hU2 (HP2.out))
                  clear hU1 hU2 hx2 d1 d2 hf1 hf2 x2 x3
                  go_wp2_with (fail)
                  go_meet
                  case rel => exact ⟨_, _, _, _, _, _, rfl, rfl, by rfl, by omega, HT1⟩
          · by_cases k1 : kind = 1
            · as_aux_lemma =>
                have e0 : ((kind : Int) == 0) = false := by simp; omega
                have e1 : ((kind : Int) == 1) = true := by simp [k1]
                clear k0 k1
                have x1 := HX5.out.cell 1 _ rfl
                have x4 := HX5.out.cell 4 _ rfl
                go_wp2_with (fail)
                refine (ready_st HR.out.p id is).mono ?_
                rintro e w10 ⟨rfl, hS10, hk10⟩
                have h10 := HR.out.plan hS10 hk10
                have hX10 := hk10.blk HX5.out (fun h => h (.inr rfl))
                have x1 := hX10.cell 1 _ rfl
                have x4 := hX10.cell 4 _ rfl
                clear hS10 hk10 x0
                rcases HV5.out with ⟨hno, rfl⟩ | ⟨j, hj, hjid, rfl⟩
                · have hnoL : hasL id L = false := (hasL_perm HPM.out id).trans hno
                  rw [updL_no hnoL] at h10
                  have HT1 := Lib.hid (And.intro h10 HPM.out)
                  simp only [hnoL]
                  clear hno hnoL h10 hX10
                  go_wp2_with (fail)
                  go_meet
                  case rel => exact ⟨_, _, _, _, _, _, rfl, rfl, by rfl, by omega, HT1⟩
                · have hjn : j < nn := by have := HR.out.len; omega
                  have hhL : hasL id L = true := (hasL_perm HPM.out id).trans (place_yes hj hjid)
                  simp only [hhL]
                  have hjx : M[j]? = some (M.getD j default) := by simp [hj]
                  obtain ⟨x, hxe⟩ : ∃ x, M.getD j default = x := ⟨_, rfl⟩
                  have hpm := pm_upd HPM.out HNOD.out (setReady is) hj hjid
                  rw [hxe] at hjx hpm
                  obtain ⟨g, hga, hgb, hgl, ⟨_, _, _, d3, _⟩, hfr⟩ := h10.own.getR hjx
                  have hf3 := hfr 3 (by omega)
                  have HT1 := Lib.hid (And.intro (h10.set hga hjx 3 (by omega) (.bool is) (setReady is) (fun x => rfl)) hpm)
                  subst hga
                  clear h10 hj hjid hhL hjx hxe hpm hX10 hfr
                  go_wp2_with (fail)
                  go_meet
                  case rel => exact ⟨_, _, _, _, _, _, rfl, rfl, by rfl, by omega, HT1⟩
            · by_cases k2 : kind = 2
              · as_aux_lemma =>
                  have e0 : ((kind : Int) == 0) = false := by simp; omega
                  have e1 : ((kind : Int) == 1) = false := by simp; omega
                  have e2 : ((kind : Int) == 2) = true := by simp [k2]
                  clear k0 k1 k2
                  have x5 := HX5.out.cell 5 _ rfl
                  go_wp2_with (fail)
                  go_loopw [4, 12, 14, 15, 159] (fun r c _ _ i wr => ∃ (j : Nat) (a : Option Addr) (nn cap cc : Nat), r = .slice a nn cap ∧ c = .int .i64 cc ∧ i = .int .i64 j ∧ j ≤ nl ∧ cc ≤ j ∧ Hid (RSt w q (· = xb) a nn cap ck L (dropL (ids.take j) M) wr ∧ Blk wr xb #[.int .u8 kind, .int .u64 id, .int .u8 u, .bool inc, .bool is, .slice aI nl cI] 45 ∧ cc + nn = M.length)) (fun _ _ _ _ i _ => nl - (intOf i).toNat)
                  case atStart => exact ⟨0, a, nn, cap, 0, rfl, rfl, rfl, by omega, by omega, Lib.hid ⟨by rw [List.take_zero, dropL_nil]; exact HR.out, HX5.out, by rw [Nat.zero_add]; exact HR.out.len⟩⟩
                  case round =>
                    have HLM : Hid (nn = M.length) := Lib.hid HR.out.len
                    clear HR x5 HX5
                    obtain ⟨j, aj, nj, capj, cc, rfl, rfl, rfl, hj, hcj, hJ⟩ := hrel
                    by_cases hltj : j < nl
                    · obtain ⟨b7, o7, xid, ha7, hc7, hx7, hx764⟩ := ids_get (HSL.out _ hJ.out.1.p.below) (k := j) (by have := HNL.out; omega)
                      subst ha7
                      have htk : ids.take (j + 1) = ids.take j ++ [xid] := by rw [List.take_add_one, hx7]; rfl
                      have HTK := Lib.hid htk
                      clear htk hx7
                      have hnj : nj ≤ 256 := by have := hJ.out.2.2; have := HLM.out; omega
                      have HNJ : Hid (NodI (dropL (ids.take j) M)) := Lib.hid (dropL_nod HNOD.out _)
                      go_wp2_with (fail)
                      refine (place_any (q + 1) aj nj capj _ xid wr hJ.out.1.len hJ.out.1.own hnj).mono ?_
                      rintro e w6 ⟨hb6, v6, rfl, hv6⟩
                      have hJ6 := Lib.hid (And.intro (hJ.out.1.same hb6) (hJ.out.2.1.below hb6))
                      have hcc := hJ.out.2.2
                      have HCC := Lib.hid hcc
                      clear hb6 hcc hJ
                      rcases hv6 with ⟨hno, rfl⟩ | ⟨i, hi, hiid, rfl⟩
                      · have hM1 : dropL (ids.take (j + 1)) M = dropL (ids.take j) M := by rw [HTK.out, dropL_snoc]; exact filter_no hno
                        have HM1 := Lib.hid hM1
                        clear hno hM1
                        go_wp2_with (fail)
                        exact ⟨⟨j + 1, aj, nj, capj, cc, rfl, rfl, by go_num, by omega, by omega, Lib.hid ⟨by rw [HM1.out]; exact hJ6.out.1, hJ6.out.2, HCC.out⟩⟩, by simp [intOf]; omega⟩
                      · have hin : i < nj := by have := hJ6.out.1.len; omega
                        have hM1 : dropL (ids.take (j + 1)) M = (dropL (ids.take j) M).take i ++ (dropL (ids.take j) M).drop (i + 1) := by
                          rw [HTK.out, dropL_snoc, erase_filter HNJ.out hi, hiid]
                        have HM1 := Lib.hid hM1
                        have hix : (dropL (ids.take j) M)[i]? = some ((dropL (ids.take j) M).getD i default) := by simp [hi]
                        obtain ⟨g, hga, hgb, hgl, _, _⟩ := hJ6.out.1.own.getR hix
                        subst hga
                        have hcap := hJ6.out.1.own.caps
                        have hmax : capj ≤ 9223372036854775807 := by have := hcap.2; unfold maxLen at this; omega
                        have hc1 := fun W => run_cut_hS ref_et (g := g) (n := nj) (cap := capj) i (mi := (i : Int)) rfl (by omega) W
                        have hc2 := fun W => run_cut_lA ref_et (a := some ⟨g, 0, none⟩) (n := nj) (cap := capj) (i + 1) (li := (i : Int) + 1) (by omega) (by omega) hcap.1 W
                        obtain ⟨av, hav⟩ : ∃ z, (if capj = i + 1 then some (⟨g, 0, none⟩ : Addr) else (some (⟨g, 0, none⟩ : Addr)).map (·.add ((i + 1) * 5))) = z := ⟨_, rfl⟩
                        rw [hav] at hc2
                        have HAV := Lib.hid hav
                        have HCAP := Lib.hid hcap
                        have hi0 : decide ((0 : Int) ≤ (i : Int)) = true := decide_eq_true (by omega)
                        clear hav hM1 hix hi hiid hcap
                        go_wp2_with (fail)
                        refine rg_start 11 ?_
                        refine rg_below fun p hx hne hC hbel => ?_
                        refine rg_quiet 4 [1,2,3,5,6,7,8] hC ?_
                        simp only [pickD, List.map_cons, List.map_nil, List.getD_cons_zero, List.getD_cons_succ]; repeat (go_big_quiet_step (fail))
                        refine wpQuiet_nil ?_
                        refine rg_act 0 ?_
                        go_wp2_with (with_reducible refine stop_bs ?_)
                        refine Stop.out ?_
                        refine wpList_br0 rfl rfl ?_
                        go_wp2_with (fail)
                        have hq1 := hJ6.out.1.p.bs.2
                        have hB13 : Below w6.heap.size w6 (w6.alloc (.cells #[] 48)).drew := ((Below.refl _ _).alloc (Nat.le_refl _) _).drew
                        have hO13 : OwnS (w6.alloc (.cells #[] 48)).drew (q + 1) 48 5 (some ⟨w6.heap.size, 0, none⟩) 0 0 [] := (OwnS.new w6 (q + 1) hq1 48 5 0 #[] (by unfold maxLen; omega) rfl).below (Below.refl _ _).drew
                        have hs1 := (hJ6.out.1.own.below hB13).srcH hJ6.out.1.len (k := i) (by omega)
                        obtain ⟨W13, hW13⟩ : ∃ W, (w6.alloc (.cells #[] 48)).drew = W := ⟨_, rfl⟩
                        rw [hW13] at hB13 hO13 hs1 ⊢
                        refine ⟨hbel _ ⟨hB13.os, hB13.tape, hB13.output, hB13.size, hB13.block⟩, ?_⟩
                        have HB13 := Lib.hid hB13
                        have HO13 := Lib.hid hO13
                        have HS1 := Lib.hid hs1
                        clear hB13 hO13 hs1 hW13
                        refine rg_act 4 ?_
                        go_wp2_with (at_builtin; refine Stop.mk ?_)
                        refine Stop.out ?_
                        refine wpList_app ref_et rfl rfl rfl rfl HO13.out HS1.out (by unfold maxLen; omega) (by omega) (Nat.le_trans hq1 HB13.out.size) ?_
                        intro a3 c3 w14 ho3 on3 hat3
                        rw [Nat.zero_add] at ho3 ⊢
                        have hB14 : Below w6.heap.size w6 w14 := below_onto HB13.out on3 HB13.out.size (fun k hk hs => by obtain ⟨y, hy, e⟩ := hs; cases hy; simp at e; omega)
                        have hs2 := (hJ6.out.1.own.below hB14).srcL hJ6.out.1.len (l := i + 1) (by omega)
                        rw [HAV.out] at hs2
                        have HB14 := Lib.hid hB14
                        have HO14 := Lib.hid ho3
                        have HS2 := Lib.hid hs2
                        have hat14 : ∀ y, a3 = some y → w6.heap.size ≤ y.block := fun y hy => by
                          rcases hat3 y hy with ⟨z, hz, e⟩ | e
                          · cases hz; rw [e]; exact Nat.le_refl _
                          · rw [e]; exact HB13.out.size
                        have HAT14 := Lib.hid hat14
                        clear hB14 ho3 hs2 hat3 hat14 on3
                        go_wp2_with (fail)
                        refine ⟨hbel _ ⟨HB14.out.os, HB14.out.tape, HB14.out.output, HB14.out.size, HB14.out.block⟩, ?_⟩
                        refine rg_cut 9 ?_
                        go_wp2_with (at_builtin; refine Stop.mk ?_)
                        refine Stop.out ?_
                        refine wpList_app ref_et rfl rfl rfl rfl HO14.out HS2.out (by unfold maxLen; omega) (by omega) (Nat.le_trans hq1 HB14.out.size) ?_
                        intro a4 c4 w15 ho4 on4 hat4
                        obtain ⟨n4, hn4⟩ : ∃ z, i + (nj - (i + 1)) = z := ⟨_, rfl⟩
                        rw [hn4] at ho4 ⊢
                        have hB15 : Below w6.heap.size w6 w15 := below_onto HB14.out on4 HB14.out.size (fun k hk hs => by obtain ⟨y, hy, rfl⟩ := hs; have := HAT14.out y hy; omega)
                        have hn4' : n4 + 1 = nj := by omega
                        have h15 : RSt w q (· = xb) a4 n4 c4 ck L (dropL (ids.take (j + 1)) M) w15 := hJ6.out.1.row (only_of_below hB15 _) (by rw [HM1.out, List.flatMap_append]; simpa using ho4) (by rw [HM1.out, List.length_append, List.length_take, List.length_drop, ← hJ6.out.1.len]; omega) (fun y hy => by
                          rcases hat4 y hy with ⟨z, hz, e⟩ | e
                          · right; rw [e]; exact HAT14.out z hz
                          · right; rw [e]; exact HB14.out.size)
                        have HJ15 := Lib.hid (And.intro h15 (And.intro (hJ6.out.2.below hB15) (show (cc + 1) + n4 = M.length by have := HCC.out; omega)))
                        clear ho4 on4 hat4 hn4 hB15 h15 hx hne hC hbel
                        go_wp2_with (fail)
                        refine rg_below fun p hx hne hC hbel => ?_
                        refine rg_quiet 0 [10] hC ?_
                        simp only [pickD, List.map_cons, List.map_nil, List.getD_cons_zero, List.getD_cons_succ]; repeat (go_big_quiet_step (fail))
                        refine wpQuiet_nil ?_
                        refine rg_end ?_
                        clear hx hne hC hbel
                        go_wp2_with (fail)
                        exact ⟨⟨j + 1, a4, n4, c4, cc + 1, rfl, by go_num, by go_num, by omega, by omega, HJ15⟩, by simp [intOf]; omega⟩
                    · obtain rfl : j = nl := by omega
                      have hJ2 := hJ.out
                      rw [List.take_of_length_le (by rw [HNL.out]; exact Nat.le_refl _)] at hJ2
                      have HJ2 := Lib.hid hJ2
                      have x5 := hJ2.2.1.cell 5 _ rfl
                      clear hJ hJ2
                      go_wp2_with (fail)
                      refine (drop_st HJ2.out.1.p aI j cI ids HNL.out.symm (HSL.out _ HJ2.out.1.p.below) (by have := HNL.out; omega) (fun z hz h0 => .inr (.inl (by
                        obtain ⟨b7, o7, e7, h7, _⟩ := (HSL.out w (Below.refl _ _)).ints 0 (by simpa using h0)
                        rw [hz] at e7; cases e7; exact h7)))).mono ?_
                      rintro e w10 ⟨rfl, hS10, hk10⟩
                      have h10 := HJ2.out.1.plan hS10 hk10
                      have hpm := pm_drop HPM.out ids
                      have hval : L.length - (dropL ids L).length = cc := by
                        have h1 := HJ2.out.2.2
                        have h2 := HJ2.out.1.len
                        have h3 := HPM.out.length_eq
                        have h4 := hpm.length_eq
                        omega
                      rw [hval]
                      have HT1 := Lib.hid (And.intro h10 hpm)
                      clear hS10 hk10 h10 hpm hval x5
                      go_wp2_with (fail)
                      go_meet
                      case rel => exact ⟨_, _, _, _, _, _, rfl, rfl, by rfl, by omega, HT1⟩
              · as_aux_lemma =>
                  have e0 : ((kind : Int) == 0) = false := by simp; omega
                  have e1 : ((kind : Int) == 1) = false := by simp; omega
                  have e2 : ((kind : Int) == 2) = false := by simp; omega
                  clear k0 k1 k2
                  go_wp2_with (fail)
                  refine (top_st HR.out.p).mono ?_
                  rintro e w10 ⟨hb10, v10, rfl, hv10⟩
                  have H10 := Lib.hid (HR.out.same hb10)
                  have hX10 := HX5.out.below hb10
                  have HX10 := Lib.hid hX10
                  have x0 := hX10.cell 0 _ rfl
                  clear hb10 hX10
                  rcases hv10 with ⟨hnone, rfl⟩ | ⟨bst, hbst, rfl⟩
                  · have HNO := Lib.hid hnone
                    clear hnone
                    by_cases k4 : kind = 4
                    · have e4 : ((kind : Int) == 4) = true := by simp [k4]
                      clear k4
                      go_wp2_with (fail)
                      refine (serve_st H10.out.p (by omega)).mono ?_
                      rintro e w11 ⟨hk11, v11, rfl, hv11⟩
                      rcases hv11 with ⟨_, rfl, hS11⟩ | ⟨x6, hx6, _⟩
                      · have h11 := H10.out.plan hS11 hk11
                        have H11 := Lib.hid h11
                        have hX11 := hk11.blk HX10.out (fun h => h (.inr rfl))
                        have x0 := hX11.cell 0 _ rfl
                        clear hS11 hk11 h11 hX11
                        go_wp2_with (fail)
                        refine (rnext_any (q + 1) a nn cap M w11 H11.out.len H11.out.own hn256 HNOD.out.dist (H11.out.u7 HPM.out)).mono ?_
                        rintro e w12 ⟨hb12, v12, rfl, hv12⟩
                        obtain rfl := rnx_none HPM.out HNO.out hv12
                        have HT1 := Lib.hid (And.intro (H11.out.same hb12) HPM.out)
                        clear hv12 hb12
                        go_wp2_with (fail)
                        go_meet
                        case rel => exact ⟨_, _, _, _, _, _, rfl, rfl, by rfl, by omega, HT1⟩
                      · have := HNO.out x6 hx6.1
                        rw [hx6.2.1] at this
                        cases this
                    · have e4 : ((kind : Int) == 4) = false := by simp; omega
                      clear k4
                      go_wp2_with (fail)
                      refine (rnext_any (q + 1) a nn cap M w10 H10.out.len H10.out.own hn256 HNOD.out.dist (H10.out.u7 HPM.out)).mono ?_
                      rintro e w12 ⟨hb12, v12, rfl, hv12⟩
                      obtain rfl := rnx_none HPM.out HNO.out hv12
                      have HT1 := Lib.hid (And.intro (H10.out.same hb12) HPM.out)
                      clear hv12 hb12
                      go_wp2_with (fail)
                      go_meet
                      case rel => exact ⟨_, _, _, _, _, _, rfl, rfl, by rfl, by omega, HT1⟩
                  · have HB := Lib.hid hbst
                    obtain ⟨bi, bu, bc, br, bv⟩ := bst
                    clear hbst
                    by_cases k4 : kind = 4
                    · have e4 : ((kind : Int) == 4) = true := by simp [k4]
                      clear k4
                      go_wp2_with (fail)
                      refine (serve_st H10.out.p (by omega)).mono ?_
                      rintro e w11 ⟨hk11, v11, rfl, hv11⟩
                      obtain ⟨rfl, hS11⟩ := hv11.known HB.out
                      have h11 := H10.out.plan hS11 hk11
                      have H11 := Lib.hid h11
                      have hX11 := hk11.blk HX10.out (fun h => h (.inr rfl))
                      have HX11 := Lib.hid hX11
                      have x0 := hX11.cell 0 _ rfl
                      clear hS11 hk11 h11 hX11 hv11
                      go_wp2_with (fail)
                      refine (rnext_any (q + 1) a nn cap M w11 H11.out.len H11.out.own hn256 HNOD.out.dist (H10.out.u7 HPM.out)).mono ?_
                      rintro e w12 ⟨hb12, v12, rfl, hv12⟩
                      obtain ⟨i, hi, hix, rfl⟩ := rnx_some HPM.out HB.out hv12
                      have h12 := H11.out.same hb12
                      have hin : i < nn := by have := H10.out.len; omega
                      have x0 := (HX11.out.below hb12).cell 0 _ rfl
                      obtain ⟨g, hga, hgb, hgl, ⟨d0, _, _, _, d4⟩, hfr⟩ := h12.own.getR hix
                      have hf4 := hfr 4 (by omega)
                      simp only at d0 d4
                      have hgx : M.getD i default = ⟨bi, bu, bc, br, bv⟩ := by simp [List.getD_eq_getElem?_getD, hix]
                      have hpm := pm_upd HPM.out HNOD.out (setServed (ck + 1)) hi (id := bi) (by rw [hgx])
                      rw [hgx] at hpm
                      have HT1 := Lib.hid (And.intro (h12.set hga hix 4 (by omega) (.int .i64 ((ck : Int) + 1)) (setServed (ck + 1)) (fun x => by simp [refV, setServed])) hpm)
                      have hi0 : decide ((0 : Int) ≤ (i : Int)) = true := decide_eq_true (by omega)
                      subst hga
                      clear hv12 hb12 h12 hix hi hgx hpm hfr
                      go_wp2_with (fail)
                      go_meet
                      case rel => exact ⟨_, _, _, ck + 1, _, _, rfl, by go_num, by rfl, by omega, HT1⟩
                    · have e4 : ((kind : Int) == 4) = false := by simp; omega
                      clear k4
                      go_wp2_with (fail)
                      refine (rnext_any (q + 1) a nn cap M w10 H10.out.len H10.out.own hn256 HNOD.out.dist (H10.out.u7 HPM.out)).mono ?_
                      rintro e w12 ⟨hb12, v12, rfl, hv12⟩
                      obtain ⟨i, hi, hix, rfl⟩ := rnx_some HPM.out HB.out hv12
                      have h12 := H10.out.same hb12
                      have hin : i < nn := by have := H10.out.len; omega
                      have x0 := (HX10.out.below hb12).cell 0 _ rfl
                      obtain ⟨g, hga, hgb, hgl, ⟨d0, _, _, _, d4⟩, hfr⟩ := h12.own.getR hix
                      simp only at d0
                      have HT1 := Lib.hid (And.intro h12 HPM.out)
                      have hi0 : decide ((0 : Int) ≤ (i : Int)) = true := decide_eq_true (by omega)
                      subst hga
                      clear hv12 hb12 h12 hix hi hfr
                      go_wp2_with (fail)
                      go_meet
                      case rel => exact ⟨_, _, _, _, _, _, rfl, rfl, by rfl, by omega, HT1⟩
      · obtain rfl : k = n := by omega
        go_wp2_with (fail)
        refine (works_any wr).mono ?_
        rintro e w9 ⟨rfl, hb9⟩
        have b9 := Lib.hid (below_on hF.out.1.p.below hb9 hF.out.1.p.below.size)
        clear hb9
        go_wp2_with (fail)
        go_returns
        exact ⟨rfl, b9.out⟩
end Go.Proofs.YtjkihpbpnoelnaaGreatDoor
