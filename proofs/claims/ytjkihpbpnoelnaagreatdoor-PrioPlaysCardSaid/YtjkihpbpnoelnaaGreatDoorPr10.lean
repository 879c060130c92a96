/- Plans in memory: DeleteFunc, Drop. -/
import Derived.Test.YtjkihpbpnoelnaaGreatDoorPr9
namespace Go.Proofs.YtjkihpbpnoelnaaGreatDoor
open Go.RowKit
set_option linter.unusedVariables false
theorem set_five {L : List Strm} {i : Nat} {y : Strm} (h : L[i]? = some y) (r : Strm) :
    ((((((L.flatMap strmV).set (i * 5) (.int .u64 r.id)).set (i * 5 + 1) (.int .u8 r.urg)).set (i * 5 + 2) (.bool r.inc)).set (i * 5 + 3) (.bool r.ready)).set (i * 5 + 4) (.int .u64 r.served)) = (L.set i r).flatMap strmV := by
  have hi := (List.getElem?_eq_some_iff.1 h).1
  have g : ∀ (M : List Strm) (z : Strm), i < M.length → (M.set i z)[i]? = some z := fun M z hM => List.getElem?_set_self hM
  have h0 := flat_set (f := strmV) strmV_len 0 (by omega) (.int .u64 r.id) (fun x => { x with id := r.id }) (fun x => rfl) L i y h
  rw [Nat.add_zero] at h0
  have h1 := flat_set (f := strmV) strmV_len 1 (by omega) (.int .u8 r.urg) (fun x => { x with urg := r.urg }) (fun x => rfl) _ i _ (g L { y with id := r.id } hi)
  have h2 := flat_set (f := strmV) strmV_len 2 (by omega) (.bool r.inc) (fun x => { x with inc := r.inc }) (fun x => rfl) _ i _ (g (L.set i { y with id := r.id }) { y with id := r.id, urg := r.urg } (by simpa using hi))
  have h3 := flat_set (f := strmV) strmV_len 3 (by omega) (.bool r.ready) (fun x => { x with ready := r.ready }) (fun x => rfl) _ i _ (g ((L.set i { y with id := r.id }).set i { y with id := r.id, urg := r.urg }) { y with id := r.id, urg := r.urg, inc := r.inc } (by simpa using hi))
  have h4 := flat_set (f := strmV) strmV_len 4 (by omega) (.int .u64 r.served) (fun x => { x with served := r.served }) (fun x => rfl) _ i _ (g (((L.set i { y with id := r.id }).set i { y with id := r.id, urg := r.urg }).set i { y with id := r.id, urg := r.urg, inc := r.inc }) { y with id := r.id, urg := r.urg, inc := r.inc, ready := r.ready } (by simpa using hi))
  rw [h0, h1, h2, h3, h4]
  simp only [List.set_set]
def DelPost (base : Nat) (a : Option Addr) (cap : Nat) (F : List Strm) (w : World) (e : Ending) (w' : World) : Prop := Only (fun k => ∃ y, a = some y ∧ y.block = k) w w' ∧ e = .returned (.slice a F.length cap) ∧ OwnS w' base 64 5 a F.length cap (F.flatMap strmV)
theorem only_sets {S : Nat → Prop} {g : Nat} (hg : S g) {w : World} : ∀ (l : List Value) (o : Nat) (w' : World), Only S w w' → Only S w (w'.setCells g o l)
  | [], _, _, h => h
  | v :: l, o, w', h => only_sets hg l (o + 1) _ (h.setCell (p := ⟨g, o, none⟩) (.inl hg) v)
set_option maxRecDepth 100000 in
set_option maxHeartbeats 4000000 in
theorem delete_any (base : Nat) (a : Option Addr) (n cap bx : Nat) (L : List Strm) (ids : List Nat) (w : World) (hn : n = L.length) (hO : OwnS w base 64 5 a n cap (L.flatMap strmV)) (hl : n ≤ 256) (hI : IdsAt w bx ids) (hbx : ∀ y, a = some y → bx ≠ y.block)
    (hids : ∀ aI cI, w.cell? ⟨bx, 0, none⟩ = some (.slice aI ids.length cI) → ∀ z, aI = some z → 0 < ids.length → ∀ y, a = some y → z.block ≠ y.block) :
    Calls Tryz.prog 29 #[.slice a n cap, .func (.func 30) #[] #[.pointer (some ⟨bx, 0, none⟩)]] w fun e w' => DelPost base a cap (L.filter (keepB ids)) w e w' := by
  have hcap := hO.caps
  have hmax : cap ≤ 9223372036854775807 := by have := hcap.2; unfold maxLen at this; omega
  have hcap1 := hcap.1
  obtain ⟨F, hF⟩ : ∃ F, L.filter (keepB ids) = F := ⟨_, rfl⟩
  rw [hF]
  have HF := Lib.hid hF
  have HO := Lib.hid hO
  have HN := Lib.hid hn
  have HI := Lib.hid hI
  have HBX := Lib.hid hbx
  have HIDS := Lib.hid hids
  have HIX := Lib.hid (ixf_any base a n cap bx L ids w hn hO hl hI)
  have hkeepI : ∀ W, Only (fun k => ∃ y, a = some y ∧ y.block = k) w W → IdsAt W bx ids := fun W hW => hI.only hW (fun ⟨y, hy, e⟩ => hbx y hy e.symm) (fun aI cI h1 z hz hl0 ⟨y, hy, e⟩ => hids aI cI h1 z hz hl0 y hy e.symm)
  have HKI := Lib.hid hkeepI
  clear hO hn hI hF hbx hids hcap hkeepI
  go_enter Tryz.func29, Tryz.ntmps29
  go_wp2_with (fail)
  refine HIX.out.mono ?_
  rintro e w1 ⟨hb1, j, rfl, hfb⟩
  rcases hfb with ⟨rfl, hall⟩ | ⟨k, rfl, hk, hbef, hbad⟩
  · have hFL : F = L := by
      have := filter_front (keep := keepB ids) (L := L) L.length (fun i h _ => hall i h)
      rw [List.take_of_length_le (Nat.le_refl _)] at this
      rw [← HF.out, this]
    have HFL := Lib.hid hFL
    clear hFL hall
    go_wp2_with (fail)
    go_returns
    rw [HFL.out]
    exact ⟨only_of_below hb1 _, by rw [← HN.out]; rfl, by rw [← HN.out]; exact HO.out.below hb1⟩
  · have hst := DelI.start hk hbef hbad
    have HST := Lib.hid hst
    have hkn : k < n := by rw [HN.out]; exact hk
    have hlen := HO.out.length
    rw [flat_len strmV_len, ← HN.out] at hlen
    obtain ⟨g, ha, hgb, _⟩ := HO.out.at_ (i := 0) (by rw [flat_len strmV_len, ← HN.out]; omega)
    subst ha
    clear hbef hbad hst hk hlen
    have hne1 : ((k : Int) == -1) = false := beq_eq_false_iff_ne.2 (by omega)
    go_wp2_with (fail)
    go_loopw [5, 6, 7] (fun i j _ wr => ∃ (ii jj : Nat) (D : List Strm), i = .int .i64 ii ∧ j = .int .i64 jj ∧ jj ≤ n ∧ ii < jj ∧ Only (fun k => ∃ y, (some ⟨g, 0, none⟩ : Option Addr) = some y ∧ y.block = k) w wr ∧ Hid (OwnS wr base 64 5 (some ⟨g, 0, none⟩) n cap (D.flatMap strmV) ∧ DelI (keepB ids) L ii jj D)) (fun _ j _ _ => n - (intOf j).toNat)
    case atStart => exact ⟨k, k + 1, L, rfl, by go_num, by omega, by omega, only_of_below hb1 _, Lib.hid ⟨HO.out.below hb1, HST.out⟩⟩
    case round =>
      clear HST hne1 hb1
      obtain ⟨ii, jj, D, rfl, rfl, hjj, hij, bw, hok⟩ := hrel
      by_cases hlt : jj < n
      · have hjL : jj < L.length := by rw [← HN.out]; exact hlt
        obtain ⟨x, hx⟩ : ∃ x, L[jj]? = some x := ⟨L[jj], by simp⟩
        have hxD : D[jj]? = some x := (hok.out.2.get hjL).trans hx
        obtain ⟨g', ha, hb, hg, ⟨d0, d1, d2, d3, d4⟩, _⟩ := hok.out.1.getF hxD
        cases ha
        have hgx : L.getD jj default = x := by simp [List.getD_eq_getElem?_getD, hx]
        have hc := fun W hW => drop1_any bx ids x W hW
        obtain ⟨v, hv⟩ : ∃ v, ids.contains x.id = v := ⟨_, rfl⟩
        have hkp : keepB ids (L.getD jj default) = !v := by rw [hgx]; unfold keepB; rw [hv]
        rw [hv] at hc
        have HK := Lib.hid hkp
        have HG := Lib.hid hgx
        obtain ⟨y, hy⟩ : ∃ y, D[ii]? = some y := ⟨D[ii]'(by have := hok.out.2.len; omega), by simp⟩
        have HY := Lib.hid hy
        obtain ⟨g2, ha2, _, _, _, hfr⟩ := hok.out.1.getF hy
        cases ha2
        obtain ⟨xi, xu, xc, xr, xs⟩ := x
        simp only at d0 d1 d2 d3 d4
        simp only [strmV] at hc
        have HC := Lib.hid hc
        have lw : g < wr.heap.size := hg
        clear hc hgx hx hxD hv hkp hy
        go_wp2_with (fail)
        obtain ⟨W2, hW2⟩ : ∃ W2, wr.alloc (.cells #[.int .u64 xi, .int .u8 xu, .bool xc, .bool xr, .int .u64 xs] 64) = W2 := ⟨_, rfl⟩
        have hB2 : Below wr.heap.size wr W2 := by rw [← hW2]; exact (Below.refl _ wr).alloc (Nat.le_refl _) _
        have hV2 : Blk W2 wr.heap.size #[.int .u64 xi, .int .u8 xu, .bool xc, .bool xr, .int .u64 xs] 64 := by rw [← hW2]; exact Blk.new wr _ _
        have hI2 := HKI.out _ (bw.trans (only_of_below hB2 _))
        rw [hW2]
        refine (HC.out _ hI2).mono ?_
        rintro e w2 ⟨hb2, rfl⟩
        have o2 : Hid (OwnS w2 base 64 5 (some ⟨g, 0, none⟩) n cap (D.flatMap strmV)) := Lib.hid ((hok.out.1.below hB2).below hb2)
        have hV3 := hV2.below hb2
        have cb0 := hV3.cell 0 _ rfl
        have cb1 := hV3.cell 1 _ rfl
        have cb2 := hV3.cell 2 _ rfl
        have cb3 := hV3.cell 3 _ rfl
        have cb4 := hV3.cell 4 _ rfl
        have lv3 := hV3.lt
        have b2 : Only (fun k => ∃ y, (some ⟨g, 0, none⟩ : Option Addr) = some y ∧ y.block = k) w w2 := bw.trans (only_of_below (hB2.trans (hb2.mono hB2.size)) _)
        have B2 := Lib.hid b2
        obtain ⟨g3, ha3, _, hg3, _, hfr3⟩ := o2.out.getF HY.out
        cases ha3
        have f0 := hfr3 0 (by omega)
        have f1 := hfr3 1 (by omega)
        have f2 := hfr3 2 (by omega)
        have f3 := hfr3 3 (by omega)
        have f4 := hfr3 4 (by omega)
        rw [Nat.add_zero] at f0
        clear hb2 hV2 hV3 hI2 hB2 hW2 b2 hfr3 hfr
        cases v with
        | true =>
          go_wp2_with (fail)
          refine ⟨⟨ii, jj + 1, D, rfl, by go_num, by omega, by omega, B2.out, Lib.hid ⟨o2.out, hok.out.2.skip hjL HK.out⟩⟩, by simp [intOf]; omega⟩
        | false =>
          go_wp2_with (fail)
          refine ⟨⟨ii + 1, jj + 1, D.set ii ⟨xi, xu, xc, xr, xs⟩, by go_num, by go_num, by omega, by omega, ?_, Lib.hid ⟨?_, by have := hok.out.2.keep hjL HK.out; rwa [HG.out] at this⟩⟩, by simp [intOf]; omega⟩
          · exact ((((B2.out.setCell (p := ⟨g, ii * 5, none⟩) (.inl ⟨_, rfl, rfl⟩) _).setCell (p := ⟨g, ii * 5 + 1, none⟩) (.inl ⟨_, rfl, rfl⟩) _).setCell (p := ⟨g, ii * 5 + 2, none⟩) (.inl ⟨_, rfl, rfl⟩) _).setCell (p := ⟨g, ii * 5 + 3, none⟩) (.inl ⟨_, rfl, rfl⟩) _).setCell (p := ⟨g, ii * 5 + 4, none⟩) (.inl ⟨_, rfl, rfl⟩) _
          · rw [← set_five HY.out]
            exact ((((o2.out.setS5 g rfl _ _).setS5 g rfl _ _).setS5 g rfl _ _).setS5 g rfl _ _).setS5 g rfl _ _
      · obtain rfl : jj = n := by omega
        have hc1 := fun w' => run_cut_lS strm_et (g := g) (n := jj) (cap := cap) ii (li := ii) rfl (by omega) (by omega) hcap1 w'
        have hc2 := fun w' => run_cut_hS strm_et (g := g) (n := jj) (cap := cap) ii (mi := ii) rfl (by omega) w'
        have hlD : D.length = jj := by rw [hok.out.2.len, HN.out]
        have hcl : ∀ ty, (Builtin.clear_ #[65] ty #[.slice (some ⟨g, ii * 5, none⟩) (jj - ii) (cap - ii)]).run Tryz.prog wr = .ok (.tuple #[]) (wr.setCells g (ii * 5) (zeroSs (jj - ii))) := fun ty => run_clearS wr ty g (ii * 5) (jj - ii) (cap - ii) (by omega)
          (fun j hj => by
            obtain ⟨g', ha, _, _, hc, _⟩ := hok.out.1.at_ (i := ii * 5 + j) (by rw [flat_len strmV_len, hlD]; omega)
            cases ha
            rw [hc, List.getElem?_eq_getElem (by rw [flat_len strmV_len, hlD]; omega)]
            rfl)
          (fun j hj => by
            obtain ⟨g', ha, _, _, _, hf⟩ := hok.out.1.at_ (i := ii * 5 + j) (by rw [flat_len strmV_len, hlD]; omega)
            cases ha
            exact hf)
        have HLD := Lib.hid hlD
        clear hlD
        go_wp2_with (fail)
        go_returns
        have hfr := hok.out.2.front
        rw [show L.take jj = L from List.take_of_length_le (by rw [HN.out]; exact Nat.le_refl _), HF.out] at hfr
        have hFl : F.length = ii := by rw [← hfr, List.length_take, HLD.out]; omega
        have ho := OwnS.clears (zeroSs (jj - ii)) (ii * 5) _ (hok.out.1.front ii (by omega)) (Nat.le_refl _)
        rw [flat_take strmV_len, hfr] at ho
        unfold DelPost
        rw [hFl]
        exact ⟨only_sets (S := fun k => ∃ y, (some ⟨g, 0, none⟩ : Option Addr) = some y ∧ y.block = k) ⟨_, rfl, rfl⟩ _ _ _ bw, rfl, ho⟩
set_option maxRecDepth 100000 in
set_option maxHeartbeats 4000000 in
theorem drop_any (base q : Nat) (a : Option Addr) (n cap ck : Nat) (L : List Strm) (aI : Option Addr) (nI cI : Nat) (ids : List Nat) (w : World) (h : PlanAt w base q a n cap ck L) (hok : PlanOk L ck) (hnI : nI = ids.length) (hS : Sl .u64 w aI cI (natI ids)) (hl : ids.length ≤ 1000000)
    (hid : ∀ z, aI = some z → 0 < ids.length → ∀ y, a = some y → z.block ≠ y.block) :
    Calls Tryz.prog 15 #[.pointer (some ⟨q, 0, none⟩), .slice aI nI cI] w fun e w' => NewPost base q a ck (dropL ids L) (((L.length - (dropL ids L).length : Nat)) : Int) w e w' := by
  have lb := h.blk.lt
  have hl256 : n ≤ 256 := by rw [h.len]; exact hok.len
  have hle : (dropL ids L).length ≤ n := by rw [h.len]; exact List.length_filter_le _ _
  obtain ⟨F, hF⟩ : ∃ F, dropL ids L = F := ⟨_, rfl⟩
  have hF' : L.filter (keepB ids) = F := hF
  rw [hF] at hle ⊢
  obtain ⟨R, hR⟩ : ∃ R, (((L.length - F.length : Nat)) : Int) = R := ⟨_, rfl⟩
  rw [hR]
  obtain ⟨fl, hfl⟩ : ∃ fl, F.length = fl := ⟨_, rfl⟩
  have hRr : (n : Int) - (fl : Int) = R := by rw [← hR, h.len]; have := h.len; omega
  have hW1 : IdsAt (w.alloc (.cells #[.slice aI nI cI] 43)) w.heap.size ids := ⟨hl, ⟨aI, cI, by rw [← hnI]; exact (Blk.new w _ _).cell 0 _ rfl, hS.below ((Below.refl _ w).alloc (Nat.le_refl _) _)⟩, by simp⟩
  have hD := delete_any base a n cap w.heap.size L ids (w.alloc (.cells #[.slice aI nI cI] 43)) h.len (h.own.below ((Below.refl _ w).alloc (Nat.le_refl _) _)) hl256 hW1
    (fun y hy e => by have := (h.own.block hy).2.1; omega)
    (fun a1 c1 hc z hz h0 y hy => by
      have hc0 := (Blk.new w #[.slice aI nI cI] 43).cell 0 _ rfl
      rw [hc0] at hc
      cases hc
      exact hid z hz h0 y hy)
  rw [hF'] at hD
  unfold DelPost at hD
  rw [hfl] at hD
  have HD := Lib.hid hD
  have HFL := Lib.hid hfl
  have HN := Lib.hid h.len
  have HOFF := Lib.hid h.off
  have c0 := (h.below ((Below.refl _ w).alloc (Nat.le_refl _) (.cells #[.slice aI nI cI] 43))).blk.cell 0 _ rfl
  have HB := Lib.hid (h.blk.below ((Below.refl _ w).alloc (Nat.le_refl _) (.cells #[.slice aI nI cI] 43)))
  have HR := Lib.hid hRr
  have hfle : fl ≤ n := by omega
  clear hD hW1 hF hF' hR h hok hS hid hnI hRr hl hle hfl
  go_enter Tryz.func15, Tryz.ntmps15
  go_wp2_with (fail)
  refine HD.out.mono ?_
  rintro e w1 ⟨ho1, rfl, hown⟩
  have hq1 := ho1.blk HB.out (fun ⟨y, hy, e⟩ => HOFF.out y hy e)
  have f0 := hq1.free 0
  have lb1 := hq1.lt
  have c01 := hq1.cell 0 _ rfl
  have HO1 := Lib.hid ho1
  have HOWN := Lib.hid hown
  have HQ1 := Lib.hid hq1
  clear ho1 hown hq1
  go_wp2_with (fail)
  go_returns
  have hq2 := HQ1.out.set 0 (.slice a fl cap)
  have hw : Only (PS q a) w w1 := (only_of_below ((Below.refl _ w).alloc (Nat.le_refl _) _) _).trans (HO1.out.mono fun k _ h => .inr h)
  refine ⟨by rw [← HR.out]; rfl, hw.setCell (p := ⟨q, 0, none⟩) (.inl (.inl rfl)) _, a, fl, cap, ⟨hq2.congr rfl, HOWN.out.only (Only.setCell (Only.refl (· = q) _) (.inl rfl) _) (fun y hy e => HOFF.out y hy e), HFL.out.symm, HOFF.out⟩, same_spot _ _⟩
end Go.Proofs.YtjkihpbpnoelnaaGreatDoor
