/- In: Put. -/
import Derived.Test.YticnjdlapioppaaSo16
namespace Go.Proofs.Yticnjdlapioppaa
open Go.RowKit
set_option linter.unusedVariables false

theorem OwnS.headQ {w : World} {base n cap : Nat} {a : Option Addr} {e : TypeId} {p : Pc} {L : List Pc} (h : OwnS w base e 2 a n cap (cellsQ (p :: L))) : ∃ g, a = some ⟨g, 0, none⟩ ∧ base ≤ g ∧ g < w.heap.size ∧ w.cell? ⟨g, 0, none⟩ = some (.int .u64 p.off) ∧ w.cell? ⟨g, 1, none⟩ = some (.slice p.a p.n p.c) := by
  obtain ⟨g, ha, h1, h2, h3, _⟩ := h.at_ (i := 0) (by rw [cellsQ_length]; simp)
  obtain ⟨g', ha', _, _, h3', _⟩ := h.at_ (i := 1) (by rw [cellsQ_length]; simp; omega)
  rw [ha] at ha'
  cases ha'
  exact ⟨g, ha, h1, h2, h3, h3'⟩
/-- What stands behind the joining. -/
structure PutJ (T : List Int) (q B : Nat) (s2 : ISt) (L N : List Pc) (na : Option Addr) (nc off len : Nat) (w w5 : World) : Prop where
  only : Only (· = q) w w5
  blk : IB w5 q { s2 with la := na, ln := N.length, lc := nc }
  buf : Sl .u8 w5 s2.ba s2.bc (sub T s2.rd s2.bn)
  own : OwnS w5 B 130 2 na N.length nc (cellsQ N)
  pcs : ∀ p ∈ N, PO w5 B T (s2.rd + s2.bn) p
  apart : Apart N
  cov : ∀ x : Nat, (KV s2 L x ∨ (off ≤ x ∧ x < off + len)) → x < s2.rd + s2.bn ∨ CovL N x
section
variable {T : List Int} {q B : Nat} {Z : Nat → Prop} {s2 : ISt} {L N : List Pc} {na : Option Addr} {nc off len : Nat} {w w2 w5 w9 : World}
theorem PutJ.cnt (h : PutJ T q B s2 L N na nc off len w w5) : N.length ≤ T.length := by
  have := apart_len (T := T) h.apart (fun p hp => by
    obtain ⟨o, h1, h2, h3, h4, _⟩ := h.pcs p hp
    exact ⟨o, h1, h2, h3, h4⟩)
  omega
theorem PutJ.done (h : PutJ T q B s2 L N na nc off len w w5) (hI : InM w2 T q Z s2 L) (hT8 : ∀ x ∈ T, (Lit.int .u8 x).wf = true) (hT : T.length ≤ 3000) (hqB : q < B) (hZB : ∀ b, Z b → b < B) (hgt : ∀ p ∈ N, (s2.rd : Int) + (s2.bn : Int) + 1 ≤ p.off) : InM w5 T q Z { s2 with la := na, ln := N.length, lc := nc } N := by
  have hc := h.cnt
  have hok := hI.ok
  unfold IOk at hok
  have hgp : ∀ p ∈ N, GP w5 T (s2.rd + s2.bn + 1) p := fun p hp => by
    obtain ⟨o, h1, h2, h3, h4, h5⟩ := (h.pcs p hp).gp hT8
    have := hgt p hp
    exact ⟨o, h1, by omega, h3, h4, h5⟩
  exact ⟨h.blk, ⟨hok.1, hok.2.1, by simp only; omega, hok.2.2.2⟩, h.buf, hI.bq, hI.le, (h.own.qs (fun p hp => (hgp p hp).ok (by omega))).2, rfl,
    fun x hx _ => ⟨by have := (h.own.block hx).1; omega, fun h9 => by have := (h.own.block hx).1; have := hZB _ h9; omega⟩, hgp,
    fun p hp x hx => ⟨by have := ((h.pcs p hp).lt hx).1; omega, fun h9 => by have := ((h.pcs p hp).lt hx).1; have := hZB _ h9; omega⟩, h.apart, hI.mx, hI.top, hI.fin, hI.frr⟩
theorem PutJ.touch {p : Pc} {N' : List Pc} {a5 a6 : Option Addr} {c5 c6 : Nat} (h : PutJ T q B s2 L (p :: N') na nc off len w w5) (hI : InM w2 T q Z s2 L) (hT8 : ∀ x ∈ T, (Lit.int .u8 x).wf = true) (hT : T.length ≤ 3000) (hqB : q < B) (hZB : ∀ b, Z b → b < B) (hoff : p.off = (s2.rd : Int) + (s2.bn : Int)) (hfr : s2.fr = false)
    (hb : Only (· = q) w5 w9) (hI9 : IB w9 q { s2 with ba := a5, bn := s2.bn + p.n, bc := c5, la := a6, ln := N'.length, lc := c6 })
    (h5 : OwnS w9 B 5 1 a5 (s2.bn + p.n) c5 (bytesV (sub T s2.rd (s2.bn + p.n)))) (h6 : OwnS w9 B 130 2 a6 N'.length c6 (cellsQ N')) : InM w9 T q Z { s2 with ba := a5, bn := s2.bn + p.n, bc := c5, la := a6, ln := N'.length, lc := c6 } N' := by
  have hc := h.cnt
  have hok := hI.ok
  unfold IOk at hok
  obtain ⟨o, p1, p2, p3, p4, _⟩ := h.pcs p (by simp)
  have hap := List.pairwise_cons.1 h.apart
  have hgp : ∀ r ∈ N', GP w9 T (s2.rd + (s2.bn + p.n) + 1) r := fun r hr => by
    obtain ⟨o', h1, h2, h3, h4, h5⟩ := ((h.pcs r (by simp [hr])).keep (fun x hx hlt => hb.block _ hlt (fun he => by have := ((h.pcs r (by simp [hr])).lt hx).1; omega))).gp hT8
    have := hap.1 r hr
    exact ⟨o', h1, by omega, h3, h4, h5⟩
  simp at hc
  exact ⟨hI9, ⟨hok.1, by simp only; omega, by simp only; omega, hok.2.2.2⟩, (h5.sl (sub_wf hT8 _ _)).2, fun x hx _ => ⟨by have := (h5.block hx).1; omega, fun h9 => by have := (h5.block hx).1; have := hZB _ h9; omega⟩, by simp only; omega, (h6.qs (fun p hp => (hgp p hp).ok (by omega))).2, rfl,
    fun x hx _ => ⟨by have := (h6.block hx).1; omega, fun h9 => by have := (h6.block hx).1; have := hZB _ h9; omega⟩, hgp,
    fun r hr x hx => ⟨by have := ((h.pcs r (by simp [hr])).lt hx).1; omega, fun h9 => by have := ((h.pcs r (by simp [hr])).lt hx).1; have := hZB _ h9; omega⟩, hap.2, hI.mx, hI.top, hI.fin, fun h9 => by simp only at h9; rw [hfr] at h9; cases h9⟩
theorem PutJ.cov2 {p : Pc} {N' : List Pc} (h : PutJ T q B s2 L (p :: N') na nc off len w w5) (hoff : p.off = (s2.rd : Int) + (s2.bn : Int)) {x : Nat} (hx : x < s2.rd + s2.bn ∨ CovL (p :: N') x) : x < s2.rd + (s2.bn + p.n) ∨ CovL N' x := by
  rcases hx with hx | ⟨r, hr, x1, x2⟩
  · exact .inl (by omega)
  · rcases List.mem_cons.1 hr with rfl | hr
    · exact .inl (by omega)
    · exact .inr ⟨r, hr, x1, x2⟩
end
set_option maxRecDepth 100000 in
set_option maxHeartbeats 2000000 in
theorem iput_any (T : List Int) (q : Nat) (Z : Nat → Prop) (s : ISt) (L : List Pc) (off len vc : Nat) (va : Option Addr) (fl : Bool) (w : World) (h : InM w T q Z s L) (hT : T.length ≤ 3000) (hT8 : ∀ x ∈ T, (Lit.int .u8 x).wf = true) (hZ : ∀ b, Z b → b < w.heap.size)
    (hsl : Sl .u8 w va vc (sub T off len)) (hvq : ∀ x, va = some x → 0 < len → x.block ≠ q) (hol : off + len ≤ T.length) (hfl : fl = true → off + len = T.length) :
    Calls Try.prog 29 #[.pointer (some ⟨q, 0, none⟩), .int .u64 off, .slice va len vc, .bool fl] w fun e w' => PutP T q Z s L off len fl w w' e := by
  obtain ⟨e0, he0⟩ : ∃ e0, off + len = e0 := ⟨_, rfl⟩
  have he0i : (off : Int) + (len : Int) = (e0 : Int) := by omega
  have hmay := imay_any q s e0 fl
  have HMAY := Lib.hid (fun W (hW : InM W T q Z s L) => imay_any q s e0 fl W hW.blk hW.ok (by rw [hW.mx]; omega) (fun h9 => ⟨by rw [hW.fin h9]; omega, fun h8 => by rw [hW.fin h9, ← he0]; exact hfl h8⟩) (fun h9 => by have := hfl h9; have := hW.top; omega))
  have HH := Lib.hid h
  have HS := Lib.hid hsl
  have HV := Lib.hid hvq
  have HZ := Lib.hid hZ
  have HT8 := Lib.hid hT8
  have HE0 := Lib.hid he0
  have HFL := Lib.hid hfl
  have hob : off ≤ 3000 := by omega
  have hlb : len ≤ 3000 := by omega
  have heb : e0 ≤ 3000 := by omega
  have hlq := h.blk.lt
  have hgt : ¬ (off : Int) > 4611686018427387903 := by omega
  clear h hsl hvq hZ hT8 he0 hfl hmay
  go_enter Try.func29, Try.ntmps29
  go_wp2_with (fail)
  refine (HMAY.out _ HH.out).mono ?_
  rintro e w1 ⟨hb1, rfl⟩
  have HI1 := Lib.hid (HH.out.below hb1)
  have B1 := Lib.hid hb1
  clear HMAY hb1
  go_wp2_with (fail)
  refine (icomes_all q s e0 fl w1 HI1.out.blk HI1.out.ok (by omega)).mono ?_
  rintro e w2 ⟨hb2, hI2, v, rfl⟩
  have HI2 := Lib.hid (HI1.out.comes hb2 hI2 (by have := HE0.out; omega) hT (fun h9 => by have := HFL.out h9; have := HE0.out; omega))
  have ON2 : Hid (Only (· = q) w w2) := Lib.hid (below_only B1.out hb2)
  have hfr2 : (comesS s e0 fl).fr = s.fr := rfl
  have hrd2 : (comesS s e0 fl).rd = s.rd := rfl
  have hbn2 : (comesS s e0 fl).bn = s.bn := rfl
  have hhf2 : (comesS s e0 fl).hf = (s.hf || fl) := rfl
  clear hb2 hI2
  generalize comesS s e0 fl = s2 at HI2 hfr2 hrd2 hbn2 hhf2
  have HF2 := Lib.hid (And.intro hfr2 (And.intro hrd2 (And.intro hbn2 hhf2)))
  have hI2 := HI2.out.blk
  unfold IB at hI2
  have c7 := hI2.cell 7 _ rfl
  have c8 := hI2.cell 8 _ rfl
  have c10 := hI2.cell 10 _ rfl
  have c2 := hI2.cell 2 _ rfl
  clear hI2 hfr2 hrd2 hbn2 hhf2
  cases hfr : s.fr with
  | true =>
    have hfr2 : s2.fr = true := HF2.out.1.trans hfr
    rw [hfr2] at c7
    have HFR := Lib.hid hfr
    clear hfr hfr2
    go_wp2_with (fail)
    go_returns
    refine ⟨ON2.out, ⟨v, rfl⟩, s2, L, HI2.out, HF2.out.2.1, HF2.out.1, fun h9 => by rw [HF2.out.2.2.2, h9]; simp, fun h9 => by rw [HF2.out.2.2.2, h9]; simp, fun h9 => ?_, fun h9 => ?_⟩
    · rw [HFR.out] at h9; cases h9
    · rw [HFR.out] at h9; cases h9
  | false =>
    have hfr2 : s2.fr = false := HF2.out.1.trans hfr
    rw [hfr2] at c7
    have HFR := Lib.hid hfr
    clear hfr hfr2
    obtain ⟨la, hla⟩ : ∃ x, s2.la = x := ⟨_, rfl⟩
    obtain ⟨ln, hln⟩ : ∃ x, s2.ln = x := ⟨_, rfl⟩
    obtain ⟨lc, hlc⟩ : ∃ x, s2.lc = x := ⟨_, rfl⟩
    rw [hla, hln, hlc] at c2
    obtain ⟨E, hE⟩ : ∃ E, s2.rd + s2.bn = E := ⟨_, rfl⟩
    have HLA := Lib.hid (And.intro hla (And.intro hln (And.intro hlc hE)))
    have hlq2 : q < w2.heap.size := by have := ON2.out.size; omega
    have hgg := fun W (hW : Below w2.heap.size w2 W) => gaps_any T q off len vc va s2 L W (HI2.out.blk.below hW) HI2.out.ok HI2.out.ln ((HI2.out.row).below hW) (fun p hp => ((HI2.out.gp p hp).below hW).mono (Nat.zero_le _)) hT hol (by have := HI2.out.cnt; omega) ((HS.out.only ON2.out (fun x hx h0 => HV.out x hx (by rw [sub_length hol] at h0; exact h0))).below hW)
    simp only [hE] at hgg
    have HGG := Lib.hid hgg
    clear hla hln hlc hgg hE
    go_wp2_with (fail)
    refine rg_start 15 ?_
    refine rg_below fun p hx hne hC hbel => ?_
    have k2 : ∀ z : Wd p, z.w.cell? ⟨q, 2, none⟩ = some (.slice la ln lc) := fun z => (hx z _ _ _ hlq2).trans c2
    refine rg_quiet 6 [0,1,2,3,4,5,6,7,8] hC ?_
    simp only [pickD, List.map_cons, List.map_nil, List.getD_cons_zero, List.getD_cons_succ]; repeat (go_big_quiet_step (fail))
    refine wpQuiet_nil ?_
    refine rg_act 9 ?_
    go_wp2_with (fail)
    refine (HGG.out _ (Below.refl _ _).drew).mono ?_
    rintro e w3 ⟨hb3, G, ga, gc, rfl, hG, hGp, hGl, hGc⟩
    have b3 : Below w2.heap.size w2 w3 := below_on (Below.refl _ _).drew hb3 (Nat.le_refl _)
    have s3 := b3.size
    obtain ⟨gn, hgn⟩ : ∃ x, G.length = x := ⟨_, rfl⟩
    have hjn := join_any T E la ga ln gn lc gc L G w3 hT HT8.out (by rw [← HLA.out.1, ← HLA.out.2.2.1]; exact HI2.out.row.below b3) hG (by rw [← HLA.out.2.1]; exact HI2.out.ln) hgn.symm (fun p hp => ((HI2.out.gp p hp).below b3).mono (by have := HLA.out.2.2.2; omega)) hGp (by have := HI2.out.cnt; omega) (by have := HI2.out.cnt; omega)
    rw [hgn]
    have HJN := Lib.hid hjn
    have B3 := Lib.hid b3
    have HGC := Lib.hid hGc
    clear hG hGp hGl hGc b3 hgn hjn HGG
    go_wp2_with (fail)
    have hC3 := hbel _ hb3
    refine ⟨hC3, ?_⟩
    clear k2
    refine rg_act 10 ?_
    go_wp2_with (fail)
    refine HJN.out.mono ?_
    rintro e w4 ⟨hb4, N, na, nc, rfl, hN, hNp, hNa, hNc⟩
    have b4 : Below w2.heap.size w2 w4 := below_on B3.out hb4 s3
    have hC4 := hbel _ (below_on hb3 hb4 hb3.size)
    have hI4 := HI2.out.below b4
    have hB4 := hI4.blk
    unfold IB at hB4
    have hset := hB4.set 2 (.slice na N.length nc)
    have ons := (Only.refl (· = q) w4).set 2 (.slice na N.length nc)
    have hx := hI4.own ons
    have hqw : q < w3.heap.size := by omega
    have hPJ : PutJ T q w3.heap.size s2 L N na nc off len w (w4.setCell ⟨q, 2, none⟩ (.slice na N.length nc)) := ⟨ON2.out.trans ((only_of_below b4 _).trans ons), hset.congr (by simp), hx.1, hN.only ons (fun x hx he => by have := (hN.block hx).1; omega), fun p hp => by
        have := hNp p hp
        rw [← HLA.out.2.2.2] at this
        exact this.keep fun x hx hlt => ons.block _ hlt (fun he => by have := ((hNp p hp).lt hx).1; omega), hNa, fun x h9 => by
      have h8 : x < E ∨ CovL L x ∨ CovL G x := by
        rcases h9 with h9 | h9
        · rcases h9 with h9 | h9
          · exact .inl (by have := HLA.out.2.2.2; omega)
          · exact .inr (.inl h9)
        · exact HGC.out x h9.1 h9.2
      rw [HLA.out.2.2.2]
      exact h8.imp id (hNc x)⟩
    obtain ⟨m, hm⟩ : ∃ x, N.length = x := ⟨_, rfl⟩
    rw [hm] at hPJ ⊢
    have HPJ := Lib.hid hPJ
    have hd4 := HI2.out.blk.below b4
    unfold IB at hd4
    have c2 := hd4.cell 2 _ rfl
    have f2 := hd4.free 2
    rw [HLA.out.1, HLA.out.2.1, HLA.out.2.2.1] at c2
    have HM := Lib.hid hm
    have hs34 : w3.heap.size ≤ w4.heap.size := hb4.size
    clear hN hNp hNa hNc hI4 hB4 hset ons hx hPJ hm hd4 HJN b4
    go_wp2_with (fail)
    refine ⟨hC4, ?_⟩
    refine rg_quiet 1 [11,12,13] hC4 ?_
    simp only [pickD, List.map_cons, List.map_nil, List.getD_cons_zero, List.getD_cons_succ]; repeat (go_big_quiet_step (fail))
    refine wpQuiet_nil ?_
    refine rg_cut 14 ?_
    clear hne hC hbel hb3 hC3 hb4 hC4
    go_wp2_with (fail)
    refine rg_end0 ?_
    go_wp2_with (fail)
    generalize w4.setCell ⟨q, 2, none⟩ (.slice na m nc) = w5 at HPJ ⊢
    have hqB : q < w3.heap.size := by omega
    have HQB := Lib.hid hqB
    have hb5 := HPJ.out.blk
    unfold IB at hb5
    have lq5 := hb5.lt
    have c0 := hb5.cell 0 _ rfl
    have c2 := hb5.cell 2 _ rfl
    simp only [HM.out] at c2
    have HRES : Hid (∀ w9 s9 L9 v, Only (· = q) w w9 → InM w9 T q Z s9 L9 → s9.rd = s2.rd → s9.fr = s2.fr → s9.hf = s2.hf → (∀ x : Nat, x < s2.rd + s2.bn ∨ CovL N x → KV s9 L9 x) → PutP T q Z s L off len fl w w9 (.returned (.tuple #[.int .u64 v, .int .i64 0]))) := Lib.hid fun w9 s9 L9 v ho hI h1 h2 h3 h4 => by
      obtain ⟨f1, f2, f3, f4⟩ := HF2.out
      refine ⟨ho, ⟨v, rfl⟩, s9, L9, hI, h1.trans f2, h2.trans f1, fun h9 => by rw [h3, f4, h9]; simp, fun h9 => by rw [h3, f4, h9]; simp, fun _ x hx => h4 x (HPJ.out.cov x (.inl ?_)), fun _ x x1 x2 => h4 x (HPJ.out.cov x (.inr ⟨x1, x2⟩))⟩
      unfold KV at hx ⊢
      rw [f2, f3]
      exact hx
    have HZ3 : Hid (∀ b, Z b → b < w3.heap.size) := Lib.hid fun b hb => by
      have := HZ.out b hb
      have := ON2.out.size
      omega
    clear hb5 f2 hs34 s3 hqw
    rcases N with _ | ⟨p, N'⟩
    · obtain rfl : m = 0 := HM.out.symm
      have HD := Lib.hid (HPJ.out.done HI2.out HT8.out hT hqB HZ3.out (by simp))
      go_wp2_with (fail)
      refine rg_start 20 ?_
      refine rg_below fun p hx hne hC hbel => ?_
      have k2 : ∀ z : Wd p, z.w.cell? ⟨q, 2, none⟩ = some (.slice na 0 nc) := fun z => (hx z _ _ _ lq5).trans c2
      refine rg_quiet 3 [0,1,2,3,4,5,6,7,8,9,10,11,12,13,14,15,16] hC ?_
      simp only [pickD, List.map_cons, List.map_nil, List.getD_cons_zero, List.getD_cons_succ]; repeat (go_big_quiet_step (fail))
      refine wpQuiet_nil ?_
      refine rg_act 17 ?_
      go_wp2_with (fail)
      refine ⟨hC, ?_⟩
      refine rg_quiet 0 [18,19] hC ?_
      simp only [pickD, List.map_cons, List.map_nil, List.getD_cons_zero, List.getD_cons_succ]; repeat (go_big_quiet_step (fail))
      refine wpQuiet_nil ?_
      refine rg_end ?_
      clear hx hne hC hbel k2
      go_wp2_with (fail)
      go_returns
      exact HRES.out _ _ [] v HPJ.out.only.drew (HD.out.below (Below.refl _ _).drew) rfl rfl rfl (fun x hx => hx)
    · obtain ⟨g, rfl, hg1, hg2, d0, d1⟩ := HPJ.out.own.headQ
      obtain ⟨o, p1, p2, p3, p4, _⟩ := HPJ.out.pcs p (by simp)
      rw [p1] at d0
      obtain ⟨m', hm'⟩ : ∃ x, N'.length = x := ⟨_, rfl⟩
      obtain rfl : m = m' + 1 := by rw [← HM.out]; simp [hm']
      have HM' := Lib.hid hm'
      have hmb : m' + 1 ≤ 3000 := by have := HPJ.out.cnt; simp at this; omega
      have hEi : (s2.rd : Int) + (s2.bn : Int) = (E : Int) := by have := HLA.out.2.2.2; omega
      have HEND : Hid (∀ W, Below w5.heap.size w5 W → _) := Lib.hid (fun W (hW : Below w5.heap.size w5 W) => iend_any q _ W (HPJ.out.blk.below hW) (by
        have hok := HI2.out.ok
        unfold IOk at hok ⊢
        exact ⟨hok.1, hok.2.1, by simp only [List.length_cons]; omega, hok.2.2.2⟩))
      simp only [hEi] at HEND
      have HP1 := Lib.hid p1
      have HEI := Lib.hid hEi
      have hob3 : o ≤ 3000 := by omega
      clear p1 p2 p3 hm' hEi
      by_cases ho : o = E
      · have hoi : ((o : Int) == (E : Int)) = true := by simp; omega
        have HO := Lib.hid ho
        clear ho
        go_wp2_with (fail)
        refine rg_start 20 ?_
        refine rg_below fun p' hx hne hC hbel => ?_
        have k2 : ∀ z : Wd p', z.w.cell? ⟨q, 2, none⟩ = some (.slice (some ⟨g, 0, none⟩) (m' + 1) nc) := fun z => (hx z _ _ _ lq5).trans c2
        have k3 : ∀ z : Wd p', z.w.cell? ⟨g, 0, none⟩ = some (.int .u64 (o : Int)) := fun z => (hx z _ _ _ hg2).trans d0
        refine rg_quiet 3 [0,1,2,3,4,5,6,7,8,9,10,11,12,13,14,15,16] hC ?_
        simp only [pickD, List.map_cons, List.map_nil, List.getD_cons_zero, List.getD_cons_succ]; repeat (go_big_quiet_step (fail))
        refine wpQuiet_nil ?_
        refine rg_act 17 ?_
        go_wp2_with (fail)
        refine (HEND.out _ (Below.refl _ _).drew).mono ?_
        rintro e w6 ⟨hb6, rfl⟩
        have b6 : Below w5.heap.size w5 w6 := below_on (Below.refl _ _).drew hb6 (Nat.le_refl _)
        have B6 := Lib.hid b6
        go_wp2_with (fail)
        have hC6 := hbel _ hb6
        refine ⟨hC6, ?_⟩
        refine rg_quiet 0 [18,19] hC6 ?_
        simp only [pickD, List.map_cons, List.map_nil, List.getD_cons_zero, List.getD_cons_succ]; repeat (go_big_quiet_step (fail))
        refine wpQuiet_nil ?_
        refine rg_end ?_
        clear hx hne hC hbel k2 k3 hC6 hb6
        obtain ⟨ba, hba⟩ : ∃ x, s2.ba = x := ⟨_, rfl⟩
        obtain ⟨bn, hbn⟩ : ∃ x, s2.bn = x := ⟨_, rfl⟩
        obtain ⟨bc, hbc⟩ : ∃ x, s2.bc = x := ⟨_, rfl⟩
        rw [hba, hbn, hbc] at c0
        have HBA := Lib.hid (And.intro hba (And.intro hbn hbc))
        clear hba hbn hbc
        have lg6 : g < w6.heap.size := by have := B6.out.size; omega
        have lq6 : q < w6.heap.size := by have := B6.out.size; omega
        have e0 := (B6.out.cell (p := ⟨q, 0, none⟩) lq5).trans c0
        have e2 := (B6.out.cell (p := ⟨q, 2, none⟩) lq5).trans c2
        have e3 := (B6.out.cell (p := ⟨g, 1, none⟩) hg2).trans d1
        go_wp2_with (fail)
        refine rg_start 20 ?_
        refine rg_below fun p' hx hne hC hbel => ?_
        have k0 : ∀ z : Wd p', z.w.cell? ⟨q, 0, none⟩ = some (.slice ba bn bc) := fun z => (hx z _ _ _ lq6).trans e0
        have k2 : ∀ z : Wd p', z.w.cell? ⟨q, 2, none⟩ = some (.slice (some ⟨g, 0, none⟩) (m' + 1) nc) := fun z => (hx z _ _ _ lq6).trans e2
        have k3 : ∀ z : Wd p', z.w.cell? ⟨g, 1, none⟩ = some (.slice p.a p.n p.c) := fun z => (hx z _ _ _ lg6).trans e3
        refine rg_quiet 6 [0,1,2,3,4,5,6,7,8,9,10,11,12,13] hC ?_
        simp only [pickD, List.map_cons, List.map_nil, List.getD_cons_zero, List.getD_cons_succ]; repeat (go_big_quiet_step (fail))
        refine wpQuiet_nil ?_
        refine rg_act 14 ?_
        go_wp2_with (fail)
        have h60 : Below w6.drew.heap.size w6.drew w6 := ⟨rfl, rfl, rfl, Nat.le_refl _, fun _ _ => rfl⟩
        refine ⟨hbel _ (h60.alloc (Nat.le_refl _) _).drew, ?_⟩
        have x7 := (Blk.new w6 #[.slice ba bn bc, .slice p.a p.n p.c] 47).drew
        have b7 : Below w6.heap.size w6 ((w6.alloc (.cells #[.slice ba bn bc, .slice p.a p.n p.c] 47)).drew) := ((Below.refl w6.heap.size w6).alloc (Nat.le_refl _) _).drew
        have b7d : Below w6.drew.heap.size w6.drew ((w6.alloc (.cells #[.slice ba bn bc, .slice p.a p.n p.c] 47)).drew) := (h60.alloc (Nat.le_refl _) _).drew
        have s7 : ((w6.alloc (.cells #[.slice ba bn bc, .slice p.a p.n p.c] 47)).drew).heap.size = w6.heap.size + 1 := alloc_size _ _
        generalize (w6.alloc (.cells #[.slice ba bn bc, .slice p.a p.n p.c] 47)).drew = w7 at x7 b7 b7d s7 ⊢
        have b57 : Below w5.heap.size w5 w7 := below_on B6.out b7 B6.out.size
        have hA : Sl .u8 w7 ba bc (sub T s2.rd bn) := by
          have := HPJ.out.buf.below b57
          rw [HBA.out.1, HBA.out.2.1, HBA.out.2.2] at this
          exact this
        have hbl : bn + s2.rd ≤ T.length := by have := HI2.out.le; have := HBA.out.2.1; omega
        obtain ⟨o9, p1, p2, p3, p4, p5⟩ := HPJ.out.pcs p (by simp)
        obtain rfl : o9 = o := by have := HP1.out; omega
        have hB : Sl .u8 w7 p.a p.c (sub T o9 p.n) := ((p5.sl (sub_wf HT8.out _ _)).2).below b57
        have hcc := bconcat2_any w6.heap.size ba p.a bn p.n bc p.c (sub T s2.rd bn) (sub T o9 p.n) w7 (by rw [sub_length (by omega)]) (by rw [sub_length p3]) x7 hA hB (by rw [sub_length (by omega)]; omega) (by rw [sub_length p3]; omega)
        rw [show o9 = s2.rd + bn by have := HO.out; have := HLA.out.2.2.2; have := HBA.out.2.1; omega, sub_append] at hcc
        have HCC := Lib.hid hcc
        have B57 := Lib.hid b57
        have hpnb : p.n ≤ 3000 := by omega
        have HBL := Lib.hid hbl
        clear x7 hA hB hcc p1 p2 p3 p5 b57 k0 k2 k3 hbl
        refine rg_act 15 ?_
        go_wp2_with (fail)
        refine HCC.out.mono ?_
        rintro e w8 ⟨hb8, a5, c5, rfl, ho8⟩
        have b58 : Below w5.heap.size w5 w8 := below_on B57.out hb8 B57.out.size
        have hC8 := hbel _ (below_on b7d hb8 b7d.size)
        have s8 := hb8.size
        have B58 := Lib.hid b58
        have hd8 := HPJ.out.blk.below b58
        unfold IB at hd8
        have e0 := hd8.cell 0 _ rfl
        have f0 := hd8.free 0
        rw [HBA.out.1, HBA.out.2.1, HBA.out.2.2] at e0
        have hset := hd8.set 0 (.slice a5 (bn + p.n) c5)
        have ons := (Only.refl (· = q) w8).set 0 (.slice a5 (bn + p.n) c5)
        have ho9 := ho8.only ons (fun x hx he => by have := (ho8.block hx).1; omega)
        have HSET := Lib.hid hset
        have ONS := Lib.hid ons
        have HO9 := Lib.hid ho9
        clear hd8 hset ons ho9 ho8 b58 HCC
        go_wp2_with (fail)
        refine ⟨hC8, ?_⟩
        refine rg_quiet 1 [16,17,18] hC8 ?_
        simp only [pickD, List.map_cons, List.map_nil, List.getD_cons_zero, List.getD_cons_succ]; repeat (go_big_quiet_step (fail))
        refine wpQuiet_nil ?_
        clear hx hne hC hbel hC8 b7d hb8 h60
        refine rg_cut 19 ?_
        go_wp2_with (fail)
        refine rg_end0 ?_
        have s9 : (w8.setCell ⟨q, 0, none⟩ (.slice a5 (bn + p.n) c5)).heap.size = w8.heap.size := by simp [World.setCell]
        generalize w8.setCell ⟨q, 0, none⟩ (.slice a5 (bn + p.n) c5) = w9 at HSET ONS HO9 s9 ⊢
        have on59 : Only (· = q) w5 w9 := below_only B58.out ONS.out
        have e2 := HSET.out.cell 2 _ rfl
        have hnp := HPJ.out.own.only on59 (fun x hx he => by have := (HPJ.out.own.block hx).1; have := HQB.out; omega)
        have hQ := ((hnp.qs (fun r hr => ((HPJ.out.pcs r hr).gp HT8.out).ok (by omega))).2).tail (by simp)
        simp only [List.drop_succ_cons, List.drop_zero] at hQ
        have hcap := hnp.caps
        simp only [List.length_cons, HM'.out] at hcap e2
        have ON59 := Lib.hid on59
        have HCB : m' + 1 ≤ nc ∧ nc ≤ 9223372036854775807 := by have := hcap; unfold maxLen at this; omega
        clear hnp on59 e0 f0 b7
        by_cases hnc : nc = 1
        · rw [if_pos hnc] at hQ
          subst hnc
          obtain rfl : m' = 0 := by omega
          have HMQ : Hid (N'.length = 0) := HM'
          have hcl := qclone_any (some ⟨g, 0, none⟩) 0 0 N' w9 HMQ.out.symm hQ (by have := HMQ.out; omega)
          rw [HMQ.out] at hcl
          have HCL := Lib.hid hcl
          clear hcl hQ hcap
          go_wp2_with (fail)
          refine HCL.out.mono ?_
          rintro e w10 ⟨hb10, a6, c6, rfl, ho10⟩
          have hset := (HSET.out.below hb10).set 2 (.slice a6 0 c6)
          have f2 := (HSET.out.below hb10).free 2
          have e2 := (HSET.out.below hb10).cell 2 _ rfl
          simp only [List.length_cons, HMQ.out] at e2
          have ons := (Only.refl (· = q) w10).set 2 (.slice a6 0 c6)
          have s10 := hb10.size
          have ho11 := ho10.only ons (fun x hx he => by have := (ho10.block hx).1; omega)
          have h511 := (HO9.out.below hb10).only ons (fun x hx he => by have := (HO9.out.block hx).1; omega)
          have on511 : Only (· = q) w5 (w10.setCell ⟨q, 2, none⟩ (.slice a6 0 c6)) := (ON59.out.trans (only_of_below hb10 _)).trans ons
          have s5 := HPJ.out.own.block (x := ⟨g, 0, none⟩) rfl
          have s37 : w3.heap.size ≤ w7.heap.size := by have := s5.1; have := s5.2.1; simp only at *; have := B57.out.size; omega
          have h9 : InM (w10.setCell ⟨q, 2, none⟩ (.slice a6 0 c6)) T q Z _ N' := HPJ.out.touch (a5 := a5) (c5 := c5) (a6 := a6) (c6 := c6) HI2.out HT8.out hT HQB.out HZ3.out (by rw [HP1.out, HEI.out, HO.out]) (HF2.out.1.trans HFR.out) on511 (by unfold IB; exact hset.congr (by simp [HBA.out.2.1, HMQ.out])) (by rw [HBA.out.2.1]; exact h511.base_le s37) (by rw [HMQ.out]; exact ho11.base_le (by omega))
          have H9 := Lib.hid h9
          have O11 := Lib.hid on511
          clear hset ons ho10 ho11 h511 on511 h9
          go_wp2_with (fail)
          go_returns
          exact HRES.out _ _ N' v (HPJ.out.only.trans O11.out) H9.out rfl rfl rfl (fun x hx => HPJ.out.cov2 (by rw [HP1.out, HEI.out, HO.out]) hx)
        · rw [if_neg hnc] at hQ
          simp only [Option.map_some, addr_add, Nat.zero_add, Nat.one_mul] at hQ
          have hcl := qclone_any (some ⟨g, 2, none⟩) m' (nc - 1) N' w9 HM'.out.symm hQ (by have := HM'.out; omega)
          rw [HM'.out] at hcl
          have HCL := Lib.hid hcl
          clear hcl hQ hcap
          go_wp2_with (fail)
          refine HCL.out.mono ?_
          rintro e w10 ⟨hb10, a6, c6, rfl, ho10⟩
          have hset := (HSET.out.below hb10).set 2 (.slice a6 m' c6)
          have f2 := (HSET.out.below hb10).free 2
          have e2 := (HSET.out.below hb10).cell 2 _ rfl
          simp only [List.length_cons, HM'.out] at e2
          have ons := (Only.refl (· = q) w10).set 2 (.slice a6 m' c6)
          have s10 := hb10.size
          have ho11 := ho10.only ons (fun x hx he => by have := (ho10.block hx).1; omega)
          have h511 := (HO9.out.below hb10).only ons (fun x hx he => by have := (HO9.out.block hx).1; omega)
          have on511 : Only (· = q) w5 (w10.setCell ⟨q, 2, none⟩ (.slice a6 m' c6)) := (ON59.out.trans (only_of_below hb10 _)).trans ons
          have s5 := HPJ.out.own.block (x := ⟨g, 0, none⟩) rfl
          have s37 : w3.heap.size ≤ w7.heap.size := by have := s5.1; have := s5.2.1; simp only at *; have := B57.out.size; omega
          have h9 : InM (w10.setCell ⟨q, 2, none⟩ (.slice a6 m' c6)) T q Z _ N' := HPJ.out.touch (a5 := a5) (c5 := c5) (a6 := a6) (c6 := c6) HI2.out HT8.out hT HQB.out HZ3.out (by rw [HP1.out, HEI.out, HO.out]) (HF2.out.1.trans HFR.out) on511 (by unfold IB; exact hset.congr (by simp [HBA.out.2.1, HM'.out])) (by rw [HBA.out.2.1]; exact h511.base_le s37) (by rw [HM'.out]; exact ho11.base_le (by omega))
          have H9 := Lib.hid h9
          have O11 := Lib.hid on511
          clear hset ons ho10 ho11 h511 on511 h9
          go_wp2_with (fail)
          go_returns
          exact HRES.out _ _ N' v (HPJ.out.only.trans O11.out) H9.out rfl rfl rfl (fun x hx => HPJ.out.cov2 (by rw [HP1.out, HEI.out, HO.out]) hx)
      · have hoi : ((o : Int) == (E : Int)) = false := by simp; omega
        have hgt : ∀ r ∈ p :: N', (s2.rd : Int) + (s2.bn : Int) + 1 ≤ r.off := fun r hr => by
          have h0 := HEI.out
          have h1 := HP1.out
          obtain ⟨o', h2, h3, _⟩ := HPJ.out.pcs p (by simp)
          rcases List.mem_cons.1 hr with rfl | hr
          · omega
          · have := (List.pairwise_cons.1 HPJ.out.apart).1 r hr
            omega
        have HD := Lib.hid (HPJ.out.done HI2.out HT8.out hT HQB.out HZ3.out hgt)
        clear hgt ho
        go_wp2_with (fail)
        refine rg_start 20 ?_
        refine rg_below fun p' hx hne hC hbel => ?_
        have k2 : ∀ z : Wd p', z.w.cell? ⟨q, 2, none⟩ = some (.slice (some ⟨g, 0, none⟩) (m' + 1) nc) := fun z => (hx z _ _ _ lq5).trans c2
        have k3 : ∀ z : Wd p', z.w.cell? ⟨g, 0, none⟩ = some (.int .u64 (o : Int)) := fun z => (hx z _ _ _ hg2).trans d0
        refine rg_quiet 3 [0,1,2,3,4,5,6,7,8,9,10,11,12,13,14,15,16] hC ?_
        simp only [pickD, List.map_cons, List.map_nil, List.getD_cons_zero, List.getD_cons_succ]; repeat (go_big_quiet_step (fail))
        refine wpQuiet_nil ?_
        refine rg_act 17 ?_
        go_wp2_with (fail)
        refine (HEND.out _ (Below.refl _ _).drew).mono ?_
        rintro e w6 ⟨hb6, rfl⟩
        have b6 : Below w5.heap.size w5 w6 := below_on (Below.refl _ _).drew hb6 (Nat.le_refl _)
        have B6 := Lib.hid b6
        go_wp2_with (fail)
        have hC6 := hbel _ hb6
        refine ⟨hC6, ?_⟩
        refine rg_quiet 0 [18,19] hC6 ?_
        simp only [pickD, List.map_cons, List.map_nil, List.getD_cons_zero, List.getD_cons_succ]; repeat (go_big_quiet_step (fail))
        refine wpQuiet_nil ?_
        refine rg_end ?_
        clear hx hne hC hbel k2 k3 hC6 hb6
        go_wp2_with (fail)
        go_returns
        exact HRES.out _ _ (p :: N') v (HPJ.out.only.trans (only_of_below B6.out _)) (HD.out.below B6.out) rfl rfl rfl (fun x hx => hx)
end Go.Proofs.Yticnjdlapioppaa
