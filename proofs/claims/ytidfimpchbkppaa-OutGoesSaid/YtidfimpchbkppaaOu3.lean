/- Out: Pick. -/
import Derived.Test.YtidfimpchbkppaaOu2
namespace Go.Proofs.Ytidfimpchbkppaa
open Go.RowKit
set_option linter.unusedVariables false

section
variable (P : Program)
theorem run_min4 (t : Array TypeId) (ty : TypeId) (k k' k'' k3 : IntKind) (x y z u : Int) (w : World) :
    (Builtin.min_ t ty #[.int k x, .int k' y, .int k'' z, .int k3 u]).run P w = .ok (.int k (min (min (min x y) z) u)) w := by
  unfold Builtin.min_
  simp only [List.foldlM_cons, List.foldlM_nil, bind_pure]
  rw [show (Builtin.min2 (.int k x) (.int k' y) >>= fun s => Builtin.min2 s (.int k'' z) >>= fun s => Builtin.min2 s (.int k3 u)) = Sem.bind (Builtin.min2 (.int k x) (.int k' y)) (fun s => Builtin.min2 s (.int k'' z) >>= fun s => Builtin.min2 s (.int k3 u)) from rfl, Sem.run_bind', min2_int]
  rw [show (Result.ok (Value.int k (min x y)) w).andThen (fun s w' => (Builtin.min2 s (.int k'' z) >>= fun s => Builtin.min2 s (.int k3 u)).run P w') = (Sem.bind (Builtin.min2 (.int k (min x y)) (.int k'' z)) (fun s => Builtin.min2 s (.int k3 u))).run P w from rfl, Sem.run_bind', min2_int]
  exact min2_int P k k3 _ u w
end
attribute [go_sem] run_min4
section
variable {P : Program} {t e : TypeId} {bytes : Nat}
theorem run_cut2 (hE : ET P t e 1 bytes) {av : Option Addr} {n cap : Nat} {kl kh : IntKind} (l m : Nat) (h1 : l ≤ m) (h2 : m ≤ cap) {li hj : Int} (e1 : li = l) (e2 : hj = m) (w : World) :
    (Instr.sliceAt t (.slice av n cap) (some (.int kl li)) (some (.int kh hj)) none).run P w = .ok (.slice (if cap = l then av else av.map (·.add (l * 1))) (m - l) (cap - l)) w := by
  subst e1 e2
  obtain ⟨ht, hz⟩ := hE.elem
  rw [run_sliceAt_slice (h := ht), run_slice_lh (ht := ht) (h0 := by omega) (h1 := by omega) (h2 := by omega), hz]
  simp [Result.andThen, sliced]
end
def PickPost (w w' : World) (e : Ending) (off : Int) (m : Nat) (fv : Bool) (D : List Int) : Prop := Below w.heap.size w w' ∧ ∃ (a' : Option Addr) (c' : Nat), e = .returned (.tuple #[.int .u64 off, .slice a' m c', .bool fv, .bool true]) ∧ OwnS w' w.heap.size 5 1 a' m c' (bytesV D)
set_option maxRecDepth 100000 in
set_option maxHeartbeats 4000000 in
/-- What was lost is picked again. -/
theorem opick_again (b : Nat) (s : OSt) (Bf DD : List Int) (room : Nat) (off : Int) (m : Nat) (fv : Bool) (w : World) (h : OB w b s) (hs : OOk s) (hbn : s.bn = Bf.length) (hbuf : Sl .u8 w s.ba s.bc Bf) (hroom : 1 ≤ room ∧ room ≤ 256) (hfin : s.fin = true) (hsent : s.sent = s.ack) (HNX : s.next ≤ s.base + s.bn) (to : Int) (LL : List Rg) (hln : s.ln = LL.length) (hR : Rs w s.la s.lc LL) (hL0 : 0 < LL.length) (hl100 : LL.length ≤ 100000) (h1 : (LL.getD 0 default).1 = off) (h2 : (LL.getD 0 default).2 = to) (hm : (m : Int) = min (room : Int) (to - off)) (hm1 : 1 ≤ m) (hoff : s.base ≤ off) (hend : off + m ≤ s.base + s.bn) (hto : off ≤ to ∧ to ≤ 200000) (hfv : fv = (decide (off + m = s.base + s.bn) && !s.ack)) (hDD : ((Bf.drop (off - s.base).toNat).take m) = DD) :
    Calls Try.prog 58 #[.pointer (some ⟨b, 0, none⟩), .int .i64 room, .int .u64 4611686018427387904] w fun e w' => PickPost w w' e off m fv DD := by
  have HE : Hid (∀ W, Below w.heap.size w W → _) := Lib.hid (fun W (hW : Below w.heap.size w W) => oend_any b s W (Blk.below h hW) hs)
  unfold OB at h
  obtain ⟨ba, bn, bc, base, next, mx, aa, an, ac, la, ln, lc, fin, sent, ack⟩ := s
  obtain ⟨g1, g2, g3, g4⟩ := hs
  simp only at *
  subst hfin hsent
  have c5 := h.cell 5 _ rfl
  have c9 := h.cell 9 _ rfl
  have lb := h.lt
  obtain ⟨en, hen⟩ : ∃ x, base + (bn : Int) = x := ⟨_, rfl⟩
  have henb : en ≤ 200000 := by omega
  rw [hen] at HE hend hfv HNX
  have HH := Lib.hid h
  clear h
  have hbl : ∃ l : Nat, off - base = l := ⟨(off - base).toNat, by omega⟩
  obtain ⟨l, hl⟩ := hbl
  have hlm : l + m ≤ bn := by omega
  have hcut := fun W => run_cut2 (P := Try.prog) u8_et (av := ba) (n := bn) (cap := bc) (kl := .u64) (kh := .u64) l (l + m) (by omega) (by have := hbuf.le; omega) (li := off - base) (hj := off - base + m) hl (by omega) W
  have hsl := hbuf.cut l (l + m) (by omega) (by omega)
  obtain ⟨a2, ha2⟩ : ∃ x, (if bc = l then ba else ba.map (·.add (l * 1))) = x := ⟨_, rfl⟩
  obtain ⟨c2, hc2⟩ : ∃ x, bc - l = x := ⟨_, rfl⟩
  have e9 : l + m - l = m := by omega
  rw [ha2, hc2, e9] at hcut hsl
  have hD : (Bf.drop l).take m = DD := by rw [← hDD, show (off - base).toNat = l by omega]
  rw [hD] at hsl
  have HSL := Lib.hid hsl
  have HDN : Hid (m = DD.length) := Lib.hid (by rw [← hD]; simp; omega)
  have HDL : Hid (DD.length ≤ 1000000) := Lib.hid (by have := HDN.out; omega)
  clear hsl hD e9 ha2 hc2 hbuf hbn hDD hl hlm hen
  have hln2 : 0 < ln ∧ ln ≤ 100000 := by omega
  have hr1 : ∀ W, Below w.heap.size w W → ∃ lg lo, la = some ⟨lg, lo, none⟩ ∧ W.cell? ⟨lg, lo, none⟩ = some (.int .u64 off) ∧ W.cell? ⟨lg, lo + 1, none⟩ = some (.int .u64 to) := fun W hW => by
    obtain ⟨lg, lo, ha, hlt, e1, e2⟩ := (hR.below hW).at_ hL0
    rw [h1, Nat.zero_mul, Nat.add_zero] at e1
    rw [h2, Nat.zero_mul, Nat.add_zero] at e2
    exact ⟨lg, lo, ha, e1, e2⟩
  obtain ⟨lg, lo, hla, _⟩ := hr1 w (Below.refl _ _)
  subst hla
  replace hr1 : ∀ W, Below w.heap.size w W → W.cell? ⟨lg, lo, none⟩ = some (.int .u64 off) ∧ W.cell? ⟨lg, lo + 1, none⟩ = some (.int .u64 to) := fun W hW => by
    obtain ⟨_, _, ha, e1, e2⟩ := hr1 W hW
    cases ha
    exact ⟨e1, e2⟩
  have hmm : min (room : Int) (to - off) = (m : Int) := hm.symm
  have hm0 : ((m : Int) == 0) = false := by simp; omega
  have hoffb : 0 ≤ off ∧ off ≤ 200000 := by omega
  clear hln hR hL0 hl100 h1 h2 hm
  by_cases he : off + m = en
  · have he' : (off + (m : Int) == en) = true := by simpa using he
    cases sent with
    | true =>
      obtain rfl : fv = false := by rw [hfv]; simp
      clear hfv
      go_enter Try.func58, Try.ntmps58
      go_wp2_with (fail)
      refine rg_start 11 ?_
      refine rg_below fun p hx hne hC hbel => ?_
      have k5 : ∀ z : Wd p, z.w.cell? ⟨b, 5, none⟩ = some (.slice (some ⟨lg, lo, none⟩) ln lc) := fun z => (hx z _ _ _ lb).trans c5
      refine rg_quiet 3 [0,2,3,4,5,6,7,8] hC ?_
      simp only [pickD, List.map_cons, List.map_nil, List.getD_cons_zero, List.getD_cons_succ]; repeat (go_big_quiet_step (fail))
      refine wpQuiet_nil ?_
      refine rg_act 1 ?_
      go_wp2_with (fail)
      refine (HE.out _ (Below.refl _ _).drew).mono ?_
      rintro e w1 ⟨hb1, rfl⟩
      have b1 : Below w.heap.size w w1 := below_on ((Below.refl _ _).drew) hb1 (Nat.le_refl _)
      have hC1 := hbel _ ⟨b1.os, b1.tape, b1.output, b1.size, b1.block⟩
      have B1 := Lib.hid b1
      clear hb1 b1
      go_wp2_with (fail)
      refine ⟨hC1, ?_⟩
      refine rg_quiet 0 [9,10] hC1 ?_
      simp only [pickD, List.map_cons, List.map_nil, List.getD_cons_zero, List.getD_cons_succ]; repeat (go_big_quiet_step (fail))
      refine wpQuiet_nil ?_
      refine rg_end ?_
      clear hx hne hC hbel hC1 k5
      have H1 := Lib.hid (HH.out.below B1.out)
      have d0 := H1.out.cell 0 _ rfl
      have d1 := H1.out.cell 1 _ rfl
      have d2 := H1.out.cell 2 _ rfl
      have d3 := H1.out.cell 3 _ rfl
      have d4 := H1.out.cell 4 _ rfl
      have d5 := H1.out.cell 5 _ rfl
      have d6 := H1.out.cell 6 _ rfl
      have d7 := H1.out.cell 7 _ rfl
      have d8 := H1.out.cell 8 _ rfl
      have d9 := H1.out.cell 9 _ rfl
      have lb1 : b < w1.heap.size := H1.out.lt
      have lr1 := hr1 w1 B1.out
      obtain ⟨r0c, r1c⟩ := lr1
      go_wp2_with (fail)
      refine rg_start 29 ?_
      refine rg_same fun p hx hne hC => ?_
      refine rg_quiet 0 [0,1,2,3,4,5,6,7,8,9,10,11,12,13,14,15,16,17,18,19,20,21,22,23,24,25,26,27,28] hC ?_
      simp only [pickD, List.map_cons, List.map_nil, List.getD_cons_zero, List.getD_cons_succ]; repeat (go_big_quiet_step (fail))
      refine wpQuiet_nil ?_
      refine rg_end ?_
      clear hx hne hC
      have b2 := below_on B1.out (Below.refl w1.heap.size w1).drew B1.out.size
      obtain ⟨w2, hw2⟩ : ∃ z, w1.drew = z := ⟨_, rfl⟩
      rw [hw2] at b2 ⊢
      have B2 := Lib.hid b2
      clear b2 hw2 d0 d1 d2 d3 d4 d5 d6 d7 d8 d9 H1 lb1 r0c r1c
      have H2 := Lib.hid (HH.out.below B2.out)
      have d0 := H2.out.cell 0 _ rfl
      have d1 := H2.out.cell 1 _ rfl
      have d2 := H2.out.cell 2 _ rfl
      have d3 := H2.out.cell 3 _ rfl
      have d4 := H2.out.cell 4 _ rfl
      have d5 := H2.out.cell 5 _ rfl
      have d6 := H2.out.cell 6 _ rfl
      have d7 := H2.out.cell 7 _ rfl
      have d8 := H2.out.cell 8 _ rfl
      have d9 := H2.out.cell 9 _ rfl
      have lb2 : b < w2.heap.size := H2.out.lt
      have lr2 := hr1 w2 B2.out
      obtain ⟨r0c, r1c⟩ := lr2
      go_wp2_with (fail)
      refine rg_start 29 ?_
      refine rg_below fun p hx hne hC hbel => ?_
      have k0 : ∀ z : Wd p, z.w.cell? ⟨b, 0, none⟩ = some (.slice ba bn bc) := fun z => (hx z _ _ _ lb2).trans d0
      have k1 : ∀ z : Wd p, z.w.cell? ⟨b, 1, none⟩ = some (.int .u64 base) := fun z => (hx z _ _ _ lb2).trans d1
      refine rg_quiet 5 [0,1,2,3,4,5,6,7,8,9,10,11,12,13,14,15,16,17,18,19,20,21,22,24] hC ?_
      simp only [pickD, List.map_cons, List.map_nil, List.getD_cons_zero, List.getD_cons_succ]; repeat (go_big_quiet_step (fail))
      refine wpQuiet_nil ?_
      refine rg_act 23 ?_
      go_wp2_with (fail)
      refine (bclone_any a2 m c2 DD _ HDN.out (HSL.out.below (below_on B2.out (Below.refl w2.heap.size w2).drew B2.out.size)) HDL.out).mono ?_
      rintro e w3 ⟨hb3, a', c', rfl, ho3⟩
      have b3 : Below w2.heap.size w2 w3 := below_on ((Below.refl _ _).drew) hb3 (Nat.le_refl _)
      have hC3 := hbel _ ⟨b3.os, b3.tape, b3.output, b3.size, b3.block⟩
      have B3 := Lib.hid b3
      have O3 := Lib.hid ho3
      clear hb3 b3 ho3
      go_wp2_with (fail)
      refine ⟨hC3, ?_⟩
      refine rg_quiet 0 [25,26,27,28] hC3 ?_
      simp only [pickD, List.map_cons, List.map_nil, List.getD_cons_zero, List.getD_cons_succ]; repeat (go_big_quiet_step (fail))
      refine wpQuiet_nil ?_
      refine rg_end ?_
      clear hx hne hC hbel hC3 k0 k1
      go_wp2_with (fail)
      go_returns
      exact ⟨below_on B2.out B3.out B2.out.size, a', c', rfl, O3.out.base_le B2.out.size⟩
    | false =>
      obtain rfl : fv = true := by rw [hfv]; simp [he]
      clear hfv
      go_enter Try.func58, Try.ntmps58
      go_wp2_with (fail)
      refine rg_start 11 ?_
      refine rg_below fun p hx hne hC hbel => ?_
      have k5 : ∀ z : Wd p, z.w.cell? ⟨b, 5, none⟩ = some (.slice (some ⟨lg, lo, none⟩) ln lc) := fun z => (hx z _ _ _ lb).trans c5
      refine rg_quiet 3 [0,2,3,4,5,6,7,8] hC ?_
      simp only [pickD, List.map_cons, List.map_nil, List.getD_cons_zero, List.getD_cons_succ]; repeat (go_big_quiet_step (fail))
      refine wpQuiet_nil ?_
      refine rg_act 1 ?_
      go_wp2_with (fail)
      refine (HE.out _ (Below.refl _ _).drew).mono ?_
      rintro e w1 ⟨hb1, rfl⟩
      have b1 : Below w.heap.size w w1 := below_on ((Below.refl _ _).drew) hb1 (Nat.le_refl _)
      have hC1 := hbel _ ⟨b1.os, b1.tape, b1.output, b1.size, b1.block⟩
      have B1 := Lib.hid b1
      clear hb1 b1
      go_wp2_with (fail)
      refine ⟨hC1, ?_⟩
      refine rg_quiet 0 [9,10] hC1 ?_
      simp only [pickD, List.map_cons, List.map_nil, List.getD_cons_zero, List.getD_cons_succ]; repeat (go_big_quiet_step (fail))
      refine wpQuiet_nil ?_
      refine rg_end ?_
      clear hx hne hC hbel hC1 k5
      have H1 := Lib.hid (HH.out.below B1.out)
      have d0 := H1.out.cell 0 _ rfl
      have d1 := H1.out.cell 1 _ rfl
      have d2 := H1.out.cell 2 _ rfl
      have d3 := H1.out.cell 3 _ rfl
      have d4 := H1.out.cell 4 _ rfl
      have d5 := H1.out.cell 5 _ rfl
      have d6 := H1.out.cell 6 _ rfl
      have d7 := H1.out.cell 7 _ rfl
      have d8 := H1.out.cell 8 _ rfl
      have d9 := H1.out.cell 9 _ rfl
      have lb1 : b < w1.heap.size := H1.out.lt
      have lr1 := hr1 w1 B1.out
      obtain ⟨r0c, r1c⟩ := lr1
      go_wp2_with (fail)
      refine rg_start 29 ?_
      refine rg_same fun p hx hne hC => ?_
      refine rg_quiet 0 [0,1,2,3,4,5,6,7,8,9,10,11,12,13,14,15,16,17,18,19,20,21,22,23,24,25,26,27,28] hC ?_
      simp only [pickD, List.map_cons, List.map_nil, List.getD_cons_zero, List.getD_cons_succ]; repeat (go_big_quiet_step (fail))
      refine wpQuiet_nil ?_
      refine rg_end ?_
      clear hx hne hC
      have b2 := below_on B1.out (Below.refl w1.heap.size w1).drew B1.out.size
      obtain ⟨w2, hw2⟩ : ∃ z, w1.drew = z := ⟨_, rfl⟩
      rw [hw2] at b2 ⊢
      have B2 := Lib.hid b2
      clear b2 hw2 d0 d1 d2 d3 d4 d5 d6 d7 d8 d9 H1 lb1 r0c r1c
      have H2 := Lib.hid (HH.out.below B2.out)
      have d0 := H2.out.cell 0 _ rfl
      have d1 := H2.out.cell 1 _ rfl
      have d2 := H2.out.cell 2 _ rfl
      have d3 := H2.out.cell 3 _ rfl
      have d4 := H2.out.cell 4 _ rfl
      have d5 := H2.out.cell 5 _ rfl
      have d6 := H2.out.cell 6 _ rfl
      have d7 := H2.out.cell 7 _ rfl
      have d8 := H2.out.cell 8 _ rfl
      have d9 := H2.out.cell 9 _ rfl
      have lb2 : b < w2.heap.size := H2.out.lt
      have lr2 := hr1 w2 B2.out
      obtain ⟨r0c, r1c⟩ := lr2
      go_wp2_with (fail)
      refine rg_start 29 ?_
      refine rg_below fun p hx hne hC hbel => ?_
      have k0 : ∀ z : Wd p, z.w.cell? ⟨b, 0, none⟩ = some (.slice ba bn bc) := fun z => (hx z _ _ _ lb2).trans d0
      have k1 : ∀ z : Wd p, z.w.cell? ⟨b, 1, none⟩ = some (.int .u64 base) := fun z => (hx z _ _ _ lb2).trans d1
      refine rg_quiet 5 [0,1,2,3,4,5,6,7,8,9,10,11,12,13,14,15,16,17,18,19,20,21,22,24] hC ?_
      simp only [pickD, List.map_cons, List.map_nil, List.getD_cons_zero, List.getD_cons_succ]; repeat (go_big_quiet_step (fail))
      refine wpQuiet_nil ?_
      refine rg_act 23 ?_
      go_wp2_with (fail)
      refine (bclone_any a2 m c2 DD _ HDN.out (HSL.out.below (below_on B2.out (Below.refl w2.heap.size w2).drew B2.out.size)) HDL.out).mono ?_
      rintro e w3 ⟨hb3, a', c', rfl, ho3⟩
      have b3 : Below w2.heap.size w2 w3 := below_on ((Below.refl _ _).drew) hb3 (Nat.le_refl _)
      have hC3 := hbel _ ⟨b3.os, b3.tape, b3.output, b3.size, b3.block⟩
      have B3 := Lib.hid b3
      have O3 := Lib.hid ho3
      clear hb3 b3 ho3
      go_wp2_with (fail)
      refine ⟨hC3, ?_⟩
      refine rg_quiet 0 [25,26,27,28] hC3 ?_
      simp only [pickD, List.map_cons, List.map_nil, List.getD_cons_zero, List.getD_cons_succ]; repeat (go_big_quiet_step (fail))
      refine wpQuiet_nil ?_
      refine rg_end ?_
      clear hx hne hC hbel hC3 k0 k1
      go_wp2_with (fail)
      go_returns
      exact ⟨below_on B2.out B3.out B2.out.size, a', c', rfl, O3.out.base_le B2.out.size⟩
  · have he' : (off + (m : Int) == en) = false := by simpa using he
    obtain rfl : fv = false := by rw [hfv]; simp [he]
    clear hfv
    go_enter Try.func58, Try.ntmps58
    go_wp2_with (fail)
    refine rg_start 11 ?_
    refine rg_below fun p hx hne hC hbel => ?_
    have k5 : ∀ z : Wd p, z.w.cell? ⟨b, 5, none⟩ = some (.slice (some ⟨lg, lo, none⟩) ln lc) := fun z => (hx z _ _ _ lb).trans c5
    refine rg_quiet 3 [0,2,3,4,5,6,7,8] hC ?_
    simp only [pickD, List.map_cons, List.map_nil, List.getD_cons_zero, List.getD_cons_succ]; repeat (go_big_quiet_step (fail))
    refine wpQuiet_nil ?_
    refine rg_act 1 ?_
    go_wp2_with (fail)
    refine (HE.out _ (Below.refl _ _).drew).mono ?_
    rintro e w1 ⟨hb1, rfl⟩
    have b1 : Below w.heap.size w w1 := below_on ((Below.refl _ _).drew) hb1 (Nat.le_refl _)
    have hC1 := hbel _ ⟨b1.os, b1.tape, b1.output, b1.size, b1.block⟩
    have B1 := Lib.hid b1
    clear hb1 b1
    go_wp2_with (fail)
    refine ⟨hC1, ?_⟩
    refine rg_quiet 0 [9,10] hC1 ?_
    simp only [pickD, List.map_cons, List.map_nil, List.getD_cons_zero, List.getD_cons_succ]; repeat (go_big_quiet_step (fail))
    refine wpQuiet_nil ?_
    refine rg_end ?_
    clear hx hne hC hbel hC1 k5
    have H1 := Lib.hid (HH.out.below B1.out)
    have d0 := H1.out.cell 0 _ rfl
    have d1 := H1.out.cell 1 _ rfl
    have d2 := H1.out.cell 2 _ rfl
    have d3 := H1.out.cell 3 _ rfl
    have d4 := H1.out.cell 4 _ rfl
    have d5 := H1.out.cell 5 _ rfl
    have d6 := H1.out.cell 6 _ rfl
    have d7 := H1.out.cell 7 _ rfl
    have d8 := H1.out.cell 8 _ rfl
    have d9 := H1.out.cell 9 _ rfl
    have lb1 : b < w1.heap.size := H1.out.lt
    have lr1 := hr1 w1 B1.out
    obtain ⟨r0c, r1c⟩ := lr1
    go_wp2_with (fail)
    refine rg_start 29 ?_
    refine rg_same fun p hx hne hC => ?_
    refine rg_quiet 0 [0,1,2,3,4,5,6,7,8,9,10,11,12,13,14,15,16,17,18,19,20,21,22,23,24,25,26,27,28] hC ?_
    simp only [pickD, List.map_cons, List.map_nil, List.getD_cons_zero, List.getD_cons_succ]; repeat (go_big_quiet_step (fail))
    refine wpQuiet_nil ?_
    refine rg_end ?_
    clear hx hne hC
    have b2 := below_on B1.out (Below.refl w1.heap.size w1).drew B1.out.size
    obtain ⟨w2, hw2⟩ : ∃ z, w1.drew = z := ⟨_, rfl⟩
    rw [hw2] at b2 ⊢
    have B2 := Lib.hid b2
    clear b2 hw2 d0 d1 d2 d3 d4 d5 d6 d7 d8 d9 H1 lb1 r0c r1c
    have H2 := Lib.hid (HH.out.below B2.out)
    have d0 := H2.out.cell 0 _ rfl
    have d1 := H2.out.cell 1 _ rfl
    have d2 := H2.out.cell 2 _ rfl
    have d3 := H2.out.cell 3 _ rfl
    have d4 := H2.out.cell 4 _ rfl
    have d5 := H2.out.cell 5 _ rfl
    have d6 := H2.out.cell 6 _ rfl
    have d7 := H2.out.cell 7 _ rfl
    have d8 := H2.out.cell 8 _ rfl
    have d9 := H2.out.cell 9 _ rfl
    have lb2 : b < w2.heap.size := H2.out.lt
    have lr2 := hr1 w2 B2.out
    obtain ⟨r0c, r1c⟩ := lr2
    go_wp2_with (fail)
    refine rg_start 29 ?_
    refine rg_below fun p hx hne hC hbel => ?_
    have k0 : ∀ z : Wd p, z.w.cell? ⟨b, 0, none⟩ = some (.slice ba bn bc) := fun z => (hx z _ _ _ lb2).trans d0
    have k1 : ∀ z : Wd p, z.w.cell? ⟨b, 1, none⟩ = some (.int .u64 base) := fun z => (hx z _ _ _ lb2).trans d1
    refine rg_quiet 5 [0,1,2,3,4,5,6,7,8,9,10,11,12,13,14,15,16,17,18,19,20,21,22,24] hC ?_
    simp only [pickD, List.map_cons, List.map_nil, List.getD_cons_zero, List.getD_cons_succ]; repeat (go_big_quiet_step (fail))
    refine wpQuiet_nil ?_
    refine rg_act 23 ?_
    go_wp2_with (fail)
    refine (bclone_any a2 m c2 DD _ HDN.out (HSL.out.below (below_on B2.out (Below.refl w2.heap.size w2).drew B2.out.size)) HDL.out).mono ?_
    rintro e w3 ⟨hb3, a', c', rfl, ho3⟩
    have b3 : Below w2.heap.size w2 w3 := below_on ((Below.refl _ _).drew) hb3 (Nat.le_refl _)
    have hC3 := hbel _ ⟨b3.os, b3.tape, b3.output, b3.size, b3.block⟩
    have B3 := Lib.hid b3
    have O3 := Lib.hid ho3
    clear hb3 b3 ho3
    go_wp2_with (fail)
    refine ⟨hC3, ?_⟩
    refine rg_quiet 0 [25,26,27,28] hC3 ?_
    simp only [pickD, List.map_cons, List.map_nil, List.getD_cons_zero, List.getD_cons_succ]; repeat (go_big_quiet_step (fail))
    refine wpQuiet_nil ?_
    refine rg_end ?_
    clear hx hne hC hbel hC3 k0 k1
    go_wp2_with (fail)
    go_returns
    exact ⟨below_on B2.out B3.out B2.out.size, a', c', rfl, O3.out.base_le B2.out.size⟩
set_option maxRecDepth 100000 in
set_option maxHeartbeats 4000000 in
/-- What is fresh is picked. -/
theorem opick_fresh (b : Nat) (s : OSt) (Bf DD : List Int) (room : Nat) (off : Int) (m : Nat) (fv : Bool) (w : World) (h : OB w b s) (hs : OOk s) (hbn : s.bn = Bf.length) (hbuf : Sl .u8 w s.ba s.bc Bf) (hroom : 1 ≤ room ∧ room ≤ 256) (hfin : s.fin = true) (hsent : s.sent = s.ack) (HNX : s.next ≤ s.base + s.bn) (hln : s.ln = 0) (hoffn : off = s.next) (hm : (m : Int) = min (room : Int) (min 4611686018427387904 (min (s.base + s.bn - s.next) (max s.mx s.next - s.next)))) (hoff : s.base ≤ s.next) (hend : off + m ≤ s.base + s.bn) (hfv : fv = (decide (off + m = s.base + s.bn) && !s.ack)) (hgo : m ≠ 0 ∨ fv = true) (hDD : ((Bf.drop (off - s.base).toNat).take m) = DD) :
    Calls Try.prog 58 #[.pointer (some ⟨b, 0, none⟩), .int .i64 room, .int .u64 4611686018427387904] w fun e w' => PickPost w w' e off m fv DD := by
  have HE : Hid (∀ W, Below w.heap.size w W → _) := Lib.hid (fun W (hW : Below w.heap.size w W) => oend_any b s W (Blk.below h hW) hs)
  unfold OB at h
  obtain ⟨ba, bn, bc, base, next, mx, aa, an, ac, la, ln, lc, fin, sent, ack⟩ := s
  obtain ⟨g1, g2, g3, g4⟩ := hs
  simp only at *
  subst hfin hsent hoffn hln
  have c5 := h.cell 5 _ rfl
  have c9 := h.cell 9 _ rfl
  have lb := h.lt
  obtain ⟨en, hen⟩ : ∃ x, base + (bn : Int) = x := ⟨_, rfl⟩
  have henb : en ≤ 200000 := by omega
  rw [hen] at HE hend hfv HNX hm
  have HH := Lib.hid h
  clear h
  have hbl : ∃ l : Nat, off - base = l := ⟨(off - base).toNat, by omega⟩
  obtain ⟨l, hl⟩ := hbl
  have hlm : l + m ≤ bn := by omega
  have hcut := fun W => run_cut2 (P := Try.prog) u8_et (av := ba) (n := bn) (cap := bc) (kl := .u64) (kh := .u64) l (l + m) (by omega) (by have := hbuf.le; omega) (li := off - base) (hj := off - base + m) hl (by omega) W
  have hsl := hbuf.cut l (l + m) (by omega) (by omega)
  obtain ⟨a2, ha2⟩ : ∃ x, (if bc = l then ba else ba.map (·.add (l * 1))) = x := ⟨_, rfl⟩
  obtain ⟨c2, hc2⟩ : ∃ x, bc - l = x := ⟨_, rfl⟩
  have e9 : l + m - l = m := by omega
  rw [ha2, hc2, e9] at hcut hsl
  have hD : (Bf.drop l).take m = DD := by rw [← hDD, show (off - base).toNat = l by omega]
  rw [hD] at hsl
  have HSL := Lib.hid hsl
  have HDN : Hid (m = DD.length) := Lib.hid (by rw [← hD]; simp; omega)
  have HDL : Hid (DD.length ≤ 1000000) := Lib.hid (by have := HDN.out; omega)
  clear hsl hD e9 ha2 hc2 hbuf hbn hDD hl hlm hen
  have hmm : min (room : Int) (min 4611686018427387904 (min (en - off) (max mx off - off))) = (m : Int) := hm.symm
  clear hm
  by_cases he : off + m = en
  · have he' : (off + (m : Int) == en) = true := by simpa using he
    cases sent with
    | true =>
      obtain rfl : fv = false := by rw [hfv]; simp
      have hm0 : ((m : Int) == 0) = false := by rcases hgo with h | h; simp; omega; cases h
      clear hfv hgo
      go_enter Try.func58, Try.ntmps58
      go_wp2_with (fail)
      refine rg_start 11 ?_
      refine rg_below fun p hx hne hC hbel => ?_
      have k5 : ∀ z : Wd p, z.w.cell? ⟨b, 5, none⟩ = some (.slice la 0 lc) := fun z => (hx z _ _ _ lb).trans c5
      refine rg_quiet 3 [0,2,3,4,5,6,7,8] hC ?_
      simp only [pickD, List.map_cons, List.map_nil, List.getD_cons_zero, List.getD_cons_succ]; repeat (go_big_quiet_step (fail))
      refine wpQuiet_nil ?_
      refine rg_act 1 ?_
      go_wp2_with (fail)
      refine (HE.out _ (Below.refl _ _).drew).mono ?_
      rintro e w1 ⟨hb1, rfl⟩
      have b1 : Below w.heap.size w w1 := below_on ((Below.refl _ _).drew) hb1 (Nat.le_refl _)
      have hC1 := hbel _ ⟨b1.os, b1.tape, b1.output, b1.size, b1.block⟩
      have B1 := Lib.hid b1
      clear hb1 b1
      go_wp2_with (fail)
      refine ⟨hC1, ?_⟩
      refine rg_quiet 0 [9,10] hC1 ?_
      simp only [pickD, List.map_cons, List.map_nil, List.getD_cons_zero, List.getD_cons_succ]; repeat (go_big_quiet_step (fail))
      refine wpQuiet_nil ?_
      refine rg_end ?_
      clear hx hne hC hbel hC1 k5
      have H1 := Lib.hid (HH.out.below B1.out)
      have d0 := H1.out.cell 0 _ rfl
      have d1 := H1.out.cell 1 _ rfl
      have d2 := H1.out.cell 2 _ rfl
      have d3 := H1.out.cell 3 _ rfl
      have d4 := H1.out.cell 4 _ rfl
      have d5 := H1.out.cell 5 _ rfl
      have d6 := H1.out.cell 6 _ rfl
      have d7 := H1.out.cell 7 _ rfl
      have d8 := H1.out.cell 8 _ rfl
      have d9 := H1.out.cell 9 _ rfl
      have lb1 : b < w1.heap.size := H1.out.lt
      go_wp2_with (fail)
      refine rg_start 29 ?_
      refine rg_same fun p hx hne hC => ?_
      refine rg_quiet 0 [0,1,2,3,4,5,6,7,8,9,10,11,12,13,14,15,16,17,18,19,20,21,22,23,24,25,26,27,28] hC ?_
      simp only [pickD, List.map_cons, List.map_nil, List.getD_cons_zero, List.getD_cons_succ]; repeat (go_big_quiet_step (fail))
      refine wpQuiet_nil ?_
      refine rg_end ?_
      clear hx hne hC
      have b2 := below_on B1.out (Below.refl w1.heap.size w1).drew B1.out.size
      obtain ⟨w2, hw2⟩ : ∃ z, w1.drew = z := ⟨_, rfl⟩
      rw [hw2] at b2 ⊢
      have B2 := Lib.hid b2
      clear b2 hw2 d0 d1 d2 d3 d4 d5 d6 d7 d8 d9 H1 lb1
      have H2 := Lib.hid (HH.out.below B2.out)
      have d0 := H2.out.cell 0 _ rfl
      have d1 := H2.out.cell 1 _ rfl
      have d2 := H2.out.cell 2 _ rfl
      have d3 := H2.out.cell 3 _ rfl
      have d4 := H2.out.cell 4 _ rfl
      have d5 := H2.out.cell 5 _ rfl
      have d6 := H2.out.cell 6 _ rfl
      have d7 := H2.out.cell 7 _ rfl
      have d8 := H2.out.cell 8 _ rfl
      have d9 := H2.out.cell 9 _ rfl
      have lb2 : b < w2.heap.size := H2.out.lt
      go_wp2_with (fail)
      refine rg_start 29 ?_
      refine rg_below fun p hx hne hC hbel => ?_
      have k0 : ∀ z : Wd p, z.w.cell? ⟨b, 0, none⟩ = some (.slice ba bn bc) := fun z => (hx z _ _ _ lb2).trans d0
      have k1 : ∀ z : Wd p, z.w.cell? ⟨b, 1, none⟩ = some (.int .u64 base) := fun z => (hx z _ _ _ lb2).trans d1
      refine rg_quiet 5 [0,1,2,3,4,5,6,7,8,9,10,11,12,13,14,15,16,17,18,19,20,21,22,24] hC ?_
      simp only [pickD, List.map_cons, List.map_nil, List.getD_cons_zero, List.getD_cons_succ]; repeat (go_big_quiet_step (fail))
      refine wpQuiet_nil ?_
      refine rg_act 23 ?_
      go_wp2_with (fail)
      refine (bclone_any a2 m c2 DD _ HDN.out (HSL.out.below (below_on B2.out (Below.refl w2.heap.size w2).drew B2.out.size)) HDL.out).mono ?_
      rintro e w3 ⟨hb3, a', c', rfl, ho3⟩
      have b3 : Below w2.heap.size w2 w3 := below_on ((Below.refl _ _).drew) hb3 (Nat.le_refl _)
      have hC3 := hbel _ ⟨b3.os, b3.tape, b3.output, b3.size, b3.block⟩
      have B3 := Lib.hid b3
      have O3 := Lib.hid ho3
      clear hb3 b3 ho3
      go_wp2_with (fail)
      refine ⟨hC3, ?_⟩
      refine rg_quiet 0 [25,26,27,28] hC3 ?_
      simp only [pickD, List.map_cons, List.map_nil, List.getD_cons_zero, List.getD_cons_succ]; repeat (go_big_quiet_step (fail))
      refine wpQuiet_nil ?_
      refine rg_end ?_
      clear hx hne hC hbel hC3 k0 k1
      go_wp2_with (fail)
      go_returns
      exact ⟨below_on B2.out B3.out B2.out.size, a', c', rfl, O3.out.base_le B2.out.size⟩
    | false =>
      obtain rfl : fv = true := by rw [hfv]; simp [he]
      clear hfv hgo
      by_cases hm0 : (m : Int) = 0
      · obtain rfl : m = 0 := by omega
        have hmm0 : min (room : Int) (min 4611686018427387904 (min (en - off) (max mx off - off))) = 0 := hmm
        have hcut0 : ∀ W, (Instr.sliceAt 46 (.slice ba bn bc) (some (.int .u64 (off - base))) (some (.int .u64 (off - base))) none).run Try.prog W = .ok (.slice a2 0 c2) W := fun W => by have := hcut W; simpa using this
        have he0 : (off == en) = true := by simp; omega
        clear hm0 hmm hcut he he'
        go_enter Try.func58, Try.ntmps58
        go_wp2_with (fail)
        refine rg_start 11 ?_
        refine rg_below fun p hx hne hC hbel => ?_
        have k5 : ∀ z : Wd p, z.w.cell? ⟨b, 5, none⟩ = some (.slice la 0 lc) := fun z => (hx z _ _ _ lb).trans c5
        refine rg_quiet 3 [0,2,3,4,5,6,7,8] hC ?_
        simp only [pickD, List.map_cons, List.map_nil, List.getD_cons_zero, List.getD_cons_succ]; repeat (go_big_quiet_step (fail))
        refine wpQuiet_nil ?_
        refine rg_act 1 ?_
        go_wp2_with (fail)
        refine (HE.out _ (Below.refl _ _).drew).mono ?_
        rintro e w1 ⟨hb1, rfl⟩
        have b1 : Below w.heap.size w w1 := below_on ((Below.refl _ _).drew) hb1 (Nat.le_refl _)
        have hC1 := hbel _ ⟨b1.os, b1.tape, b1.output, b1.size, b1.block⟩
        have B1 := Lib.hid b1
        clear hb1 b1
        go_wp2_with (fail)
        refine ⟨hC1, ?_⟩
        refine rg_quiet 0 [9,10] hC1 ?_
        simp only [pickD, List.map_cons, List.map_nil, List.getD_cons_zero, List.getD_cons_succ]; repeat (go_big_quiet_step (fail))
        refine wpQuiet_nil ?_
        refine rg_end ?_
        clear hx hne hC hbel hC1 k5
        have H1 := Lib.hid (HH.out.below B1.out)
        have d0 := H1.out.cell 0 _ rfl
        have d1 := H1.out.cell 1 _ rfl
        have d2 := H1.out.cell 2 _ rfl
        have d3 := H1.out.cell 3 _ rfl
        have d4 := H1.out.cell 4 _ rfl
        have d5 := H1.out.cell 5 _ rfl
        have d6 := H1.out.cell 6 _ rfl
        have d7 := H1.out.cell 7 _ rfl
        have d8 := H1.out.cell 8 _ rfl
        have d9 := H1.out.cell 9 _ rfl
        have lb1 : b < w1.heap.size := H1.out.lt
        go_wp2_with (fail)
        refine rg_start 29 ?_
        refine rg_same fun p hx hne hC => ?_
        refine rg_quiet 0 [0,1,2,3,4,5,6,7,8,9,10,11,12,13,14,15,16,17,18,19,20,21,22,23,24,25,26,27,28] hC ?_
        simp only [pickD, List.map_cons, List.map_nil, List.getD_cons_zero, List.getD_cons_succ]; repeat (go_big_quiet_step (fail))
        refine wpQuiet_nil ?_
        refine rg_end ?_
        clear hx hne hC
        have b2 := below_on B1.out (Below.refl w1.heap.size w1).drew B1.out.size
        obtain ⟨w2, hw2⟩ : ∃ z, w1.drew = z := ⟨_, rfl⟩
        rw [hw2] at b2 ⊢
        have B2 := Lib.hid b2
        clear b2 hw2 d0 d1 d2 d3 d4 d5 d6 d7 d8 d9 H1 lb1
        have H2 := Lib.hid (HH.out.below B2.out)
        have d0 := H2.out.cell 0 _ rfl
        have d1 := H2.out.cell 1 _ rfl
        have d2 := H2.out.cell 2 _ rfl
        have d3 := H2.out.cell 3 _ rfl
        have d4 := H2.out.cell 4 _ rfl
        have d5 := H2.out.cell 5 _ rfl
        have d6 := H2.out.cell 6 _ rfl
        have d7 := H2.out.cell 7 _ rfl
        have d8 := H2.out.cell 8 _ rfl
        have d9 := H2.out.cell 9 _ rfl
        have lb2 : b < w2.heap.size := H2.out.lt
        go_wp2_with (fail)
        refine rg_start 29 ?_
        refine rg_below fun p hx hne hC hbel => ?_
        have k0 : ∀ z : Wd p, z.w.cell? ⟨b, 0, none⟩ = some (.slice ba bn bc) := fun z => (hx z _ _ _ lb2).trans d0
        have k1 : ∀ z : Wd p, z.w.cell? ⟨b, 1, none⟩ = some (.int .u64 base) := fun z => (hx z _ _ _ lb2).trans d1
        refine rg_quiet 5 [0,1,2,3,4,5,6,7,8,9,10,11,12,13,14,15,16,17,18,19,20,21,22,24] hC ?_
        simp only [pickD, List.map_cons, List.map_nil, List.getD_cons_zero, List.getD_cons_succ]; repeat (go_big_quiet_step (fail))
        refine wpQuiet_nil ?_
        refine rg_act 23 ?_
        go_wp2_with (fail)
        refine (bclone_any a2 0 c2 DD _ HDN.out (HSL.out.below (below_on B2.out (Below.refl w2.heap.size w2).drew B2.out.size)) HDL.out).mono ?_
        rintro e w3 ⟨hb3, a', c', rfl, ho3⟩
        have b3 : Below w2.heap.size w2 w3 := below_on ((Below.refl _ _).drew) hb3 (Nat.le_refl _)
        have hC3 := hbel _ ⟨b3.os, b3.tape, b3.output, b3.size, b3.block⟩
        have B3 := Lib.hid b3
        have O3 := Lib.hid ho3
        clear hb3 b3 ho3
        go_wp2_with (fail)
        refine ⟨hC3, ?_⟩
        refine rg_quiet 0 [25,26,27,28] hC3 ?_
        simp only [pickD, List.map_cons, List.map_nil, List.getD_cons_zero, List.getD_cons_succ]; repeat (go_big_quiet_step (fail))
        refine wpQuiet_nil ?_
        refine rg_end ?_
        clear hx hne hC hbel hC3 k0 k1
        go_wp2_with (fail)
        go_returns
        exact ⟨below_on B2.out B3.out B2.out.size, a', c', rfl, O3.out.base_le B2.out.size⟩
      · have hm0' : ((m : Int) == 0) = false := by simpa using hm0
        clear hm0
        go_enter Try.func58, Try.ntmps58
        go_wp2_with (fail)
        refine rg_start 11 ?_
        refine rg_below fun p hx hne hC hbel => ?_
        have k5 : ∀ z : Wd p, z.w.cell? ⟨b, 5, none⟩ = some (.slice la 0 lc) := fun z => (hx z _ _ _ lb).trans c5
        refine rg_quiet 3 [0,2,3,4,5,6,7,8] hC ?_
        simp only [pickD, List.map_cons, List.map_nil, List.getD_cons_zero, List.getD_cons_succ]; repeat (go_big_quiet_step (fail))
        refine wpQuiet_nil ?_
        refine rg_act 1 ?_
        go_wp2_with (fail)
        refine (HE.out _ (Below.refl _ _).drew).mono ?_
        rintro e w1 ⟨hb1, rfl⟩
        have b1 : Below w.heap.size w w1 := below_on ((Below.refl _ _).drew) hb1 (Nat.le_refl _)
        have hC1 := hbel _ ⟨b1.os, b1.tape, b1.output, b1.size, b1.block⟩
        have B1 := Lib.hid b1
        clear hb1 b1
        go_wp2_with (fail)
        refine ⟨hC1, ?_⟩
        refine rg_quiet 0 [9,10] hC1 ?_
        simp only [pickD, List.map_cons, List.map_nil, List.getD_cons_zero, List.getD_cons_succ]; repeat (go_big_quiet_step (fail))
        refine wpQuiet_nil ?_
        refine rg_end ?_
        clear hx hne hC hbel hC1 k5
        have H1 := Lib.hid (HH.out.below B1.out)
        have d0 := H1.out.cell 0 _ rfl
        have d1 := H1.out.cell 1 _ rfl
        have d2 := H1.out.cell 2 _ rfl
        have d3 := H1.out.cell 3 _ rfl
        have d4 := H1.out.cell 4 _ rfl
        have d5 := H1.out.cell 5 _ rfl
        have d6 := H1.out.cell 6 _ rfl
        have d7 := H1.out.cell 7 _ rfl
        have d8 := H1.out.cell 8 _ rfl
        have d9 := H1.out.cell 9 _ rfl
        have lb1 : b < w1.heap.size := H1.out.lt
        go_wp2_with (fail)
        refine rg_start 29 ?_
        refine rg_same fun p hx hne hC => ?_
        refine rg_quiet 0 [0,1,2,3,4,5,6,7,8,9,10,11,12,13,14,15,16,17,18,19,20,21,22,23,24,25,26,27,28] hC ?_
        simp only [pickD, List.map_cons, List.map_nil, List.getD_cons_zero, List.getD_cons_succ]; repeat (go_big_quiet_step (fail))
        refine wpQuiet_nil ?_
        refine rg_end ?_
        clear hx hne hC
        have b2 := below_on B1.out (Below.refl w1.heap.size w1).drew B1.out.size
        obtain ⟨w2, hw2⟩ : ∃ z, w1.drew = z := ⟨_, rfl⟩
        rw [hw2] at b2 ⊢
        have B2 := Lib.hid b2
        clear b2 hw2 d0 d1 d2 d3 d4 d5 d6 d7 d8 d9 H1 lb1
        have H2 := Lib.hid (HH.out.below B2.out)
        have d0 := H2.out.cell 0 _ rfl
        have d1 := H2.out.cell 1 _ rfl
        have d2 := H2.out.cell 2 _ rfl
        have d3 := H2.out.cell 3 _ rfl
        have d4 := H2.out.cell 4 _ rfl
        have d5 := H2.out.cell 5 _ rfl
        have d6 := H2.out.cell 6 _ rfl
        have d7 := H2.out.cell 7 _ rfl
        have d8 := H2.out.cell 8 _ rfl
        have d9 := H2.out.cell 9 _ rfl
        have lb2 : b < w2.heap.size := H2.out.lt
        go_wp2_with (fail)
        refine rg_start 29 ?_
        refine rg_below fun p hx hne hC hbel => ?_
        have k0 : ∀ z : Wd p, z.w.cell? ⟨b, 0, none⟩ = some (.slice ba bn bc) := fun z => (hx z _ _ _ lb2).trans d0
        have k1 : ∀ z : Wd p, z.w.cell? ⟨b, 1, none⟩ = some (.int .u64 base) := fun z => (hx z _ _ _ lb2).trans d1
        refine rg_quiet 5 [0,1,2,3,4,5,6,7,8,9,10,11,12,13,14,15,16,17,18,19,20,21,22,24] hC ?_
        simp only [pickD, List.map_cons, List.map_nil, List.getD_cons_zero, List.getD_cons_succ]; repeat (go_big_quiet_step (fail))
        refine wpQuiet_nil ?_
        refine rg_act 23 ?_
        go_wp2_with (fail)
        refine (bclone_any a2 m c2 DD _ HDN.out (HSL.out.below (below_on B2.out (Below.refl w2.heap.size w2).drew B2.out.size)) HDL.out).mono ?_
        rintro e w3 ⟨hb3, a', c', rfl, ho3⟩
        have b3 : Below w2.heap.size w2 w3 := below_on ((Below.refl _ _).drew) hb3 (Nat.le_refl _)
        have hC3 := hbel _ ⟨b3.os, b3.tape, b3.output, b3.size, b3.block⟩
        have B3 := Lib.hid b3
        have O3 := Lib.hid ho3
        clear hb3 b3 ho3
        go_wp2_with (fail)
        refine ⟨hC3, ?_⟩
        refine rg_quiet 0 [25,26,27,28] hC3 ?_
        simp only [pickD, List.map_cons, List.map_nil, List.getD_cons_zero, List.getD_cons_succ]; repeat (go_big_quiet_step (fail))
        refine wpQuiet_nil ?_
        refine rg_end ?_
        clear hx hne hC hbel hC3 k0 k1
        go_wp2_with (fail)
        go_returns
        exact ⟨below_on B2.out B3.out B2.out.size, a', c', rfl, O3.out.base_le B2.out.size⟩
  · have he' : (off + (m : Int) == en) = false := by simpa using he
    obtain rfl : fv = false := by rw [hfv]; simp [he]
    have hm0 : ((m : Int) == 0) = false := by rcases hgo with h | h; simp; omega; cases h
    clear hfv hgo
    go_enter Try.func58, Try.ntmps58
    go_wp2_with (fail)
    refine rg_start 11 ?_
    refine rg_below fun p hx hne hC hbel => ?_
    have k5 : ∀ z : Wd p, z.w.cell? ⟨b, 5, none⟩ = some (.slice la 0 lc) := fun z => (hx z _ _ _ lb).trans c5
    refine rg_quiet 3 [0,2,3,4,5,6,7,8] hC ?_
    simp only [pickD, List.map_cons, List.map_nil, List.getD_cons_zero, List.getD_cons_succ]; repeat (go_big_quiet_step (fail))
    refine wpQuiet_nil ?_
    refine rg_act 1 ?_
    go_wp2_with (fail)
    refine (HE.out _ (Below.refl _ _).drew).mono ?_
    rintro e w1 ⟨hb1, rfl⟩
    have b1 : Below w.heap.size w w1 := below_on ((Below.refl _ _).drew) hb1 (Nat.le_refl _)
    have hC1 := hbel _ ⟨b1.os, b1.tape, b1.output, b1.size, b1.block⟩
    have B1 := Lib.hid b1
    clear hb1 b1
    go_wp2_with (fail)
    refine ⟨hC1, ?_⟩
    refine rg_quiet 0 [9,10] hC1 ?_
    simp only [pickD, List.map_cons, List.map_nil, List.getD_cons_zero, List.getD_cons_succ]; repeat (go_big_quiet_step (fail))
    refine wpQuiet_nil ?_
    refine rg_end ?_
    clear hx hne hC hbel hC1 k5
    have H1 := Lib.hid (HH.out.below B1.out)
    have d0 := H1.out.cell 0 _ rfl
    have d1 := H1.out.cell 1 _ rfl
    have d2 := H1.out.cell 2 _ rfl
    have d3 := H1.out.cell 3 _ rfl
    have d4 := H1.out.cell 4 _ rfl
    have d5 := H1.out.cell 5 _ rfl
    have d6 := H1.out.cell 6 _ rfl
    have d7 := H1.out.cell 7 _ rfl
    have d8 := H1.out.cell 8 _ rfl
    have d9 := H1.out.cell 9 _ rfl
    have lb1 : b < w1.heap.size := H1.out.lt
    go_wp2_with (fail)
    refine rg_start 29 ?_
    refine rg_same fun p hx hne hC => ?_
    refine rg_quiet 0 [0,1,2,3,4,5,6,7,8,9,10,11,12,13,14,15,16,17,18,19,20,21,22,23,24,25,26,27,28] hC ?_
    simp only [pickD, List.map_cons, List.map_nil, List.getD_cons_zero, List.getD_cons_succ]; repeat (go_big_quiet_step (fail))
    refine wpQuiet_nil ?_
    refine rg_end ?_
    clear hx hne hC
    have b2 := below_on B1.out (Below.refl w1.heap.size w1).drew B1.out.size
    obtain ⟨w2, hw2⟩ : ∃ z, w1.drew = z := ⟨_, rfl⟩
    rw [hw2] at b2 ⊢
    have B2 := Lib.hid b2
    clear b2 hw2 d0 d1 d2 d3 d4 d5 d6 d7 d8 d9 H1 lb1
    have H2 := Lib.hid (HH.out.below B2.out)
    have d0 := H2.out.cell 0 _ rfl
    have d1 := H2.out.cell 1 _ rfl
    have d2 := H2.out.cell 2 _ rfl
    have d3 := H2.out.cell 3 _ rfl
    have d4 := H2.out.cell 4 _ rfl
    have d5 := H2.out.cell 5 _ rfl
    have d6 := H2.out.cell 6 _ rfl
    have d7 := H2.out.cell 7 _ rfl
    have d8 := H2.out.cell 8 _ rfl
    have d9 := H2.out.cell 9 _ rfl
    have lb2 : b < w2.heap.size := H2.out.lt
    go_wp2_with (fail)
    refine rg_start 29 ?_
    refine rg_below fun p hx hne hC hbel => ?_
    have k0 : ∀ z : Wd p, z.w.cell? ⟨b, 0, none⟩ = some (.slice ba bn bc) := fun z => (hx z _ _ _ lb2).trans d0
    have k1 : ∀ z : Wd p, z.w.cell? ⟨b, 1, none⟩ = some (.int .u64 base) := fun z => (hx z _ _ _ lb2).trans d1
    refine rg_quiet 5 [0,1,2,3,4,5,6,7,8,9,10,11,12,13,14,15,16,17,18,19,20,21,22,24] hC ?_
    simp only [pickD, List.map_cons, List.map_nil, List.getD_cons_zero, List.getD_cons_succ]; repeat (go_big_quiet_step (fail))
    refine wpQuiet_nil ?_
    refine rg_act 23 ?_
    go_wp2_with (fail)
    refine (bclone_any a2 m c2 DD _ HDN.out (HSL.out.below (below_on B2.out (Below.refl w2.heap.size w2).drew B2.out.size)) HDL.out).mono ?_
    rintro e w3 ⟨hb3, a', c', rfl, ho3⟩
    have b3 : Below w2.heap.size w2 w3 := below_on ((Below.refl _ _).drew) hb3 (Nat.le_refl _)
    have hC3 := hbel _ ⟨b3.os, b3.tape, b3.output, b3.size, b3.block⟩
    have B3 := Lib.hid b3
    have O3 := Lib.hid ho3
    clear hb3 b3 ho3
    go_wp2_with (fail)
    refine ⟨hC3, ?_⟩
    refine rg_quiet 0 [25,26,27,28] hC3 ?_
    simp only [pickD, List.map_cons, List.map_nil, List.getD_cons_zero, List.getD_cons_succ]; repeat (go_big_quiet_step (fail))
    refine wpQuiet_nil ?_
    refine rg_end ?_
    clear hx hne hC hbel hC3 k0 k1
    go_wp2_with (fail)
    go_returns
    exact ⟨below_on B2.out B3.out B2.out.size, a', c', rfl, O3.out.base_le B2.out.size⟩
set_option maxRecDepth 100000 in
set_option maxHeartbeats 4000000 in
/-- Nothing is picked. -/
theorem opick_none (b : Nat) (s : OSt) (room : Nat) (w : World) (h : OB w b s) (hs : OOk s) (hroom : 1 ≤ room ∧ room ≤ 256) (hfin : s.fin = true) (hsent : s.sent = s.ack) (HNX : s.next ≤ s.base + s.bn) (hln : s.ln = 0) (hm : min (room : Int) (min 4611686018427387904 (min (s.base + s.bn - s.next) (max s.mx s.next - s.next))) = 0) (hno : s.next = s.base + s.bn → s.ack = true) :
    Calls Try.prog 58 #[.pointer (some ⟨b, 0, none⟩), .int .i64 room, .int .u64 4611686018427387904] w fun e w' => Below w.heap.size w w' ∧ e = .returned (.tuple #[.int .u64 0, .slice none 0 0, .bool false, .bool false]) := by
  have HE : Hid (∀ W, Below w.heap.size w W → _) := Lib.hid (fun W (hW : Below w.heap.size w W) => oend_any b s W (Blk.below h hW) hs)
  unfold OB at h
  obtain ⟨ba, bn, bc, base, next, mx, aa, an, ac, la, ln, lc, fin, sent, ack⟩ := s
  obtain ⟨g1, g2, g3, g4⟩ := hs
  simp only at *
  subst hfin hsent hln
  have c5 := h.cell 5 _ rfl
  have c9 := h.cell 9 _ rfl
  have lb := h.lt
  obtain ⟨en, hen⟩ : ∃ x, base + (bn : Int) = x := ⟨_, rfl⟩
  have henb : en ≤ 200000 := by omega
  rw [hen] at HE HNX hm hno
  have HH := Lib.hid h
  clear h
  clear hen
  by_cases he : next = en
  · have he' : (next == en) = true := by simpa using he
    obtain rfl : sent = true := hno he
    clear hno
    go_enter Try.func58, Try.ntmps58
    go_wp2_with (fail)
    refine rg_start 11 ?_
    refine rg_below fun p hx hne hC hbel => ?_
    have k5 : ∀ z : Wd p, z.w.cell? ⟨b, 5, none⟩ = some (.slice la 0 lc) := fun z => (hx z _ _ _ lb).trans c5
    refine rg_quiet 3 [0,2,3,4,5,6,7,8] hC ?_
    simp only [pickD, List.map_cons, List.map_nil, List.getD_cons_zero, List.getD_cons_succ]; repeat (go_big_quiet_step (fail))
    refine wpQuiet_nil ?_
    refine rg_act 1 ?_
    go_wp2_with (fail)
    refine (HE.out _ (Below.refl _ _).drew).mono ?_
    rintro e w1 ⟨hb1, rfl⟩
    have b1 : Below w.heap.size w w1 := below_on ((Below.refl _ _).drew) hb1 (Nat.le_refl _)
    have hC1 := hbel _ ⟨b1.os, b1.tape, b1.output, b1.size, b1.block⟩
    have B1 := Lib.hid b1
    clear hb1 b1
    go_wp2_with (fail)
    refine ⟨hC1, ?_⟩
    refine rg_quiet 0 [9,10] hC1 ?_
    simp only [pickD, List.map_cons, List.map_nil, List.getD_cons_zero, List.getD_cons_succ]; repeat (go_big_quiet_step (fail))
    refine wpQuiet_nil ?_
    refine rg_end ?_
    clear hx hne hC hbel hC1 k5
    have H1 := Lib.hid (HH.out.below B1.out)
    have d0 := H1.out.cell 0 _ rfl
    have d1 := H1.out.cell 1 _ rfl
    have d2 := H1.out.cell 2 _ rfl
    have d3 := H1.out.cell 3 _ rfl
    have d4 := H1.out.cell 4 _ rfl
    have d5 := H1.out.cell 5 _ rfl
    have d6 := H1.out.cell 6 _ rfl
    have d7 := H1.out.cell 7 _ rfl
    have d8 := H1.out.cell 8 _ rfl
    have d9 := H1.out.cell 9 _ rfl
    have lb1 : b < w1.heap.size := H1.out.lt
    go_wp2_with (fail)
    refine rg_start 29 ?_
    refine rg_same fun p hx hne hC => ?_
    refine rg_quiet 0 [0,1,2,3,4,5,6,7,8,9,10,11,12,13,14,15,16,17,18,19,20,21,22,23,24,25,26,27,28] hC ?_
    simp only [pickD, List.map_cons, List.map_nil, List.getD_cons_zero, List.getD_cons_succ]; repeat (go_big_quiet_step (fail))
    refine wpQuiet_nil ?_
    refine rg_end ?_
    clear hx hne hC
    have b2 := below_on B1.out (Below.refl w1.heap.size w1).drew B1.out.size
    obtain ⟨w2, hw2⟩ : ∃ z, w1.drew = z := ⟨_, rfl⟩
    rw [hw2] at b2 ⊢
    have B2 := Lib.hid b2
    clear b2 hw2 d0 d1 d2 d3 d4 d5 d6 d7 d8 d9 H1 lb1
    have H2 := Lib.hid (HH.out.below B2.out)
    have d0 := H2.out.cell 0 _ rfl
    have d1 := H2.out.cell 1 _ rfl
    have d2 := H2.out.cell 2 _ rfl
    have d3 := H2.out.cell 3 _ rfl
    have d4 := H2.out.cell 4 _ rfl
    have d5 := H2.out.cell 5 _ rfl
    have d6 := H2.out.cell 6 _ rfl
    have d7 := H2.out.cell 7 _ rfl
    have d8 := H2.out.cell 8 _ rfl
    have d9 := H2.out.cell 9 _ rfl
    have lb2 : b < w2.heap.size := H2.out.lt
    go_wp2_with (fail)
    go_returns
    exact ⟨B2.out, rfl⟩
  · have he' : (next == en) = false := by simpa using he
    clear hno
    cases sent with
    | true =>
      go_enter Try.func58, Try.ntmps58
      go_wp2_with (fail)
      refine rg_start 11 ?_
      refine rg_below fun p hx hne hC hbel => ?_
      have k5 : ∀ z : Wd p, z.w.cell? ⟨b, 5, none⟩ = some (.slice la 0 lc) := fun z => (hx z _ _ _ lb).trans c5
      refine rg_quiet 3 [0,2,3,4,5,6,7,8] hC ?_
      simp only [pickD, List.map_cons, List.map_nil, List.getD_cons_zero, List.getD_cons_succ]; repeat (go_big_quiet_step (fail))
      refine wpQuiet_nil ?_
      refine rg_act 1 ?_
      go_wp2_with (fail)
      refine (HE.out _ (Below.refl _ _).drew).mono ?_
      rintro e w1 ⟨hb1, rfl⟩
      have b1 : Below w.heap.size w w1 := below_on ((Below.refl _ _).drew) hb1 (Nat.le_refl _)
      have hC1 := hbel _ ⟨b1.os, b1.tape, b1.output, b1.size, b1.block⟩
      have B1 := Lib.hid b1
      clear hb1 b1
      go_wp2_with (fail)
      refine ⟨hC1, ?_⟩
      refine rg_quiet 0 [9,10] hC1 ?_
      simp only [pickD, List.map_cons, List.map_nil, List.getD_cons_zero, List.getD_cons_succ]; repeat (go_big_quiet_step (fail))
      refine wpQuiet_nil ?_
      refine rg_end ?_
      clear hx hne hC hbel hC1 k5
      have H1 := Lib.hid (HH.out.below B1.out)
      have d0 := H1.out.cell 0 _ rfl
      have d1 := H1.out.cell 1 _ rfl
      have d2 := H1.out.cell 2 _ rfl
      have d3 := H1.out.cell 3 _ rfl
      have d4 := H1.out.cell 4 _ rfl
      have d5 := H1.out.cell 5 _ rfl
      have d6 := H1.out.cell 6 _ rfl
      have d7 := H1.out.cell 7 _ rfl
      have d8 := H1.out.cell 8 _ rfl
      have d9 := H1.out.cell 9 _ rfl
      have lb1 : b < w1.heap.size := H1.out.lt
      go_wp2_with (fail)
      refine rg_start 29 ?_
      refine rg_same fun p hx hne hC => ?_
      refine rg_quiet 0 [0,1,2,3,4,5,6,7,8,9,10,11,12,13,14,15,16,17,18,19,20,21,22,23,24,25,26,27,28] hC ?_
      simp only [pickD, List.map_cons, List.map_nil, List.getD_cons_zero, List.getD_cons_succ]; repeat (go_big_quiet_step (fail))
      refine wpQuiet_nil ?_
      refine rg_end ?_
      clear hx hne hC
      have b2 := below_on B1.out (Below.refl w1.heap.size w1).drew B1.out.size
      obtain ⟨w2, hw2⟩ : ∃ z, w1.drew = z := ⟨_, rfl⟩
      rw [hw2] at b2 ⊢
      have B2 := Lib.hid b2
      clear b2 hw2 d0 d1 d2 d3 d4 d5 d6 d7 d8 d9 H1 lb1
      have H2 := Lib.hid (HH.out.below B2.out)
      have d0 := H2.out.cell 0 _ rfl
      have d1 := H2.out.cell 1 _ rfl
      have d2 := H2.out.cell 2 _ rfl
      have d3 := H2.out.cell 3 _ rfl
      have d4 := H2.out.cell 4 _ rfl
      have d5 := H2.out.cell 5 _ rfl
      have d6 := H2.out.cell 6 _ rfl
      have d7 := H2.out.cell 7 _ rfl
      have d8 := H2.out.cell 8 _ rfl
      have d9 := H2.out.cell 9 _ rfl
      have lb2 : b < w2.heap.size := H2.out.lt
      go_wp2_with (fail)
      go_returns
      exact ⟨B2.out, rfl⟩
    | false =>
      go_enter Try.func58, Try.ntmps58
      go_wp2_with (fail)
      refine rg_start 11 ?_
      refine rg_below fun p hx hne hC hbel => ?_
      have k5 : ∀ z : Wd p, z.w.cell? ⟨b, 5, none⟩ = some (.slice la 0 lc) := fun z => (hx z _ _ _ lb).trans c5
      refine rg_quiet 3 [0,2,3,4,5,6,7,8] hC ?_
      simp only [pickD, List.map_cons, List.map_nil, List.getD_cons_zero, List.getD_cons_succ]; repeat (go_big_quiet_step (fail))
      refine wpQuiet_nil ?_
      refine rg_act 1 ?_
      go_wp2_with (fail)
      refine (HE.out _ (Below.refl _ _).drew).mono ?_
      rintro e w1 ⟨hb1, rfl⟩
      have b1 : Below w.heap.size w w1 := below_on ((Below.refl _ _).drew) hb1 (Nat.le_refl _)
      have hC1 := hbel _ ⟨b1.os, b1.tape, b1.output, b1.size, b1.block⟩
      have B1 := Lib.hid b1
      clear hb1 b1
      go_wp2_with (fail)
      refine ⟨hC1, ?_⟩
      refine rg_quiet 0 [9,10] hC1 ?_
      simp only [pickD, List.map_cons, List.map_nil, List.getD_cons_zero, List.getD_cons_succ]; repeat (go_big_quiet_step (fail))
      refine wpQuiet_nil ?_
      refine rg_end ?_
      clear hx hne hC hbel hC1 k5
      have H1 := Lib.hid (HH.out.below B1.out)
      have d0 := H1.out.cell 0 _ rfl
      have d1 := H1.out.cell 1 _ rfl
      have d2 := H1.out.cell 2 _ rfl
      have d3 := H1.out.cell 3 _ rfl
      have d4 := H1.out.cell 4 _ rfl
      have d5 := H1.out.cell 5 _ rfl
      have d6 := H1.out.cell 6 _ rfl
      have d7 := H1.out.cell 7 _ rfl
      have d8 := H1.out.cell 8 _ rfl
      have d9 := H1.out.cell 9 _ rfl
      have lb1 : b < w1.heap.size := H1.out.lt
      go_wp2_with (fail)
      refine rg_start 29 ?_
      refine rg_same fun p hx hne hC => ?_
      refine rg_quiet 0 [0,1,2,3,4,5,6,7,8,9,10,11,12,13,14,15,16,17,18,19,20,21,22,23,24,25,26,27,28] hC ?_
      simp only [pickD, List.map_cons, List.map_nil, List.getD_cons_zero, List.getD_cons_succ]; repeat (go_big_quiet_step (fail))
      refine wpQuiet_nil ?_
      refine rg_end ?_
      clear hx hne hC
      have b2 := below_on B1.out (Below.refl w1.heap.size w1).drew B1.out.size
      obtain ⟨w2, hw2⟩ : ∃ z, w1.drew = z := ⟨_, rfl⟩
      rw [hw2] at b2 ⊢
      have B2 := Lib.hid b2
      clear b2 hw2 d0 d1 d2 d3 d4 d5 d6 d7 d8 d9 H1 lb1
      have H2 := Lib.hid (HH.out.below B2.out)
      have d0 := H2.out.cell 0 _ rfl
      have d1 := H2.out.cell 1 _ rfl
      have d2 := H2.out.cell 2 _ rfl
      have d3 := H2.out.cell 3 _ rfl
      have d4 := H2.out.cell 4 _ rfl
      have d5 := H2.out.cell 5 _ rfl
      have d6 := H2.out.cell 6 _ rfl
      have d7 := H2.out.cell 7 _ rfl
      have d8 := H2.out.cell 8 _ rfl
      have d9 := H2.out.cell 9 _ rfl
      have lb2 : b < w2.heap.size := H2.out.lt
      go_wp2_with (fail)
      go_returns
      exact ⟨B2.out, rfl⟩
end Go.Proofs.Ytidfimpchbkppaa
