/- A set of streams: Take. -/
import Derived.Test.YtgpnfdeneagdbaaGreatCo17
namespace Go.Proofs.YtgpnfdeneagdbaaGreat
open Go.RowKit
set_option linter.unusedVariables false
theorem at_pos {L : List Strm} {id : Nat} (hA : Asc L) (h : hasL id L = true) : ∃ x, L[posL id L]? = some x ∧ x.id = id ∧ L.getD (posL id L) default = x := by
  obtain ⟨h1, h2⟩ := (hasL_iff id hA).1 h
  refine ⟨L[posL id L], by simp, ?_, by simp [h1]⟩
  have e : L.getD (posL id L) default = L[posL id L] := by simp [h1]
  rw [e] at h2; exact h2
def TkPost (s base : Nat) (sv : Bool) (own peer may cn : Nat → Nat) (ok : Bool) (id : Nat) (w : World) (e : Ending) (w' : World) : Prop :=
  e = .returned (.int .u64 (thereC sv may cn ok id : Nat)) ∧ SetIs (fun _ => True) w' s base sv own peer may (thereN sv may cn ok id) ∧ Only (· = s) w w'
theorem thereN_has {sv : Bool} {may cn : Nat → Nat} {ok : Bool} {id : Nat} {L : List Strm} (hC : thereC sv may cn ok id = 0) (h : OpI (thereN sv may cn ok id) L) : hasL id L = true := by
  rw [h.has, decide_eq_true_iff]
  unfold thereN
  rw [if_pos hC, bump_self]; omega
theorem SetIs.weak {Q : Nat → Prop} {w : World} {s base : Nat} {sv : Bool} {own peer may cn : Nat → Nat} (h : SetIs Q w s base sv own peer may cn) : SetIs (fun _ => True) w s base sv own peer may cn := by
  obtain ⟨cs, a, n, cap, L, h1, h2, h3, h4⟩ := h
  exact ⟨cs, a, n, cap, L, h1, h2, h3, fun _ _ => trivial⟩
theorem StAt.blkOnly {w w' : World} {s base n cap b : Nat} {sv : Bool} {own peer : Nat → Nat} {cs : Array Value} {a : Option Addr} {L : List Strm} (h : StAt w s base sv own peer cs a n cap L) (ho : Only (· = b) w w') (hs : s ≠ b) (ha : ∀ y, a = some y → y.block ≠ b) : StAt w' s base sv own peer cs a n cap L :=
  ⟨ho.blk h.blk hs, h.srv, h.o, h.p, h.l, h.row.only ho ha, h.len, h.off, Nat.le_trans h.bs ho.size⟩
theorem OpI.len80 {cs : Array Value} {sv : Bool} {may cn : Nat → Nat} {L : List Strm} (hI : StI cs sv may cn) (h : OpI cn L) : L.length ≤ 250 := by
  have h0 := hI.le 0 (by omega)
  have h1 := hI.le 1 (by omega)
  have h2 := hI.le 2 (by omega)
  have h3 := hI.le 3 (by omega)
  have g0 := hI.m20 0 (by omega)
  have g1 := hI.m20 1 (by omega)
  have g2 := hI.m20 2 (by omega)
  have g3 := hI.m20 3 (by omega)
  have hl := h.len
  omega
set_option maxRecDepth 100000 in
set_option maxHeartbeats 8000000 in
theorem take8_any (s base : Nat) (sv : Bool) (own peer may cn : Nat → Nat) (cs : Array Value) (a : Option Addr) (n cap : Nat) (L : List Strm) (fc : List Value) (id mx : Nat) (w : World) (h : StAt w s base sv own peer cs a n cap L) (hI : StI cs sv may cn) (hL : OpI cn L) (hid : id < 18446744073709551616) (hf : FrC fc 8 id mx) :
    Calls Tryz.prog 10 #[.pointer (some ⟨s, 0, none⟩), .agg fc.toArray] w fun e w' => TkPost s base sv own peer may cn (recvB sv id) id w e w' := by
  have H := Lib.hid h
  have HI := Lib.hid hI
  have HL := Lib.hid hL
  have HF := Lib.hid hf
  have lsw := h.blk.lt
  clear h hI hL hf
  obtain ⟨ok, hok⟩ : ∃ ok, recvB sv id = ok := ⟨_, rfl⟩
  rw [hok]
  obtain ⟨C, hC⟩ : ∃ C, thereC sv may cn ok id = C := ⟨_, rfl⟩
  have HAS : Hid (C = 0 → ∀ LL, OpI (thereN sv may cn ok id) LL → hasL id LL = true) := Lib.hid (fun e LL hh => thereN_has (hC.trans e) hh)
  unfold TkPost
  rw [hC]
  have hC8 : C < 18446744073709551616 := by rw [← hC]; unfold thereC; (repeat' split) <;> omega
  have HOK := Lib.hid hok
  have HCC := Lib.hid hC
  clear hok hC
  go_enter Tryz.func10, Tryz.ntmps10
  go_upto_region 3 with (fail)
  have z1 : (w.alloc (.cells #[.pointer (some ⟨s, 0, none⟩)] 32)).heap.size = w.heap.size + 1 := alloc_size' _ _
  have z2 : ((w.alloc (.cells #[.pointer (some ⟨s, 0, none⟩)] 32)).alloc (.cells fc.toArray 45)).heap.size = w.heap.size + 1 + 1 := by rw [alloc_size', z1]
  have z3 : (((w.alloc (.cells #[.pointer (some ⟨s, 0, none⟩)] 32)).alloc (.cells fc.toArray 45)).alloc (.cells #[.int .u64 0] 23)).heap.size = w.heap.size + 1 + 1 + 1 := by rw [alloc_size', z2]
  have b1 : Below w.heap.size w (((w.alloc (.cells #[.pointer (some ⟨s, 0, none⟩)] 32)).alloc (.cells fc.toArray 45)).alloc (.cells #[.int .u64 0] 23)) := (((Below.refl _ _).alloc (Nat.le_refl _) _).alloc (by omega) _).alloc (by omega) _
  have x0 : Blk (((w.alloc (.cells #[.pointer (some ⟨s, 0, none⟩)] 32)).alloc (.cells fc.toArray 45)).alloc (.cells #[.int .u64 0] 23)) w.heap.size #[.pointer (some ⟨s, 0, none⟩)] 32 := ((Blk.new w _ _).alloc _).alloc _
  have x1 : Blk (((w.alloc (.cells #[.pointer (some ⟨s, 0, none⟩)] 32)).alloc (.cells fc.toArray 45)).alloc (.cells #[.int .u64 0] 23)) (w.heap.size + 1) fc.toArray 45 := by have := Blk.new (w.alloc (.cells #[.pointer (some ⟨s, 0, none⟩)] 32)) fc.toArray 45; rw [z1] at this; exact this.alloc _
  have x2 : Blk (((w.alloc (.cells #[.pointer (some ⟨s, 0, none⟩)] 32)).alloc (.cells fc.toArray 45)).alloc (.cells #[.int .u64 0] 23)) (w.heap.size + 1 + 1) #[.int .u64 0] 23 := by have := Blk.new ((w.alloc (.cells #[.pointer (some ⟨s, 0, none⟩)] 32)).alloc (.cells fc.toArray 45)) #[.int .u64 0] 23; rw [z2] at this; exact this
  generalize (((w.alloc (.cells #[.pointer (some ⟨s, 0, none⟩)] 32)).alloc (.cells fc.toArray 45)).alloc (.cells #[.int .u64 0] 23)) = w1 at b1 x0 x1 x2 z3 ⊢
  clear z1 z2
  have d0 := x0.cell 0 _ rfl
  have dk := x1.cell 0 _ (arr_get HF.out.k)
  have di := x1.cell 1 _ (arr_get HF.out.i)
  have l0 := x0.lt
  have l1 := x1.lt
  have CL1 : Hid (ClAt w1 s w.heap.size (w.heap.size + 1) (w.heap.size + 1 + 1) fc) := Lib.hid ⟨d0, x1, x2, by omega, by omega⟩
  have H1 := Lib.hid (H.out.below b1)
  have B1 := Lib.hid b1
  clear x0 x1 x2 b1
  have HR := Lib.hid (recv_any s sv id w1.drew hid H1.out.sc.srv)
  rw [HOK.out] at HR
  have HT := Lib.hid (there_any s base sv own peer may cn cs a n cap L ok id w1.drew (H1.out.below (Below.refl _ _).drew) HI.out HL.out hid)
  unfold TherePost at HT
  rw [HCC.out] at HT
  go_wp2_with (fail)
  refine rg_start 9 ?_
  refine rg_same fun p hx hne hC => ?_
  refine rg_quiet 3 [0,1,2,3,4,5] hC ?_
  simp only [pickD, List.map_cons, List.map_nil, List.getD_cons_zero, List.getD_cons_succ]; repeat (go_big_quiet_step (fail))
  refine wpQuiet_nil ?_
  refine rg_act 6 ?_
  go_wp2_with (fail)
  refine HR.out.mono ?_
  rintro e w1' ⟨e1, rfl⟩
  obtain rfl : w1.drew = w1' := e1.symm
  go_wp2_with (fail)
  refine ⟨hC, ?_⟩
  clear hx hne
  refine rg_cut 7 ?_
  go_wp2_with (fail)
  refine HT.out.mono ?_
  rintro e w2 ⟨rfl, hset, on2⟩
  have on2 : Only (· = s) w1 w2 := (Only.refl _ _).drew.trans on2
  obtain ⟨cs2, a2, n2, cap2, L2, g1, g2, g3, g4⟩ := hset
  have hc2 : ClAt w2 s w.heap.size (w.heap.size + 1) (w.heap.size + 1 + 1) fc := CL1.out.only (q := s) (on2.mono (fun k _ h => .inl h)) (by omega)
  have zz2 := on2.size
  have f2 := hc2.c.free 0
  have c2 := hc2.c.cell 0 _ rfl
  have NB2 : Hid (∀ y, a2 = some y → y.block < w.heap.size ∨ w.heap.size + 1 + 1 + 1 ≤ y.block) := Lib.hid (fun y hy => by
    rcases g4 y hy with ⟨z, hz, e⟩ | e
    · have := (H.out.row.block hz).2.1; omega
    · have e : w1.heap.size ≤ y.block := e
      omega)
  have G1 := Lib.hid g1
  have G2 := Lib.hid g2
  have G3 := Lib.hid g3
  have HC2 := Lib.hid hc2
  have ON2 := Lib.hid on2
  clear g1 g2 g3 g4 hc2 on2 hC
  go_wp2_with (fail)
  refine rg_do 8 ?_
  go_wp2_with (fail)
  refine rg_end0 ?_
  have o3 : Only (· = w.heap.size + 1 + 1) w2 (w2.setCell ⟨w.heap.size + 1 + 1, 0, none⟩ (.int .u64 C)) := (Only.refl _ _).set _ _
  have xc3 := (HC2.out.c.set 0 (.int .u64 C)).congr rfl
  generalize (w2.setCell ⟨w.heap.size + 1 + 1, 0, none⟩ (.int .u64 C)) = w3 at o3 xc3 ⊢
  have hS3 := G1.out.blkOnly o3 (by omega) (fun y hy => by have := NB2.out y hy; omega)
  have zz3 := o3.size
  have cc3 : w3.cell? ⟨w.heap.size + 1 + 1, 0, none⟩ = some (.int .u64 C) := xc3.cell 0 _ rfl
  have fc3 := xc3.free 0
  have cs3 : w3.cell? ⟨w.heap.size, 0, none⟩ = some (.pointer (some ⟨s, 0, none⟩)) := (o3.cell (p := ⟨w.heap.size, 0, none⟩) HC2.out.ls (show ¬ w.heap.size = w.heap.size + 1 + 1 by omega)).trans HC2.out.pt
  have xf3 := o3.blk HC2.out.f (show ¬ w.heap.size + 1 = w.heap.size + 1 + 1 by omega)
  have ci3 := xf3.cell 1 _ (arr_get HF.out.i)
  have T3 : Hid (Only (fun k => k = s ∨ w.heap.size ≤ k) w w3) := Lib.hid (((only_of_below B1.out _).trans (ON2.out.mono (fun k _ h => .inl h))).trans (o3.mono (fun k _ h => by omega)))
  have HAT := Lib.hid (at_any s base a2 n2 cap2 L2 id w3 (hS3.blk.cell 70 _ hS3.l) hS3.len hS3.row G3.out.asc (by have := OpI.len80 G2.out G3.out; omega))
  have HS3 := Lib.hid hS3
  have XC3 := Lib.hid xc3
  have XF3 := Lib.hid xf3
  clear hS3 o3 xc3 xf3 f2 c2 d0 dk di HR HT CL1
  go_wp2_with (fail)
  refine HAT.out.mono ?_
  rintro e w4 ⟨hb4, rfl⟩
  have cc4 := (XC3.out.below hb4).cell 0 _ rfl
  have fc4 := (XC3.out.below hb4).free 0
  have cs4 := (hb4.cell (p := ⟨w.heap.size, 0, none⟩) (show w.heap.size < w3.heap.size by omega)).trans cs3
  have hS4 := HS3.out.below hb4
  have T4 : Hid (Only (fun k => k = s ∨ w.heap.size ≤ k) w w4) := Lib.hid (T3.out.trans (only_of_below hb4 _))
  have zz4 := hb4.size
  have HS4 := Lib.hid hS4
  have XC4 := Lib.hid (XC3.out.below hb4)
  have XF4 := Lib.hid (XF3.out.below hb4)
  clear hb4 hS4 cc3 fc3 cs3 ci3 HAT
  by_cases hC0 : C = 0
  case neg =>
    generalize hasL id L2 = hb
    have hC0' : ((C : Int) != 0) = true := by simp; omega
    have FIN : Hid (SetIs (fun _ => True) (w4.setCell ⟨w.heap.size + 1 + 1, 0, none⟩ (.int .u64 C)) s base sv own peer may (thereN sv may cn ok id) ∧ Only (· = s) w (w4.setCell ⟨w.heap.size + 1 + 1, 0, none⟩ (.int .u64 C))) := Lib.hid (by
      have o5 : Only (· = w.heap.size + 1 + 1) w4 (w4.setCell ⟨w.heap.size + 1 + 1, 0, none⟩ (.int .u64 C)) := (Only.refl _ _).set _ _
      exact ⟨⟨cs2, a2, n2, cap2, L2, HS4.out.blkOnly o5 (by omega) (fun y hy => by have := NB2.out y hy; omega), G2.out, G3.out, fun _ _ => trivial⟩, (T4.out.trans (o5.mono (fun k _ h => .inr (by omega)))).mono (fun k hk h => by omega)⟩)
    have cq : (w4.setCell ⟨w.heap.size + 1 + 1, 0, none⟩ (.int .u64 C)).cell? ⟨w.heap.size + 1 + 1, 0, none⟩ = some (.int .u64 C) := (XC4.out.set 0 _).cell 0 _ rfl
    go_wp2_with (fail)
    refine bodyPost_ret (by simp [results, Tryz.results10, go_sem, cq]; try rfl) rfl ?_
    exact ⟨rfl, FIN.out⟩
  case pos =>
    subst hC0
    have hh : hasL id L2 = true := HAS.out rfl L2 G3.out
    obtain ⟨x, hx, hxi, hgx⟩ := at_pos G3.out.asc hh
    rw [hh]
    have HW := Lib.hid (with_any s base sv own peer may (thereN sv may cn ok id) w.heap.size (w.heap.size + 1) (w.heap.size + 1 + 1) fc 8 id mx cs2 a2 n2 cap2 (posL id L2) L2 x w4 HS4.out G2.out hx (by rw [HS4.out.len]; exact OpI.len80 G2.out G3.out) (by rw [hxi]; exact hid) HF.out (by omega) ⟨cs4, XF4.out, XC4.out, by omega, by omega⟩ (fun y hy => by have := NB2.out y hy; omega) (by omega))
    have HG : Hid (∀ u : Nat, OpI (thereN sv may cn ok id) (L2.set (posL id L2) { x with urg := u })) := Lib.hid (fun u => by
      have := G3.out.upd id (fun y => { y with urg := u }) (fun _ => rfl)
      have hlt := ((hasL_iff id G3.out.asc).1 hh).1
      have e := updL_set (L := L2) (id := id) (fun y => { y with urg := u }) G3.out.asc (i := posL id L2) hlt (by rw [hgx]; exact hxi)
      rw [hgx] at e
      show OpI _ (L2.set (posL id L2) ((fun y : Strm => { y with urg := u }) x))
      rw [e]; exact this)
    clear hx hxi hgx hh
    generalize posL id L2 = pos at HW HG ⊢
    go_wp2_with (fail)
    refine HW.out.mono ?_
    rintro e w5 ⟨rfl, a5, c5', u, hS5, hC5, on5, nb5⟩
    have cc5 := hC5.c.cell 0 _ rfl
    have fc5 := hC5.c.free 0
    have HS5 := Lib.hid hS5
    have NB5 : Hid (∀ y, a5 = some y → y.block ≠ w.heap.size + 1 + 1) := Lib.hid (fun y hy => by have := nb5 y hy; omega)
    clear nb5
    have HC5 := Lib.hid hC5
    have T5 : Hid (Only (fun k => k = s ∨ w.heap.size ≤ k) w w5) := Lib.hid (T4.out.trans (on5.mono (fun k _ h => by omega)))
    have zz5 := on5.size
    clear hS5 hC5 on5 cc4 fc4 cs4
    have cq : (w5.setCell ⟨w.heap.size + 1 + 1, 0, none⟩ (.int .u64 0)).cell? ⟨w.heap.size + 1 + 1, 0, none⟩ = some (.int .u64 0) := (HC5.out.c.set 0 _).cell 0 _ rfl
    have o6 : Only (· = w.heap.size + 1 + 1) w5 (w5.setCell ⟨w.heap.size + 1 + 1, 0, none⟩ (.int .u64 0)) := (Only.refl _ _).set _ _
    have FIN : Hid (SetIs (fun _ => True) (w5.setCell ⟨w.heap.size + 1 + 1, 0, none⟩ (.int .u64 0)) s base sv own peer may (thereN sv may cn ok id) ∧ Only (· = s) w (w5.setCell ⟨w.heap.size + 1 + 1, 0, none⟩ (.int .u64 0))) := Lib.hid
      ⟨⟨_, a5, _, c5', _, HS5.out.blkOnly o6 (by omega) (fun y hy => NB5.out y hy), G2.out.set70 _, HG.out u, fun _ _ => trivial⟩, (T5.out.trans (o6.mono (fun k _ h => .inr (by omega)))).mono (fun k hk h => by omega)⟩
    clear o6
    go_wp2_with (fail)
    refine bodyPost_ret (by simp [results, Tryz.results10, go_sem, cq]; try rfl) rfl ?_
    exact ⟨rfl, FIN.out⟩
set_option maxRecDepth 100000 in
set_option maxHeartbeats 8000000 in
theorem take21_any (s base : Nat) (sv : Bool) (own peer may cn : Nat → Nat) (cs : Array Value) (a : Option Addr) (n cap : Nat) (L : List Strm) (fc : List Value) (id mx : Nat) (w : World) (h : StAt w s base sv own peer cs a n cap L) (hI : StI cs sv may cn) (hL : OpI cn L) (hid : id < 18446744073709551616) (hf : FrC fc 21 id mx) :
    Calls Tryz.prog 10 #[.pointer (some ⟨s, 0, none⟩), .agg fc.toArray] w fun e w' => TkPost s base sv own peer may cn (recvB sv id) id w e w' := by
  have H := Lib.hid h
  have HI := Lib.hid hI
  have HL := Lib.hid hL
  have HF := Lib.hid hf
  have lsw := h.blk.lt
  clear h hI hL hf
  obtain ⟨ok, hok⟩ : ∃ ok, recvB sv id = ok := ⟨_, rfl⟩
  rw [hok]
  obtain ⟨C, hC⟩ : ∃ C, thereC sv may cn ok id = C := ⟨_, rfl⟩
  have HAS : Hid (C = 0 → ∀ LL, OpI (thereN sv may cn ok id) LL → hasL id LL = true) := Lib.hid (fun e LL hh => thereN_has (hC.trans e) hh)
  unfold TkPost
  rw [hC]
  have hC8 : C < 18446744073709551616 := by rw [← hC]; unfold thereC; (repeat' split) <;> omega
  have HOK := Lib.hid hok
  have HCC := Lib.hid hC
  clear hok hC
  go_enter Tryz.func10, Tryz.ntmps10
  go_upto_region 3 with (fail)
  have z1 : (w.alloc (.cells #[.pointer (some ⟨s, 0, none⟩)] 32)).heap.size = w.heap.size + 1 := alloc_size' _ _
  have z2 : ((w.alloc (.cells #[.pointer (some ⟨s, 0, none⟩)] 32)).alloc (.cells fc.toArray 45)).heap.size = w.heap.size + 1 + 1 := by rw [alloc_size', z1]
  have z3 : (((w.alloc (.cells #[.pointer (some ⟨s, 0, none⟩)] 32)).alloc (.cells fc.toArray 45)).alloc (.cells #[.int .u64 0] 23)).heap.size = w.heap.size + 1 + 1 + 1 := by rw [alloc_size', z2]
  have b1 : Below w.heap.size w (((w.alloc (.cells #[.pointer (some ⟨s, 0, none⟩)] 32)).alloc (.cells fc.toArray 45)).alloc (.cells #[.int .u64 0] 23)) := (((Below.refl _ _).alloc (Nat.le_refl _) _).alloc (by omega) _).alloc (by omega) _
  have x0 : Blk (((w.alloc (.cells #[.pointer (some ⟨s, 0, none⟩)] 32)).alloc (.cells fc.toArray 45)).alloc (.cells #[.int .u64 0] 23)) w.heap.size #[.pointer (some ⟨s, 0, none⟩)] 32 := ((Blk.new w _ _).alloc _).alloc _
  have x1 : Blk (((w.alloc (.cells #[.pointer (some ⟨s, 0, none⟩)] 32)).alloc (.cells fc.toArray 45)).alloc (.cells #[.int .u64 0] 23)) (w.heap.size + 1) fc.toArray 45 := by have := Blk.new (w.alloc (.cells #[.pointer (some ⟨s, 0, none⟩)] 32)) fc.toArray 45; rw [z1] at this; exact this.alloc _
  have x2 : Blk (((w.alloc (.cells #[.pointer (some ⟨s, 0, none⟩)] 32)).alloc (.cells fc.toArray 45)).alloc (.cells #[.int .u64 0] 23)) (w.heap.size + 1 + 1) #[.int .u64 0] 23 := by have := Blk.new ((w.alloc (.cells #[.pointer (some ⟨s, 0, none⟩)] 32)).alloc (.cells fc.toArray 45)) #[.int .u64 0] 23; rw [z2] at this; exact this
  generalize (((w.alloc (.cells #[.pointer (some ⟨s, 0, none⟩)] 32)).alloc (.cells fc.toArray 45)).alloc (.cells #[.int .u64 0] 23)) = w1 at b1 x0 x1 x2 z3 ⊢
  clear z1 z2
  have d0 := x0.cell 0 _ rfl
  have dk := x1.cell 0 _ (arr_get HF.out.k)
  have di := x1.cell 1 _ (arr_get HF.out.i)
  have l0 := x0.lt
  have l1 := x1.lt
  have CL1 : Hid (ClAt w1 s w.heap.size (w.heap.size + 1) (w.heap.size + 1 + 1) fc) := Lib.hid ⟨d0, x1, x2, by omega, by omega⟩
  have H1 := Lib.hid (H.out.below b1)
  have B1 := Lib.hid b1
  clear x0 x1 x2 b1
  have HR := Lib.hid (recv_any s sv id w1.drew hid H1.out.sc.srv)
  rw [HOK.out] at HR
  have HT := Lib.hid (there_any s base sv own peer may cn cs a n cap L ok id w1.drew (H1.out.below (Below.refl _ _).drew) HI.out HL.out hid)
  unfold TherePost at HT
  rw [HCC.out] at HT
  go_wp2_with (fail)
  refine rg_start 9 ?_
  refine rg_same fun p hx hne hC => ?_
  refine rg_quiet 3 [0,1,2,3,4,5] hC ?_
  simp only [pickD, List.map_cons, List.map_nil, List.getD_cons_zero, List.getD_cons_succ]; repeat (go_big_quiet_step (fail))
  refine wpQuiet_nil ?_
  refine rg_act 6 ?_
  go_wp2_with (fail)
  refine HR.out.mono ?_
  rintro e w1' ⟨e1, rfl⟩
  obtain rfl : w1.drew = w1' := e1.symm
  go_wp2_with (fail)
  refine ⟨hC, ?_⟩
  clear hx hne
  refine rg_cut 7 ?_
  go_wp2_with (fail)
  refine HT.out.mono ?_
  rintro e w2 ⟨rfl, hset, on2⟩
  have on2 : Only (· = s) w1 w2 := (Only.refl _ _).drew.trans on2
  obtain ⟨cs2, a2, n2, cap2, L2, g1, g2, g3, g4⟩ := hset
  have hc2 : ClAt w2 s w.heap.size (w.heap.size + 1) (w.heap.size + 1 + 1) fc := CL1.out.only (q := s) (on2.mono (fun k _ h => .inl h)) (by omega)
  have zz2 := on2.size
  have f2 := hc2.c.free 0
  have c2 := hc2.c.cell 0 _ rfl
  have NB2 : Hid (∀ y, a2 = some y → y.block < w.heap.size ∨ w.heap.size + 1 + 1 + 1 ≤ y.block) := Lib.hid (fun y hy => by
    rcases g4 y hy with ⟨z, hz, e⟩ | e
    · have := (H.out.row.block hz).2.1; omega
    · have e : w1.heap.size ≤ y.block := e
      omega)
  have G1 := Lib.hid g1
  have G2 := Lib.hid g2
  have G3 := Lib.hid g3
  have HC2 := Lib.hid hc2
  have ON2 := Lib.hid on2
  clear g1 g2 g3 g4 hc2 on2 hC
  go_wp2_with (fail)
  refine rg_do 8 ?_
  go_wp2_with (fail)
  refine rg_end0 ?_
  have o3 : Only (· = w.heap.size + 1 + 1) w2 (w2.setCell ⟨w.heap.size + 1 + 1, 0, none⟩ (.int .u64 C)) := (Only.refl _ _).set _ _
  have xc3 := (HC2.out.c.set 0 (.int .u64 C)).congr rfl
  generalize (w2.setCell ⟨w.heap.size + 1 + 1, 0, none⟩ (.int .u64 C)) = w3 at o3 xc3 ⊢
  have hS3 := G1.out.blkOnly o3 (by omega) (fun y hy => by have := NB2.out y hy; omega)
  have zz3 := o3.size
  have cc3 : w3.cell? ⟨w.heap.size + 1 + 1, 0, none⟩ = some (.int .u64 C) := xc3.cell 0 _ rfl
  have fc3 := xc3.free 0
  have cs3 : w3.cell? ⟨w.heap.size, 0, none⟩ = some (.pointer (some ⟨s, 0, none⟩)) := (o3.cell (p := ⟨w.heap.size, 0, none⟩) HC2.out.ls (show ¬ w.heap.size = w.heap.size + 1 + 1 by omega)).trans HC2.out.pt
  have xf3 := o3.blk HC2.out.f (show ¬ w.heap.size + 1 = w.heap.size + 1 + 1 by omega)
  have ci3 := xf3.cell 1 _ (arr_get HF.out.i)
  have T3 : Hid (Only (fun k => k = s ∨ w.heap.size ≤ k) w w3) := Lib.hid (((only_of_below B1.out _).trans (ON2.out.mono (fun k _ h => .inl h))).trans (o3.mono (fun k _ h => by omega)))
  have HAT := Lib.hid (at_any s base a2 n2 cap2 L2 id w3 (hS3.blk.cell 70 _ hS3.l) hS3.len hS3.row G3.out.asc (by have := OpI.len80 G2.out G3.out; omega))
  have HS3 := Lib.hid hS3
  have XC3 := Lib.hid xc3
  have XF3 := Lib.hid xf3
  clear hS3 o3 xc3 xf3 f2 c2 d0 dk di HR HT CL1
  go_wp2_with (fail)
  refine HAT.out.mono ?_
  rintro e w4 ⟨hb4, rfl⟩
  have cc4 := (XC3.out.below hb4).cell 0 _ rfl
  have fc4 := (XC3.out.below hb4).free 0
  have cs4 := (hb4.cell (p := ⟨w.heap.size, 0, none⟩) (show w.heap.size < w3.heap.size by omega)).trans cs3
  have hS4 := HS3.out.below hb4
  have T4 : Hid (Only (fun k => k = s ∨ w.heap.size ≤ k) w w4) := Lib.hid (T3.out.trans (only_of_below hb4 _))
  have zz4 := hb4.size
  have HS4 := Lib.hid hS4
  have XC4 := Lib.hid (XC3.out.below hb4)
  have XF4 := Lib.hid (XF3.out.below hb4)
  clear hb4 hS4 cc3 fc3 cs3 ci3 HAT
  by_cases hC0 : C = 0
  case neg =>
    generalize hasL id L2 = hb
    have hC0' : ((C : Int) != 0) = true := by simp; omega
    have FIN : Hid (SetIs (fun _ => True) (w4.setCell ⟨w.heap.size + 1 + 1, 0, none⟩ (.int .u64 C)) s base sv own peer may (thereN sv may cn ok id) ∧ Only (· = s) w (w4.setCell ⟨w.heap.size + 1 + 1, 0, none⟩ (.int .u64 C))) := Lib.hid (by
      have o5 : Only (· = w.heap.size + 1 + 1) w4 (w4.setCell ⟨w.heap.size + 1 + 1, 0, none⟩ (.int .u64 C)) := (Only.refl _ _).set _ _
      exact ⟨⟨cs2, a2, n2, cap2, L2, HS4.out.blkOnly o5 (by omega) (fun y hy => by have := NB2.out y hy; omega), G2.out, G3.out, fun _ _ => trivial⟩, (T4.out.trans (o5.mono (fun k _ h => .inr (by omega)))).mono (fun k hk h => by omega)⟩)
    have cq : (w4.setCell ⟨w.heap.size + 1 + 1, 0, none⟩ (.int .u64 C)).cell? ⟨w.heap.size + 1 + 1, 0, none⟩ = some (.int .u64 C) := (XC4.out.set 0 _).cell 0 _ rfl
    go_wp2_with (fail)
    refine bodyPost_ret (by simp [results, Tryz.results10, go_sem, cq]; try rfl) rfl ?_
    exact ⟨rfl, FIN.out⟩
  case pos =>
    subst hC0
    have hh : hasL id L2 = true := HAS.out rfl L2 G3.out
    obtain ⟨x, hx, hxi, hgx⟩ := at_pos G3.out.asc hh
    rw [hh]
    have HW := Lib.hid (with_any s base sv own peer may (thereN sv may cn ok id) w.heap.size (w.heap.size + 1) (w.heap.size + 1 + 1) fc 21 id mx cs2 a2 n2 cap2 (posL id L2) L2 x w4 HS4.out G2.out hx (by rw [HS4.out.len]; exact OpI.len80 G2.out G3.out) (by rw [hxi]; exact hid) HF.out (by omega) ⟨cs4, XF4.out, XC4.out, by omega, by omega⟩ (fun y hy => by have := NB2.out y hy; omega) (by omega))
    have HG : Hid (∀ u : Nat, OpI (thereN sv may cn ok id) (L2.set (posL id L2) { x with urg := u })) := Lib.hid (fun u => by
      have := G3.out.upd id (fun y => { y with urg := u }) (fun _ => rfl)
      have hlt := ((hasL_iff id G3.out.asc).1 hh).1
      have e := updL_set (L := L2) (id := id) (fun y => { y with urg := u }) G3.out.asc (i := posL id L2) hlt (by rw [hgx]; exact hxi)
      rw [hgx] at e
      show OpI _ (L2.set (posL id L2) ((fun y : Strm => { y with urg := u }) x))
      rw [e]; exact this)
    clear hx hxi hgx hh
    generalize posL id L2 = pos at HW HG ⊢
    go_wp2_with (fail)
    refine HW.out.mono ?_
    rintro e w5 ⟨rfl, a5, c5', u, hS5, hC5, on5, nb5⟩
    have cc5 := hC5.c.cell 0 _ rfl
    have fc5 := hC5.c.free 0
    have HS5 := Lib.hid hS5
    have NB5 : Hid (∀ y, a5 = some y → y.block ≠ w.heap.size + 1 + 1) := Lib.hid (fun y hy => by have := nb5 y hy; omega)
    clear nb5
    have HC5 := Lib.hid hC5
    have T5 : Hid (Only (fun k => k = s ∨ w.heap.size ≤ k) w w5) := Lib.hid (T4.out.trans (on5.mono (fun k _ h => by omega)))
    have zz5 := on5.size
    clear hS5 hC5 on5 cc4 fc4 cs4
    have cq : (w5.setCell ⟨w.heap.size + 1 + 1, 0, none⟩ (.int .u64 0)).cell? ⟨w.heap.size + 1 + 1, 0, none⟩ = some (.int .u64 0) := (HC5.out.c.set 0 _).cell 0 _ rfl
    have o6 : Only (· = w.heap.size + 1 + 1) w5 (w5.setCell ⟨w.heap.size + 1 + 1, 0, none⟩ (.int .u64 0)) := (Only.refl _ _).set _ _
    have FIN : Hid (SetIs (fun _ => True) (w5.setCell ⟨w.heap.size + 1 + 1, 0, none⟩ (.int .u64 0)) s base sv own peer may (thereN sv may cn ok id) ∧ Only (· = s) w (w5.setCell ⟨w.heap.size + 1 + 1, 0, none⟩ (.int .u64 0))) := Lib.hid
      ⟨⟨_, a5, _, c5', _, HS5.out.blkOnly o6 (by omega) (fun y hy => NB5.out y hy), G2.out.set70 _, HG.out u, fun _ _ => trivial⟩, (T5.out.trans (o6.mono (fun k _ h => .inr (by omega)))).mono (fun k hk h => by omega)⟩
    clear o6
    go_wp2_with (fail)
    refine bodyPost_ret (by simp [results, Tryz.results10, go_sem, cq]; try rfl) rfl ?_
    exact ⟨rfl, FIN.out⟩
set_option maxRecDepth 100000 in
set_option maxHeartbeats 8000000 in
theorem take17_any (s base : Nat) (sv : Bool) (own peer may cn : Nat → Nat) (cs : Array Value) (a : Option Addr) (n cap : Nat) (L : List Strm) (fc : List Value) (id mx : Nat) (w : World) (h : StAt w s base sv own peer cs a n cap L) (hI : StI cs sv may cn) (hL : OpI cn L) (hid : id < 18446744073709551616) (hf : FrC fc 17 id mx) :
    Calls Tryz.prog 10 #[.pointer (some ⟨s, 0, none⟩), .agg fc.toArray] w fun e w' => TkPost s base sv own peer may cn (sendsB sv id) id w e w' := by
  have H := Lib.hid h
  have HI := Lib.hid hI
  have HL := Lib.hid hL
  have HF := Lib.hid hf
  have lsw := h.blk.lt
  clear h hI hL hf
  obtain ⟨ok, hok⟩ : ∃ ok, sendsB sv id = ok := ⟨_, rfl⟩
  rw [hok]
  obtain ⟨C, hC⟩ : ∃ C, thereC sv may cn ok id = C := ⟨_, rfl⟩
  have HAS : Hid (C = 0 → ∀ LL, OpI (thereN sv may cn ok id) LL → hasL id LL = true) := Lib.hid (fun e LL hh => thereN_has (hC.trans e) hh)
  unfold TkPost
  rw [hC]
  have hC8 : C < 18446744073709551616 := by rw [← hC]; unfold thereC; (repeat' split) <;> omega
  have HOK := Lib.hid hok
  have HCC := Lib.hid hC
  clear hok hC
  go_enter Tryz.func10, Tryz.ntmps10
  go_upto_region 3 with (fail)
  have z1 : (w.alloc (.cells #[.pointer (some ⟨s, 0, none⟩)] 32)).heap.size = w.heap.size + 1 := alloc_size' _ _
  have z2 : ((w.alloc (.cells #[.pointer (some ⟨s, 0, none⟩)] 32)).alloc (.cells fc.toArray 45)).heap.size = w.heap.size + 1 + 1 := by rw [alloc_size', z1]
  have z3 : (((w.alloc (.cells #[.pointer (some ⟨s, 0, none⟩)] 32)).alloc (.cells fc.toArray 45)).alloc (.cells #[.int .u64 0] 23)).heap.size = w.heap.size + 1 + 1 + 1 := by rw [alloc_size', z2]
  have b1 : Below w.heap.size w (((w.alloc (.cells #[.pointer (some ⟨s, 0, none⟩)] 32)).alloc (.cells fc.toArray 45)).alloc (.cells #[.int .u64 0] 23)) := (((Below.refl _ _).alloc (Nat.le_refl _) _).alloc (by omega) _).alloc (by omega) _
  have x0 : Blk (((w.alloc (.cells #[.pointer (some ⟨s, 0, none⟩)] 32)).alloc (.cells fc.toArray 45)).alloc (.cells #[.int .u64 0] 23)) w.heap.size #[.pointer (some ⟨s, 0, none⟩)] 32 := ((Blk.new w _ _).alloc _).alloc _
  have x1 : Blk (((w.alloc (.cells #[.pointer (some ⟨s, 0, none⟩)] 32)).alloc (.cells fc.toArray 45)).alloc (.cells #[.int .u64 0] 23)) (w.heap.size + 1) fc.toArray 45 := by have := Blk.new (w.alloc (.cells #[.pointer (some ⟨s, 0, none⟩)] 32)) fc.toArray 45; rw [z1] at this; exact this.alloc _
  have x2 : Blk (((w.alloc (.cells #[.pointer (some ⟨s, 0, none⟩)] 32)).alloc (.cells fc.toArray 45)).alloc (.cells #[.int .u64 0] 23)) (w.heap.size + 1 + 1) #[.int .u64 0] 23 := by have := Blk.new ((w.alloc (.cells #[.pointer (some ⟨s, 0, none⟩)] 32)).alloc (.cells fc.toArray 45)) #[.int .u64 0] 23; rw [z2] at this; exact this
  generalize (((w.alloc (.cells #[.pointer (some ⟨s, 0, none⟩)] 32)).alloc (.cells fc.toArray 45)).alloc (.cells #[.int .u64 0] 23)) = w1 at b1 x0 x1 x2 z3 ⊢
  clear z1 z2
  have d0 := x0.cell 0 _ rfl
  have dk := x1.cell 0 _ (arr_get HF.out.k)
  have di := x1.cell 1 _ (arr_get HF.out.i)
  have l0 := x0.lt
  have l1 := x1.lt
  have CL1 : Hid (ClAt w1 s w.heap.size (w.heap.size + 1) (w.heap.size + 1 + 1) fc) := Lib.hid ⟨d0, x1, x2, by omega, by omega⟩
  have H1 := Lib.hid (H.out.below b1)
  have B1 := Lib.hid b1
  clear x0 x1 x2 b1
  have HR := Lib.hid (sends_any s sv id w1.drew hid H1.out.sc.srv)
  rw [HOK.out] at HR
  have HT := Lib.hid (there_any s base sv own peer may cn cs a n cap L ok id w1.drew (H1.out.below (Below.refl _ _).drew) HI.out HL.out hid)
  unfold TherePost at HT
  rw [HCC.out] at HT
  go_wp2_with (fail)
  refine rg_start 9 ?_
  refine rg_same fun p hx hne hC => ?_
  refine rg_quiet 3 [0,1,2,3,4,5] hC ?_
  simp only [pickD, List.map_cons, List.map_nil, List.getD_cons_zero, List.getD_cons_succ]; repeat (go_big_quiet_step (fail))
  refine wpQuiet_nil ?_
  refine rg_act 6 ?_
  go_wp2_with (fail)
  refine HR.out.mono ?_
  rintro e w1' ⟨e1, rfl⟩
  obtain rfl : w1.drew = w1' := e1.symm
  go_wp2_with (fail)
  refine ⟨hC, ?_⟩
  clear hx hne
  refine rg_cut 7 ?_
  go_wp2_with (fail)
  refine HT.out.mono ?_
  rintro e w2 ⟨rfl, hset, on2⟩
  have on2 : Only (· = s) w1 w2 := (Only.refl _ _).drew.trans on2
  obtain ⟨cs2, a2, n2, cap2, L2, g1, g2, g3, g4⟩ := hset
  have hc2 : ClAt w2 s w.heap.size (w.heap.size + 1) (w.heap.size + 1 + 1) fc := CL1.out.only (q := s) (on2.mono (fun k _ h => .inl h)) (by omega)
  have zz2 := on2.size
  have f2 := hc2.c.free 0
  have c2 := hc2.c.cell 0 _ rfl
  have NB2 : Hid (∀ y, a2 = some y → y.block < w.heap.size ∨ w.heap.size + 1 + 1 + 1 ≤ y.block) := Lib.hid (fun y hy => by
    rcases g4 y hy with ⟨z, hz, e⟩ | e
    · have := (H.out.row.block hz).2.1; omega
    · have e : w1.heap.size ≤ y.block := e
      omega)
  have G1 := Lib.hid g1
  have G2 := Lib.hid g2
  have G3 := Lib.hid g3
  have HC2 := Lib.hid hc2
  have ON2 := Lib.hid on2
  clear g1 g2 g3 g4 hc2 on2 hC
  go_wp2_with (fail)
  refine rg_do 8 ?_
  go_wp2_with (fail)
  refine rg_end0 ?_
  have o3 : Only (· = w.heap.size + 1 + 1) w2 (w2.setCell ⟨w.heap.size + 1 + 1, 0, none⟩ (.int .u64 C)) := (Only.refl _ _).set _ _
  have xc3 := (HC2.out.c.set 0 (.int .u64 C)).congr rfl
  generalize (w2.setCell ⟨w.heap.size + 1 + 1, 0, none⟩ (.int .u64 C)) = w3 at o3 xc3 ⊢
  have hS3 := G1.out.blkOnly o3 (by omega) (fun y hy => by have := NB2.out y hy; omega)
  have zz3 := o3.size
  have cc3 : w3.cell? ⟨w.heap.size + 1 + 1, 0, none⟩ = some (.int .u64 C) := xc3.cell 0 _ rfl
  have fc3 := xc3.free 0
  have cs3 : w3.cell? ⟨w.heap.size, 0, none⟩ = some (.pointer (some ⟨s, 0, none⟩)) := (o3.cell (p := ⟨w.heap.size, 0, none⟩) HC2.out.ls (show ¬ w.heap.size = w.heap.size + 1 + 1 by omega)).trans HC2.out.pt
  have xf3 := o3.blk HC2.out.f (show ¬ w.heap.size + 1 = w.heap.size + 1 + 1 by omega)
  have ci3 := xf3.cell 1 _ (arr_get HF.out.i)
  have T3 : Hid (Only (fun k => k = s ∨ w.heap.size ≤ k) w w3) := Lib.hid (((only_of_below B1.out _).trans (ON2.out.mono (fun k _ h => .inl h))).trans (o3.mono (fun k _ h => by omega)))
  have HAT := Lib.hid (at_any s base a2 n2 cap2 L2 id w3 (hS3.blk.cell 70 _ hS3.l) hS3.len hS3.row G3.out.asc (by have := OpI.len80 G2.out G3.out; omega))
  have HS3 := Lib.hid hS3
  have XC3 := Lib.hid xc3
  have XF3 := Lib.hid xf3
  clear hS3 o3 xc3 xf3 f2 c2 d0 dk di HR HT CL1
  go_wp2_with (fail)
  refine HAT.out.mono ?_
  rintro e w4 ⟨hb4, rfl⟩
  have cc4 := (XC3.out.below hb4).cell 0 _ rfl
  have fc4 := (XC3.out.below hb4).free 0
  have cs4 := (hb4.cell (p := ⟨w.heap.size, 0, none⟩) (show w.heap.size < w3.heap.size by omega)).trans cs3
  have hS4 := HS3.out.below hb4
  have T4 : Hid (Only (fun k => k = s ∨ w.heap.size ≤ k) w w4) := Lib.hid (T3.out.trans (only_of_below hb4 _))
  have zz4 := hb4.size
  have HS4 := Lib.hid hS4
  have XC4 := Lib.hid (XC3.out.below hb4)
  have XF4 := Lib.hid (XF3.out.below hb4)
  clear hb4 hS4 cc3 fc3 cs3 ci3 HAT
  by_cases hC0 : C = 0
  case neg =>
    generalize hasL id L2 = hb
    have hC0' : ((C : Int) != 0) = true := by simp; omega
    have FIN : Hid (SetIs (fun _ => True) (w4.setCell ⟨w.heap.size + 1 + 1, 0, none⟩ (.int .u64 C)) s base sv own peer may (thereN sv may cn ok id) ∧ Only (· = s) w (w4.setCell ⟨w.heap.size + 1 + 1, 0, none⟩ (.int .u64 C))) := Lib.hid (by
      have o5 : Only (· = w.heap.size + 1 + 1) w4 (w4.setCell ⟨w.heap.size + 1 + 1, 0, none⟩ (.int .u64 C)) := (Only.refl _ _).set _ _
      exact ⟨⟨cs2, a2, n2, cap2, L2, HS4.out.blkOnly o5 (by omega) (fun y hy => by have := NB2.out y hy; omega), G2.out, G3.out, fun _ _ => trivial⟩, (T4.out.trans (o5.mono (fun k _ h => .inr (by omega)))).mono (fun k hk h => by omega)⟩)
    have cq : (w4.setCell ⟨w.heap.size + 1 + 1, 0, none⟩ (.int .u64 C)).cell? ⟨w.heap.size + 1 + 1, 0, none⟩ = some (.int .u64 C) := (XC4.out.set 0 _).cell 0 _ rfl
    go_wp2_with (fail)
    refine bodyPost_ret (by simp [results, Tryz.results10, go_sem, cq]; try rfl) rfl ?_
    exact ⟨rfl, FIN.out⟩
  case pos =>
    subst hC0
    have hh : hasL id L2 = true := HAS.out rfl L2 G3.out
    obtain ⟨x, hx, hxi, hgx⟩ := at_pos G3.out.asc hh
    rw [hh]
    have HW := Lib.hid (with_any s base sv own peer may (thereN sv may cn ok id) w.heap.size (w.heap.size + 1) (w.heap.size + 1 + 1) fc 17 id mx cs2 a2 n2 cap2 (posL id L2) L2 x w4 HS4.out G2.out hx (by rw [HS4.out.len]; exact OpI.len80 G2.out G3.out) (by rw [hxi]; exact hid) HF.out (by omega) ⟨cs4, XF4.out, XC4.out, by omega, by omega⟩ (fun y hy => by have := NB2.out y hy; omega) (by omega))
    have HG : Hid (∀ u : Nat, OpI (thereN sv may cn ok id) (L2.set (posL id L2) { x with urg := u })) := Lib.hid (fun u => by
      have := G3.out.upd id (fun y => { y with urg := u }) (fun _ => rfl)
      have hlt := ((hasL_iff id G3.out.asc).1 hh).1
      have e := updL_set (L := L2) (id := id) (fun y => { y with urg := u }) G3.out.asc (i := posL id L2) hlt (by rw [hgx]; exact hxi)
      rw [hgx] at e
      show OpI _ (L2.set (posL id L2) ((fun y : Strm => { y with urg := u }) x))
      rw [e]; exact this)
    clear hx hxi hgx hh
    generalize posL id L2 = pos at HW HG ⊢
    go_wp2_with (fail)
    refine HW.out.mono ?_
    rintro e w5 ⟨rfl, a5, c5', u, hS5, hC5, on5, nb5⟩
    have cc5 := hC5.c.cell 0 _ rfl
    have fc5 := hC5.c.free 0
    have HS5 := Lib.hid hS5
    have NB5 : Hid (∀ y, a5 = some y → y.block ≠ w.heap.size + 1 + 1) := Lib.hid (fun y hy => by have := nb5 y hy; omega)
    clear nb5
    have HC5 := Lib.hid hC5
    have T5 : Hid (Only (fun k => k = s ∨ w.heap.size ≤ k) w w5) := Lib.hid (T4.out.trans (on5.mono (fun k _ h => by omega)))
    have zz5 := on5.size
    clear hS5 hC5 on5 cc4 fc4 cs4
    have cq : (w5.setCell ⟨w.heap.size + 1 + 1, 0, none⟩ (.int .u64 0)).cell? ⟨w.heap.size + 1 + 1, 0, none⟩ = some (.int .u64 0) := (HC5.out.c.set 0 _).cell 0 _ rfl
    have o6 : Only (· = w.heap.size + 1 + 1) w5 (w5.setCell ⟨w.heap.size + 1 + 1, 0, none⟩ (.int .u64 0)) := (Only.refl _ _).set _ _
    have FIN : Hid (SetIs (fun _ => True) (w5.setCell ⟨w.heap.size + 1 + 1, 0, none⟩ (.int .u64 0)) s base sv own peer may (thereN sv may cn ok id) ∧ Only (· = s) w (w5.setCell ⟨w.heap.size + 1 + 1, 0, none⟩ (.int .u64 0))) := Lib.hid
      ⟨⟨_, a5, _, c5', _, HS5.out.blkOnly o6 (by omega) (fun y hy => NB5.out y hy), G2.out.set70 _, HG.out u, fun _ _ => trivial⟩, (T5.out.trans (o6.mono (fun k _ h => .inr (by omega)))).mono (fun k hk h => by omega)⟩
    clear o6
    go_wp2_with (fail)
    refine bodyPost_ret (by simp [results, Tryz.results10, go_sem, cq]; try rfl) rfl ?_
    exact ⟨rfl, FIN.out⟩
end Go.Proofs.YtgpnfdeneagdbaaGreat
