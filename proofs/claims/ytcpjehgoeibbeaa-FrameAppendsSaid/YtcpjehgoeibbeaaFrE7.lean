/- The document's stream. -/
import Derived.Test.YtcpjehgoeibbeaaFrE6
namespace Go.Proofs.Ytcpjehgoeibbeaa
open Go.RowKit
set_option linter.unusedVariables false
namespace Frm
open Var
def rstreamB (f : Fr) : List Int := enc (10 + (if f.fin then 1 else 0) + (if f.off > 0 then 4 else 0)) ++ enc f.id ++ (if f.off > 0 then enc f.off else []) ++ sizedB f.data
set_option maxHeartbeats 4000000 in
set_option maxRecDepth 100000 in
theorem rstream_00 (p : FM) (w : World) (hp : p.ok w) (hd : p.f.data.length ≤ 1000000000) (hfin : p.f.fin = false) (hoff : ¬ p.f.off > 0) :
    Calls Try.prog 32 #[.agg p.vals] w fun e w' => ∃ a n cap, e = .returned (.slice a n cap) ∧ n = (rstreamB p.f).length ∧ OwB w' w.heap.size a cap (rstreamB p.f) ∧ Below w.heap.size w w' := by
  have hboxn := Blk.new w p.vals 36
  have hw1 := (Below.refl w.heap.size w).alloc (Nat.le_refl _) (.cells p.vals 36)
  have HP := Lib.hid hp
  have H16 := Lib.hid hp.fr.tok16
  obtain ⟨m, hm⟩ : ∃ m, p.f.data.length = m := ⟨_, rfl⟩
  have HM := Lib.hid hm
  have hfr := hp.fr
  have HID := Lib.hid hfr.id
  have HOF := Lib.hid hfr.off
  have HEQ : Hid (rstreamB p.f = enc 10 ++ enc p.f.id ++ enc m ++ p.f.data) := Lib.hid (by
    unfold rstreamB sizedB
    rw [hfin, hm, if_neg hoff, if_neg hoff]
    simp)
  rw [hm] at hd
  clear hp hfr
  go_enter Try.func32, Try.ntmps32
  go_upto_region 1 with (fail)
  have hsz1 : w.heap.size + 1 ≤ (w.alloc (.cells p.vals 36)).heap.size := by simp
  generalize w.alloc (.cells p.vals 36) = w1 at *
  have FB1 := Lib.hid hboxn
  have K1 := Lib.hid hw1
  have HC : Hid (∀ W : World, Below w1.heap.size w1 W → W.cell? ⟨w.heap.size, 1, none⟩ = some (.int .u64 p.f.id) ∧ W.cell? ⟨w.heap.size, 2, none⟩ = some (.int .u64 p.f.off) ∧ W.cell? ⟨w.heap.size, 6, none⟩ = some (.bool false) ∧ W.cell? ⟨w.heap.size, 7, none⟩ = some (.slice p.da m p.dc) ∧ w.heap.size < W.heap.size) := Lib.hid (by
    intro W hW
    have f := FB.fc (FB1.out.below hW) H16.out
    have h7 := f.c7
    have h6 := f.c6
    rw [hm] at h7
    rw [hfin] at h6
    exact ⟨f.c1, f.c2, h6, h7, f.lt⟩)
  have HS : Hid (∀ W : World, Below w1.heap.size w1 W → Sl .u8 W p.da p.dc p.f.data) := Lib.hid (fun W hW => HP.out.d.below (below_on K1.out hW K1.out.size))
  clear hboxn hw1 hm hfin
  have HK1 := Lib.hid (Below.refl w1.heap.size w1)
  obtain ⟨c1, c2, c6, c7, flt⟩ := HC.out w1 HK1.out
  go_upto_region 6 with (fail)
  refine rg_start 7 ?_
  refine rg_below fun K hx hne hC hbel => ?_
  have k1 := fun z : Wd K => (hx z _ 1 _ flt).trans c1
  clear hx
  refine rg_quiet 4 [0,2,3] hC ?_
  simp only [pickD, List.map_cons, List.map_nil, List.getD_cons_zero, List.getD_cons_succ]; repeat (go_big_quiet_step (fail))
  refine wpQuiet_nil ?_
  refine rg_act 1 ?_
  go_wp2_with (fail)
  refine (u_any (10) _ (by unfold U64; omega)).mono ?_
  rintro e w11 ⟨a11, n11, cp11, rfl, hn11, h811, ho11, hb11⟩
  have HO11 := Lib.hid (show OwB w11 w1.heap.size a11 cp11 (enc (10)) from ⟨ho11.1.base_le (by simp), ho11.2⟩)
  have HN11 := Lib.hid hn11
  have HK11 := Lib.hid (below_on HK1.out.drew hb11 (by have := HK1.out.size; exact this))
  have HB11 := Lib.hid hb11
  clear hb11 ho11 hn11
  go_wp2_with (fail)
  refine ⟨hbel _ HB11.out, ?_⟩
  refine rg_cut 4 ?_
  go_wp2_with (fail)
  refine (u_any (p.f.id) _ HID.out).mono ?_
  rintro e w12 ⟨a12, n12, cp12, rfl, hn12, h812, ho12, hb12⟩
  have HO12 := Lib.hid ho12
  have HN12 := Lib.hid hn12
  have HK12 := Lib.hid (below_on HK11.out hb12 HK11.out.size)
  have HP12 := Lib.hid (HO11.out.below hb12)
  clear hb12 ho12 hn12
  go_wp2_with (fail)
  refine rg_do 5 ?_
  go_wp2_with (at_builtin; refine Stop.mk ?_)
  refine Stop.out ?_
  refine wpList_appB rfl rfl rfl rfl HN11.out HN12.out HP12.out (HO12.out.sl) (by omega) HK12.out.size ?_
  intro a13 cp13 w13 ho13 hb13
  have HO13 := Lib.hid ho13
  have HK13 := Lib.hid (HK12.out.trans hb13)
  have HN13 := Lib.hid (show n11 + n12 = (enc (10) ++ enc (p.f.id)).length by rw [List.length_append, ← HN11.out, ← HN12.out])
  clear ho13 hb13
  obtain ⟨n13, hn13⟩ : ∃ n', n11 + n12 = n' := ⟨_, rfl⟩
  have h813 : n13 ≤ 16 := by omega
  rw [hn13] at HN13 ⊢
  clear hn13
  go_wp2_with (fail)
  refine rg_below fun K hx hne hC hbel => ?_
  refine rg_quiet 0 [6] hC ?_
  simp only [pickD, List.map_cons, List.map_nil, List.getD_cons_zero, List.getD_cons_succ]; repeat (go_big_quiet_step (fail))
  refine wpQuiet_nil ?_
  refine rg_end ?_
  clear k1 c1 c2 c6 c7 flt
  obtain ⟨c1, c2, c6, c7, flt⟩ := HC.out w13 HK13.out
  go_wp2_with (fail)
  refine (u_any ((m : Int)) _ (by unfold U64; omega)).mono ?_
  rintro e w14 ⟨a14, n14, cp14, rfl, hn14, h814, ho14, hb14⟩
  have HO14 := Lib.hid ho14
  have HN14 := Lib.hid hn14
  have HK14 := Lib.hid (below_on HK13.out hb14 HK13.out.size)
  have HP14 := Lib.hid (HO13.out.below hb14)
  clear hb14 ho14 hn14
  go_wp2_with (at_builtin; refine Stop.mk ?_)
  refine Stop.out ?_
  refine wpList_appB rfl rfl rfl rfl HN13.out HN14.out HP14.out (HO14.out.sl) (by omega) HK14.out.size ?_
  intro a15 cp15 w15 ho15 hb15
  have HO15 := Lib.hid ho15
  have HK15 := Lib.hid (HK14.out.trans hb15)
  have HN15 := Lib.hid (show n13 + n14 = (enc (10) ++ enc (p.f.id) ++ enc ((m : Int))).length by rw [List.length_append, ← HN13.out, ← HN14.out])
  clear ho15 hb15
  obtain ⟨n15, hn15⟩ : ∃ n', n13 + n14 = n' := ⟨_, rfl⟩
  have h815 : n15 ≤ 24 := by omega
  rw [hn15] at HN15 ⊢
  clear hn15
  clear c1 c2 c6 c7 flt
  obtain ⟨c1, c2, c6, c7, flt⟩ := HC.out w15 HK15.out
  go_wp2_with (at_builtin; refine Stop.mk ?_)
  refine Stop.out ?_
  refine wpList_appB rfl rfl rfl rfl HN15.out HM.out.symm HO15.out (HS.out _ HK15.out) (by omega) HK15.out.size ?_
  intro a16 cp16 w16 ho16 hb16
  have HO16 := Lib.hid ho16
  have HK16 := Lib.hid (HK15.out.trans hb16)
  have HN16 := Lib.hid (show n15 + m = (enc (10) ++ enc (p.f.id) ++ enc ((m : Int)) ++ p.f.data).length by rw [List.length_append, ← HN15.out, HM.out])
  clear ho16 hb16
  obtain ⟨n16, hn16⟩ : ∃ n', n15 + m = n' := ⟨_, rfl⟩
  have h816 : n16 ≤ 24 + m := by omega
  rw [hn16] at HN16 ⊢
  clear hn16
  go_wp2_with (fail)
  go_returns
  rw [HEQ.out]
  exact ⟨_, _, _, rfl, HN16.out, ⟨HO16.out.1.base_le (by omega), HO16.out.2⟩, below_on K1.out HK16.out K1.out.size⟩
set_option maxHeartbeats 4000000 in
set_option maxRecDepth 100000 in
theorem rstream_01 (p : FM) (w : World) (hp : p.ok w) (hd : p.f.data.length ≤ 1000000000) (hfin : p.f.fin = false) (hoff : p.f.off > 0) :
    Calls Try.prog 32 #[.agg p.vals] w fun e w' => ∃ a n cap, e = .returned (.slice a n cap) ∧ n = (rstreamB p.f).length ∧ OwB w' w.heap.size a cap (rstreamB p.f) ∧ Below w.heap.size w w' := by
  have hboxn := Blk.new w p.vals 36
  have hw1 := (Below.refl w.heap.size w).alloc (Nat.le_refl _) (.cells p.vals 36)
  have HP := Lib.hid hp
  have H16 := Lib.hid hp.fr.tok16
  obtain ⟨m, hm⟩ : ∃ m, p.f.data.length = m := ⟨_, rfl⟩
  have HM := Lib.hid hm
  have hfr := hp.fr
  have HID := Lib.hid hfr.id
  have HOF := Lib.hid hfr.off
  have HEQ : Hid (rstreamB p.f = enc 14 ++ enc p.f.id ++ enc p.f.off ++ enc m ++ p.f.data) := Lib.hid (by
    unfold rstreamB sizedB
    rw [hfin, hm, if_pos hoff, if_pos hoff]
    simp)
  rw [hm] at hd
  clear hp hfr
  go_enter Try.func32, Try.ntmps32
  go_upto_region 1 with (fail)
  have hsz1 : w.heap.size + 1 ≤ (w.alloc (.cells p.vals 36)).heap.size := by simp
  generalize w.alloc (.cells p.vals 36) = w1 at *
  have FB1 := Lib.hid hboxn
  have K1 := Lib.hid hw1
  have HC : Hid (∀ W : World, Below w1.heap.size w1 W → W.cell? ⟨w.heap.size, 1, none⟩ = some (.int .u64 p.f.id) ∧ W.cell? ⟨w.heap.size, 2, none⟩ = some (.int .u64 p.f.off) ∧ W.cell? ⟨w.heap.size, 6, none⟩ = some (.bool false) ∧ W.cell? ⟨w.heap.size, 7, none⟩ = some (.slice p.da m p.dc) ∧ w.heap.size < W.heap.size) := Lib.hid (by
    intro W hW
    have f := FB.fc (FB1.out.below hW) H16.out
    have h7 := f.c7
    have h6 := f.c6
    rw [hm] at h7
    rw [hfin] at h6
    exact ⟨f.c1, f.c2, h6, h7, f.lt⟩)
  have HS : Hid (∀ W : World, Below w1.heap.size w1 W → Sl .u8 W p.da p.dc p.f.data) := Lib.hid (fun W hW => HP.out.d.below (below_on K1.out hW K1.out.size))
  clear hboxn hw1 hm hfin
  have HK1 := Lib.hid (Below.refl w1.heap.size w1)
  obtain ⟨c1, c2, c6, c7, flt⟩ := HC.out w1 HK1.out
  go_upto_region 6 with (fail)
  refine rg_start 7 ?_
  refine rg_below fun K hx hne hC hbel => ?_
  have k1 := fun z : Wd K => (hx z _ 1 _ flt).trans c1
  clear hx
  refine rg_quiet 4 [0,2,3] hC ?_
  simp only [pickD, List.map_cons, List.map_nil, List.getD_cons_zero, List.getD_cons_succ]; repeat (go_big_quiet_step (fail))
  refine wpQuiet_nil ?_
  refine rg_act 1 ?_
  go_wp2_with (fail)
  refine (u_any (14) _ (by unfold U64; omega)).mono ?_
  rintro e w11 ⟨a11, n11, cp11, rfl, hn11, h811, ho11, hb11⟩
  have HO11 := Lib.hid (show OwB w11 w1.heap.size a11 cp11 (enc (14)) from ⟨ho11.1.base_le (by simp), ho11.2⟩)
  have HN11 := Lib.hid hn11
  have HK11 := Lib.hid (below_on HK1.out.drew hb11 (by have := HK1.out.size; exact this))
  have HB11 := Lib.hid hb11
  clear hb11 ho11 hn11
  go_wp2_with (fail)
  refine ⟨hbel _ HB11.out, ?_⟩
  refine rg_cut 4 ?_
  go_wp2_with (fail)
  refine (u_any (p.f.id) _ HID.out).mono ?_
  rintro e w12 ⟨a12, n12, cp12, rfl, hn12, h812, ho12, hb12⟩
  have HO12 := Lib.hid ho12
  have HN12 := Lib.hid hn12
  have HK12 := Lib.hid (below_on HK11.out hb12 HK11.out.size)
  have HP12 := Lib.hid (HO11.out.below hb12)
  clear hb12 ho12 hn12
  go_wp2_with (fail)
  refine rg_do 5 ?_
  go_wp2_with (at_builtin; refine Stop.mk ?_)
  refine Stop.out ?_
  refine wpList_appB rfl rfl rfl rfl HN11.out HN12.out HP12.out (HO12.out.sl) (by omega) HK12.out.size ?_
  intro a13 cp13 w13 ho13 hb13
  have HO13 := Lib.hid ho13
  have HK13 := Lib.hid (HK12.out.trans hb13)
  have HN13 := Lib.hid (show n11 + n12 = (enc (14) ++ enc (p.f.id)).length by rw [List.length_append, ← HN11.out, ← HN12.out])
  clear ho13 hb13
  obtain ⟨n13, hn13⟩ : ∃ n', n11 + n12 = n' := ⟨_, rfl⟩
  have h813 : n13 ≤ 16 := by omega
  rw [hn13] at HN13 ⊢
  clear hn13
  go_wp2_with (fail)
  refine rg_below fun K hx hne hC hbel => ?_
  refine rg_quiet 0 [6] hC ?_
  simp only [pickD, List.map_cons, List.map_nil, List.getD_cons_zero, List.getD_cons_succ]; repeat (go_big_quiet_step (fail))
  refine wpQuiet_nil ?_
  refine rg_end ?_
  clear k1 c1 c2 c6 c7 flt
  obtain ⟨c1, c2, c6, c7, flt⟩ := HC.out w13 HK13.out
  go_wp2_with (fail)
  refine (u_any (p.f.off) _ HOF.out).mono ?_
  rintro e w14 ⟨a14, n14, cp14, rfl, hn14, h814, ho14, hb14⟩
  have HO14 := Lib.hid ho14
  have HN14 := Lib.hid hn14
  have HK14 := Lib.hid (below_on HK13.out hb14 HK13.out.size)
  have HP14 := Lib.hid (HO13.out.below hb14)
  clear hb14 ho14 hn14
  go_wp2_with (at_builtin; refine Stop.mk ?_)
  refine Stop.out ?_
  refine wpList_appB rfl rfl rfl rfl HN13.out HN14.out HP14.out (HO14.out.sl) (by omega) HK14.out.size ?_
  intro a15 cp15 w15 ho15 hb15
  have HO15 := Lib.hid ho15
  have HK15 := Lib.hid (HK14.out.trans hb15)
  have HN15 := Lib.hid (show n13 + n14 = (enc (14) ++ enc (p.f.id) ++ enc (p.f.off)).length by rw [List.length_append, ← HN13.out, ← HN14.out])
  clear ho15 hb15
  obtain ⟨n15, hn15⟩ : ∃ n', n13 + n14 = n' := ⟨_, rfl⟩
  have h815 : n15 ≤ 24 := by omega
  rw [hn15] at HN15 ⊢
  clear hn15
  clear c1 c2 c6 c7 flt
  obtain ⟨c1, c2, c6, c7, flt⟩ := HC.out w15 HK15.out
  go_wp2_with (fail)
  refine (u_any ((m : Int)) _ (by unfold U64; omega)).mono ?_
  rintro e w16 ⟨a16, n16, cp16, rfl, hn16, h816, ho16, hb16⟩
  have HO16 := Lib.hid ho16
  have HN16 := Lib.hid hn16
  have HK16 := Lib.hid (below_on HK15.out hb16 HK15.out.size)
  have HP16 := Lib.hid (HO15.out.below hb16)
  clear hb16 ho16 hn16
  go_wp2_with (at_builtin; refine Stop.mk ?_)
  refine Stop.out ?_
  refine wpList_appB rfl rfl rfl rfl HN15.out HN16.out HP16.out (HO16.out.sl) (by omega) HK16.out.size ?_
  intro a17 cp17 w17 ho17 hb17
  have HO17 := Lib.hid ho17
  have HK17 := Lib.hid (HK16.out.trans hb17)
  have HN17 := Lib.hid (show n15 + n16 = (enc (14) ++ enc (p.f.id) ++ enc (p.f.off) ++ enc ((m : Int))).length by rw [List.length_append, ← HN15.out, ← HN16.out])
  clear ho17 hb17
  obtain ⟨n17, hn17⟩ : ∃ n', n15 + n16 = n' := ⟨_, rfl⟩
  have h817 : n17 ≤ 32 := by omega
  rw [hn17] at HN17 ⊢
  clear hn17
  clear c1 c2 c6 c7 flt
  obtain ⟨c1, c2, c6, c7, flt⟩ := HC.out w17 HK17.out
  go_wp2_with (at_builtin; refine Stop.mk ?_)
  refine Stop.out ?_
  refine wpList_appB rfl rfl rfl rfl HN17.out HM.out.symm HO17.out (HS.out _ HK17.out) (by omega) HK17.out.size ?_
  intro a18 cp18 w18 ho18 hb18
  have HO18 := Lib.hid ho18
  have HK18 := Lib.hid (HK17.out.trans hb18)
  have HN18 := Lib.hid (show n17 + m = (enc (14) ++ enc (p.f.id) ++ enc (p.f.off) ++ enc ((m : Int)) ++ p.f.data).length by rw [List.length_append, ← HN17.out, HM.out])
  clear ho18 hb18
  obtain ⟨n18, hn18⟩ : ∃ n', n17 + m = n' := ⟨_, rfl⟩
  have h818 : n18 ≤ 32 + m := by omega
  rw [hn18] at HN18 ⊢
  clear hn18
  go_wp2_with (fail)
  go_returns
  rw [HEQ.out]
  exact ⟨_, _, _, rfl, HN18.out, ⟨HO18.out.1.base_le (by omega), HO18.out.2⟩, below_on K1.out HK18.out K1.out.size⟩
set_option maxHeartbeats 4000000 in
set_option maxRecDepth 100000 in
theorem rstream_10 (p : FM) (w : World) (hp : p.ok w) (hd : p.f.data.length ≤ 1000000000) (hfin : p.f.fin = true) (hoff : ¬ p.f.off > 0) :
    Calls Try.prog 32 #[.agg p.vals] w fun e w' => ∃ a n cap, e = .returned (.slice a n cap) ∧ n = (rstreamB p.f).length ∧ OwB w' w.heap.size a cap (rstreamB p.f) ∧ Below w.heap.size w w' := by
  have hboxn := Blk.new w p.vals 36
  have hw1 := (Below.refl w.heap.size w).alloc (Nat.le_refl _) (.cells p.vals 36)
  have HP := Lib.hid hp
  have H16 := Lib.hid hp.fr.tok16
  obtain ⟨m, hm⟩ : ∃ m, p.f.data.length = m := ⟨_, rfl⟩
  have HM := Lib.hid hm
  have hfr := hp.fr
  have HID := Lib.hid hfr.id
  have HOF := Lib.hid hfr.off
  have HEQ : Hid (rstreamB p.f = enc 11 ++ enc p.f.id ++ enc m ++ p.f.data) := Lib.hid (by
    unfold rstreamB sizedB
    rw [hfin, hm, if_neg hoff, if_neg hoff]
    simp)
  rw [hm] at hd
  clear hp hfr
  go_enter Try.func32, Try.ntmps32
  go_upto_region 1 with (fail)
  have hsz1 : w.heap.size + 1 ≤ (w.alloc (.cells p.vals 36)).heap.size := by simp
  generalize w.alloc (.cells p.vals 36) = w1 at *
  have FB1 := Lib.hid hboxn
  have K1 := Lib.hid hw1
  have HC : Hid (∀ W : World, Below w1.heap.size w1 W → W.cell? ⟨w.heap.size, 1, none⟩ = some (.int .u64 p.f.id) ∧ W.cell? ⟨w.heap.size, 2, none⟩ = some (.int .u64 p.f.off) ∧ W.cell? ⟨w.heap.size, 6, none⟩ = some (.bool true) ∧ W.cell? ⟨w.heap.size, 7, none⟩ = some (.slice p.da m p.dc) ∧ w.heap.size < W.heap.size) := Lib.hid (by
    intro W hW
    have f := FB.fc (FB1.out.below hW) H16.out
    have h7 := f.c7
    have h6 := f.c6
    rw [hm] at h7
    rw [hfin] at h6
    exact ⟨f.c1, f.c2, h6, h7, f.lt⟩)
  have HS : Hid (∀ W : World, Below w1.heap.size w1 W → Sl .u8 W p.da p.dc p.f.data) := Lib.hid (fun W hW => HP.out.d.below (below_on K1.out hW K1.out.size))
  clear hboxn hw1 hm hfin
  have HK1 := Lib.hid (Below.refl w1.heap.size w1)
  obtain ⟨c1, c2, c6, c7, flt⟩ := HC.out w1 HK1.out
  go_upto_region 6 with (fail)
  refine rg_start 7 ?_
  refine rg_below fun K hx hne hC hbel => ?_
  have k1 := fun z : Wd K => (hx z _ 1 _ flt).trans c1
  clear hx
  refine rg_quiet 4 [0,2,3] hC ?_
  simp only [pickD, List.map_cons, List.map_nil, List.getD_cons_zero, List.getD_cons_succ]; repeat (go_big_quiet_step (fail))
  refine wpQuiet_nil ?_
  refine rg_act 1 ?_
  go_wp2_with (fail)
  refine (u_any (11) _ (by unfold U64; omega)).mono ?_
  rintro e w11 ⟨a11, n11, cp11, rfl, hn11, h811, ho11, hb11⟩
  have HO11 := Lib.hid (show OwB w11 w1.heap.size a11 cp11 (enc (11)) from ⟨ho11.1.base_le (by simp), ho11.2⟩)
  have HN11 := Lib.hid hn11
  have HK11 := Lib.hid (below_on HK1.out.drew hb11 (by have := HK1.out.size; exact this))
  have HB11 := Lib.hid hb11
  clear hb11 ho11 hn11
  go_wp2_with (fail)
  refine ⟨hbel _ HB11.out, ?_⟩
  refine rg_cut 4 ?_
  go_wp2_with (fail)
  refine (u_any (p.f.id) _ HID.out).mono ?_
  rintro e w12 ⟨a12, n12, cp12, rfl, hn12, h812, ho12, hb12⟩
  have HO12 := Lib.hid ho12
  have HN12 := Lib.hid hn12
  have HK12 := Lib.hid (below_on HK11.out hb12 HK11.out.size)
  have HP12 := Lib.hid (HO11.out.below hb12)
  clear hb12 ho12 hn12
  go_wp2_with (fail)
  refine rg_do 5 ?_
  go_wp2_with (at_builtin; refine Stop.mk ?_)
  refine Stop.out ?_
  refine wpList_appB rfl rfl rfl rfl HN11.out HN12.out HP12.out (HO12.out.sl) (by omega) HK12.out.size ?_
  intro a13 cp13 w13 ho13 hb13
  have HO13 := Lib.hid ho13
  have HK13 := Lib.hid (HK12.out.trans hb13)
  have HN13 := Lib.hid (show n11 + n12 = (enc (11) ++ enc (p.f.id)).length by rw [List.length_append, ← HN11.out, ← HN12.out])
  clear ho13 hb13
  obtain ⟨n13, hn13⟩ : ∃ n', n11 + n12 = n' := ⟨_, rfl⟩
  have h813 : n13 ≤ 16 := by omega
  rw [hn13] at HN13 ⊢
  clear hn13
  go_wp2_with (fail)
  refine rg_below fun K hx hne hC hbel => ?_
  refine rg_quiet 0 [6] hC ?_
  simp only [pickD, List.map_cons, List.map_nil, List.getD_cons_zero, List.getD_cons_succ]; repeat (go_big_quiet_step (fail))
  refine wpQuiet_nil ?_
  refine rg_end ?_
  clear k1 c1 c2 c6 c7 flt
  obtain ⟨c1, c2, c6, c7, flt⟩ := HC.out w13 HK13.out
  go_wp2_with (fail)
  refine (u_any ((m : Int)) _ (by unfold U64; omega)).mono ?_
  rintro e w14 ⟨a14, n14, cp14, rfl, hn14, h814, ho14, hb14⟩
  have HO14 := Lib.hid ho14
  have HN14 := Lib.hid hn14
  have HK14 := Lib.hid (below_on HK13.out hb14 HK13.out.size)
  have HP14 := Lib.hid (HO13.out.below hb14)
  clear hb14 ho14 hn14
  go_wp2_with (at_builtin; refine Stop.mk ?_)
  refine Stop.out ?_
  refine wpList_appB rfl rfl rfl rfl HN13.out HN14.out HP14.out (HO14.out.sl) (by omega) HK14.out.size ?_
  intro a15 cp15 w15 ho15 hb15
  have HO15 := Lib.hid ho15
  have HK15 := Lib.hid (HK14.out.trans hb15)
  have HN15 := Lib.hid (show n13 + n14 = (enc (11) ++ enc (p.f.id) ++ enc ((m : Int))).length by rw [List.length_append, ← HN13.out, ← HN14.out])
  clear ho15 hb15
  obtain ⟨n15, hn15⟩ : ∃ n', n13 + n14 = n' := ⟨_, rfl⟩
  have h815 : n15 ≤ 24 := by omega
  rw [hn15] at HN15 ⊢
  clear hn15
  clear c1 c2 c6 c7 flt
  obtain ⟨c1, c2, c6, c7, flt⟩ := HC.out w15 HK15.out
  go_wp2_with (at_builtin; refine Stop.mk ?_)
  refine Stop.out ?_
  refine wpList_appB rfl rfl rfl rfl HN15.out HM.out.symm HO15.out (HS.out _ HK15.out) (by omega) HK15.out.size ?_
  intro a16 cp16 w16 ho16 hb16
  have HO16 := Lib.hid ho16
  have HK16 := Lib.hid (HK15.out.trans hb16)
  have HN16 := Lib.hid (show n15 + m = (enc (11) ++ enc (p.f.id) ++ enc ((m : Int)) ++ p.f.data).length by rw [List.length_append, ← HN15.out, HM.out])
  clear ho16 hb16
  obtain ⟨n16, hn16⟩ : ∃ n', n15 + m = n' := ⟨_, rfl⟩
  have h816 : n16 ≤ 24 + m := by omega
  rw [hn16] at HN16 ⊢
  clear hn16
  go_wp2_with (fail)
  go_returns
  rw [HEQ.out]
  exact ⟨_, _, _, rfl, HN16.out, ⟨HO16.out.1.base_le (by omega), HO16.out.2⟩, below_on K1.out HK16.out K1.out.size⟩
set_option maxHeartbeats 4000000 in
set_option maxRecDepth 100000 in
theorem rstream_11 (p : FM) (w : World) (hp : p.ok w) (hd : p.f.data.length ≤ 1000000000) (hfin : p.f.fin = true) (hoff : p.f.off > 0) :
    Calls Try.prog 32 #[.agg p.vals] w fun e w' => ∃ a n cap, e = .returned (.slice a n cap) ∧ n = (rstreamB p.f).length ∧ OwB w' w.heap.size a cap (rstreamB p.f) ∧ Below w.heap.size w w' := by
  have hboxn := Blk.new w p.vals 36
  have hw1 := (Below.refl w.heap.size w).alloc (Nat.le_refl _) (.cells p.vals 36)
  have HP := Lib.hid hp
  have H16 := Lib.hid hp.fr.tok16
  obtain ⟨m, hm⟩ : ∃ m, p.f.data.length = m := ⟨_, rfl⟩
  have HM := Lib.hid hm
  have hfr := hp.fr
  have HID := Lib.hid hfr.id
  have HOF := Lib.hid hfr.off
  have HEQ : Hid (rstreamB p.f = enc 15 ++ enc p.f.id ++ enc p.f.off ++ enc m ++ p.f.data) := Lib.hid (by
    unfold rstreamB sizedB
    rw [hfin, hm, if_pos hoff, if_pos hoff]
    simp)
  rw [hm] at hd
  clear hp hfr
  go_enter Try.func32, Try.ntmps32
  go_upto_region 1 with (fail)
  have hsz1 : w.heap.size + 1 ≤ (w.alloc (.cells p.vals 36)).heap.size := by simp
  generalize w.alloc (.cells p.vals 36) = w1 at *
  have FB1 := Lib.hid hboxn
  have K1 := Lib.hid hw1
  have HC : Hid (∀ W : World, Below w1.heap.size w1 W → W.cell? ⟨w.heap.size, 1, none⟩ = some (.int .u64 p.f.id) ∧ W.cell? ⟨w.heap.size, 2, none⟩ = some (.int .u64 p.f.off) ∧ W.cell? ⟨w.heap.size, 6, none⟩ = some (.bool true) ∧ W.cell? ⟨w.heap.size, 7, none⟩ = some (.slice p.da m p.dc) ∧ w.heap.size < W.heap.size) := Lib.hid (by
    intro W hW
    have f := FB.fc (FB1.out.below hW) H16.out
    have h7 := f.c7
    have h6 := f.c6
    rw [hm] at h7
    rw [hfin] at h6
    exact ⟨f.c1, f.c2, h6, h7, f.lt⟩)
  have HS : Hid (∀ W : World, Below w1.heap.size w1 W → Sl .u8 W p.da p.dc p.f.data) := Lib.hid (fun W hW => HP.out.d.below (below_on K1.out hW K1.out.size))
  clear hboxn hw1 hm hfin
  have HK1 := Lib.hid (Below.refl w1.heap.size w1)
  obtain ⟨c1, c2, c6, c7, flt⟩ := HC.out w1 HK1.out
  go_upto_region 6 with (fail)
  refine rg_start 7 ?_
  refine rg_below fun K hx hne hC hbel => ?_
  have k1 := fun z : Wd K => (hx z _ 1 _ flt).trans c1
  clear hx
  refine rg_quiet 4 [0,2,3] hC ?_
  simp only [pickD, List.map_cons, List.map_nil, List.getD_cons_zero, List.getD_cons_succ]; repeat (go_big_quiet_step (fail))
  refine wpQuiet_nil ?_
  refine rg_act 1 ?_
  go_wp2_with (fail)
  refine (u_any (15) _ (by unfold U64; omega)).mono ?_
  rintro e w11 ⟨a11, n11, cp11, rfl, hn11, h811, ho11, hb11⟩
  have HO11 := Lib.hid (show OwB w11 w1.heap.size a11 cp11 (enc (15)) from ⟨ho11.1.base_le (by simp), ho11.2⟩)
  have HN11 := Lib.hid hn11
  have HK11 := Lib.hid (below_on HK1.out.drew hb11 (by have := HK1.out.size; exact this))
  have HB11 := Lib.hid hb11
  clear hb11 ho11 hn11
  go_wp2_with (fail)
  refine ⟨hbel _ HB11.out, ?_⟩
  refine rg_cut 4 ?_
  go_wp2_with (fail)
  refine (u_any (p.f.id) _ HID.out).mono ?_
  rintro e w12 ⟨a12, n12, cp12, rfl, hn12, h812, ho12, hb12⟩
  have HO12 := Lib.hid ho12
  have HN12 := Lib.hid hn12
  have HK12 := Lib.hid (below_on HK11.out hb12 HK11.out.size)
  have HP12 := Lib.hid (HO11.out.below hb12)
  clear hb12 ho12 hn12
  go_wp2_with (fail)
  refine rg_do 5 ?_
  go_wp2_with (at_builtin; refine Stop.mk ?_)
  refine Stop.out ?_
  refine wpList_appB rfl rfl rfl rfl HN11.out HN12.out HP12.out (HO12.out.sl) (by omega) HK12.out.size ?_
  intro a13 cp13 w13 ho13 hb13
  have HO13 := Lib.hid ho13
  have HK13 := Lib.hid (HK12.out.trans hb13)
  have HN13 := Lib.hid (show n11 + n12 = (enc (15) ++ enc (p.f.id)).length by rw [List.length_append, ← HN11.out, ← HN12.out])
  clear ho13 hb13
  obtain ⟨n13, hn13⟩ : ∃ n', n11 + n12 = n' := ⟨_, rfl⟩
  have h813 : n13 ≤ 16 := by omega
  rw [hn13] at HN13 ⊢
  clear hn13
  go_wp2_with (fail)
  refine rg_below fun K hx hne hC hbel => ?_
  refine rg_quiet 0 [6] hC ?_
  simp only [pickD, List.map_cons, List.map_nil, List.getD_cons_zero, List.getD_cons_succ]; repeat (go_big_quiet_step (fail))
  refine wpQuiet_nil ?_
  refine rg_end ?_
  clear k1 c1 c2 c6 c7 flt
  obtain ⟨c1, c2, c6, c7, flt⟩ := HC.out w13 HK13.out
  go_wp2_with (fail)
  refine (u_any (p.f.off) _ HOF.out).mono ?_
  rintro e w14 ⟨a14, n14, cp14, rfl, hn14, h814, ho14, hb14⟩
  have HO14 := Lib.hid ho14
  have HN14 := Lib.hid hn14
  have HK14 := Lib.hid (below_on HK13.out hb14 HK13.out.size)
  have HP14 := Lib.hid (HO13.out.below hb14)
  clear hb14 ho14 hn14
  go_wp2_with (at_builtin; refine Stop.mk ?_)
  refine Stop.out ?_
  refine wpList_appB rfl rfl rfl rfl HN13.out HN14.out HP14.out (HO14.out.sl) (by omega) HK14.out.size ?_
  intro a15 cp15 w15 ho15 hb15
  have HO15 := Lib.hid ho15
  have HK15 := Lib.hid (HK14.out.trans hb15)
  have HN15 := Lib.hid (show n13 + n14 = (enc (15) ++ enc (p.f.id) ++ enc (p.f.off)).length by rw [List.length_append, ← HN13.out, ← HN14.out])
  clear ho15 hb15
  obtain ⟨n15, hn15⟩ : ∃ n', n13 + n14 = n' := ⟨_, rfl⟩
  have h815 : n15 ≤ 24 := by omega
  rw [hn15] at HN15 ⊢
  clear hn15
  clear c1 c2 c6 c7 flt
  obtain ⟨c1, c2, c6, c7, flt⟩ := HC.out w15 HK15.out
  go_wp2_with (fail)
  refine (u_any ((m : Int)) _ (by unfold U64; omega)).mono ?_
  rintro e w16 ⟨a16, n16, cp16, rfl, hn16, h816, ho16, hb16⟩
  have HO16 := Lib.hid ho16
  have HN16 := Lib.hid hn16
  have HK16 := Lib.hid (below_on HK15.out hb16 HK15.out.size)
  have HP16 := Lib.hid (HO15.out.below hb16)
  clear hb16 ho16 hn16
  go_wp2_with (at_builtin; refine Stop.mk ?_)
  refine Stop.out ?_
  refine wpList_appB rfl rfl rfl rfl HN15.out HN16.out HP16.out (HO16.out.sl) (by omega) HK16.out.size ?_
  intro a17 cp17 w17 ho17 hb17
  have HO17 := Lib.hid ho17
  have HK17 := Lib.hid (HK16.out.trans hb17)
  have HN17 := Lib.hid (show n15 + n16 = (enc (15) ++ enc (p.f.id) ++ enc (p.f.off) ++ enc ((m : Int))).length by rw [List.length_append, ← HN15.out, ← HN16.out])
  clear ho17 hb17
  obtain ⟨n17, hn17⟩ : ∃ n', n15 + n16 = n' := ⟨_, rfl⟩
  have h817 : n17 ≤ 32 := by omega
  rw [hn17] at HN17 ⊢
  clear hn17
  clear c1 c2 c6 c7 flt
  obtain ⟨c1, c2, c6, c7, flt⟩ := HC.out w17 HK17.out
  go_wp2_with (at_builtin; refine Stop.mk ?_)
  refine Stop.out ?_
  refine wpList_appB rfl rfl rfl rfl HN17.out HM.out.symm HO17.out (HS.out _ HK17.out) (by omega) HK17.out.size ?_
  intro a18 cp18 w18 ho18 hb18
  have HO18 := Lib.hid ho18
  have HK18 := Lib.hid (HK17.out.trans hb18)
  have HN18 := Lib.hid (show n17 + m = (enc (15) ++ enc (p.f.id) ++ enc (p.f.off) ++ enc ((m : Int)) ++ p.f.data).length by rw [List.length_append, ← HN17.out, HM.out])
  clear ho18 hb18
  obtain ⟨n18, hn18⟩ : ∃ n', n17 + m = n' := ⟨_, rfl⟩
  have h818 : n18 ≤ 32 + m := by omega
  rw [hn18] at HN18 ⊢
  clear hn18
  go_wp2_with (fail)
  go_returns
  rw [HEQ.out]
  exact ⟨_, _, _, rfl, HN18.out, ⟨HO18.out.1.base_le (by omega), HO18.out.2⟩, below_on K1.out HK18.out K1.out.size⟩
theorem rstream_any (p : FM) (w : World) (hp : p.ok w) (hd : p.f.data.length ≤ 1000000000) :
    Calls Try.prog 32 #[.agg p.vals] w fun e w' => ∃ a n cap, e = .returned (.slice a n cap) ∧ n = (rstreamB p.f).length ∧ OwB w' w.heap.size a cap (rstreamB p.f) ∧ Below w.heap.size w w' := by
  by_cases h : p.f.off > 0
  · cases hf : p.f.fin
    · exact rstream_01 p w hp hd hf h
    · exact rstream_11 p w hp hd hf h
  · cases hf : p.f.fin
    · exact rstream_00 p w hp hd hf h
    · exact rstream_10 p w hp hd hf h
end Frm
end Go.Proofs.Ytcpjehgoeibbeaa
