/- The document's acks. -/
import Derived.Test.YtcpjehgoeibbeaaFrE5
namespace Go.Proofs.Ytcpjehgoeibbeaa
open Go.RowKit
set_option linter.unusedVariables false
namespace Frm
open Var
def racksB (f : Fr) : List Int := acksB f ++ (if f.kind = 3 then enc f.e0 ++ enc f.e1 ++ enc f.e2 else [])
theorem acksB_at (f : Fr) (k : Nat) (h : f.acks.length = k + 1) : acksB f = enc ((f.acks.getD k default).2 - 1) ++ enc f.delay ++ enc k ++ enc ((f.acks.getD k default).2 - 1 - (f.acks.getD k default).1) ++ gapsB (f.acks.getD k default).1 (f.acks.take k).reverse := by
  unfold acksB
  have e : f.acks = f.acks.take k ++ [f.acks.getD k default] := by
    conv => lhs; rw [← List.take_append_drop k f.acks]
    congr 1
    rw [List.getD_eq_getElem?_getD, List.drop_eq_getElem_cons (by omega), List.getElem?_eq_getElem (by omega), List.drop_of_length_le (by omega)]
    rfl
  have e2 : f.acks.reverse = f.acks.getD k default :: (f.acks.take k).reverse := by
    conv => lhs; rw [e]
    simp
  rw [e2]
  obtain ⟨x, y⟩ : Int × Int := f.acks.getD k default
  simp only [List.length_reverse, List.length_take, h]
  rw [Nat.min_eq_left (by omega), show y - x - 1 = y - 1 - x by omega]
theorem gaps_at (L : List Rg) (above : Int) (m : Nat) (h : m < L.length) : gapsB above (L.take (m + 1)).reverse = enc (above - (L.getD m default).2 - 1) ++ (enc ((L.getD m default).2 - 1 - (L.getD m default).1) ++ gapsB (L.getD m default).1 (L.take m).reverse) := by
  have e : (L.take (m + 1)).reverse = L.getD m default :: (L.take m).reverse := by
    rw [List.take_add_one, List.getD_eq_getElem?_getD, List.getElem?_eq_getElem h]
    simp
  rw [e]
  obtain ⟨x, y⟩ : Int × Int := L.getD m default
  simp only [gapsB, List.append_assoc]
  rw [show y - x - 1 = y - 1 - x by omega]
set_option maxHeartbeats 4000000 in
set_option maxRecDepth 100000 in
theorem racks_any (p : FM) (w : World) (hp : p.ok w) (hok : acksOk p.f.acks = true) (k : Nat) (hk : p.f.acks.length = k + 1) (hkl : k ≤ 1000000) :
    Calls Try.prog 34 #[.agg p.vals] w fun e w' => ∃ a n cap, e = .returned (.slice a n cap) ∧ n = (racksB p.f).length ∧ OwB w' w.heap.size a cap (racksB p.f) ∧ Below w.heap.size w w' := by
  have hboxn := Blk.new w p.vals 36
  have hw1 := (Below.refl w.heap.size w).alloc (Nat.le_refl _) (.cells p.vals 36)
  have HP := Lib.hid hp
  have H16 := Lib.hid hp.fr.tok16
  have HK := Lib.hid hk
  have hB := acksB_at p.f k hk
  have HBB := Lib.hid hB
  have HOK := Lib.hid ((acksOk_iff _).1 hok).2
  have HBD := Lib.hid hp.a.bnd
  have HDL := Lib.hid hp.fr.delay
  have HE := Lib.hid (And.intro hp.fr.e0 (And.intro hp.fr.e1 hp.fr.e2))
  clear hp hok hB
  go_enter Try.func34, Try.ntmps34
  go_upto_region 1 with (fail)
  have HA1 : Hid (Rs (w.alloc (.cells p.vals 36)) p.aa p.ac p.f.acks) := Lib.hid (HP.out.a.below hw1)
  have hsz1 : w.heap.size + 1 ≤ (w.alloc (.cells p.vals 36)).heap.size := by simp
  generalize w.alloc (.cells p.vals 36) = w1 at *
  have FB1 := Lib.hid hboxn
  have K1 := Lib.hid hw1
  have fc := FB.fc hboxn H16.out
  have c25 := fc.c25
  have c26 := fc.c26
  have flt := fc.lt
  rw [hk] at c25
  clear fc
  obtain ⟨b, off, ha, hb, c1, c2⟩ := HA1.out.at_ (i := k) (by rw [HK.out]; omega)
  have hbd := HBD.out.getD (i := k) (by rw [HK.out]; omega)
  have hko := HOK.out k (by rw [HK.out]; omega)
  have hx0 := hko.1
  have hx1 := hko.2.1
  clear hko
  rw [ha] at c25
  have HC : Hid (∀ W : World, Below w1.heap.size w1 W → W.cell? ⟨w.heap.size, 25, none⟩ = some (.slice (some ⟨b, off, none⟩) (k + 1) p.ac) ∧ W.cell? ⟨w.heap.size, 26, none⟩ = some (.int .u64 p.f.delay)
      ∧ W.cell? ⟨w.heap.size, 0, none⟩ = some (.int .u64 p.f.kind) ∧ W.cell? ⟨w.heap.size, 27, none⟩ = some (.int .u64 p.f.e0) ∧ W.cell? ⟨w.heap.size, 28, none⟩ = some (.int .u64 p.f.e1) ∧ W.cell? ⟨w.heap.size, 29, none⟩ = some (.int .u64 p.f.e2)
      ∧ w.heap.size < W.heap.size ∧ b < W.heap.size ∧ ∀ i : Nat, i ≤ k → W.cell? ⟨b, off + i * 2, none⟩ = some (.int .u64 (p.f.acks.getD i default).1) ∧ W.cell? ⟨b, off + i * 2 + 1, none⟩ = some (.int .u64 (p.f.acks.getD i default).2)) := Lib.hid (by
    intro W hW
    have f := FB.fc (FB1.out.below hW) H16.out
    have h25 := f.c25
    rw [ha, HK.out] at h25
    refine ⟨h25, f.c26, f.c0, f.c27, f.c28, f.c29, f.lt, by have := hW.size; omega, fun i hi => ?_⟩
    obtain ⟨b', off', ha', hb', d1, d2⟩ := (HA1.out.below hW).at_ (i := i) (by rw [HK.out]; omega)
    rw [ha] at ha'
    cases ha'
    exact ⟨d1, d2⟩)
  clear hboxn hw1
  generalize hx : (p.f.acks.getD k default).1 = x at *
  generalize hy : (p.f.acks.getD k default).2 = y at *
  have HXX := Lib.hid hx
  have HYY := Lib.hid hy
  clear hx hy
  have hd26 : U64 p.f.delay := HDL.out
  go_upto_region 2 with (fail)
  refine rg_start 13 ?_
  refine rg_below fun K hx hne hC hbel => ?_
  have k25 := fun z : Wd K => (hx z _ 25 _ flt).trans c25
  have k26 := fun z : Wd K => (hx z _ 26 _ flt).trans c26
  have k1 := fun z : Wd K => (hx z _ _ _ hb).trans c1
  have k2 := fun z : Wd K => (hx z _ _ _ hb).trans c2
  clear hx
  refine rg_quiet 4 [0,1,2,3,4,5,6,8,9] hC ?_
  simp only [pickD, List.map_cons, List.map_nil, List.getD_cons_zero, List.getD_cons_succ]; repeat (go_big_quiet_step (fail))
  refine wpQuiet_nil ?_
  refine rg_act 7 ?_
  go_wp2_with (fail)
  refine (u_any (y - 1) _ (by unfold U64; omega)).mono ?_
  rintro e w2 ⟨a2, n2, cp2, rfl, hn2, h82, ho2, hb2⟩
  have b2 : Below w1.drew.heap.size w1.drew w2 := hb2
  have HB2 := Lib.hid b2
  have HK2 := Lib.hid (below_on ((Below.refl w1.heap.size w1).drew) b2 (by simp))
  have HO2 := Lib.hid (show OwB w2 w1.heap.size a2 cp2 (enc (y - 1)) from ⟨ho2.1.base_le (by simp), ho2.2⟩)
  have HN2 := Lib.hid hn2
  clear hb2 b2 ho2 hn2
  go_wp2_with (fail)
  refine ⟨hbel _ HB2.out, ?_⟩
  refine rg_cut 10 ?_
  go_wp2_with (fail)
  refine (u_any p.f.delay _ HDL.out).mono ?_
  rintro e w3 ⟨a3, n3, cp3, rfl, hn3, h83, ho3, hb3⟩
  have HO3 := Lib.hid ho3
  have HN3 := Lib.hid hn3
  have HO23 := Lib.hid (HO2.out.below hb3)
  have HK3 := Lib.hid (below_on HK2.out hb3 HK2.out.size)
  clear hb3 ho3 hn3
  go_wp2_with (fail)
  refine rg_do 11 ?_
  go_wp2_with (at_builtin; refine Stop.mk ?_)
  refine Stop.out ?_
  refine wpList_appB rfl rfl rfl rfl HN2.out HN3.out HO23.out HO3.out.sl (by omega) HK3.out.size ?_
  intro a4 cp4 w4 ho4 hb4
  have HO4 := Lib.hid ho4
  have HK4 := Lib.hid (HK3.out.trans hb4)
  have HN4 := Lib.hid (show n2 + n3 = (enc (y - 1) ++ enc p.f.delay).length by rw [List.length_append, ← HN2.out, ← HN3.out])
  clear ho4 hb4
  obtain ⟨n4, hn4⟩ : ∃ n, n2 + n3 = n := ⟨_, rfl⟩
  have h84 : n4 ≤ 16 := by omega
  rw [hn4] at HN4 ⊢
  clear hn4
  go_wp2_with (fail)
  refine rg_below fun K hx hne hC hbel => ?_
  refine rg_quiet 0 [12] hC ?_
  simp only [pickD, List.map_cons, List.map_nil, List.getD_cons_zero, List.getD_cons_succ]; repeat (go_big_quiet_step (fail))
  refine wpQuiet_nil ?_
  refine rg_end ?_
  go_upto_region 3 with (fail)
  clear k25 k26 k1 k2 c25 c26 c1 c2
  go_wp2_with (fail)
  refine (u_any k _ (by unfold U64; omega)).mono ?_
  rintro e w5 ⟨a5, n5, cp5, rfl, hn5, h85, ho5, hb5⟩
  have HO5 := Lib.hid ho5
  have HN5 := Lib.hid hn5
  have HO45 := Lib.hid (HO4.out.below hb5)
  have HK5 := Lib.hid (below_on HK4.out hb5 HK4.out.size)
  clear hb5 ho5 hn5
  go_wp2_with (at_builtin; refine Stop.mk ?_)
  refine Stop.out ?_
  refine wpList_appB rfl rfl rfl rfl HN4.out HN5.out HO45.out HO5.out.sl (by omega) HK5.out.size ?_
  intro a6 cp6 w6 ho6 hb6
  have HO6 := Lib.hid ho6
  have HK6 := Lib.hid (HK5.out.trans hb6)
  have HN6 := Lib.hid (show n4 + n5 = (enc (y - 1) ++ enc p.f.delay ++ enc k).length by rw [List.length_append, ← HN4.out, ← HN5.out])
  clear ho6 hb6
  obtain ⟨n6, hn6⟩ : ∃ n, n4 + n5 = n := ⟨_, rfl⟩
  have h86 : n6 ≤ 24 := by omega
  rw [hn6] at HN6 ⊢
  clear hn6
  obtain ⟨c25, c26, c0, c27, c28, c29, flt, hb, cc⟩ := HC.out w6 HK6.out
  obtain ⟨c1, c2⟩ := cc k (Nat.le_refl _)
  rw [HXX.out] at c1
  rw [HYY.out] at c2
  clear cc
  go_upto_region 4 with (fail)
  refine rg_start 18 ?_
  refine rg_below fun K hx hne hC hbel => ?_
  have k25 := fun z : Wd K => (hx z _ 25 _ flt).trans c25
  have k1 := fun z : Wd K => (hx z _ _ _ hb).trans c1
  have k2 := fun z : Wd K => (hx z _ _ _ hb).trans c2
  clear hx
  refine rg_quiet 3 [0,1,2,3,4,5,6,7,8,9,10,11,12,13,14] hC ?_
  simp only [pickD, List.map_cons, List.map_nil, List.getD_cons_zero, List.getD_cons_succ]; repeat (go_big_quiet_step (fail))
  refine wpQuiet_nil ?_
  refine rg_act 15 ?_
  go_wp2_with (fail)
  refine (u_any (y - 1 - x) _ (by unfold U64; have := hbd.1; omega)).mono ?_
  rintro e w7 ⟨a7, n7, cp7, rfl, hn7, h87, ho7, hb7⟩
  have HO7 := Lib.hid ho7
  have HN7 := Lib.hid hn7
  have HO67 := Lib.hid (HO6.out.below (below_on ((Below.refl w6.heap.size w6).drew) hb7 (by simp)))
  have HB7 := Lib.hid hb7
  have HK7 := Lib.hid (below_on HK6.out.drew hb7 (by have := HK6.out.size; simpa using this))
  clear hb7 ho7 hn7
  go_wp2_with (fail)
  refine ⟨hbel _ HB7.out, ?_⟩
  refine rg_cut 16 ?_
  go_wp2_with (at_builtin; refine Stop.mk ?_)
  refine Stop.out ?_
  refine wpList_appB rfl rfl rfl rfl HN6.out HN7.out HO67.out HO7.out.sl (by omega) HK7.out.size ?_
  intro a8 cp8 w8 ho8 hb8
  have HO8 := Lib.hid ho8
  have HK8 := Lib.hid (HK7.out.trans hb8)
  have HN8 := Lib.hid (show n6 + n7 = (enc (y - 1) ++ enc p.f.delay ++ enc k ++ enc (y - 1 - x)).length by rw [List.length_append, ← HN6.out, ← HN7.out])
  clear ho8 hb8
  obtain ⟨n8, hn8⟩ : ∃ n, n6 + n7 = n := ⟨_, rfl⟩
  have h88 : n8 ≤ 32 := by omega
  rw [hn8] at HN8 ⊢
  clear hn8
  go_wp2_with (fail)
  refine rg_below fun K hx hne hC hbel => ?_
  refine rg_quiet 0 [17] hC ?_
  simp only [pickD, List.map_cons, List.map_nil, List.getD_cons_zero, List.getD_cons_succ]; repeat (go_big_quiet_step (fail))
  refine wpQuiet_nil ?_
  refine rg_end ?_
  clear k25 k1 k2 c25 c26 c0 c27 c28 c29 c1 c2
  go_wp2_with (fail)
  go_loopw [4, 5, 6] (fun o i g wr => ∃ (m : Nat) (a : Option Addr) (n cp : Nat) (D : List Int), i = .int .i64 ((m : Int) - 1) ∧ m ≤ k ∧ o = .slice a n cp ∧ n + 16 * m ≤ 32 + 16 * k ∧ Hid (n = D.length) ∧ Hid (OwB wr w1.heap.size a cp D)
      ∧ Hid (D ++ gapsB (p.f.acks.getD m default).1 (p.f.acks.take m).reverse = acksB p.f) ∧ Hid (Below w1.heap.size w1 wr)) (fun _ i _ _ => (intOf i + 1).toNat)
  case atStart =>
    refine ⟨k, a8, n8, cp8, _, rfl, Nat.le_refl _, rfl, by omega, HN8, HO8, Lib.hid ?_, HK8⟩
    rw [HXX.out]
    exact HBB.out.symm
  case round =>
    obtain ⟨m, a, n, cp, D, rfl, hm, rfl, hn16, HND, HOD, HGD, HKD⟩ := hrel
    rcases Nat.eq_zero_or_pos m with rfl | hmp
    · have hD : D = acksB p.f := by have := HGD.out; simpa [gapsB] using this
      rw [hD] at HND HOD
      clear hD HGD
      have e0 : ((0 : Nat) : Int) - 1 = -1 := rfl
      rw [e0]
      clear e0
      obtain ⟨c25, c26, c0, c27, c28, c29, flt, hb, cc⟩ := HC.out wr HKD.out
      clear cc
      obtain ⟨he0, he1, he2⟩ := HE.out
      by_cases h3 : p.f.kind = 3
      · have HEQ : Hid (racksB p.f = acksB p.f ++ enc p.f.e0 ++ enc p.f.e1 ++ enc p.f.e2) := Lib.hid (by unfold racksB; rw [if_pos h3]; simp only [List.append_assoc])
        go_upto_region 12 with (fail)
        refine rg_start 17 ?_
        refine rg_besides (fun j => w1.heap.size ≤ j) fun K hx hne hC hbel => ?_
        have k27 := fun z : Wd K => (hx z w.heap.size 27 none flt (by omega)).trans c27
        have k28 := fun z : Wd K => (hx z w.heap.size 28 none flt (by omega)).trans c28
        have k29 := fun z : Wd K => (hx z w.heap.size 29 none flt (by omega)).trans c29
        clear hx
        have HBEL : Hid (∀ W, Below w1.heap.size w1 W → Cls K W) := Lib.hid (fun W hW => hbel W (fun j hj hs => by
          have h1 := hW.block j (by omega)
          have h2 := HKD.out.block j (by omega)
          show W.heap[j]? = wr.heap[j]?
          rw [h1, h2]))
        clear hbel
        refine rg_quiet 7 [0,1,2,3,6,7,8,11,12,13] hC ?_
        simp only [pickD, List.map_cons, List.map_nil, List.getD_cons_zero, List.getD_cons_succ]; repeat (go_big_quiet_step (fail))
        refine wpQuiet_nil ?_
        refine rg_act 4 ?_
        go_wp2_with (fail)
        refine (u_any p.f.e0 _ he0).mono ?_
        rintro e w12 ⟨a12, n12, cp12, rfl, hn12, h812, ho12, hb12⟩
        have HO12 := Lib.hid ho12
        have HN12 := Lib.hid hn12
        have HOD2 := Lib.hid (HOD.out.below (below_on ((Below.refl wr.heap.size wr).drew) hb12 (by simp)))
        have HK12 := Lib.hid (below_on HKD.out.drew hb12 (by have := HKD.out.size; simpa using this))
        clear hb12 ho12 hn12
        go_wp2_with (fail)
        refine ⟨HBEL.out _ HK12.out, ?_⟩
        refine rg_act 5 ?_
        go_wp2_with (at_builtin; refine Stop.mk ?_)
        refine Stop.out ?_
        refine wpList_appB rfl rfl rfl rfl HND.out HN12.out HOD2.out HO12.out.sl (by omega) HK12.out.size ?_
        intro a13 cp13 w13 ho13 hb13
        have HO13 := Lib.hid ho13
        have HK13 := Lib.hid (HK12.out.trans hb13)
        have HN13 := Lib.hid (show n + n12 = (acksB p.f ++ enc p.f.e0).length by rw [List.length_append, ← HND.out, ← HN12.out])
        clear ho13 hb13
        obtain ⟨n13, hn13⟩ : ∃ n', n + n12 = n' := ⟨_, rfl⟩
        have h813 : n13 ≤ 40 + 16 * k := by omega
        rw [hn13] at HN13 ⊢
        clear hn13
        go_wp2_with (fail)
        refine ⟨HBEL.out _ HK13.out, ?_⟩
        refine rg_act 9 ?_
        go_wp2_with (fail)
        refine (u_any p.f.e1 _ he1).mono ?_
        rintro e w14 ⟨a14, n14, cp14, rfl, hn14, h814, ho14, hb14⟩
        have HO14 := Lib.hid ho14
        have HN14 := Lib.hid hn14
        have HO134 := Lib.hid (HO13.out.below hb14)
        have HK14 := Lib.hid (below_on HK13.out hb14 HK13.out.size)
        clear hb14 ho14 hn14
        go_wp2_with (fail)
        refine ⟨HBEL.out _ HK14.out, ?_⟩
        refine rg_act 10 ?_
        go_wp2_with (at_builtin; refine Stop.mk ?_)
        refine Stop.out ?_
        refine wpList_appB rfl rfl rfl rfl HN13.out HN14.out HO134.out HO14.out.sl (by omega) HK14.out.size ?_
        intro a15 cp15 w15 ho15 hb15
        have HO15 := Lib.hid ho15
        have HK15 := Lib.hid (HK14.out.trans hb15)
        have HN15 := Lib.hid (show n13 + n14 = (acksB p.f ++ enc p.f.e0 ++ enc p.f.e1).length by rw [List.length_append, ← HN13.out, ← HN14.out])
        clear ho15 hb15
        obtain ⟨n15, hn15⟩ : ∃ n', n13 + n14 = n' := ⟨_, rfl⟩
        have h815 : n15 ≤ 48 + 16 * k := by omega
        rw [hn15] at HN15 ⊢
        clear hn15
        go_wp2_with (fail)
        refine ⟨HBEL.out _ HK15.out, ?_⟩
        refine rg_cut 14 ?_
        go_wp2_with (fail)
        refine (u_any p.f.e2 _ he2).mono ?_
        rintro e w16 ⟨a16, n16, cp16, rfl, hn16', h816, ho16, hb16⟩
        have HO16 := Lib.hid ho16
        have HN16 := Lib.hid hn16'
        have HO156 := Lib.hid (HO15.out.below hb16)
        have HK16 := Lib.hid (below_on HK15.out hb16 HK15.out.size)
        clear hb16 ho16 hn16'
        go_wp2_with (fail)
        refine rg_do 15 ?_
        go_wp2_with (at_builtin; refine Stop.mk ?_)
        refine Stop.out ?_
        refine wpList_appB rfl rfl rfl rfl HN15.out HN16.out HO156.out HO16.out.sl (by omega) HK16.out.size ?_
        intro a17 cp17 w17 ho17 hb17
        have HO17 := Lib.hid ho17
        have HK17 := Lib.hid (HK16.out.trans hb17)
        have HN17 := Lib.hid (show n15 + n16 = (acksB p.f ++ enc p.f.e0 ++ enc p.f.e1 ++ enc p.f.e2).length by rw [List.length_append, ← HN15.out, ← HN16.out])
        clear ho17 hb17
        obtain ⟨n17, hn17⟩ : ∃ n', n15 + n16 = n' := ⟨_, rfl⟩
        rw [hn17] at HN17 ⊢
        clear hn17
        go_wp2_with (fail)
        refine rg_below fun K hx hne hC hbel => ?_
        refine rg_quiet 0 [16] hC ?_
        simp only [pickD, List.map_cons, List.map_nil, List.getD_cons_zero, List.getD_cons_succ]; repeat (go_big_quiet_step (fail))
        refine wpQuiet_nil ?_
        refine rg_end ?_
        clear k27 k28 k29 c25 c26 c0 c27 c28 c29
        go_wp2_with (fail)
        go_returns
        rw [HEQ.out]
        exact ⟨a17, n17, cp17, rfl, HN17.out, ⟨HO17.out.1.base_le (by omega), HO17.out.2⟩, below_on K1.out HK17.out K1.out.size⟩
      · have HEQ : Hid (racksB p.f = acksB p.f) := Lib.hid (by unfold racksB; rw [if_neg h3, List.append_nil])
        go_wp2_with (fail)
        go_returns
        rw [HEQ.out]
        exact ⟨a, n, cp, rfl, HND.out, ⟨HOD.out.1.base_le (by omega), HOD.out.2⟩, below_on K1.out HKD.out K1.out.size⟩
    · obtain ⟨m, rfl⟩ : ∃ m', m = m' + 1 := ⟨m - 1, by omega⟩
      have e1 : ((m + 1 : Nat) : Int) - 1 = m := by omega
      rw [e1]
      clear e1
      obtain ⟨c25, c26, c0, c27, c28, c29, flt, hb, cc⟩ := HC.out wr HKD.out
      obtain ⟨c1, c2⟩ := cc (m + 1) hm
      obtain ⟨c3, c4⟩ := cc m (by omega)
      clear cc
      have hko := HOK.out (m + 1) (by rw [HK.out]; omega)
      have hk1 := hko.2.2 (by omega)
      have hk2 := hko.1
      have hk3 := hko.2.1
      have hko0 := HOK.out m (by rw [HK.out]; omega)
      have hk4 := hko0.1
      clear hko hko0
      rw [Nat.add_sub_cancel] at hk1
      have hbd1 := HBD.out.getD (i := m) (by rw [HK.out]; omega)
      have hbd2 := HBD.out.getD (i := m + 1) (by rw [HK.out]; omega)
      have HG2 := Lib.hid (HGD.out)
      rw [gaps_at p.f.acks _ m (by rw [HK.out]; omega)] at HG2
      clear HGD
      generalize (p.f.acks.getD (m + 1) default).1 = x1 at *
      generalize (p.f.acks.getD (m + 1) default).2 = y1 at *
      obtain ⟨x0, hx0'⟩ : ∃ x0, (p.f.acks.getD m default).1 = x0 := ⟨_, rfl⟩
      obtain ⟨y0, hy0'⟩ : ∃ y0, (p.f.acks.getD m default).2 = y0 := ⟨_, rfl⟩
      rw [hx0', hy0'] at HG2
      rw [hx0'] at c3 hbd1 hk4
      rw [hy0'] at c4 hk1 hbd1 hk4
      have HX0 := Lib.hid hx0'
      have HY0 := Lib.hid hy0'
      clear hx0' hy0'
      go_upto_region 8 with (fail)
      refine rg_start 15 ?_
      refine rg_same fun p hx hne hC => ?_
      refine rg_quiet 0 [0,1,2,3,4,5,6,7,8,9,10,11,12,13,14] hC ?_
      simp only [pickD, List.map_cons, List.map_nil, List.getD_cons_zero, List.getD_cons_succ]; repeat (go_big_quiet_step (fail))
      refine wpQuiet_nil ?_
      refine rg_end ?_
      go_wp2_with (fail)
      refine (u_any (x1 - y0 - 1) _ (by unfold U64; omega)).mono ?_
      rintro e w12 ⟨a12, n12, cp12, rfl, hn12, h812, ho12, hb12⟩
      have HO12 := Lib.hid ho12
      have HN12 := Lib.hid hn12
      have HOD2 := Lib.hid (HOD.out.below (below_on ((Below.refl wr.heap.size wr).drew) hb12 (by simp)))
      have HK12 := Lib.hid (below_on HKD.out.drew hb12 (by have := HKD.out.size; simpa using this))
      clear hb12 ho12 hn12
      go_wp2_with (at_builtin; refine Stop.mk ?_)
      refine Stop.out ?_
      refine wpList_appB rfl rfl rfl rfl HND.out HN12.out HOD2.out HO12.out.sl (by omega) HK12.out.size ?_
      intro a13 cp13 w13 ho13 hb13
      have HO13 := Lib.hid ho13
      have HK13 := Lib.hid (HK12.out.trans hb13)
      have HN13 := Lib.hid (show n + n12 = (D ++ enc (x1 - y0 - 1)).length by rw [List.length_append, ← HND.out, ← HN12.out])
      clear ho13 hb13
      obtain ⟨n13, hn13⟩ : ∃ n', n + n12 = n' := ⟨_, rfl⟩
      have h813 : n13 + 8 + 16 * m ≤ 32 + 16 * k := by omega
      rw [hn13] at HN13 ⊢
      clear hn13 c25 c26 c0 c27 c28 c29 flt hb c1 c2 c3 c4
      obtain ⟨c25, c26, c0, c27, c28, c29, flt, hb, cc⟩ := HC.out w13 HK13.out
      obtain ⟨c1, c2⟩ := cc m (by omega)
      rw [HX0.out] at c1
      rw [HY0.out] at c2
      clear cc
      go_upto_region 10 with (fail)
      refine rg_start 18 ?_
      refine rg_below fun K hx hne hC hbel => ?_
      have k25 := fun z : Wd K => (hx z _ 25 _ flt).trans c25
      have k1 := fun z : Wd K => (hx z _ _ _ hb).trans c1
      have k2 := fun z : Wd K => (hx z _ _ _ hb).trans c2
      clear hx
      refine rg_quiet 3 [0,1,2,3,4,5,6,7,8,9,10,11,12,13,14] hC ?_
      simp only [pickD, List.map_cons, List.map_nil, List.getD_cons_zero, List.getD_cons_succ]; repeat (go_big_quiet_step (fail))
      refine wpQuiet_nil ?_
      refine rg_act 15 ?_
      go_wp2_with (fail)
      refine (u_any (y0 - 1 - x0) _ (by unfold U64; have := hbd1.1; omega)).mono ?_
      rintro e w14 ⟨a14, n14, cp14, rfl, hn14, h814, ho14, hb14⟩
      have HO14 := Lib.hid ho14
      have HN14 := Lib.hid hn14
      have HO134 := Lib.hid (HO13.out.below (below_on ((Below.refl w13.heap.size w13).drew) hb14 (by simp)))
      have HB14 := Lib.hid hb14
      have HK14 := Lib.hid (below_on HK13.out.drew hb14 (by have := HK13.out.size; simpa using this))
      clear hb14 ho14 hn14
      go_wp2_with (fail)
      refine ⟨hbel _ HB14.out, ?_⟩
      refine rg_cut 16 ?_
      go_wp2_with (at_builtin; refine Stop.mk ?_)
      refine Stop.out ?_
      refine wpList_appB rfl rfl rfl rfl HN13.out HN14.out HO134.out HO14.out.sl (by omega) HK14.out.size ?_
      intro a15 cp15 w15 ho15 hb15
      have HO15 := Lib.hid ho15
      have HK15 := Lib.hid (HK14.out.trans hb15)
      have HN15 := Lib.hid (show n13 + n14 = (D ++ enc (x1 - y0 - 1) ++ enc (y0 - 1 - x0)).length by rw [List.length_append, ← HN13.out, ← HN14.out])
      clear ho15 hb15
      obtain ⟨n15, hn15⟩ : ∃ n', n13 + n14 = n' := ⟨_, rfl⟩
      have h815 : n15 + 16 * m ≤ 32 + 16 * k := by omega
      rw [hn15] at HN15 ⊢
      clear hn15
      go_wp2_with (fail)
      refine rg_below fun K hx hne hC hbel => ?_
      refine rg_quiet 0 [17] hC ?_
      simp only [pickD, List.map_cons, List.map_nil, List.getD_cons_zero, List.getD_cons_succ]; repeat (go_big_quiet_step (fail))
      refine wpQuiet_nil ?_
      refine rg_end ?_
      clear k25 k1 k2 c25 c26 c0 c27 c28 c29 c1 c2
      go_wp2_with (fail)
      trace_state
      refine ⟨⟨m, a15, n15, cp15, _, rfl, by omega, rfl, by omega, HN15, HO15, Lib.hid ?_, HK15⟩, by simp [intOf]⟩
      rw [HX0.out, List.append_assoc, List.append_assoc]
      exact HG2.out
end Frm
end Go.Proofs.Ytcpjehgoeibbeaa
