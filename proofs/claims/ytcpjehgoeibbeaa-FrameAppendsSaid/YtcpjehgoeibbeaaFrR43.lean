/- The reader: a frame (written by gen_frr4.py). -/
import Derived.Test.YtcpjehgoeibbeaaFrR40
namespace Go.Proofs.Ytcpjehgoeibbeaa
open Go.RowKit
set_option linter.unusedVariables false
namespace Frm
open Var

theorem readK_16 : readK 16 = rb tk fun m => rp { fr0 16 with max := m } := rfl
set_option maxHeartbeats 8000000 in
set_option maxRecDepth 100000 in
theorem rframe_16 (rb : Nat) (L L1 : List Int) (w : World) (h : RdB w rb L) (hl : L.length ≤ 1000000) (hk : tk L = some (16, L1)) (hsz : (L.length : Int) - L1.length = sizeF 16) :
    Calls Try.prog 25 #[.pointer (some ⟨rb, 0, none⟩)] w fun e w' => Only (· = rb) w w' ∧ (∀ x, readF L = some x → Hid (RF w' rb w.heap.size x.1 x.2 e)) ∧ (readF L = none → e = failE) := by
  have HR := Lib.hid h
  have hby := h.byte
  have lrb := h.lt
  obtain ⟨A, cap, m, rb1, rm, rs, rx⟩ := h
  have r0 := Blk.cell rb1 0 _ rfl
  have RM := Lib.hid rm
  have hmb : m ≤ 1000000 := by omega
  have HK := Lib.hid hk
  clear rb1 rm rs rx
  have hle1 := tk_le hk
  dsimp only at hle1
  have vk := tk_bnd hby hk
  dsimp only at vk
  have HL1 := Lib.hid (show L1.length ≤ 1000000 by omega)
  have HBY1 := Lib.hid (show ∀ x ∈ L1, Byte x from (tk_gives L _ L1 hk hby).1)
  have HSZ := Lib.hid hsz
  obtain ⟨RS, hRS⟩ : ∃ RS, readF L = RS := ⟨_, rfl⟩
  have HGO := Lib.hid (show RS = finR (readK 16 L1) by rw [← hRS]; exact readF_go hk hsz)
  rw [hRS]
  clear hRS hk hsz hle1
  go_enter Try.func25, Try.ntmps25
  go_wp2_with (fail)
  have kb0 := (Below.refl w.heap.size w).alloc (Nat.le_refl _) (.cells (fm0 0).vals 36)
  refine (rn_any rb L _ (HR.out.below kb0)).mono ?_
  rintro e w2 ⟨o2, hy2, hn2⟩
  obtain ⟨rfl, hr2⟩ := hy2 _ HK.out
  have HR2 : Hid (RdB w2 rb L1) := hr2
  have HZ2 := Lib.hid (show FB w2 w.heap.size (fm0 0) from o2.blk (fm0_at rfl) (fun h => by have h2 : w.heap.size = rb := h; omega))
  have OO2 := Lib.hid ((only_of_below kb0 (· = rb)).trans o2)
  have lz2 : w.heap.size < w2.heap.size := by have := o2.size; simp at this; omega
  obtain ⟨A2, cap2, m2, rb2, rm2, rs2, rx2⟩ := HR2.out
  have r2 := Blk.cell rb2 0 _ rfl
  have lrb2 : rb < w2.heap.size := by omega
  have hmb2 : m2 ≤ 1000000 := by have := HL1.out; omega
  have hsz2 : (m : Int) - m2 = sizeF 16 ∨ ¬ (m : Int) - m2 = sizeF 16 := Decidable.em _
  have hsm := size_le 16
  have hsm0 : 0 ≤ sizeF 16 := by omega
  have HSM := Lib.hid (show ((m : Int) - m2 = sizeF 16) ↔ ((L.length : Int) - L1.length = sizeF 16) by rw [RM.out, rm2])
  clear hy2 hn2 o2 kb0 rb2 rm2 rs2 rx2 hr2 hsz2
  obtain ⟨sz, hszv⟩ : ∃ s : Nat, sizeF 16 = s := ⟨_, rfl⟩
  have HSV := Lib.hid hszv
  clear hsm hsm0
  rw [hszv] at HSM
  have hq : ((m : Int) - m2 == (sz : Int)) = true := by simp only [beq_iff_eq]; rw [HSM.out, ← HSV.out]; exact HSZ.out
  clear hszv
  go_wp2_with (fail)
  refine rg_start 11 ?_
  refine rg_below fun KK hx hne hC hbel => ?_
  have k0 := fun z : Wd KK => (hx z _ 0 _ lrb2).trans r2
  clear hx
  refine rg_quiet 3 [0,1,2,3,4,5,6,7] hC ?_
  simp only [pickD, List.map_cons, List.map_nil, List.getD_cons_zero, List.getD_cons_succ]; repeat (go_big_quiet_step (fail))
  refine wpQuiet_nil ?_
  refine rg_act 8 ?_
  go_wp2_with (fail)
  refine (size_any 16 _ vk.1 (by omega)).mono ?_
  rintro e w3 ⟨rfl, rfl⟩
  rw [HSV.out]
  go_wp2_with (fail)
  refine ⟨hbel _ (Below.refl _ _), ?_⟩
  refine rg_quiet 1 [9] (hbel _ (Below.refl _ _)) ?_
  simp only [pickD, List.map_cons, List.map_nil, List.getD_cons_zero, List.getD_cons_succ]; repeat (go_big_quiet_step (fail))
  refine wpQuiet_nil ?_
  refine rg_cut 10 ?_
  go_wp2_with (fail)
  refine (must_true _).mono ?_
  rintro e w4 ⟨rfl, rfl⟩
  clear hbel hC hne k0
  go_wp2_with (fail)
  refine rg_end0 ?_
  go_wp2_with (with_reducible refine stop_stf ?_)
  refine Stop.out ?_
  refine wpList_storeF rfl rfl (fm0 16) (fm0 0) rfl rfl rfl rfl (fm0_at rfl) ?_
  intro w5 hb5 o5
  replace hb5 : FB w5 w2.heap.size (fm0 16) := hb5
  replace o5 : Only (· = w2.heap.size) (w2.drew.alloc (.cells (fm0 0).vals 36)) w5 := o5
  have bd : Below w2.heap.size w2 (w2.drew.alloc (.cells (fm0 0).vals 36)) := ((Below.refl _ w2).drew).alloc (Nat.le_refl _) _
  have b25 : Below w2.heap.size w2 w5 := below_onto bd o5 bd.size (by intro z hz h; omega)
  have HF5 := Lib.hid hb5
  have HZ5 := Lib.hid (FB.below HZ2.out b25)
  have HR5 := Lib.hid (HR2.out.below b25)
  have OO5 := Lib.hid (OO2.out.trans (only_of_below b25 (· = rb)))
  have hne : w2.heap.size ≠ rb := by omega
  have hnz : w.heap.size ≠ rb := by omega
  have lfb : w.heap.size < w2.heap.size := by omega
  have lrf : rb < w2.heap.size := by omega
  have HLF := Lib.hid (show w2.heap.size < w5.heap.size from Blk.lt hb5)
  clear r0 r2 lrb2 lz2 hq hb5 o5 bd b25
  generalize w2.heap.size = fb at *
  go_wp2_with (fail)
  refine (must_true _).mono ?_
  rintro e w9 ⟨rfl, rfl⟩
  go_wp2_with (fail)
  have hby10 := HR5.out.byte
  refine (rn_any rb L1 _ HR5.out).mono ?_
  rintro e w10 ⟨o10, hy10, hn10⟩
  have HY10 := Lib.hid hy10
  have HN10 := Lib.hid hn10
  have O10 := Lib.hid o10
  clear hy10 hn10 o10
  cases h10 : tk L1 with
  | none =>
    have he := HN10.out h10
    rw [failE] at he
    subst he
    have HT := Lib.hid (show RS = none from HGO.out.trans (finR_none (by rw [readK_16]; exact rb_none h10)))
    clear h10
    go_wp2_with (fail)
    exact ⟨rfl, OO5.out.trans O10.out, (fun x hx => by rw [HT.out] at hx; cases hx), (fun _ => rfl)⟩
  | some x =>
    obtain ⟨v10, L10⟩ := x
    obtain ⟨rfl, hr10⟩ := HY10.out _ h10
    have HR10 : Hid (RdB w10 rb L10) := hr10
    have H10 := Lib.hid h10
    have vb10 := tk_bnd hby10 h10
    have ll10 := tk_le h10
    dsimp only at vb10 ll10
    have HL10 := Lib.hid (show L10.length ≤ 1000000 by have := HL1.out; omega)
    clear h10 hby10 HY10 HN10 hr10 ll10
    have FF10 := Lib.hid (FB.only HF5.out O10.out hne)
    have ZZ10 := Lib.hid (FB.only HZ5.out O10.out hnz)
    have OO10 := Lib.hid (OO5.out.trans O10.out)
    have cc10 := FB.fc FF10.out rfl
    have p103 := cc10.c3
    have g103 := cc10.free 3
    clear cc10
    go_wp2_with (with_reducible refine stop_ldf ?_)
    have onl10 := Lib.hid ((Only.refl (· = fb) w10).set 3 (.int .u64 v10))
    have FS10 := Lib.hid (FF10.out.max v10)
    have RS10 := Lib.hid (HR10.out.only onl10.out (fun z hz => by omega))
    have ZS10 := Lib.hid (FB.only ZZ10.out onl10.out (by omega))
    have OS10 := Lib.hid (OO10.out.trans' onl10.out (fun z hz hs => by omega))
    have HF := Lib.hid (show readK 16 L1 = some (((fm0 16).setMax v10).f, L10) by rw [readK_16]; rw [rb_go H10.out]; rfl)
    have FRS := Lib.hid (show ((fm0 16).setMax v10).fresh fb from ⟨(fun x hx => by cases hx), (fun x hx => by cases hx), (fun x hx => by cases hx)⟩)
    have FOK := Lib.hid (show FrOk ((fm0 16).setMax v10).f ∧ ((fm0 16).setMax v10).f.data.length ≤ 1000000 ∧ ((fm0 16).setMax v10).f.acks.length ≤ 1000001 by
      obtain ⟨_, n, hn, res⟩ := readK_gives 16 (by omega) L1 ((fm0 16).setMax v10).f L10 HF.out HBY1.out
      have h1 := HL1.out
      have h2 := res.data
      have h3 := res.acks
      exact ⟨res.ok, by omega, by omega⟩)
    have SM := Lib.hid (show ((fm0 16).setMax v10).sm from ⟨FOK.out.2.1, Nat.zero_le _, Nat.zero_le _⟩)
    have hok := Lib.hid (show ((fm0 16).setMax v10).ok (w10.setCell ⟨fb, 3, none⟩ (.int .u64 v10)) from ⟨FOK.out.1, Sl.nil _ _, Sl.nil _ _, Rs.nil _⟩)
    have HT1 := Lib.hid (show RS = finR (some (((fm0 16).setMax v10).f, L10)) from HGO.out.trans (congrArg finR HF.out))
    refine Stop.out ?_
    refine wpList_loadF rfl rfl ((fm0 16).setMax v10) rfl rfl FS10.out ?_
    go_wp2_with (fail)
    refine (may_any ((fm0 16).setMax v10) _ hok.out (by have := SM.out.d; omega) SM.out.c (by have := SM.out.a; omega)).mono ?_
    cases hm : mayF ((fm0 16).setMax v10).f with
    | false =>
      have HT2 := Lib.hid (show RS = none from HT1.out.trans (finR_no hm))
      clear hm
      rintro e w8 ⟨rfl, b8⟩
      go_wp2_with (fail)
      refine (must_false _).mono ?_
      rintro e w9 ⟨he, rfl⟩
      rw [failE] at he
      subst he
      go_wp2_with (fail)
      exact ⟨rfl, OS10.out.trans (only_of_below b8 _), (fun x hx => by rw [HT2.out] at hx; cases hx), (fun _ => rfl)⟩
    | true =>
      have HT2 := Lib.hid (show RS = some (((fm0 16).setMax v10).f, L10) from HT1.out.trans (finR_may hm))
      clear hm
      rintro e w8 ⟨rfl, b8⟩
      have B8 := Lib.hid b8
      clear b8
      go_wp2_with (fail)
      refine (must_true _).mono ?_
      rintro e w9 ⟨rfl, rfl⟩
      have HF8 := Lib.hid (FB.below FS10.out B8.out)
      have HZ8 := Lib.hid (FB.below ZS10.out B8.out)
      go_wp2_with (with_reducible refine stop_ldf ?_)
      refine Stop.out ?_
      refine wpList_loadF rfl rfl ((fm0 16).setMax v10) rfl rfl HF8.out ?_
      go_wp2_with (with_reducible refine stop_stf ?_)
      refine Stop.out ?_
      refine wpList_storeF rfl rfl ((fm0 16).setMax v10) (fm0 0) rfl rfl rfl rfl HZ8.out ?_
      intro wy hby' oy
      go_wp2_with (fail)
      refine bodyPost_ret (results_cell_row rfl _ _ _ _ _ _ _ rfl hby' Try.underlying36 rfl (by rw [FM.size _ rfl]; exact fr_size)) rfl ?_
      refine ⟨(OS10.out.trans (only_of_below B8.out _)).trans' oy (fun z hz hs => by omega), ?_, (fun h => by rw [HT2.out] at h; cases h)⟩
      rw [HT2.out]
      intro x hx
      cases hx
      have hne8 : ∀ z : Nat, z ≤ rb → ¬ z = w.heap.size := fun z hz h => by omega
      have FR := FRS.out
      refine Lib.hid ⟨_, rfl, rfl, ⟨hok.out.fr, (hok.out.below B8.out).d.only oy (fun x hx _ h => by have := FR.1 x hx; omega), (hok.out.below B8.out).c.only oy (fun x hx _ h => by have := FR.2.1 x hx; omega), (hok.out.below B8.out).a.only oy (fun x hx _ h => by have := FR.2.2 x hx; omega)⟩, ⟨fun x hx => by have := FR.1 x hx; omega, fun x hx => by have := FR.2.1 x hx; omega, fun x hx => by have := FR.2.2 x hx; omega⟩, SM.out, (RS10.out.below B8.out).only oy hne8⟩

theorem readK_18 : readK 18 = rb tk fun m => rp { fr0 18 with max := m } := rfl
set_option maxHeartbeats 8000000 in
set_option maxRecDepth 100000 in
theorem rframe_18 (rb : Nat) (L L1 : List Int) (w : World) (h : RdB w rb L) (hl : L.length ≤ 1000000) (hk : tk L = some (18, L1)) (hsz : (L.length : Int) - L1.length = sizeF 18) :
    Calls Try.prog 25 #[.pointer (some ⟨rb, 0, none⟩)] w fun e w' => Only (· = rb) w w' ∧ (∀ x, readF L = some x → Hid (RF w' rb w.heap.size x.1 x.2 e)) ∧ (readF L = none → e = failE) := by
  have HR := Lib.hid h
  have hby := h.byte
  have lrb := h.lt
  obtain ⟨A, cap, m, rb1, rm, rs, rx⟩ := h
  have r0 := Blk.cell rb1 0 _ rfl
  have RM := Lib.hid rm
  have hmb : m ≤ 1000000 := by omega
  have HK := Lib.hid hk
  clear rb1 rm rs rx
  have hle1 := tk_le hk
  dsimp only at hle1
  have vk := tk_bnd hby hk
  dsimp only at vk
  have HL1 := Lib.hid (show L1.length ≤ 1000000 by omega)
  have HBY1 := Lib.hid (show ∀ x ∈ L1, Byte x from (tk_gives L _ L1 hk hby).1)
  have HSZ := Lib.hid hsz
  obtain ⟨RS, hRS⟩ : ∃ RS, readF L = RS := ⟨_, rfl⟩
  have HGO := Lib.hid (show RS = finR (readK 18 L1) by rw [← hRS]; exact readF_go hk hsz)
  rw [hRS]
  clear hRS hk hsz hle1
  go_enter Try.func25, Try.ntmps25
  go_wp2_with (fail)
  have kb0 := (Below.refl w.heap.size w).alloc (Nat.le_refl _) (.cells (fm0 0).vals 36)
  refine (rn_any rb L _ (HR.out.below kb0)).mono ?_
  rintro e w2 ⟨o2, hy2, hn2⟩
  obtain ⟨rfl, hr2⟩ := hy2 _ HK.out
  have HR2 : Hid (RdB w2 rb L1) := hr2
  have HZ2 := Lib.hid (show FB w2 w.heap.size (fm0 0) from o2.blk (fm0_at rfl) (fun h => by have h2 : w.heap.size = rb := h; omega))
  have OO2 := Lib.hid ((only_of_below kb0 (· = rb)).trans o2)
  have lz2 : w.heap.size < w2.heap.size := by have := o2.size; simp at this; omega
  obtain ⟨A2, cap2, m2, rb2, rm2, rs2, rx2⟩ := HR2.out
  have r2 := Blk.cell rb2 0 _ rfl
  have lrb2 : rb < w2.heap.size := by omega
  have hmb2 : m2 ≤ 1000000 := by have := HL1.out; omega
  have hsz2 : (m : Int) - m2 = sizeF 18 ∨ ¬ (m : Int) - m2 = sizeF 18 := Decidable.em _
  have hsm := size_le 18
  have hsm0 : 0 ≤ sizeF 18 := by omega
  have HSM := Lib.hid (show ((m : Int) - m2 = sizeF 18) ↔ ((L.length : Int) - L1.length = sizeF 18) by rw [RM.out, rm2])
  clear hy2 hn2 o2 kb0 rb2 rm2 rs2 rx2 hr2 hsz2
  obtain ⟨sz, hszv⟩ : ∃ s : Nat, sizeF 18 = s := ⟨_, rfl⟩
  have HSV := Lib.hid hszv
  clear hsm hsm0
  rw [hszv] at HSM
  have hq : ((m : Int) - m2 == (sz : Int)) = true := by simp only [beq_iff_eq]; rw [HSM.out, ← HSV.out]; exact HSZ.out
  clear hszv
  go_wp2_with (fail)
  refine rg_start 11 ?_
  refine rg_below fun KK hx hne hC hbel => ?_
  have k0 := fun z : Wd KK => (hx z _ 0 _ lrb2).trans r2
  clear hx
  refine rg_quiet 3 [0,1,2,3,4,5,6,7] hC ?_
  simp only [pickD, List.map_cons, List.map_nil, List.getD_cons_zero, List.getD_cons_succ]; repeat (go_big_quiet_step (fail))
  refine wpQuiet_nil ?_
  refine rg_act 8 ?_
  go_wp2_with (fail)
  refine (size_any 18 _ vk.1 (by omega)).mono ?_
  rintro e w3 ⟨rfl, rfl⟩
  rw [HSV.out]
  go_wp2_with (fail)
  refine ⟨hbel _ (Below.refl _ _), ?_⟩
  refine rg_quiet 1 [9] (hbel _ (Below.refl _ _)) ?_
  simp only [pickD, List.map_cons, List.map_nil, List.getD_cons_zero, List.getD_cons_succ]; repeat (go_big_quiet_step (fail))
  refine wpQuiet_nil ?_
  refine rg_cut 10 ?_
  go_wp2_with (fail)
  refine (must_true _).mono ?_
  rintro e w4 ⟨rfl, rfl⟩
  clear hbel hC hne k0
  go_wp2_with (fail)
  refine rg_end0 ?_
  go_wp2_with (with_reducible refine stop_stf ?_)
  refine Stop.out ?_
  refine wpList_storeF rfl rfl (fm0 18) (fm0 0) rfl rfl rfl rfl (fm0_at rfl) ?_
  intro w5 hb5 o5
  replace hb5 : FB w5 w2.heap.size (fm0 18) := hb5
  replace o5 : Only (· = w2.heap.size) (w2.drew.alloc (.cells (fm0 0).vals 36)) w5 := o5
  have bd : Below w2.heap.size w2 (w2.drew.alloc (.cells (fm0 0).vals 36)) := ((Below.refl _ w2).drew).alloc (Nat.le_refl _) _
  have b25 : Below w2.heap.size w2 w5 := below_onto bd o5 bd.size (by intro z hz h; omega)
  have HF5 := Lib.hid hb5
  have HZ5 := Lib.hid (FB.below HZ2.out b25)
  have HR5 := Lib.hid (HR2.out.below b25)
  have OO5 := Lib.hid (OO2.out.trans (only_of_below b25 (· = rb)))
  have hne : w2.heap.size ≠ rb := by omega
  have hnz : w.heap.size ≠ rb := by omega
  have lfb : w.heap.size < w2.heap.size := by omega
  have lrf : rb < w2.heap.size := by omega
  have HLF := Lib.hid (show w2.heap.size < w5.heap.size from Blk.lt hb5)
  clear r0 r2 lrb2 lz2 hq hb5 o5 bd b25
  generalize w2.heap.size = fb at *
  go_wp2_with (fail)
  refine (must_true _).mono ?_
  rintro e w9 ⟨rfl, rfl⟩
  go_wp2_with (fail)
  have hby10 := HR5.out.byte
  refine (rn_any rb L1 _ HR5.out).mono ?_
  rintro e w10 ⟨o10, hy10, hn10⟩
  have HY10 := Lib.hid hy10
  have HN10 := Lib.hid hn10
  have O10 := Lib.hid o10
  clear hy10 hn10 o10
  cases h10 : tk L1 with
  | none =>
    have he := HN10.out h10
    rw [failE] at he
    subst he
    have HT := Lib.hid (show RS = none from HGO.out.trans (finR_none (by rw [readK_18]; exact rb_none h10)))
    clear h10
    go_wp2_with (fail)
    exact ⟨rfl, OO5.out.trans O10.out, (fun x hx => by rw [HT.out] at hx; cases hx), (fun _ => rfl)⟩
  | some x =>
    obtain ⟨v10, L10⟩ := x
    obtain ⟨rfl, hr10⟩ := HY10.out _ h10
    have HR10 : Hid (RdB w10 rb L10) := hr10
    have H10 := Lib.hid h10
    have vb10 := tk_bnd hby10 h10
    have ll10 := tk_le h10
    dsimp only at vb10 ll10
    have HL10 := Lib.hid (show L10.length ≤ 1000000 by have := HL1.out; omega)
    clear h10 hby10 HY10 HN10 hr10 ll10
    have FF10 := Lib.hid (FB.only HF5.out O10.out hne)
    have ZZ10 := Lib.hid (FB.only HZ5.out O10.out hnz)
    have OO10 := Lib.hid (OO5.out.trans O10.out)
    have cc10 := FB.fc FF10.out rfl
    have p103 := cc10.c3
    have g103 := cc10.free 3
    clear cc10
    go_wp2_with (with_reducible refine stop_ldf ?_)
    have onl10 := Lib.hid ((Only.refl (· = fb) w10).set 3 (.int .u64 v10))
    have FS10 := Lib.hid (FF10.out.max v10)
    have RS10 := Lib.hid (HR10.out.only onl10.out (fun z hz => by omega))
    have ZS10 := Lib.hid (FB.only ZZ10.out onl10.out (by omega))
    have OS10 := Lib.hid (OO10.out.trans' onl10.out (fun z hz hs => by omega))
    have HF := Lib.hid (show readK 18 L1 = some (((fm0 18).setMax v10).f, L10) by rw [readK_18]; rw [rb_go H10.out]; rfl)
    have FRS := Lib.hid (show ((fm0 18).setMax v10).fresh fb from ⟨(fun x hx => by cases hx), (fun x hx => by cases hx), (fun x hx => by cases hx)⟩)
    have FOK := Lib.hid (show FrOk ((fm0 18).setMax v10).f ∧ ((fm0 18).setMax v10).f.data.length ≤ 1000000 ∧ ((fm0 18).setMax v10).f.acks.length ≤ 1000001 by
      obtain ⟨_, n, hn, res⟩ := readK_gives 18 (by omega) L1 ((fm0 18).setMax v10).f L10 HF.out HBY1.out
      have h1 := HL1.out
      have h2 := res.data
      have h3 := res.acks
      exact ⟨res.ok, by omega, by omega⟩)
    have SM := Lib.hid (show ((fm0 18).setMax v10).sm from ⟨FOK.out.2.1, Nat.zero_le _, Nat.zero_le _⟩)
    have hok := Lib.hid (show ((fm0 18).setMax v10).ok (w10.setCell ⟨fb, 3, none⟩ (.int .u64 v10)) from ⟨FOK.out.1, Sl.nil _ _, Sl.nil _ _, Rs.nil _⟩)
    have HT1 := Lib.hid (show RS = finR (some (((fm0 18).setMax v10).f, L10)) from HGO.out.trans (congrArg finR HF.out))
    refine Stop.out ?_
    refine wpList_loadF rfl rfl ((fm0 18).setMax v10) rfl rfl FS10.out ?_
    go_wp2_with (fail)
    refine (may_any ((fm0 18).setMax v10) _ hok.out (by have := SM.out.d; omega) SM.out.c (by have := SM.out.a; omega)).mono ?_
    cases hm : mayF ((fm0 18).setMax v10).f with
    | false =>
      have HT2 := Lib.hid (show RS = none from HT1.out.trans (finR_no hm))
      clear hm
      rintro e w8 ⟨rfl, b8⟩
      go_wp2_with (fail)
      refine (must_false _).mono ?_
      rintro e w9 ⟨he, rfl⟩
      rw [failE] at he
      subst he
      go_wp2_with (fail)
      exact ⟨rfl, OS10.out.trans (only_of_below b8 _), (fun x hx => by rw [HT2.out] at hx; cases hx), (fun _ => rfl)⟩
    | true =>
      have HT2 := Lib.hid (show RS = some (((fm0 18).setMax v10).f, L10) from HT1.out.trans (finR_may hm))
      clear hm
      rintro e w8 ⟨rfl, b8⟩
      have B8 := Lib.hid b8
      clear b8
      go_wp2_with (fail)
      refine (must_true _).mono ?_
      rintro e w9 ⟨rfl, rfl⟩
      have HF8 := Lib.hid (FB.below FS10.out B8.out)
      have HZ8 := Lib.hid (FB.below ZS10.out B8.out)
      go_wp2_with (with_reducible refine stop_ldf ?_)
      refine Stop.out ?_
      refine wpList_loadF rfl rfl ((fm0 18).setMax v10) rfl rfl HF8.out ?_
      go_wp2_with (with_reducible refine stop_stf ?_)
      refine Stop.out ?_
      refine wpList_storeF rfl rfl ((fm0 18).setMax v10) (fm0 0) rfl rfl rfl rfl HZ8.out ?_
      intro wy hby' oy
      go_wp2_with (fail)
      refine bodyPost_ret (results_cell_row rfl _ _ _ _ _ _ _ rfl hby' Try.underlying36 rfl (by rw [FM.size _ rfl]; exact fr_size)) rfl ?_
      refine ⟨(OS10.out.trans (only_of_below B8.out _)).trans' oy (fun z hz hs => by omega), ?_, (fun h => by rw [HT2.out] at h; cases h)⟩
      rw [HT2.out]
      intro x hx
      cases hx
      have hne8 : ∀ z : Nat, z ≤ rb → ¬ z = w.heap.size := fun z hz h => by omega
      have FR := FRS.out
      refine Lib.hid ⟨_, rfl, rfl, ⟨hok.out.fr, (hok.out.below B8.out).d.only oy (fun x hx _ h => by have := FR.1 x hx; omega), (hok.out.below B8.out).c.only oy (fun x hx _ h => by have := FR.2.1 x hx; omega), (hok.out.below B8.out).a.only oy (fun x hx _ h => by have := FR.2.2 x hx; omega)⟩, ⟨fun x hx => by have := FR.1 x hx; omega, fun x hx => by have := FR.2.1 x hx; omega, fun x hx => by have := FR.2.2 x hx; omega⟩, SM.out, (RS10.out.below B8.out).only oy hne8⟩

theorem readK_19 : readK 19 = rb tk fun m => rp { fr0 19 with max := m } := rfl
set_option maxHeartbeats 8000000 in
set_option maxRecDepth 100000 in
theorem rframe_19 (rb : Nat) (L L1 : List Int) (w : World) (h : RdB w rb L) (hl : L.length ≤ 1000000) (hk : tk L = some (19, L1)) (hsz : (L.length : Int) - L1.length = sizeF 19) :
    Calls Try.prog 25 #[.pointer (some ⟨rb, 0, none⟩)] w fun e w' => Only (· = rb) w w' ∧ (∀ x, readF L = some x → Hid (RF w' rb w.heap.size x.1 x.2 e)) ∧ (readF L = none → e = failE) := by
  have HR := Lib.hid h
  have hby := h.byte
  have lrb := h.lt
  obtain ⟨A, cap, m, rb1, rm, rs, rx⟩ := h
  have r0 := Blk.cell rb1 0 _ rfl
  have RM := Lib.hid rm
  have hmb : m ≤ 1000000 := by omega
  have HK := Lib.hid hk
  clear rb1 rm rs rx
  have hle1 := tk_le hk
  dsimp only at hle1
  have vk := tk_bnd hby hk
  dsimp only at vk
  have HL1 := Lib.hid (show L1.length ≤ 1000000 by omega)
  have HBY1 := Lib.hid (show ∀ x ∈ L1, Byte x from (tk_gives L _ L1 hk hby).1)
  have HSZ := Lib.hid hsz
  obtain ⟨RS, hRS⟩ : ∃ RS, readF L = RS := ⟨_, rfl⟩
  have HGO := Lib.hid (show RS = finR (readK 19 L1) by rw [← hRS]; exact readF_go hk hsz)
  rw [hRS]
  clear hRS hk hsz hle1
  go_enter Try.func25, Try.ntmps25
  go_wp2_with (fail)
  have kb0 := (Below.refl w.heap.size w).alloc (Nat.le_refl _) (.cells (fm0 0).vals 36)
  refine (rn_any rb L _ (HR.out.below kb0)).mono ?_
  rintro e w2 ⟨o2, hy2, hn2⟩
  obtain ⟨rfl, hr2⟩ := hy2 _ HK.out
  have HR2 : Hid (RdB w2 rb L1) := hr2
  have HZ2 := Lib.hid (show FB w2 w.heap.size (fm0 0) from o2.blk (fm0_at rfl) (fun h => by have h2 : w.heap.size = rb := h; omega))
  have OO2 := Lib.hid ((only_of_below kb0 (· = rb)).trans o2)
  have lz2 : w.heap.size < w2.heap.size := by have := o2.size; simp at this; omega
  obtain ⟨A2, cap2, m2, rb2, rm2, rs2, rx2⟩ := HR2.out
  have r2 := Blk.cell rb2 0 _ rfl
  have lrb2 : rb < w2.heap.size := by omega
  have hmb2 : m2 ≤ 1000000 := by have := HL1.out; omega
  have hsz2 : (m : Int) - m2 = sizeF 19 ∨ ¬ (m : Int) - m2 = sizeF 19 := Decidable.em _
  have hsm := size_le 19
  have hsm0 : 0 ≤ sizeF 19 := by omega
  have HSM := Lib.hid (show ((m : Int) - m2 = sizeF 19) ↔ ((L.length : Int) - L1.length = sizeF 19) by rw [RM.out, rm2])
  clear hy2 hn2 o2 kb0 rb2 rm2 rs2 rx2 hr2 hsz2
  obtain ⟨sz, hszv⟩ : ∃ s : Nat, sizeF 19 = s := ⟨_, rfl⟩
  have HSV := Lib.hid hszv
  clear hsm hsm0
  rw [hszv] at HSM
  have hq : ((m : Int) - m2 == (sz : Int)) = true := by simp only [beq_iff_eq]; rw [HSM.out, ← HSV.out]; exact HSZ.out
  clear hszv
  go_wp2_with (fail)
  refine rg_start 11 ?_
  refine rg_below fun KK hx hne hC hbel => ?_
  have k0 := fun z : Wd KK => (hx z _ 0 _ lrb2).trans r2
  clear hx
  refine rg_quiet 3 [0,1,2,3,4,5,6,7] hC ?_
  simp only [pickD, List.map_cons, List.map_nil, List.getD_cons_zero, List.getD_cons_succ]; repeat (go_big_quiet_step (fail))
  refine wpQuiet_nil ?_
  refine rg_act 8 ?_
  go_wp2_with (fail)
  refine (size_any 19 _ vk.1 (by omega)).mono ?_
  rintro e w3 ⟨rfl, rfl⟩
  rw [HSV.out]
  go_wp2_with (fail)
  refine ⟨hbel _ (Below.refl _ _), ?_⟩
  refine rg_quiet 1 [9] (hbel _ (Below.refl _ _)) ?_
  simp only [pickD, List.map_cons, List.map_nil, List.getD_cons_zero, List.getD_cons_succ]; repeat (go_big_quiet_step (fail))
  refine wpQuiet_nil ?_
  refine rg_cut 10 ?_
  go_wp2_with (fail)
  refine (must_true _).mono ?_
  rintro e w4 ⟨rfl, rfl⟩
  clear hbel hC hne k0
  go_wp2_with (fail)
  refine rg_end0 ?_
  go_wp2_with (with_reducible refine stop_stf ?_)
  refine Stop.out ?_
  refine wpList_storeF rfl rfl (fm0 19) (fm0 0) rfl rfl rfl rfl (fm0_at rfl) ?_
  intro w5 hb5 o5
  replace hb5 : FB w5 w2.heap.size (fm0 19) := hb5
  replace o5 : Only (· = w2.heap.size) (w2.drew.alloc (.cells (fm0 0).vals 36)) w5 := o5
  have bd : Below w2.heap.size w2 (w2.drew.alloc (.cells (fm0 0).vals 36)) := ((Below.refl _ w2).drew).alloc (Nat.le_refl _) _
  have b25 : Below w2.heap.size w2 w5 := below_onto bd o5 bd.size (by intro z hz h; omega)
  have HF5 := Lib.hid hb5
  have HZ5 := Lib.hid (FB.below HZ2.out b25)
  have HR5 := Lib.hid (HR2.out.below b25)
  have OO5 := Lib.hid (OO2.out.trans (only_of_below b25 (· = rb)))
  have hne : w2.heap.size ≠ rb := by omega
  have hnz : w.heap.size ≠ rb := by omega
  have lfb : w.heap.size < w2.heap.size := by omega
  have lrf : rb < w2.heap.size := by omega
  have HLF := Lib.hid (show w2.heap.size < w5.heap.size from Blk.lt hb5)
  clear r0 r2 lrb2 lz2 hq hb5 o5 bd b25
  generalize w2.heap.size = fb at *
  go_wp2_with (fail)
  refine (must_true _).mono ?_
  rintro e w9 ⟨rfl, rfl⟩
  go_wp2_with (fail)
  have hby10 := HR5.out.byte
  refine (rn_any rb L1 _ HR5.out).mono ?_
  rintro e w10 ⟨o10, hy10, hn10⟩
  have HY10 := Lib.hid hy10
  have HN10 := Lib.hid hn10
  have O10 := Lib.hid o10
  clear hy10 hn10 o10
  cases h10 : tk L1 with
  | none =>
    have he := HN10.out h10
    rw [failE] at he
    subst he
    have HT := Lib.hid (show RS = none from HGO.out.trans (finR_none (by rw [readK_19]; exact rb_none h10)))
    clear h10
    go_wp2_with (fail)
    exact ⟨rfl, OO5.out.trans O10.out, (fun x hx => by rw [HT.out] at hx; cases hx), (fun _ => rfl)⟩
  | some x =>
    obtain ⟨v10, L10⟩ := x
    obtain ⟨rfl, hr10⟩ := HY10.out _ h10
    have HR10 : Hid (RdB w10 rb L10) := hr10
    have H10 := Lib.hid h10
    have vb10 := tk_bnd hby10 h10
    have ll10 := tk_le h10
    dsimp only at vb10 ll10
    have HL10 := Lib.hid (show L10.length ≤ 1000000 by have := HL1.out; omega)
    clear h10 hby10 HY10 HN10 hr10 ll10
    have FF10 := Lib.hid (FB.only HF5.out O10.out hne)
    have ZZ10 := Lib.hid (FB.only HZ5.out O10.out hnz)
    have OO10 := Lib.hid (OO5.out.trans O10.out)
    have cc10 := FB.fc FF10.out rfl
    have p103 := cc10.c3
    have g103 := cc10.free 3
    clear cc10
    go_wp2_with (with_reducible refine stop_ldf ?_)
    have onl10 := Lib.hid ((Only.refl (· = fb) w10).set 3 (.int .u64 v10))
    have FS10 := Lib.hid (FF10.out.max v10)
    have RS10 := Lib.hid (HR10.out.only onl10.out (fun z hz => by omega))
    have ZS10 := Lib.hid (FB.only ZZ10.out onl10.out (by omega))
    have OS10 := Lib.hid (OO10.out.trans' onl10.out (fun z hz hs => by omega))
    have HF := Lib.hid (show readK 19 L1 = some (((fm0 19).setMax v10).f, L10) by rw [readK_19]; rw [rb_go H10.out]; rfl)
    have FRS := Lib.hid (show ((fm0 19).setMax v10).fresh fb from ⟨(fun x hx => by cases hx), (fun x hx => by cases hx), (fun x hx => by cases hx)⟩)
    have FOK := Lib.hid (show FrOk ((fm0 19).setMax v10).f ∧ ((fm0 19).setMax v10).f.data.length ≤ 1000000 ∧ ((fm0 19).setMax v10).f.acks.length ≤ 1000001 by
      obtain ⟨_, n, hn, res⟩ := readK_gives 19 (by omega) L1 ((fm0 19).setMax v10).f L10 HF.out HBY1.out
      have h1 := HL1.out
      have h2 := res.data
      have h3 := res.acks
      exact ⟨res.ok, by omega, by omega⟩)
    have SM := Lib.hid (show ((fm0 19).setMax v10).sm from ⟨FOK.out.2.1, Nat.zero_le _, Nat.zero_le _⟩)
    have hok := Lib.hid (show ((fm0 19).setMax v10).ok (w10.setCell ⟨fb, 3, none⟩ (.int .u64 v10)) from ⟨FOK.out.1, Sl.nil _ _, Sl.nil _ _, Rs.nil _⟩)
    have HT1 := Lib.hid (show RS = finR (some (((fm0 19).setMax v10).f, L10)) from HGO.out.trans (congrArg finR HF.out))
    refine Stop.out ?_
    refine wpList_loadF rfl rfl ((fm0 19).setMax v10) rfl rfl FS10.out ?_
    go_wp2_with (fail)
    refine (may_any ((fm0 19).setMax v10) _ hok.out (by have := SM.out.d; omega) SM.out.c (by have := SM.out.a; omega)).mono ?_
    cases hm : mayF ((fm0 19).setMax v10).f with
    | false =>
      have HT2 := Lib.hid (show RS = none from HT1.out.trans (finR_no hm))
      clear hm
      rintro e w8 ⟨rfl, b8⟩
      go_wp2_with (fail)
      refine (must_false _).mono ?_
      rintro e w9 ⟨he, rfl⟩
      rw [failE] at he
      subst he
      go_wp2_with (fail)
      exact ⟨rfl, OS10.out.trans (only_of_below b8 _), (fun x hx => by rw [HT2.out] at hx; cases hx), (fun _ => rfl)⟩
    | true =>
      have HT2 := Lib.hid (show RS = some (((fm0 19).setMax v10).f, L10) from HT1.out.trans (finR_may hm))
      clear hm
      rintro e w8 ⟨rfl, b8⟩
      have B8 := Lib.hid b8
      clear b8
      go_wp2_with (fail)
      refine (must_true _).mono ?_
      rintro e w9 ⟨rfl, rfl⟩
      have HF8 := Lib.hid (FB.below FS10.out B8.out)
      have HZ8 := Lib.hid (FB.below ZS10.out B8.out)
      go_wp2_with (with_reducible refine stop_ldf ?_)
      refine Stop.out ?_
      refine wpList_loadF rfl rfl ((fm0 19).setMax v10) rfl rfl HF8.out ?_
      go_wp2_with (with_reducible refine stop_stf ?_)
      refine Stop.out ?_
      refine wpList_storeF rfl rfl ((fm0 19).setMax v10) (fm0 0) rfl rfl rfl rfl HZ8.out ?_
      intro wy hby' oy
      go_wp2_with (fail)
      refine bodyPost_ret (results_cell_row rfl _ _ _ _ _ _ _ rfl hby' Try.underlying36 rfl (by rw [FM.size _ rfl]; exact fr_size)) rfl ?_
      refine ⟨(OS10.out.trans (only_of_below B8.out _)).trans' oy (fun z hz hs => by omega), ?_, (fun h => by rw [HT2.out] at h; cases h)⟩
      rw [HT2.out]
      intro x hx
      cases hx
      have hne8 : ∀ z : Nat, z ≤ rb → ¬ z = w.heap.size := fun z hz h => by omega
      have FR := FRS.out
      refine Lib.hid ⟨_, rfl, rfl, ⟨hok.out.fr, (hok.out.below B8.out).d.only oy (fun x hx _ h => by have := FR.1 x hx; omega), (hok.out.below B8.out).c.only oy (fun x hx _ h => by have := FR.2.1 x hx; omega), (hok.out.below B8.out).a.only oy (fun x hx _ h => by have := FR.2.2 x hx; omega)⟩, ⟨fun x hx => by have := FR.1 x hx; omega, fun x hx => by have := FR.2.1 x hx; omega, fun x hx => by have := FR.2.2 x hx; omega⟩, SM.out, (RS10.out.below B8.out).only oy hne8⟩

theorem readK_20 : readK 20 = rb tk fun m => rp { fr0 20 with max := m } := rfl
set_option maxHeartbeats 8000000 in
set_option maxRecDepth 100000 in
theorem rframe_20 (rb : Nat) (L L1 : List Int) (w : World) (h : RdB w rb L) (hl : L.length ≤ 1000000) (hk : tk L = some (20, L1)) (hsz : (L.length : Int) - L1.length = sizeF 20) :
    Calls Try.prog 25 #[.pointer (some ⟨rb, 0, none⟩)] w fun e w' => Only (· = rb) w w' ∧ (∀ x, readF L = some x → Hid (RF w' rb w.heap.size x.1 x.2 e)) ∧ (readF L = none → e = failE) := by
  have HR := Lib.hid h
  have hby := h.byte
  have lrb := h.lt
  obtain ⟨A, cap, m, rb1, rm, rs, rx⟩ := h
  have r0 := Blk.cell rb1 0 _ rfl
  have RM := Lib.hid rm
  have hmb : m ≤ 1000000 := by omega
  have HK := Lib.hid hk
  clear rb1 rm rs rx
  have hle1 := tk_le hk
  dsimp only at hle1
  have vk := tk_bnd hby hk
  dsimp only at vk
  have HL1 := Lib.hid (show L1.length ≤ 1000000 by omega)
  have HBY1 := Lib.hid (show ∀ x ∈ L1, Byte x from (tk_gives L _ L1 hk hby).1)
  have HSZ := Lib.hid hsz
  obtain ⟨RS, hRS⟩ : ∃ RS, readF L = RS := ⟨_, rfl⟩
  have HGO := Lib.hid (show RS = finR (readK 20 L1) by rw [← hRS]; exact readF_go hk hsz)
  rw [hRS]
  clear hRS hk hsz hle1
  go_enter Try.func25, Try.ntmps25
  go_wp2_with (fail)
  have kb0 := (Below.refl w.heap.size w).alloc (Nat.le_refl _) (.cells (fm0 0).vals 36)
  refine (rn_any rb L _ (HR.out.below kb0)).mono ?_
  rintro e w2 ⟨o2, hy2, hn2⟩
  obtain ⟨rfl, hr2⟩ := hy2 _ HK.out
  have HR2 : Hid (RdB w2 rb L1) := hr2
  have HZ2 := Lib.hid (show FB w2 w.heap.size (fm0 0) from o2.blk (fm0_at rfl) (fun h => by have h2 : w.heap.size = rb := h; omega))
  have OO2 := Lib.hid ((only_of_below kb0 (· = rb)).trans o2)
  have lz2 : w.heap.size < w2.heap.size := by have := o2.size; simp at this; omega
  obtain ⟨A2, cap2, m2, rb2, rm2, rs2, rx2⟩ := HR2.out
  have r2 := Blk.cell rb2 0 _ rfl
  have lrb2 : rb < w2.heap.size := by omega
  have hmb2 : m2 ≤ 1000000 := by have := HL1.out; omega
  have hsz2 : (m : Int) - m2 = sizeF 20 ∨ ¬ (m : Int) - m2 = sizeF 20 := Decidable.em _
  have hsm := size_le 20
  have hsm0 : 0 ≤ sizeF 20 := by omega
  have HSM := Lib.hid (show ((m : Int) - m2 = sizeF 20) ↔ ((L.length : Int) - L1.length = sizeF 20) by rw [RM.out, rm2])
  clear hy2 hn2 o2 kb0 rb2 rm2 rs2 rx2 hr2 hsz2
  obtain ⟨sz, hszv⟩ : ∃ s : Nat, sizeF 20 = s := ⟨_, rfl⟩
  have HSV := Lib.hid hszv
  clear hsm hsm0
  rw [hszv] at HSM
  have hq : ((m : Int) - m2 == (sz : Int)) = true := by simp only [beq_iff_eq]; rw [HSM.out, ← HSV.out]; exact HSZ.out
  clear hszv
  go_wp2_with (fail)
  refine rg_start 11 ?_
  refine rg_below fun KK hx hne hC hbel => ?_
  have k0 := fun z : Wd KK => (hx z _ 0 _ lrb2).trans r2
  clear hx
  refine rg_quiet 3 [0,1,2,3,4,5,6,7] hC ?_
  simp only [pickD, List.map_cons, List.map_nil, List.getD_cons_zero, List.getD_cons_succ]; repeat (go_big_quiet_step (fail))
  refine wpQuiet_nil ?_
  refine rg_act 8 ?_
  go_wp2_with (fail)
  refine (size_any 20 _ vk.1 (by omega)).mono ?_
  rintro e w3 ⟨rfl, rfl⟩
  rw [HSV.out]
  go_wp2_with (fail)
  refine ⟨hbel _ (Below.refl _ _), ?_⟩
  refine rg_quiet 1 [9] (hbel _ (Below.refl _ _)) ?_
  simp only [pickD, List.map_cons, List.map_nil, List.getD_cons_zero, List.getD_cons_succ]; repeat (go_big_quiet_step (fail))
  refine wpQuiet_nil ?_
  refine rg_cut 10 ?_
  go_wp2_with (fail)
  refine (must_true _).mono ?_
  rintro e w4 ⟨rfl, rfl⟩
  clear hbel hC hne k0
  go_wp2_with (fail)
  refine rg_end0 ?_
  go_wp2_with (with_reducible refine stop_stf ?_)
  refine Stop.out ?_
  refine wpList_storeF rfl rfl (fm0 20) (fm0 0) rfl rfl rfl rfl (fm0_at rfl) ?_
  intro w5 hb5 o5
  replace hb5 : FB w5 w2.heap.size (fm0 20) := hb5
  replace o5 : Only (· = w2.heap.size) (w2.drew.alloc (.cells (fm0 0).vals 36)) w5 := o5
  have bd : Below w2.heap.size w2 (w2.drew.alloc (.cells (fm0 0).vals 36)) := ((Below.refl _ w2).drew).alloc (Nat.le_refl _) _
  have b25 : Below w2.heap.size w2 w5 := below_onto bd o5 bd.size (by intro z hz h; omega)
  have HF5 := Lib.hid hb5
  have HZ5 := Lib.hid (FB.below HZ2.out b25)
  have HR5 := Lib.hid (HR2.out.below b25)
  have OO5 := Lib.hid (OO2.out.trans (only_of_below b25 (· = rb)))
  have hne : w2.heap.size ≠ rb := by omega
  have hnz : w.heap.size ≠ rb := by omega
  have lfb : w.heap.size < w2.heap.size := by omega
  have lrf : rb < w2.heap.size := by omega
  have HLF := Lib.hid (show w2.heap.size < w5.heap.size from Blk.lt hb5)
  clear r0 r2 lrb2 lz2 hq hb5 o5 bd b25
  generalize w2.heap.size = fb at *
  go_wp2_with (fail)
  refine (must_true _).mono ?_
  rintro e w9 ⟨rfl, rfl⟩
  go_wp2_with (fail)
  have hby10 := HR5.out.byte
  refine (rn_any rb L1 _ HR5.out).mono ?_
  rintro e w10 ⟨o10, hy10, hn10⟩
  have HY10 := Lib.hid hy10
  have HN10 := Lib.hid hn10
  have O10 := Lib.hid o10
  clear hy10 hn10 o10
  cases h10 : tk L1 with
  | none =>
    have he := HN10.out h10
    rw [failE] at he
    subst he
    have HT := Lib.hid (show RS = none from HGO.out.trans (finR_none (by rw [readK_20]; exact rb_none h10)))
    clear h10
    go_wp2_with (fail)
    exact ⟨rfl, OO5.out.trans O10.out, (fun x hx => by rw [HT.out] at hx; cases hx), (fun _ => rfl)⟩
  | some x =>
    obtain ⟨v10, L10⟩ := x
    obtain ⟨rfl, hr10⟩ := HY10.out _ h10
    have HR10 : Hid (RdB w10 rb L10) := hr10
    have H10 := Lib.hid h10
    have vb10 := tk_bnd hby10 h10
    have ll10 := tk_le h10
    dsimp only at vb10 ll10
    have HL10 := Lib.hid (show L10.length ≤ 1000000 by have := HL1.out; omega)
    clear h10 hby10 HY10 HN10 hr10 ll10
    have FF10 := Lib.hid (FB.only HF5.out O10.out hne)
    have ZZ10 := Lib.hid (FB.only HZ5.out O10.out hnz)
    have OO10 := Lib.hid (OO5.out.trans O10.out)
    have cc10 := FB.fc FF10.out rfl
    have p103 := cc10.c3
    have g103 := cc10.free 3
    clear cc10
    go_wp2_with (with_reducible refine stop_ldf ?_)
    have onl10 := Lib.hid ((Only.refl (· = fb) w10).set 3 (.int .u64 v10))
    have FS10 := Lib.hid (FF10.out.max v10)
    have RS10 := Lib.hid (HR10.out.only onl10.out (fun z hz => by omega))
    have ZS10 := Lib.hid (FB.only ZZ10.out onl10.out (by omega))
    have OS10 := Lib.hid (OO10.out.trans' onl10.out (fun z hz hs => by omega))
    have HF := Lib.hid (show readK 20 L1 = some (((fm0 20).setMax v10).f, L10) by rw [readK_20]; rw [rb_go H10.out]; rfl)
    have FRS := Lib.hid (show ((fm0 20).setMax v10).fresh fb from ⟨(fun x hx => by cases hx), (fun x hx => by cases hx), (fun x hx => by cases hx)⟩)
    have FOK := Lib.hid (show FrOk ((fm0 20).setMax v10).f ∧ ((fm0 20).setMax v10).f.data.length ≤ 1000000 ∧ ((fm0 20).setMax v10).f.acks.length ≤ 1000001 by
      obtain ⟨_, n, hn, res⟩ := readK_gives 20 (by omega) L1 ((fm0 20).setMax v10).f L10 HF.out HBY1.out
      have h1 := HL1.out
      have h2 := res.data
      have h3 := res.acks
      exact ⟨res.ok, by omega, by omega⟩)
    have SM := Lib.hid (show ((fm0 20).setMax v10).sm from ⟨FOK.out.2.1, Nat.zero_le _, Nat.zero_le _⟩)
    have hok := Lib.hid (show ((fm0 20).setMax v10).ok (w10.setCell ⟨fb, 3, none⟩ (.int .u64 v10)) from ⟨FOK.out.1, Sl.nil _ _, Sl.nil _ _, Rs.nil _⟩)
    have HT1 := Lib.hid (show RS = finR (some (((fm0 20).setMax v10).f, L10)) from HGO.out.trans (congrArg finR HF.out))
    refine Stop.out ?_
    refine wpList_loadF rfl rfl ((fm0 20).setMax v10) rfl rfl FS10.out ?_
    go_wp2_with (fail)
    refine (may_any ((fm0 20).setMax v10) _ hok.out (by have := SM.out.d; omega) SM.out.c (by have := SM.out.a; omega)).mono ?_
    cases hm : mayF ((fm0 20).setMax v10).f with
    | false =>
      have HT2 := Lib.hid (show RS = none from HT1.out.trans (finR_no hm))
      clear hm
      rintro e w8 ⟨rfl, b8⟩
      go_wp2_with (fail)
      refine (must_false _).mono ?_
      rintro e w9 ⟨he, rfl⟩
      rw [failE] at he
      subst he
      go_wp2_with (fail)
      exact ⟨rfl, OS10.out.trans (only_of_below b8 _), (fun x hx => by rw [HT2.out] at hx; cases hx), (fun _ => rfl)⟩
    | true =>
      have HT2 := Lib.hid (show RS = some (((fm0 20).setMax v10).f, L10) from HT1.out.trans (finR_may hm))
      clear hm
      rintro e w8 ⟨rfl, b8⟩
      have B8 := Lib.hid b8
      clear b8
      go_wp2_with (fail)
      refine (must_true _).mono ?_
      rintro e w9 ⟨rfl, rfl⟩
      have HF8 := Lib.hid (FB.below FS10.out B8.out)
      have HZ8 := Lib.hid (FB.below ZS10.out B8.out)
      go_wp2_with (with_reducible refine stop_ldf ?_)
      refine Stop.out ?_
      refine wpList_loadF rfl rfl ((fm0 20).setMax v10) rfl rfl HF8.out ?_
      go_wp2_with (with_reducible refine stop_stf ?_)
      refine Stop.out ?_
      refine wpList_storeF rfl rfl ((fm0 20).setMax v10) (fm0 0) rfl rfl rfl rfl HZ8.out ?_
      intro wy hby' oy
      go_wp2_with (fail)
      refine bodyPost_ret (results_cell_row rfl _ _ _ _ _ _ _ rfl hby' Try.underlying36 rfl (by rw [FM.size _ rfl]; exact fr_size)) rfl ?_
      refine ⟨(OS10.out.trans (only_of_below B8.out _)).trans' oy (fun z hz hs => by omega), ?_, (fun h => by rw [HT2.out] at h; cases h)⟩
      rw [HT2.out]
      intro x hx
      cases hx
      have hne8 : ∀ z : Nat, z ≤ rb → ¬ z = w.heap.size := fun z hz h => by omega
      have FR := FRS.out
      refine Lib.hid ⟨_, rfl, rfl, ⟨hok.out.fr, (hok.out.below B8.out).d.only oy (fun x hx _ h => by have := FR.1 x hx; omega), (hok.out.below B8.out).c.only oy (fun x hx _ h => by have := FR.2.1 x hx; omega), (hok.out.below B8.out).a.only oy (fun x hx _ h => by have := FR.2.2 x hx; omega)⟩, ⟨fun x hx => by have := FR.1 x hx; omega, fun x hx => by have := FR.2.1 x hx; omega, fun x hx => by have := FR.2.2 x hx; omega⟩, SM.out, (RS10.out.below B8.out).only oy hne8⟩

theorem readK_22 : readK 22 = rb tk fun m => rp { fr0 22 with max := m } := rfl
set_option maxHeartbeats 8000000 in
set_option maxRecDepth 100000 in
theorem rframe_22 (rb : Nat) (L L1 : List Int) (w : World) (h : RdB w rb L) (hl : L.length ≤ 1000000) (hk : tk L = some (22, L1)) (hsz : (L.length : Int) - L1.length = sizeF 22) :
    Calls Try.prog 25 #[.pointer (some ⟨rb, 0, none⟩)] w fun e w' => Only (· = rb) w w' ∧ (∀ x, readF L = some x → Hid (RF w' rb w.heap.size x.1 x.2 e)) ∧ (readF L = none → e = failE) := by
  have HR := Lib.hid h
  have hby := h.byte
  have lrb := h.lt
  obtain ⟨A, cap, m, rb1, rm, rs, rx⟩ := h
  have r0 := Blk.cell rb1 0 _ rfl
  have RM := Lib.hid rm
  have hmb : m ≤ 1000000 := by omega
  have HK := Lib.hid hk
  clear rb1 rm rs rx
  have hle1 := tk_le hk
  dsimp only at hle1
  have vk := tk_bnd hby hk
  dsimp only at vk
  have HL1 := Lib.hid (show L1.length ≤ 1000000 by omega)
  have HBY1 := Lib.hid (show ∀ x ∈ L1, Byte x from (tk_gives L _ L1 hk hby).1)
  have HSZ := Lib.hid hsz
  obtain ⟨RS, hRS⟩ : ∃ RS, readF L = RS := ⟨_, rfl⟩
  have HGO := Lib.hid (show RS = finR (readK 22 L1) by rw [← hRS]; exact readF_go hk hsz)
  rw [hRS]
  clear hRS hk hsz hle1
  go_enter Try.func25, Try.ntmps25
  go_wp2_with (fail)
  have kb0 := (Below.refl w.heap.size w).alloc (Nat.le_refl _) (.cells (fm0 0).vals 36)
  refine (rn_any rb L _ (HR.out.below kb0)).mono ?_
  rintro e w2 ⟨o2, hy2, hn2⟩
  obtain ⟨rfl, hr2⟩ := hy2 _ HK.out
  have HR2 : Hid (RdB w2 rb L1) := hr2
  have HZ2 := Lib.hid (show FB w2 w.heap.size (fm0 0) from o2.blk (fm0_at rfl) (fun h => by have h2 : w.heap.size = rb := h; omega))
  have OO2 := Lib.hid ((only_of_below kb0 (· = rb)).trans o2)
  have lz2 : w.heap.size < w2.heap.size := by have := o2.size; simp at this; omega
  obtain ⟨A2, cap2, m2, rb2, rm2, rs2, rx2⟩ := HR2.out
  have r2 := Blk.cell rb2 0 _ rfl
  have lrb2 : rb < w2.heap.size := by omega
  have hmb2 : m2 ≤ 1000000 := by have := HL1.out; omega
  have hsz2 : (m : Int) - m2 = sizeF 22 ∨ ¬ (m : Int) - m2 = sizeF 22 := Decidable.em _
  have hsm := size_le 22
  have hsm0 : 0 ≤ sizeF 22 := by omega
  have HSM := Lib.hid (show ((m : Int) - m2 = sizeF 22) ↔ ((L.length : Int) - L1.length = sizeF 22) by rw [RM.out, rm2])
  clear hy2 hn2 o2 kb0 rb2 rm2 rs2 rx2 hr2 hsz2
  obtain ⟨sz, hszv⟩ : ∃ s : Nat, sizeF 22 = s := ⟨_, rfl⟩
  have HSV := Lib.hid hszv
  clear hsm hsm0
  rw [hszv] at HSM
  have hq : ((m : Int) - m2 == (sz : Int)) = true := by simp only [beq_iff_eq]; rw [HSM.out, ← HSV.out]; exact HSZ.out
  clear hszv
  go_wp2_with (fail)
  refine rg_start 11 ?_
  refine rg_below fun KK hx hne hC hbel => ?_
  have k0 := fun z : Wd KK => (hx z _ 0 _ lrb2).trans r2
  clear hx
  refine rg_quiet 3 [0,1,2,3,4,5,6,7] hC ?_
  simp only [pickD, List.map_cons, List.map_nil, List.getD_cons_zero, List.getD_cons_succ]; repeat (go_big_quiet_step (fail))
  refine wpQuiet_nil ?_
  refine rg_act 8 ?_
  go_wp2_with (fail)
  refine (size_any 22 _ vk.1 (by omega)).mono ?_
  rintro e w3 ⟨rfl, rfl⟩
  rw [HSV.out]
  go_wp2_with (fail)
  refine ⟨hbel _ (Below.refl _ _), ?_⟩
  refine rg_quiet 1 [9] (hbel _ (Below.refl _ _)) ?_
  simp only [pickD, List.map_cons, List.map_nil, List.getD_cons_zero, List.getD_cons_succ]; repeat (go_big_quiet_step (fail))
  refine wpQuiet_nil ?_
  refine rg_cut 10 ?_
  go_wp2_with (fail)
  refine (must_true _).mono ?_
  rintro e w4 ⟨rfl, rfl⟩
  clear hbel hC hne k0
  go_wp2_with (fail)
  refine rg_end0 ?_
  go_wp2_with (with_reducible refine stop_stf ?_)
  refine Stop.out ?_
  refine wpList_storeF rfl rfl (fm0 22) (fm0 0) rfl rfl rfl rfl (fm0_at rfl) ?_
  intro w5 hb5 o5
  replace hb5 : FB w5 w2.heap.size (fm0 22) := hb5
  replace o5 : Only (· = w2.heap.size) (w2.drew.alloc (.cells (fm0 0).vals 36)) w5 := o5
  have bd : Below w2.heap.size w2 (w2.drew.alloc (.cells (fm0 0).vals 36)) := ((Below.refl _ w2).drew).alloc (Nat.le_refl _) _
  have b25 : Below w2.heap.size w2 w5 := below_onto bd o5 bd.size (by intro z hz h; omega)
  have HF5 := Lib.hid hb5
  have HZ5 := Lib.hid (FB.below HZ2.out b25)
  have HR5 := Lib.hid (HR2.out.below b25)
  have OO5 := Lib.hid (OO2.out.trans (only_of_below b25 (· = rb)))
  have hne : w2.heap.size ≠ rb := by omega
  have hnz : w.heap.size ≠ rb := by omega
  have lfb : w.heap.size < w2.heap.size := by omega
  have lrf : rb < w2.heap.size := by omega
  have HLF := Lib.hid (show w2.heap.size < w5.heap.size from Blk.lt hb5)
  clear r0 r2 lrb2 lz2 hq hb5 o5 bd b25
  generalize w2.heap.size = fb at *
  go_wp2_with (fail)
  refine (must_true _).mono ?_
  rintro e w9 ⟨rfl, rfl⟩
  go_wp2_with (fail)
  have hby10 := HR5.out.byte
  refine (rn_any rb L1 _ HR5.out).mono ?_
  rintro e w10 ⟨o10, hy10, hn10⟩
  have HY10 := Lib.hid hy10
  have HN10 := Lib.hid hn10
  have O10 := Lib.hid o10
  clear hy10 hn10 o10
  cases h10 : tk L1 with
  | none =>
    have he := HN10.out h10
    rw [failE] at he
    subst he
    have HT := Lib.hid (show RS = none from HGO.out.trans (finR_none (by rw [readK_22]; exact rb_none h10)))
    clear h10
    go_wp2_with (fail)
    exact ⟨rfl, OO5.out.trans O10.out, (fun x hx => by rw [HT.out] at hx; cases hx), (fun _ => rfl)⟩
  | some x =>
    obtain ⟨v10, L10⟩ := x
    obtain ⟨rfl, hr10⟩ := HY10.out _ h10
    have HR10 : Hid (RdB w10 rb L10) := hr10
    have H10 := Lib.hid h10
    have vb10 := tk_bnd hby10 h10
    have ll10 := tk_le h10
    dsimp only at vb10 ll10
    have HL10 := Lib.hid (show L10.length ≤ 1000000 by have := HL1.out; omega)
    clear h10 hby10 HY10 HN10 hr10 ll10
    have FF10 := Lib.hid (FB.only HF5.out O10.out hne)
    have ZZ10 := Lib.hid (FB.only HZ5.out O10.out hnz)
    have OO10 := Lib.hid (OO5.out.trans O10.out)
    have cc10 := FB.fc FF10.out rfl
    have p103 := cc10.c3
    have g103 := cc10.free 3
    clear cc10
    go_wp2_with (with_reducible refine stop_ldf ?_)
    have onl10 := Lib.hid ((Only.refl (· = fb) w10).set 3 (.int .u64 v10))
    have FS10 := Lib.hid (FF10.out.max v10)
    have RS10 := Lib.hid (HR10.out.only onl10.out (fun z hz => by omega))
    have ZS10 := Lib.hid (FB.only ZZ10.out onl10.out (by omega))
    have OS10 := Lib.hid (OO10.out.trans' onl10.out (fun z hz hs => by omega))
    have HF := Lib.hid (show readK 22 L1 = some (((fm0 22).setMax v10).f, L10) by rw [readK_22]; rw [rb_go H10.out]; rfl)
    have FRS := Lib.hid (show ((fm0 22).setMax v10).fresh fb from ⟨(fun x hx => by cases hx), (fun x hx => by cases hx), (fun x hx => by cases hx)⟩)
    have FOK := Lib.hid (show FrOk ((fm0 22).setMax v10).f ∧ ((fm0 22).setMax v10).f.data.length ≤ 1000000 ∧ ((fm0 22).setMax v10).f.acks.length ≤ 1000001 by
      obtain ⟨_, n, hn, res⟩ := readK_gives 22 (by omega) L1 ((fm0 22).setMax v10).f L10 HF.out HBY1.out
      have h1 := HL1.out
      have h2 := res.data
      have h3 := res.acks
      exact ⟨res.ok, by omega, by omega⟩)
    have SM := Lib.hid (show ((fm0 22).setMax v10).sm from ⟨FOK.out.2.1, Nat.zero_le _, Nat.zero_le _⟩)
    have hok := Lib.hid (show ((fm0 22).setMax v10).ok (w10.setCell ⟨fb, 3, none⟩ (.int .u64 v10)) from ⟨FOK.out.1, Sl.nil _ _, Sl.nil _ _, Rs.nil _⟩)
    have HT1 := Lib.hid (show RS = finR (some (((fm0 22).setMax v10).f, L10)) from HGO.out.trans (congrArg finR HF.out))
    refine Stop.out ?_
    refine wpList_loadF rfl rfl ((fm0 22).setMax v10) rfl rfl FS10.out ?_
    go_wp2_with (fail)
    refine (may_any ((fm0 22).setMax v10) _ hok.out (by have := SM.out.d; omega) SM.out.c (by have := SM.out.a; omega)).mono ?_
    cases hm : mayF ((fm0 22).setMax v10).f with
    | false =>
      have HT2 := Lib.hid (show RS = none from HT1.out.trans (finR_no hm))
      clear hm
      rintro e w8 ⟨rfl, b8⟩
      go_wp2_with (fail)
      refine (must_false _).mono ?_
      rintro e w9 ⟨he, rfl⟩
      rw [failE] at he
      subst he
      go_wp2_with (fail)
      exact ⟨rfl, OS10.out.trans (only_of_below b8 _), (fun x hx => by rw [HT2.out] at hx; cases hx), (fun _ => rfl)⟩
    | true =>
      have HT2 := Lib.hid (show RS = some (((fm0 22).setMax v10).f, L10) from HT1.out.trans (finR_may hm))
      clear hm
      rintro e w8 ⟨rfl, b8⟩
      have B8 := Lib.hid b8
      clear b8
      go_wp2_with (fail)
      refine (must_true _).mono ?_
      rintro e w9 ⟨rfl, rfl⟩
      have HF8 := Lib.hid (FB.below FS10.out B8.out)
      have HZ8 := Lib.hid (FB.below ZS10.out B8.out)
      go_wp2_with (with_reducible refine stop_ldf ?_)
      refine Stop.out ?_
      refine wpList_loadF rfl rfl ((fm0 22).setMax v10) rfl rfl HF8.out ?_
      go_wp2_with (with_reducible refine stop_stf ?_)
      refine Stop.out ?_
      refine wpList_storeF rfl rfl ((fm0 22).setMax v10) (fm0 0) rfl rfl rfl rfl HZ8.out ?_
      intro wy hby' oy
      go_wp2_with (fail)
      refine bodyPost_ret (results_cell_row rfl _ _ _ _ _ _ _ rfl hby' Try.underlying36 rfl (by rw [FM.size _ rfl]; exact fr_size)) rfl ?_
      refine ⟨(OS10.out.trans (only_of_below B8.out _)).trans' oy (fun z hz hs => by omega), ?_, (fun h => by rw [HT2.out] at h; cases h)⟩
      rw [HT2.out]
      intro x hx
      cases hx
      have hne8 : ∀ z : Nat, z ≤ rb → ¬ z = w.heap.size := fun z hz h => by omega
      have FR := FRS.out
      refine Lib.hid ⟨_, rfl, rfl, ⟨hok.out.fr, (hok.out.below B8.out).d.only oy (fun x hx _ h => by have := FR.1 x hx; omega), (hok.out.below B8.out).c.only oy (fun x hx _ h => by have := FR.2.1 x hx; omega), (hok.out.below B8.out).a.only oy (fun x hx _ h => by have := FR.2.2 x hx; omega)⟩, ⟨fun x hx => by have := FR.1 x hx; omega, fun x hx => by have := FR.2.1 x hx; omega, fun x hx => by have := FR.2.2 x hx; omega⟩, SM.out, (RS10.out.below B8.out).only oy hne8⟩

theorem readK_23 : readK 23 = rb tk fun m => rp { fr0 23 with max := m } := rfl
set_option maxHeartbeats 8000000 in
set_option maxRecDepth 100000 in
theorem rframe_23 (rb : Nat) (L L1 : List Int) (w : World) (h : RdB w rb L) (hl : L.length ≤ 1000000) (hk : tk L = some (23, L1)) (hsz : (L.length : Int) - L1.length = sizeF 23) :
    Calls Try.prog 25 #[.pointer (some ⟨rb, 0, none⟩)] w fun e w' => Only (· = rb) w w' ∧ (∀ x, readF L = some x → Hid (RF w' rb w.heap.size x.1 x.2 e)) ∧ (readF L = none → e = failE) := by
  have HR := Lib.hid h
  have hby := h.byte
  have lrb := h.lt
  obtain ⟨A, cap, m, rb1, rm, rs, rx⟩ := h
  have r0 := Blk.cell rb1 0 _ rfl
  have RM := Lib.hid rm
  have hmb : m ≤ 1000000 := by omega
  have HK := Lib.hid hk
  clear rb1 rm rs rx
  have hle1 := tk_le hk
  dsimp only at hle1
  have vk := tk_bnd hby hk
  dsimp only at vk
  have HL1 := Lib.hid (show L1.length ≤ 1000000 by omega)
  have HBY1 := Lib.hid (show ∀ x ∈ L1, Byte x from (tk_gives L _ L1 hk hby).1)
  have HSZ := Lib.hid hsz
  obtain ⟨RS, hRS⟩ : ∃ RS, readF L = RS := ⟨_, rfl⟩
  have HGO := Lib.hid (show RS = finR (readK 23 L1) by rw [← hRS]; exact readF_go hk hsz)
  rw [hRS]
  clear hRS hk hsz hle1
  go_enter Try.func25, Try.ntmps25
  go_wp2_with (fail)
  have kb0 := (Below.refl w.heap.size w).alloc (Nat.le_refl _) (.cells (fm0 0).vals 36)
  refine (rn_any rb L _ (HR.out.below kb0)).mono ?_
  rintro e w2 ⟨o2, hy2, hn2⟩
  obtain ⟨rfl, hr2⟩ := hy2 _ HK.out
  have HR2 : Hid (RdB w2 rb L1) := hr2
  have HZ2 := Lib.hid (show FB w2 w.heap.size (fm0 0) from o2.blk (fm0_at rfl) (fun h => by have h2 : w.heap.size = rb := h; omega))
  have OO2 := Lib.hid ((only_of_below kb0 (· = rb)).trans o2)
  have lz2 : w.heap.size < w2.heap.size := by have := o2.size; simp at this; omega
  obtain ⟨A2, cap2, m2, rb2, rm2, rs2, rx2⟩ := HR2.out
  have r2 := Blk.cell rb2 0 _ rfl
  have lrb2 : rb < w2.heap.size := by omega
  have hmb2 : m2 ≤ 1000000 := by have := HL1.out; omega
  have hsz2 : (m : Int) - m2 = sizeF 23 ∨ ¬ (m : Int) - m2 = sizeF 23 := Decidable.em _
  have hsm := size_le 23
  have hsm0 : 0 ≤ sizeF 23 := by omega
  have HSM := Lib.hid (show ((m : Int) - m2 = sizeF 23) ↔ ((L.length : Int) - L1.length = sizeF 23) by rw [RM.out, rm2])
  clear hy2 hn2 o2 kb0 rb2 rm2 rs2 rx2 hr2 hsz2
  obtain ⟨sz, hszv⟩ : ∃ s : Nat, sizeF 23 = s := ⟨_, rfl⟩
  have HSV := Lib.hid hszv
  clear hsm hsm0
  rw [hszv] at HSM
  have hq : ((m : Int) - m2 == (sz : Int)) = true := by simp only [beq_iff_eq]; rw [HSM.out, ← HSV.out]; exact HSZ.out
  clear hszv
  go_wp2_with (fail)
  refine rg_start 11 ?_
  refine rg_below fun KK hx hne hC hbel => ?_
  have k0 := fun z : Wd KK => (hx z _ 0 _ lrb2).trans r2
  clear hx
  refine rg_quiet 3 [0,1,2,3,4,5,6,7] hC ?_
  simp only [pickD, List.map_cons, List.map_nil, List.getD_cons_zero, List.getD_cons_succ]; repeat (go_big_quiet_step (fail))
  refine wpQuiet_nil ?_
  refine rg_act 8 ?_
  go_wp2_with (fail)
  refine (size_any 23 _ vk.1 (by omega)).mono ?_
  rintro e w3 ⟨rfl, rfl⟩
  rw [HSV.out]
  go_wp2_with (fail)
  refine ⟨hbel _ (Below.refl _ _), ?_⟩
  refine rg_quiet 1 [9] (hbel _ (Below.refl _ _)) ?_
  simp only [pickD, List.map_cons, List.map_nil, List.getD_cons_zero, List.getD_cons_succ]; repeat (go_big_quiet_step (fail))
  refine wpQuiet_nil ?_
  refine rg_cut 10 ?_
  go_wp2_with (fail)
  refine (must_true _).mono ?_
  rintro e w4 ⟨rfl, rfl⟩
  clear hbel hC hne k0
  go_wp2_with (fail)
  refine rg_end0 ?_
  go_wp2_with (with_reducible refine stop_stf ?_)
  refine Stop.out ?_
  refine wpList_storeF rfl rfl (fm0 23) (fm0 0) rfl rfl rfl rfl (fm0_at rfl) ?_
  intro w5 hb5 o5
  replace hb5 : FB w5 w2.heap.size (fm0 23) := hb5
  replace o5 : Only (· = w2.heap.size) (w2.drew.alloc (.cells (fm0 0).vals 36)) w5 := o5
  have bd : Below w2.heap.size w2 (w2.drew.alloc (.cells (fm0 0).vals 36)) := ((Below.refl _ w2).drew).alloc (Nat.le_refl _) _
  have b25 : Below w2.heap.size w2 w5 := below_onto bd o5 bd.size (by intro z hz h; omega)
  have HF5 := Lib.hid hb5
  have HZ5 := Lib.hid (FB.below HZ2.out b25)
  have HR5 := Lib.hid (HR2.out.below b25)
  have OO5 := Lib.hid (OO2.out.trans (only_of_below b25 (· = rb)))
  have hne : w2.heap.size ≠ rb := by omega
  have hnz : w.heap.size ≠ rb := by omega
  have lfb : w.heap.size < w2.heap.size := by omega
  have lrf : rb < w2.heap.size := by omega
  have HLF := Lib.hid (show w2.heap.size < w5.heap.size from Blk.lt hb5)
  clear r0 r2 lrb2 lz2 hq hb5 o5 bd b25
  generalize w2.heap.size = fb at *
  go_wp2_with (fail)
  refine (must_true _).mono ?_
  rintro e w9 ⟨rfl, rfl⟩
  go_wp2_with (fail)
  have hby10 := HR5.out.byte
  refine (rn_any rb L1 _ HR5.out).mono ?_
  rintro e w10 ⟨o10, hy10, hn10⟩
  have HY10 := Lib.hid hy10
  have HN10 := Lib.hid hn10
  have O10 := Lib.hid o10
  clear hy10 hn10 o10
  cases h10 : tk L1 with
  | none =>
    have he := HN10.out h10
    rw [failE] at he
    subst he
    have HT := Lib.hid (show RS = none from HGO.out.trans (finR_none (by rw [readK_23]; exact rb_none h10)))
    clear h10
    go_wp2_with (fail)
    exact ⟨rfl, OO5.out.trans O10.out, (fun x hx => by rw [HT.out] at hx; cases hx), (fun _ => rfl)⟩
  | some x =>
    obtain ⟨v10, L10⟩ := x
    obtain ⟨rfl, hr10⟩ := HY10.out _ h10
    have HR10 : Hid (RdB w10 rb L10) := hr10
    have H10 := Lib.hid h10
    have vb10 := tk_bnd hby10 h10
    have ll10 := tk_le h10
    dsimp only at vb10 ll10
    have HL10 := Lib.hid (show L10.length ≤ 1000000 by have := HL1.out; omega)
    clear h10 hby10 HY10 HN10 hr10 ll10
    have FF10 := Lib.hid (FB.only HF5.out O10.out hne)
    have ZZ10 := Lib.hid (FB.only HZ5.out O10.out hnz)
    have OO10 := Lib.hid (OO5.out.trans O10.out)
    have cc10 := FB.fc FF10.out rfl
    have p103 := cc10.c3
    have g103 := cc10.free 3
    clear cc10
    go_wp2_with (with_reducible refine stop_ldf ?_)
    have onl10 := Lib.hid ((Only.refl (· = fb) w10).set 3 (.int .u64 v10))
    have FS10 := Lib.hid (FF10.out.max v10)
    have RS10 := Lib.hid (HR10.out.only onl10.out (fun z hz => by omega))
    have ZS10 := Lib.hid (FB.only ZZ10.out onl10.out (by omega))
    have OS10 := Lib.hid (OO10.out.trans' onl10.out (fun z hz hs => by omega))
    have HF := Lib.hid (show readK 23 L1 = some (((fm0 23).setMax v10).f, L10) by rw [readK_23]; rw [rb_go H10.out]; rfl)
    have FRS := Lib.hid (show ((fm0 23).setMax v10).fresh fb from ⟨(fun x hx => by cases hx), (fun x hx => by cases hx), (fun x hx => by cases hx)⟩)
    have FOK := Lib.hid (show FrOk ((fm0 23).setMax v10).f ∧ ((fm0 23).setMax v10).f.data.length ≤ 1000000 ∧ ((fm0 23).setMax v10).f.acks.length ≤ 1000001 by
      obtain ⟨_, n, hn, res⟩ := readK_gives 23 (by omega) L1 ((fm0 23).setMax v10).f L10 HF.out HBY1.out
      have h1 := HL1.out
      have h2 := res.data
      have h3 := res.acks
      exact ⟨res.ok, by omega, by omega⟩)
    have SM := Lib.hid (show ((fm0 23).setMax v10).sm from ⟨FOK.out.2.1, Nat.zero_le _, Nat.zero_le _⟩)
    have hok := Lib.hid (show ((fm0 23).setMax v10).ok (w10.setCell ⟨fb, 3, none⟩ (.int .u64 v10)) from ⟨FOK.out.1, Sl.nil _ _, Sl.nil _ _, Rs.nil _⟩)
    have HT1 := Lib.hid (show RS = finR (some (((fm0 23).setMax v10).f, L10)) from HGO.out.trans (congrArg finR HF.out))
    refine Stop.out ?_
    refine wpList_loadF rfl rfl ((fm0 23).setMax v10) rfl rfl FS10.out ?_
    go_wp2_with (fail)
    refine (may_any ((fm0 23).setMax v10) _ hok.out (by have := SM.out.d; omega) SM.out.c (by have := SM.out.a; omega)).mono ?_
    cases hm : mayF ((fm0 23).setMax v10).f with
    | false =>
      have HT2 := Lib.hid (show RS = none from HT1.out.trans (finR_no hm))
      clear hm
      rintro e w8 ⟨rfl, b8⟩
      go_wp2_with (fail)
      refine (must_false _).mono ?_
      rintro e w9 ⟨he, rfl⟩
      rw [failE] at he
      subst he
      go_wp2_with (fail)
      exact ⟨rfl, OS10.out.trans (only_of_below b8 _), (fun x hx => by rw [HT2.out] at hx; cases hx), (fun _ => rfl)⟩
    | true =>
      have HT2 := Lib.hid (show RS = some (((fm0 23).setMax v10).f, L10) from HT1.out.trans (finR_may hm))
      clear hm
      rintro e w8 ⟨rfl, b8⟩
      have B8 := Lib.hid b8
      clear b8
      go_wp2_with (fail)
      refine (must_true _).mono ?_
      rintro e w9 ⟨rfl, rfl⟩
      have HF8 := Lib.hid (FB.below FS10.out B8.out)
      have HZ8 := Lib.hid (FB.below ZS10.out B8.out)
      go_wp2_with (with_reducible refine stop_ldf ?_)
      refine Stop.out ?_
      refine wpList_loadF rfl rfl ((fm0 23).setMax v10) rfl rfl HF8.out ?_
      go_wp2_with (with_reducible refine stop_stf ?_)
      refine Stop.out ?_
      refine wpList_storeF rfl rfl ((fm0 23).setMax v10) (fm0 0) rfl rfl rfl rfl HZ8.out ?_
      intro wy hby' oy
      go_wp2_with (fail)
      refine bodyPost_ret (results_cell_row rfl _ _ _ _ _ _ _ rfl hby' Try.underlying36 rfl (by rw [FM.size _ rfl]; exact fr_size)) rfl ?_
      refine ⟨(OS10.out.trans (only_of_below B8.out _)).trans' oy (fun z hz hs => by omega), ?_, (fun h => by rw [HT2.out] at h; cases h)⟩
      rw [HT2.out]
      intro x hx
      cases hx
      have hne8 : ∀ z : Nat, z ≤ rb → ¬ z = w.heap.size := fun z hz h => by omega
      have FR := FRS.out
      refine Lib.hid ⟨_, rfl, rfl, ⟨hok.out.fr, (hok.out.below B8.out).d.only oy (fun x hx _ h => by have := FR.1 x hx; omega), (hok.out.below B8.out).c.only oy (fun x hx _ h => by have := FR.2.1 x hx; omega), (hok.out.below B8.out).a.only oy (fun x hx _ h => by have := FR.2.2 x hx; omega)⟩, ⟨fun x hx => by have := FR.1 x hx; omega, fun x hx => by have := FR.2.1 x hx; omega, fun x hx => by have := FR.2.2 x hx; omega⟩, SM.out, (RS10.out.below B8.out).only oy hne8⟩

end Frm
end Go.Proofs.Ytcpjehgoeibbeaa
