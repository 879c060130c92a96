/- The reader: a frame (written by gen_frr4.py). -/
import Derived.Test.YtcpjehgoeibbeaaFrR40
namespace Go.Proofs.Ytcpjehgoeibbeaa
open Go.RowKit
set_option linter.unusedVariables false
namespace Frm
open Var

theorem readK_25 : readK 25 = rb tk fun i => rp { fr0 25 with id := i } := rfl
set_option maxHeartbeats 8000000 in
set_option maxRecDepth 100000 in
theorem rframe_25 (rb : Nat) (L L1 : List Int) (w : World) (h : RdB w rb L) (hl : L.length ≤ 1000000) (hk : tk L = some (25, L1)) (hsz : (L.length : Int) - L1.length = sizeF 25) :
    Calls Try.prog 25 #[.pointer (some ⟨rb, 0, none⟩)] w fun e w' => Only (· = rb) w w' ∧ (∀ x, readF L = some x → Hid (RF w' rb w.heap.size x.1 x.2 e)) ∧ (readF L = none → e = failE) := by
  have HR := Lib.hid h
  have hby := h.byte
  have lrb := h.lt
  obtain ⟨A, cap, m, rb1, rm, rs, rx⟩ := h
  have r0 := Blk.cell rb1 0 _ rfl
  have RM := Lib.hid rm
  have hmb : m ≤ 1000000 := by omega
  have HK := Lib.hid hk
  clear rb1 rm rs rx
  have hle1 := tk_le hk
  dsimp only at hle1
  have vk := tk_bnd hby hk
  dsimp only at vk
  have HL1 := Lib.hid (show L1.length ≤ 1000000 by omega)
  have HBY1 := Lib.hid (show ∀ x ∈ L1, Byte x from (tk_gives L _ L1 hk hby).1)
  have HSZ := Lib.hid hsz
  obtain ⟨RS, hRS⟩ : ∃ RS, readF L = RS := ⟨_, rfl⟩
  have HGO := Lib.hid (show RS = finR (readK 25 L1) by rw [← hRS]; exact readF_go hk hsz)
  rw [hRS]
  clear hRS hk hsz hle1
  go_enter Try.func25, Try.ntmps25
  go_wp2_with (fail)
  have kb0 := (Below.refl w.heap.size w).alloc (Nat.le_refl _) (.cells (fm0 0).vals 36)
  refine (rn_any rb L _ (HR.out.below kb0)).mono ?_
  rintro e w2 ⟨o2, hy2, hn2⟩
  obtain ⟨rfl, hr2⟩ := hy2 _ HK.out
  have HR2 : Hid (RdB w2 rb L1) := hr2
  have HZ2 := Lib.hid (show FB w2 w.heap.size (fm0 0) from o2.blk (fm0_at rfl) (fun h => by have h2 : w.heap.size = rb := h; omega))
  have OO2 := Lib.hid ((only_of_below kb0 (· = rb)).trans o2)
  have lz2 : w.heap.size < w2.heap.size := by have := o2.size; simp at this; omega
  obtain ⟨A2, cap2, m2, rb2, rm2, rs2, rx2⟩ := HR2.out
  have r2 := Blk.cell rb2 0 _ rfl
  have lrb2 : rb < w2.heap.size := by omega
  have hmb2 : m2 ≤ 1000000 := by have := HL1.out; omega
  have hsz2 : (m : Int) - m2 = sizeF 25 ∨ ¬ (m : Int) - m2 = sizeF 25 := Decidable.em _
  have hsm := size_le 25
  have hsm0 : 0 ≤ sizeF 25 := by omega
  have HSM := Lib.hid (show ((m : Int) - m2 = sizeF 25) ↔ ((L.length : Int) - L1.length = sizeF 25) by rw [RM.out, rm2])
  clear hy2 hn2 o2 kb0 rb2 rm2 rs2 rx2 hr2 hsz2
  obtain ⟨sz, hszv⟩ : ∃ s : Nat, sizeF 25 = s := ⟨_, rfl⟩
  have HSV := Lib.hid hszv
  clear hsm hsm0
  rw [hszv] at HSM
  have hq : ((m : Int) - m2 == (sz : Int)) = true := by simp only [beq_iff_eq]; rw [HSM.out, ← HSV.out]; exact HSZ.out
  clear hszv
  go_wp2_with (fail)
  refine rg_start 11 ?_
  refine rg_below fun KK hx hne hC hbel => ?_
  have k0 := fun z : Wd KK => (hx z _ 0 _ lrb2).trans r2
  clear hx
  refine rg_quiet 3 [0,1,2,3,4,5,6,7] hC ?_
  simp only [pickD, List.map_cons, List.map_nil, List.getD_cons_zero, List.getD_cons_succ]; repeat (go_big_quiet_step (fail))
  refine wpQuiet_nil ?_
  refine rg_act 8 ?_
  go_wp2_with (fail)
  refine (size_any 25 _ vk.1 (by omega)).mono ?_
  rintro e w3 ⟨rfl, rfl⟩
  rw [HSV.out]
  go_wp2_with (fail)
  refine ⟨hbel _ (Below.refl _ _), ?_⟩
  refine rg_quiet 1 [9] (hbel _ (Below.refl _ _)) ?_
  simp only [pickD, List.map_cons, List.map_nil, List.getD_cons_zero, List.getD_cons_succ]; repeat (go_big_quiet_step (fail))
  refine wpQuiet_nil ?_
  refine rg_cut 10 ?_
  go_wp2_with (fail)
  refine (must_true _).mono ?_
  rintro e w4 ⟨rfl, rfl⟩
  clear hbel hC hne k0
  go_wp2_with (fail)
  refine rg_end0 ?_
  go_wp2_with (with_reducible refine stop_stf ?_)
  refine Stop.out ?_
  refine wpList_storeF rfl rfl (fm0 25) (fm0 0) rfl rfl rfl rfl (fm0_at rfl) ?_
  intro w5 hb5 o5
  replace hb5 : FB w5 w2.heap.size (fm0 25) := hb5
  replace o5 : Only (· = w2.heap.size) (w2.drew.alloc (.cells (fm0 0).vals 36)) w5 := o5
  have bd : Below w2.heap.size w2 (w2.drew.alloc (.cells (fm0 0).vals 36)) := ((Below.refl _ w2).drew).alloc (Nat.le_refl _) _
  have b25 : Below w2.heap.size w2 w5 := below_onto bd o5 bd.size (by intro z hz h; omega)
  have HF5 := Lib.hid hb5
  have HZ5 := Lib.hid (FB.below HZ2.out b25)
  have HR5 := Lib.hid (HR2.out.below b25)
  have OO5 := Lib.hid (OO2.out.trans (only_of_below b25 (· = rb)))
  have hne : w2.heap.size ≠ rb := by omega
  have hnz : w.heap.size ≠ rb := by omega
  have lfb : w.heap.size < w2.heap.size := by omega
  have lrf : rb < w2.heap.size := by omega
  have HLF := Lib.hid (show w2.heap.size < w5.heap.size from Blk.lt hb5)
  clear r0 r2 lrb2 lz2 hq hb5 o5 bd b25
  generalize w2.heap.size = fb at *
  go_wp2_with (fail)
  have hby10 := HR5.out.byte
  refine (rn_any rb L1 _ HR5.out).mono ?_
  rintro e w10 ⟨o10, hy10, hn10⟩
  have HY10 := Lib.hid hy10
  have HN10 := Lib.hid hn10
  have O10 := Lib.hid o10
  clear hy10 hn10 o10
  cases h10 : tk L1 with
  | none =>
    have he := HN10.out h10
    rw [failE] at he
    subst he
    have HT := Lib.hid (show RS = none from HGO.out.trans (finR_none (by rw [readK_25]; exact rb_none h10)))
    clear h10
    go_wp2_with (fail)
    exact ⟨rfl, OO5.out.trans O10.out, (fun x hx => by rw [HT.out] at hx; cases hx), (fun _ => rfl)⟩
  | some x =>
    obtain ⟨v10, L10⟩ := x
    obtain ⟨rfl, hr10⟩ := HY10.out _ h10
    have HR10 : Hid (RdB w10 rb L10) := hr10
    have H10 := Lib.hid h10
    have vb10 := tk_bnd hby10 h10
    have ll10 := tk_le h10
    dsimp only at vb10 ll10
    have HL10 := Lib.hid (show L10.length ≤ 1000000 by have := HL1.out; omega)
    clear h10 hby10 HY10 HN10 hr10 ll10
    have FF10 := Lib.hid (FB.only HF5.out O10.out hne)
    have ZZ10 := Lib.hid (FB.only HZ5.out O10.out hnz)
    have OO10 := Lib.hid (OO5.out.trans O10.out)
    have cc10 := FB.fc FF10.out rfl
    have p101 := cc10.c1
    have g101 := cc10.free 1
    clear cc10
    go_wp2_with (with_reducible refine stop_ldf ?_)
    have onl10 := Lib.hid ((Only.refl (· = fb) w10).set 1 (.int .u64 v10))
    have FS10 := Lib.hid (FF10.out.id v10)
    have RS10 := Lib.hid (HR10.out.only onl10.out (fun z hz => by omega))
    have ZS10 := Lib.hid (FB.only ZZ10.out onl10.out (by omega))
    have OS10 := Lib.hid (OO10.out.trans' onl10.out (fun z hz hs => by omega))
    have HF := Lib.hid (show readK 25 L1 = some (((fm0 25).setId v10).f, L10) by rw [readK_25]; rw [rb_go H10.out]; rfl)
    have FRS := Lib.hid (show ((fm0 25).setId v10).fresh fb from ⟨(fun x hx => by cases hx), (fun x hx => by cases hx), (fun x hx => by cases hx)⟩)
    have FOK := Lib.hid (show FrOk ((fm0 25).setId v10).f ∧ ((fm0 25).setId v10).f.data.length ≤ 1000000 ∧ ((fm0 25).setId v10).f.acks.length ≤ 1000001 by
      obtain ⟨_, n, hn, res⟩ := readK_gives 25 (by omega) L1 ((fm0 25).setId v10).f L10 HF.out HBY1.out
      have h1 := HL1.out
      have h2 := res.data
      have h3 := res.acks
      exact ⟨res.ok, by omega, by omega⟩)
    have SM := Lib.hid (show ((fm0 25).setId v10).sm from ⟨FOK.out.2.1, Nat.zero_le _, Nat.zero_le _⟩)
    have hok := Lib.hid (show ((fm0 25).setId v10).ok (w10.setCell ⟨fb, 1, none⟩ (.int .u64 v10)) from ⟨FOK.out.1, Sl.nil _ _, Sl.nil _ _, Rs.nil _⟩)
    have HT1 := Lib.hid (show RS = finR (some (((fm0 25).setId v10).f, L10)) from HGO.out.trans (congrArg finR HF.out))
    refine Stop.out ?_
    refine wpList_loadF rfl rfl ((fm0 25).setId v10) rfl rfl FS10.out ?_
    go_wp2_with (fail)
    refine (may_any ((fm0 25).setId v10) _ hok.out (by have := SM.out.d; omega) SM.out.c (by have := SM.out.a; omega)).mono ?_
    cases hm : mayF ((fm0 25).setId v10).f with
    | false =>
      have HT2 := Lib.hid (show RS = none from HT1.out.trans (finR_no hm))
      clear hm
      rintro e w8 ⟨rfl, b8⟩
      go_wp2_with (fail)
      refine (must_false _).mono ?_
      rintro e w9 ⟨he, rfl⟩
      rw [failE] at he
      subst he
      go_wp2_with (fail)
      exact ⟨rfl, OS10.out.trans (only_of_below b8 _), (fun x hx => by rw [HT2.out] at hx; cases hx), (fun _ => rfl)⟩
    | true =>
      have HT2 := Lib.hid (show RS = some (((fm0 25).setId v10).f, L10) from HT1.out.trans (finR_may hm))
      clear hm
      rintro e w8 ⟨rfl, b8⟩
      have B8 := Lib.hid b8
      clear b8
      go_wp2_with (fail)
      refine (must_true _).mono ?_
      rintro e w9 ⟨rfl, rfl⟩
      have HF8 := Lib.hid (FB.below FS10.out B8.out)
      have HZ8 := Lib.hid (FB.below ZS10.out B8.out)
      go_wp2_with (with_reducible refine stop_ldf ?_)
      refine Stop.out ?_
      refine wpList_loadF rfl rfl ((fm0 25).setId v10) rfl rfl HF8.out ?_
      go_wp2_with (with_reducible refine stop_stf ?_)
      refine Stop.out ?_
      refine wpList_storeF rfl rfl ((fm0 25).setId v10) (fm0 0) rfl rfl rfl rfl HZ8.out ?_
      intro wy hby' oy
      go_wp2_with (fail)
      refine bodyPost_ret (results_cell_row rfl _ _ _ _ _ _ _ rfl hby' Try.underlying36 rfl (by rw [FM.size _ rfl]; exact fr_size)) rfl ?_
      refine ⟨(OS10.out.trans (only_of_below B8.out _)).trans' oy (fun z hz hs => by omega), ?_, (fun h => by rw [HT2.out] at h; cases h)⟩
      rw [HT2.out]
      intro x hx
      cases hx
      have hne8 : ∀ z : Nat, z ≤ rb → ¬ z = w.heap.size := fun z hz h => by omega
      have FR := FRS.out
      refine Lib.hid ⟨_, rfl, rfl, ⟨hok.out.fr, (hok.out.below B8.out).d.only oy (fun x hx _ h => by have := FR.1 x hx; omega), (hok.out.below B8.out).c.only oy (fun x hx _ h => by have := FR.2.1 x hx; omega), (hok.out.below B8.out).a.only oy (fun x hx _ h => by have := FR.2.2 x hx; omega)⟩, ⟨fun x hx => by have := FR.1 x hx; omega, fun x hx => by have := FR.2.1 x hx; omega, fun x hx => by have := FR.2.2 x hx; omega⟩, SM.out, (RS10.out.below B8.out).only oy hne8⟩

theorem readK_26 : readK 26 = rb (someB 8) fun d => rp { fr0 26 with data := d } := rfl
set_option maxHeartbeats 8000000 in
set_option maxRecDepth 100000 in
theorem rframe_26 (rb : Nat) (L L1 : List Int) (w : World) (h : RdB w rb L) (hl : L.length ≤ 1000000) (hk : tk L = some (26, L1)) (hsz : (L.length : Int) - L1.length = sizeF 26) :
    Calls Try.prog 25 #[.pointer (some ⟨rb, 0, none⟩)] w fun e w' => Only (· = rb) w w' ∧ (∀ x, readF L = some x → Hid (RF w' rb w.heap.size x.1 x.2 e)) ∧ (readF L = none → e = failE) := by
  have HR := Lib.hid h
  have hby := h.byte
  have lrb := h.lt
  obtain ⟨A, cap, m, rb1, rm, rs, rx⟩ := h
  have r0 := Blk.cell rb1 0 _ rfl
  have RM := Lib.hid rm
  have hmb : m ≤ 1000000 := by omega
  have HK := Lib.hid hk
  clear rb1 rm rs rx
  have hle1 := tk_le hk
  dsimp only at hle1
  have vk := tk_bnd hby hk
  dsimp only at vk
  have HL1 := Lib.hid (show L1.length ≤ 1000000 by omega)
  have HBY1 := Lib.hid (show ∀ x ∈ L1, Byte x from (tk_gives L _ L1 hk hby).1)
  have HSZ := Lib.hid hsz
  obtain ⟨RS, hRS⟩ : ∃ RS, readF L = RS := ⟨_, rfl⟩
  have HGO := Lib.hid (show RS = finR (readK 26 L1) by rw [← hRS]; exact readF_go hk hsz)
  rw [hRS]
  clear hRS hk hsz hle1
  go_enter Try.func25, Try.ntmps25
  go_wp2_with (fail)
  have kb0 := (Below.refl w.heap.size w).alloc (Nat.le_refl _) (.cells (fm0 0).vals 36)
  refine (rn_any rb L _ (HR.out.below kb0)).mono ?_
  rintro e w2 ⟨o2, hy2, hn2⟩
  obtain ⟨rfl, hr2⟩ := hy2 _ HK.out
  have HR2 : Hid (RdB w2 rb L1) := hr2
  have HZ2 := Lib.hid (show FB w2 w.heap.size (fm0 0) from o2.blk (fm0_at rfl) (fun h => by have h2 : w.heap.size = rb := h; omega))
  have OO2 := Lib.hid ((only_of_below kb0 (· = rb)).trans o2)
  have lz2 : w.heap.size < w2.heap.size := by have := o2.size; simp at this; omega
  obtain ⟨A2, cap2, m2, rb2, rm2, rs2, rx2⟩ := HR2.out
  have r2 := Blk.cell rb2 0 _ rfl
  have lrb2 : rb < w2.heap.size := by omega
  have hmb2 : m2 ≤ 1000000 := by have := HL1.out; omega
  have hsz2 : (m : Int) - m2 = sizeF 26 ∨ ¬ (m : Int) - m2 = sizeF 26 := Decidable.em _
  have hsm := size_le 26
  have hsm0 : 0 ≤ sizeF 26 := by omega
  have HSM := Lib.hid (show ((m : Int) - m2 = sizeF 26) ↔ ((L.length : Int) - L1.length = sizeF 26) by rw [RM.out, rm2])
  clear hy2 hn2 o2 kb0 rb2 rm2 rs2 rx2 hr2 hsz2
  obtain ⟨sz, hszv⟩ : ∃ s : Nat, sizeF 26 = s := ⟨_, rfl⟩
  have HSV := Lib.hid hszv
  clear hsm hsm0
  rw [hszv] at HSM
  have hq : ((m : Int) - m2 == (sz : Int)) = true := by simp only [beq_iff_eq]; rw [HSM.out, ← HSV.out]; exact HSZ.out
  clear hszv
  go_wp2_with (fail)
  refine rg_start 11 ?_
  refine rg_below fun KK hx hne hC hbel => ?_
  have k0 := fun z : Wd KK => (hx z _ 0 _ lrb2).trans r2
  clear hx
  refine rg_quiet 3 [0,1,2,3,4,5,6,7] hC ?_
  simp only [pickD, List.map_cons, List.map_nil, List.getD_cons_zero, List.getD_cons_succ]; repeat (go_big_quiet_step (fail))
  refine wpQuiet_nil ?_
  refine rg_act 8 ?_
  go_wp2_with (fail)
  refine (size_any 26 _ vk.1 (by omega)).mono ?_
  rintro e w3 ⟨rfl, rfl⟩
  rw [HSV.out]
  go_wp2_with (fail)
  refine ⟨hbel _ (Below.refl _ _), ?_⟩
  refine rg_quiet 1 [9] (hbel _ (Below.refl _ _)) ?_
  simp only [pickD, List.map_cons, List.map_nil, List.getD_cons_zero, List.getD_cons_succ]; repeat (go_big_quiet_step (fail))
  refine wpQuiet_nil ?_
  refine rg_cut 10 ?_
  go_wp2_with (fail)
  refine (must_true _).mono ?_
  rintro e w4 ⟨rfl, rfl⟩
  clear hbel hC hne k0
  go_wp2_with (fail)
  refine rg_end0 ?_
  go_wp2_with (with_reducible refine stop_stf ?_)
  refine Stop.out ?_
  refine wpList_storeF rfl rfl (fm0 26) (fm0 0) rfl rfl rfl rfl (fm0_at rfl) ?_
  intro w5 hb5 o5
  replace hb5 : FB w5 w2.heap.size (fm0 26) := hb5
  replace o5 : Only (· = w2.heap.size) (w2.drew.alloc (.cells (fm0 0).vals 36)) w5 := o5
  have bd : Below w2.heap.size w2 (w2.drew.alloc (.cells (fm0 0).vals 36)) := ((Below.refl _ w2).drew).alloc (Nat.le_refl _) _
  have b25 : Below w2.heap.size w2 w5 := below_onto bd o5 bd.size (by intro z hz h; omega)
  have HF5 := Lib.hid hb5
  have HZ5 := Lib.hid (FB.below HZ2.out b25)
  have HR5 := Lib.hid (HR2.out.below b25)
  have OO5 := Lib.hid (OO2.out.trans (only_of_below b25 (· = rb)))
  have hne : w2.heap.size ≠ rb := by omega
  have hnz : w.heap.size ≠ rb := by omega
  have lfb : w.heap.size < w2.heap.size := by omega
  have lrf : rb < w2.heap.size := by omega
  have HLF := Lib.hid (show w2.heap.size < w5.heap.size from Blk.lt hb5)
  clear r0 r2 lrb2 lz2 hq hb5 o5 bd b25
  generalize w2.heap.size = fb at *
  go_wp2_with (fail)
  refine (rsome_any rb L1 8 _ HR5.out (by omega) (by omega) HL1.out).mono ?_
  rintro e w10 ⟨o10, hy10, hn10⟩
  have HY10 := Lib.hid hy10
  have HN10 := Lib.hid hn10
  have O10 := Lib.hid o10
  clear hy10 hn10 o10
  cases h10 : (someB 8) L1 with
  | none =>
    have he := HN10.out h10
    rw [failE] at he
    subst he
    have HT := Lib.hid (show RS = none from HGO.out.trans (finR_none (by rw [readK_26]; exact rb_none h10)))
    clear h10
    go_wp2_with (fail)
    exact ⟨rfl, OO5.out.trans O10.out, (fun x hx => by rw [HT.out] at hx; cases hx), (fun _ => rfl)⟩
  | some x =>
    obtain ⟨d, L10⟩ := x
    obtain ⟨a10, c10, m10, rfl, M10, B10, hr10⟩ := HY10.out _ h10
    have HR10 : Hid (RdB w10 rb L10) := hr10
    replace M10 : Hid (m10 = d.length) := M10
    have HB10 : Hid (OwB w10 w5.heap.size a10 c10 d) := Lib.hid ⟨B10.out.1.base_le (by first | exact Nat.le_refl _ | simp), B10.out.2⟩
    have H10 := Lib.hid h10
    have HLV10 := Lib.hid (show d.length ≤ 1000000 ∧ L10.length ≤ 1000000 by have := HL1.out; have h5 := someB_le h10; dsimp only at h5; omega)
    clear h10 HY10 HN10 hr10 B10
    have FF10 := Lib.hid (FB.only HF5.out O10.out hne)
    have ZZ10 := Lib.hid (FB.only HZ5.out O10.out hnz)
    have OO10 := Lib.hid (OO5.out.trans O10.out)
    have SZL10 := Lib.hid (show fb < w5.heap.size from Blk.lt HF5.out)
    have FAR10 := Lib.hid (show ∀ x, a10 = some x → fb < x.block from fun x hx => by have h1 := HB10.out.far x hx; have h2 := HLF.out; have h3 := SZL10.out; omega)
    have cc10 := FB.fc FF10.out rfl
    have p107 := cc10.c7
    have g107 := cc10.free 7
    clear cc10
    go_wp2_with (with_reducible refine stop_ldf ?_)
    have onl10 := Lib.hid ((Only.refl (· = fb) w10).set 7 (.slice a10 m10 c10))
    have fs10 := FF10.out.data a10 c10 d
    rw [← M10.out] at fs10
    have FS10 := Lib.hid fs10
    have RS10 := Lib.hid (HR10.out.only onl10.out (fun z hz => by omega))
    have ZS10 := Lib.hid (FB.only ZZ10.out onl10.out (by omega))
    have OS10 := Lib.hid (OO10.out.trans' onl10.out (fun z hz hs => by omega))
    have DS := Lib.hid (show Sl .u8 (w10.setCell ⟨fb, 7, none⟩ (.slice a10 m10 c10)) a10 c10 d from HB10.out.sl.only onl10.out (fun x hx _ h => by have := FAR10.out x hx; omega))
    clear fs10
    have HF := Lib.hid (show readK 26 L1 = some (((fm0 26).setData a10 c10 d).f, L10) by rw [readK_26]; rw [rb_go H10.out]; rfl)
    have FRS := Lib.hid (show ((fm0 26).setData a10 c10 d).fresh fb from ⟨fun x hx => Nat.le_of_lt (FAR10.out x hx), (fun x hx => by cases hx), (fun x hx => by cases hx)⟩)
    have FOK := Lib.hid (show FrOk ((fm0 26).setData a10 c10 d).f ∧ ((fm0 26).setData a10 c10 d).f.data.length ≤ 1000000 ∧ ((fm0 26).setData a10 c10 d).f.acks.length ≤ 1000001 by
      obtain ⟨_, n, hn, res⟩ := readK_gives 26 (by omega) L1 ((fm0 26).setData a10 c10 d).f L10 HF.out HBY1.out
      have h1 := HL1.out
      have h2 := res.data
      have h3 := res.acks
      exact ⟨res.ok, by omega, by omega⟩)
    have SM := Lib.hid (show ((fm0 26).setData a10 c10 d).sm from ⟨FOK.out.2.1, Nat.zero_le _, Nat.zero_le _⟩)
    have hok := Lib.hid (show ((fm0 26).setData a10 c10 d).ok (w10.setCell ⟨fb, 7, none⟩ (.slice a10 m10 c10)) from ⟨FOK.out.1, DS.out, Sl.nil _ _, Rs.nil _⟩)
    have HT1 := Lib.hid (show RS = finR (some (((fm0 26).setData a10 c10 d).f, L10)) from HGO.out.trans (congrArg finR HF.out))
    refine Stop.out ?_
    refine wpList_loadF rfl rfl ((fm0 26).setData a10 c10 d) rfl rfl FS10.out ?_
    go_wp2_with (fail)
    refine (may_any ((fm0 26).setData a10 c10 d) _ hok.out (by have := SM.out.d; omega) SM.out.c (by have := SM.out.a; omega)).mono ?_
    cases hm : mayF ((fm0 26).setData a10 c10 d).f with
    | false =>
      have HT2 := Lib.hid (show RS = none from HT1.out.trans (finR_no hm))
      clear hm
      rintro e w8 ⟨rfl, b8⟩
      go_wp2_with (fail)
      refine (must_false _).mono ?_
      rintro e w9 ⟨he, rfl⟩
      rw [failE] at he
      subst he
      go_wp2_with (fail)
      exact ⟨rfl, OS10.out.trans (only_of_below b8 _), (fun x hx => by rw [HT2.out] at hx; cases hx), (fun _ => rfl)⟩
    | true =>
      have HT2 := Lib.hid (show RS = some (((fm0 26).setData a10 c10 d).f, L10) from HT1.out.trans (finR_may hm))
      clear hm
      rintro e w8 ⟨rfl, b8⟩
      have B8 := Lib.hid b8
      clear b8
      go_wp2_with (fail)
      refine (must_true _).mono ?_
      rintro e w9 ⟨rfl, rfl⟩
      have HF8 := Lib.hid (FB.below FS10.out B8.out)
      have HZ8 := Lib.hid (FB.below ZS10.out B8.out)
      go_wp2_with (with_reducible refine stop_ldf ?_)
      refine Stop.out ?_
      refine wpList_loadF rfl rfl ((fm0 26).setData a10 c10 d) rfl rfl HF8.out ?_
      go_wp2_with (with_reducible refine stop_stf ?_)
      refine Stop.out ?_
      refine wpList_storeF rfl rfl ((fm0 26).setData a10 c10 d) (fm0 0) rfl rfl rfl rfl HZ8.out ?_
      intro wy hby' oy
      go_wp2_with (fail)
      refine bodyPost_ret (results_cell_row rfl _ _ _ _ _ _ _ rfl hby' Try.underlying36 rfl (by rw [FM.size _ rfl]; exact fr_size)) rfl ?_
      refine ⟨(OS10.out.trans (only_of_below B8.out _)).trans' oy (fun z hz hs => by omega), ?_, (fun h => by rw [HT2.out] at h; cases h)⟩
      rw [HT2.out]
      intro x hx
      cases hx
      have hne8 : ∀ z : Nat, z ≤ rb → ¬ z = w.heap.size := fun z hz h => by omega
      have FR := FRS.out
      refine Lib.hid ⟨_, rfl, rfl, ⟨hok.out.fr, (hok.out.below B8.out).d.only oy (fun x hx _ h => by have := FR.1 x hx; omega), (hok.out.below B8.out).c.only oy (fun x hx _ h => by have := FR.2.1 x hx; omega), (hok.out.below B8.out).a.only oy (fun x hx _ h => by have := FR.2.2 x hx; omega)⟩, ⟨fun x hx => by have := FR.1 x hx; omega, fun x hx => by have := FR.2.1 x hx; omega, fun x hx => by have := FR.2.2 x hx; omega⟩, SM.out, (RS10.out.below B8.out).only oy hne8⟩

theorem readK_27 : readK 27 = rb (someB 8) fun d => rp { fr0 27 with data := d } := rfl
set_option maxHeartbeats 8000000 in
set_option maxRecDepth 100000 in
theorem rframe_27 (rb : Nat) (L L1 : List Int) (w : World) (h : RdB w rb L) (hl : L.length ≤ 1000000) (hk : tk L = some (27, L1)) (hsz : (L.length : Int) - L1.length = sizeF 27) :
    Calls Try.prog 25 #[.pointer (some ⟨rb, 0, none⟩)] w fun e w' => Only (· = rb) w w' ∧ (∀ x, readF L = some x → Hid (RF w' rb w.heap.size x.1 x.2 e)) ∧ (readF L = none → e = failE) := by
  have HR := Lib.hid h
  have hby := h.byte
  have lrb := h.lt
  obtain ⟨A, cap, m, rb1, rm, rs, rx⟩ := h
  have r0 := Blk.cell rb1 0 _ rfl
  have RM := Lib.hid rm
  have hmb : m ≤ 1000000 := by omega
  have HK := Lib.hid hk
  clear rb1 rm rs rx
  have hle1 := tk_le hk
  dsimp only at hle1
  have vk := tk_bnd hby hk
  dsimp only at vk
  have HL1 := Lib.hid (show L1.length ≤ 1000000 by omega)
  have HBY1 := Lib.hid (show ∀ x ∈ L1, Byte x from (tk_gives L _ L1 hk hby).1)
  have HSZ := Lib.hid hsz
  obtain ⟨RS, hRS⟩ : ∃ RS, readF L = RS := ⟨_, rfl⟩
  have HGO := Lib.hid (show RS = finR (readK 27 L1) by rw [← hRS]; exact readF_go hk hsz)
  rw [hRS]
  clear hRS hk hsz hle1
  go_enter Try.func25, Try.ntmps25
  go_wp2_with (fail)
  have kb0 := (Below.refl w.heap.size w).alloc (Nat.le_refl _) (.cells (fm0 0).vals 36)
  refine (rn_any rb L _ (HR.out.below kb0)).mono ?_
  rintro e w2 ⟨o2, hy2, hn2⟩
  obtain ⟨rfl, hr2⟩ := hy2 _ HK.out
  have HR2 : Hid (RdB w2 rb L1) := hr2
  have HZ2 := Lib.hid (show FB w2 w.heap.size (fm0 0) from o2.blk (fm0_at rfl) (fun h => by have h2 : w.heap.size = rb := h; omega))
  have OO2 := Lib.hid ((only_of_below kb0 (· = rb)).trans o2)
  have lz2 : w.heap.size < w2.heap.size := by have := o2.size; simp at this; omega
  obtain ⟨A2, cap2, m2, rb2, rm2, rs2, rx2⟩ := HR2.out
  have r2 := Blk.cell rb2 0 _ rfl
  have lrb2 : rb < w2.heap.size := by omega
  have hmb2 : m2 ≤ 1000000 := by have := HL1.out; omega
  have hsz2 : (m : Int) - m2 = sizeF 27 ∨ ¬ (m : Int) - m2 = sizeF 27 := Decidable.em _
  have hsm := size_le 27
  have hsm0 : 0 ≤ sizeF 27 := by omega
  have HSM := Lib.hid (show ((m : Int) - m2 = sizeF 27) ↔ ((L.length : Int) - L1.length = sizeF 27) by rw [RM.out, rm2])
  clear hy2 hn2 o2 kb0 rb2 rm2 rs2 rx2 hr2 hsz2
  obtain ⟨sz, hszv⟩ : ∃ s : Nat, sizeF 27 = s := ⟨_, rfl⟩
  have HSV := Lib.hid hszv
  clear hsm hsm0
  rw [hszv] at HSM
  have hq : ((m : Int) - m2 == (sz : Int)) = true := by simp only [beq_iff_eq]; rw [HSM.out, ← HSV.out]; exact HSZ.out
  clear hszv
  go_wp2_with (fail)
  refine rg_start 11 ?_
  refine rg_below fun KK hx hne hC hbel => ?_
  have k0 := fun z : Wd KK => (hx z _ 0 _ lrb2).trans r2
  clear hx
  refine rg_quiet 3 [0,1,2,3,4,5,6,7] hC ?_
  simp only [pickD, List.map_cons, List.map_nil, List.getD_cons_zero, List.getD_cons_succ]; repeat (go_big_quiet_step (fail))
  refine wpQuiet_nil ?_
  refine rg_act 8 ?_
  go_wp2_with (fail)
  refine (size_any 27 _ vk.1 (by omega)).mono ?_
  rintro e w3 ⟨rfl, rfl⟩
  rw [HSV.out]
  go_wp2_with (fail)
  refine ⟨hbel _ (Below.refl _ _), ?_⟩
  refine rg_quiet 1 [9] (hbel _ (Below.refl _ _)) ?_
  simp only [pickD, List.map_cons, List.map_nil, List.getD_cons_zero, List.getD_cons_succ]; repeat (go_big_quiet_step (fail))
  refine wpQuiet_nil ?_
  refine rg_cut 10 ?_
  go_wp2_with (fail)
  refine (must_true _).mono ?_
  rintro e w4 ⟨rfl, rfl⟩
  clear hbel hC hne k0
  go_wp2_with (fail)
  refine rg_end0 ?_
  go_wp2_with (with_reducible refine stop_stf ?_)
  refine Stop.out ?_
  refine wpList_storeF rfl rfl (fm0 27) (fm0 0) rfl rfl rfl rfl (fm0_at rfl) ?_
  intro w5 hb5 o5
  replace hb5 : FB w5 w2.heap.size (fm0 27) := hb5
  replace o5 : Only (· = w2.heap.size) (w2.drew.alloc (.cells (fm0 0).vals 36)) w5 := o5
  have bd : Below w2.heap.size w2 (w2.drew.alloc (.cells (fm0 0).vals 36)) := ((Below.refl _ w2).drew).alloc (Nat.le_refl _) _
  have b25 : Below w2.heap.size w2 w5 := below_onto bd o5 bd.size (by intro z hz h; omega)
  have HF5 := Lib.hid hb5
  have HZ5 := Lib.hid (FB.below HZ2.out b25)
  have HR5 := Lib.hid (HR2.out.below b25)
  have OO5 := Lib.hid (OO2.out.trans (only_of_below b25 (· = rb)))
  have hne : w2.heap.size ≠ rb := by omega
  have hnz : w.heap.size ≠ rb := by omega
  have lfb : w.heap.size < w2.heap.size := by omega
  have lrf : rb < w2.heap.size := by omega
  have HLF := Lib.hid (show w2.heap.size < w5.heap.size from Blk.lt hb5)
  clear r0 r2 lrb2 lz2 hq hb5 o5 bd b25
  generalize w2.heap.size = fb at *
  go_wp2_with (fail)
  refine (rsome_any rb L1 8 _ HR5.out (by omega) (by omega) HL1.out).mono ?_
  rintro e w10 ⟨o10, hy10, hn10⟩
  have HY10 := Lib.hid hy10
  have HN10 := Lib.hid hn10
  have O10 := Lib.hid o10
  clear hy10 hn10 o10
  cases h10 : (someB 8) L1 with
  | none =>
    have he := HN10.out h10
    rw [failE] at he
    subst he
    have HT := Lib.hid (show RS = none from HGO.out.trans (finR_none (by rw [readK_27]; exact rb_none h10)))
    clear h10
    go_wp2_with (fail)
    exact ⟨rfl, OO5.out.trans O10.out, (fun x hx => by rw [HT.out] at hx; cases hx), (fun _ => rfl)⟩
  | some x =>
    obtain ⟨d, L10⟩ := x
    obtain ⟨a10, c10, m10, rfl, M10, B10, hr10⟩ := HY10.out _ h10
    have HR10 : Hid (RdB w10 rb L10) := hr10
    replace M10 : Hid (m10 = d.length) := M10
    have HB10 : Hid (OwB w10 w5.heap.size a10 c10 d) := Lib.hid ⟨B10.out.1.base_le (by first | exact Nat.le_refl _ | simp), B10.out.2⟩
    have H10 := Lib.hid h10
    have HLV10 := Lib.hid (show d.length ≤ 1000000 ∧ L10.length ≤ 1000000 by have := HL1.out; have h5 := someB_le h10; dsimp only at h5; omega)
    clear h10 HY10 HN10 hr10 B10
    have FF10 := Lib.hid (FB.only HF5.out O10.out hne)
    have ZZ10 := Lib.hid (FB.only HZ5.out O10.out hnz)
    have OO10 := Lib.hid (OO5.out.trans O10.out)
    have SZL10 := Lib.hid (show fb < w5.heap.size from Blk.lt HF5.out)
    have FAR10 := Lib.hid (show ∀ x, a10 = some x → fb < x.block from fun x hx => by have h1 := HB10.out.far x hx; have h2 := HLF.out; have h3 := SZL10.out; omega)
    have cc10 := FB.fc FF10.out rfl
    have p107 := cc10.c7
    have g107 := cc10.free 7
    clear cc10
    go_wp2_with (with_reducible refine stop_ldf ?_)
    have onl10 := Lib.hid ((Only.refl (· = fb) w10).set 7 (.slice a10 m10 c10))
    have fs10 := FF10.out.data a10 c10 d
    rw [← M10.out] at fs10
    have FS10 := Lib.hid fs10
    have RS10 := Lib.hid (HR10.out.only onl10.out (fun z hz => by omega))
    have ZS10 := Lib.hid (FB.only ZZ10.out onl10.out (by omega))
    have OS10 := Lib.hid (OO10.out.trans' onl10.out (fun z hz hs => by omega))
    have DS := Lib.hid (show Sl .u8 (w10.setCell ⟨fb, 7, none⟩ (.slice a10 m10 c10)) a10 c10 d from HB10.out.sl.only onl10.out (fun x hx _ h => by have := FAR10.out x hx; omega))
    clear fs10
    have HF := Lib.hid (show readK 27 L1 = some (((fm0 27).setData a10 c10 d).f, L10) by rw [readK_27]; rw [rb_go H10.out]; rfl)
    have FRS := Lib.hid (show ((fm0 27).setData a10 c10 d).fresh fb from ⟨fun x hx => Nat.le_of_lt (FAR10.out x hx), (fun x hx => by cases hx), (fun x hx => by cases hx)⟩)
    have FOK := Lib.hid (show FrOk ((fm0 27).setData a10 c10 d).f ∧ ((fm0 27).setData a10 c10 d).f.data.length ≤ 1000000 ∧ ((fm0 27).setData a10 c10 d).f.acks.length ≤ 1000001 by
      obtain ⟨_, n, hn, res⟩ := readK_gives 27 (by omega) L1 ((fm0 27).setData a10 c10 d).f L10 HF.out HBY1.out
      have h1 := HL1.out
      have h2 := res.data
      have h3 := res.acks
      exact ⟨res.ok, by omega, by omega⟩)
    have SM := Lib.hid (show ((fm0 27).setData a10 c10 d).sm from ⟨FOK.out.2.1, Nat.zero_le _, Nat.zero_le _⟩)
    have hok := Lib.hid (show ((fm0 27).setData a10 c10 d).ok (w10.setCell ⟨fb, 7, none⟩ (.slice a10 m10 c10)) from ⟨FOK.out.1, DS.out, Sl.nil _ _, Rs.nil _⟩)
    have HT1 := Lib.hid (show RS = finR (some (((fm0 27).setData a10 c10 d).f, L10)) from HGO.out.trans (congrArg finR HF.out))
    refine Stop.out ?_
    refine wpList_loadF rfl rfl ((fm0 27).setData a10 c10 d) rfl rfl FS10.out ?_
    go_wp2_with (fail)
    refine (may_any ((fm0 27).setData a10 c10 d) _ hok.out (by have := SM.out.d; omega) SM.out.c (by have := SM.out.a; omega)).mono ?_
    cases hm : mayF ((fm0 27).setData a10 c10 d).f with
    | false =>
      have HT2 := Lib.hid (show RS = none from HT1.out.trans (finR_no hm))
      clear hm
      rintro e w8 ⟨rfl, b8⟩
      go_wp2_with (fail)
      refine (must_false _).mono ?_
      rintro e w9 ⟨he, rfl⟩
      rw [failE] at he
      subst he
      go_wp2_with (fail)
      exact ⟨rfl, OS10.out.trans (only_of_below b8 _), (fun x hx => by rw [HT2.out] at hx; cases hx), (fun _ => rfl)⟩
    | true =>
      have HT2 := Lib.hid (show RS = some (((fm0 27).setData a10 c10 d).f, L10) from HT1.out.trans (finR_may hm))
      clear hm
      rintro e w8 ⟨rfl, b8⟩
      have B8 := Lib.hid b8
      clear b8
      go_wp2_with (fail)
      refine (must_true _).mono ?_
      rintro e w9 ⟨rfl, rfl⟩
      have HF8 := Lib.hid (FB.below FS10.out B8.out)
      have HZ8 := Lib.hid (FB.below ZS10.out B8.out)
      go_wp2_with (with_reducible refine stop_ldf ?_)
      refine Stop.out ?_
      refine wpList_loadF rfl rfl ((fm0 27).setData a10 c10 d) rfl rfl HF8.out ?_
      go_wp2_with (with_reducible refine stop_stf ?_)
      refine Stop.out ?_
      refine wpList_storeF rfl rfl ((fm0 27).setData a10 c10 d) (fm0 0) rfl rfl rfl rfl HZ8.out ?_
      intro wy hby' oy
      go_wp2_with (fail)
      refine bodyPost_ret (results_cell_row rfl _ _ _ _ _ _ _ rfl hby' Try.underlying36 rfl (by rw [FM.size _ rfl]; exact fr_size)) rfl ?_
      refine ⟨(OS10.out.trans (only_of_below B8.out _)).trans' oy (fun z hz hs => by omega), ?_, (fun h => by rw [HT2.out] at h; cases h)⟩
      rw [HT2.out]
      intro x hx
      cases hx
      have hne8 : ∀ z : Nat, z ≤ rb → ¬ z = w.heap.size := fun z hz h => by omega
      have FR := FRS.out
      refine Lib.hid ⟨_, rfl, rfl, ⟨hok.out.fr, (hok.out.below B8.out).d.only oy (fun x hx _ h => by have := FR.1 x hx; omega), (hok.out.below B8.out).c.only oy (fun x hx _ h => by have := FR.2.1 x hx; omega), (hok.out.below B8.out).a.only oy (fun x hx _ h => by have := FR.2.2 x hx; omega)⟩, ⟨fun x hx => by have := FR.1 x hx; omega, fun x hx => by have := FR.2.1 x hx; omega, fun x hx => by have := FR.2.2 x hx; omega⟩, SM.out, (RS10.out.below B8.out).only oy hne8⟩

theorem readK_28 : readK 28 = rb tk fun c => rb tk fun m => rb szd fun d => rp { fr0 28 with code := c, max := m, data := d } := rfl
set_option maxHeartbeats 8000000 in
set_option maxRecDepth 100000 in
theorem rframe_28 (rb : Nat) (L L1 : List Int) (w : World) (h : RdB w rb L) (hl : L.length ≤ 1000000) (hk : tk L = some (28, L1)) (hsz : (L.length : Int) - L1.length = sizeF 28) :
    Calls Try.prog 25 #[.pointer (some ⟨rb, 0, none⟩)] w fun e w' => Only (· = rb) w w' ∧ (∀ x, readF L = some x → Hid (RF w' rb w.heap.size x.1 x.2 e)) ∧ (readF L = none → e = failE) := by
  have HR := Lib.hid h
  have hby := h.byte
  have lrb := h.lt
  obtain ⟨A, cap, m, rb1, rm, rs, rx⟩ := h
  have r0 := Blk.cell rb1 0 _ rfl
  have RM := Lib.hid rm
  have hmb : m ≤ 1000000 := by omega
  have HK := Lib.hid hk
  clear rb1 rm rs rx
  have hle1 := tk_le hk
  dsimp only at hle1
  have vk := tk_bnd hby hk
  dsimp only at vk
  have HL1 := Lib.hid (show L1.length ≤ 1000000 by omega)
  have HBY1 := Lib.hid (show ∀ x ∈ L1, Byte x from (tk_gives L _ L1 hk hby).1)
  have HSZ := Lib.hid hsz
  obtain ⟨RS, hRS⟩ : ∃ RS, readF L = RS := ⟨_, rfl⟩
  have HGO := Lib.hid (show RS = finR (readK 28 L1) by rw [← hRS]; exact readF_go hk hsz)
  rw [hRS]
  clear hRS hk hsz hle1
  go_enter Try.func25, Try.ntmps25
  go_wp2_with (fail)
  have kb0 := (Below.refl w.heap.size w).alloc (Nat.le_refl _) (.cells (fm0 0).vals 36)
  refine (rn_any rb L _ (HR.out.below kb0)).mono ?_
  rintro e w2 ⟨o2, hy2, hn2⟩
  obtain ⟨rfl, hr2⟩ := hy2 _ HK.out
  have HR2 : Hid (RdB w2 rb L1) := hr2
  have HZ2 := Lib.hid (show FB w2 w.heap.size (fm0 0) from o2.blk (fm0_at rfl) (fun h => by have h2 : w.heap.size = rb := h; omega))
  have OO2 := Lib.hid ((only_of_below kb0 (· = rb)).trans o2)
  have lz2 : w.heap.size < w2.heap.size := by have := o2.size; simp at this; omega
  obtain ⟨A2, cap2, m2, rb2, rm2, rs2, rx2⟩ := HR2.out
  have r2 := Blk.cell rb2 0 _ rfl
  have lrb2 : rb < w2.heap.size := by omega
  have hmb2 : m2 ≤ 1000000 := by have := HL1.out; omega
  have hsz2 : (m : Int) - m2 = sizeF 28 ∨ ¬ (m : Int) - m2 = sizeF 28 := Decidable.em _
  have hsm := size_le 28
  have hsm0 : 0 ≤ sizeF 28 := by omega
  have HSM := Lib.hid (show ((m : Int) - m2 = sizeF 28) ↔ ((L.length : Int) - L1.length = sizeF 28) by rw [RM.out, rm2])
  clear hy2 hn2 o2 kb0 rb2 rm2 rs2 rx2 hr2 hsz2
  obtain ⟨sz, hszv⟩ : ∃ s : Nat, sizeF 28 = s := ⟨_, rfl⟩
  have HSV := Lib.hid hszv
  clear hsm hsm0
  rw [hszv] at HSM
  have hq : ((m : Int) - m2 == (sz : Int)) = true := by simp only [beq_iff_eq]; rw [HSM.out, ← HSV.out]; exact HSZ.out
  clear hszv
  go_wp2_with (fail)
  refine rg_start 11 ?_
  refine rg_below fun KK hx hne hC hbel => ?_
  have k0 := fun z : Wd KK => (hx z _ 0 _ lrb2).trans r2
  clear hx
  refine rg_quiet 3 [0,1,2,3,4,5,6,7] hC ?_
  simp only [pickD, List.map_cons, List.map_nil, List.getD_cons_zero, List.getD_cons_succ]; repeat (go_big_quiet_step (fail))
  refine wpQuiet_nil ?_
  refine rg_act 8 ?_
  go_wp2_with (fail)
  refine (size_any 28 _ vk.1 (by omega)).mono ?_
  rintro e w3 ⟨rfl, rfl⟩
  rw [HSV.out]
  go_wp2_with (fail)
  refine ⟨hbel _ (Below.refl _ _), ?_⟩
  refine rg_quiet 1 [9] (hbel _ (Below.refl _ _)) ?_
  simp only [pickD, List.map_cons, List.map_nil, List.getD_cons_zero, List.getD_cons_succ]; repeat (go_big_quiet_step (fail))
  refine wpQuiet_nil ?_
  refine rg_cut 10 ?_
  go_wp2_with (fail)
  refine (must_true _).mono ?_
  rintro e w4 ⟨rfl, rfl⟩
  clear hbel hC hne k0
  go_wp2_with (fail)
  refine rg_end0 ?_
  go_wp2_with (with_reducible refine stop_stf ?_)
  refine Stop.out ?_
  refine wpList_storeF rfl rfl (fm0 28) (fm0 0) rfl rfl rfl rfl (fm0_at rfl) ?_
  intro w5 hb5 o5
  replace hb5 : FB w5 w2.heap.size (fm0 28) := hb5
  replace o5 : Only (· = w2.heap.size) (w2.drew.alloc (.cells (fm0 0).vals 36)) w5 := o5
  have bd : Below w2.heap.size w2 (w2.drew.alloc (.cells (fm0 0).vals 36)) := ((Below.refl _ w2).drew).alloc (Nat.le_refl _) _
  have b25 : Below w2.heap.size w2 w5 := below_onto bd o5 bd.size (by intro z hz h; omega)
  have HF5 := Lib.hid hb5
  have HZ5 := Lib.hid (FB.below HZ2.out b25)
  have HR5 := Lib.hid (HR2.out.below b25)
  have OO5 := Lib.hid (OO2.out.trans (only_of_below b25 (· = rb)))
  have hne : w2.heap.size ≠ rb := by omega
  have hnz : w.heap.size ≠ rb := by omega
  have lfb : w.heap.size < w2.heap.size := by omega
  have lrf : rb < w2.heap.size := by omega
  have HLF := Lib.hid (show w2.heap.size < w5.heap.size from Blk.lt hb5)
  clear r0 r2 lrb2 lz2 hq hb5 o5 bd b25
  generalize w2.heap.size = fb at *
  go_wp2_with (fail)
  have hby10 := HR5.out.byte
  refine (rn_any rb L1 _ HR5.out).mono ?_
  rintro e w10 ⟨o10, hy10, hn10⟩
  have HY10 := Lib.hid hy10
  have HN10 := Lib.hid hn10
  have O10 := Lib.hid o10
  clear hy10 hn10 o10
  cases h10 : tk L1 with
  | none =>
    have he := HN10.out h10
    rw [failE] at he
    subst he
    have HT := Lib.hid (show RS = none from HGO.out.trans (finR_none (by rw [readK_28]; exact rb_none h10)))
    clear h10
    go_wp2_with (fail)
    exact ⟨rfl, OO5.out.trans O10.out, (fun x hx => by rw [HT.out] at hx; cases hx), (fun _ => rfl)⟩
  | some x =>
    obtain ⟨v10, L10⟩ := x
    obtain ⟨rfl, hr10⟩ := HY10.out _ h10
    have HR10 : Hid (RdB w10 rb L10) := hr10
    have H10 := Lib.hid h10
    have vb10 := tk_bnd hby10 h10
    have ll10 := tk_le h10
    dsimp only at vb10 ll10
    have HL10 := Lib.hid (show L10.length ≤ 1000000 by have := HL1.out; omega)
    clear h10 hby10 HY10 HN10 hr10 ll10
    have FF10 := Lib.hid (FB.only HF5.out O10.out hne)
    have ZZ10 := Lib.hid (FB.only HZ5.out O10.out hnz)
    have OO10 := Lib.hid (OO5.out.trans O10.out)
    go_wp2_with (fail)
    have hby11 := HR10.out.byte
    refine (rn_any rb L10 _ HR10.out).mono ?_
    rintro e w11 ⟨o11, hy11, hn11⟩
    have HY11 := Lib.hid hy11
    have HN11 := Lib.hid hn11
    have O11 := Lib.hid o11
    clear hy11 hn11 o11
    cases h11 : tk L10 with
    | none =>
      have he := HN11.out h11
      rw [failE] at he
      subst he
      have HT := Lib.hid (show RS = none from HGO.out.trans (finR_none (by rw [readK_28]; rw [rb_go H10.out]; exact rb_none h11)))
      clear h11
      go_wp2_with (fail)
      exact ⟨rfl, OO10.out.trans O11.out, (fun x hx => by rw [HT.out] at hx; cases hx), (fun _ => rfl)⟩
    | some x =>
      obtain ⟨v11, L11⟩ := x
      obtain ⟨rfl, hr11⟩ := HY11.out _ h11
      have HR11 : Hid (RdB w11 rb L11) := hr11
      have H11 := Lib.hid h11
      have vb11 := tk_bnd hby11 h11
      have ll11 := tk_le h11
      dsimp only at vb11 ll11
      have HL11 := Lib.hid (show L11.length ≤ 1000000 by have := HL10.out; omega)
      clear h11 hby11 HY11 HN11 hr11 ll11
      have FF11 := Lib.hid (FB.only FF10.out O11.out hne)
      have ZZ11 := Lib.hid (FB.only ZZ10.out O11.out hnz)
      have OO11 := Lib.hid (OO10.out.trans O11.out)
      have cc11 := FB.fc FF11.out rfl
      have p114 := cc11.c4
      have g114 := cc11.free 4
      have p113 := cc11.c3
      have g113 := cc11.free 3
      clear cc11
      go_wp2_with (fail)
      have onl11 := Lib.hid (((Only.refl (· = fb) w11).set 4 (.int .u64 v10)).set 3 (.int .u64 v11))
      have FS11 := Lib.hid ((FF11.out.code v10).max v11)
      have RS11 := Lib.hid (HR11.out.only onl11.out (fun z hz => by omega))
      have ZS11 := Lib.hid (FB.only ZZ11.out onl11.out (by omega))
      have OS11 := Lib.hid (OO11.out.trans' onl11.out (fun z hz hs => by omega))
      refine (rszd_any rb L11 _ RS11.out HL11.out).mono ?_
      rintro e w12 ⟨o12, hy12, hn12⟩
      have HY12 := Lib.hid hy12
      have HN12 := Lib.hid hn12
      have O12 := Lib.hid o12
      clear hy12 hn12 o12
      cases h12 : szd L11 with
      | none =>
        have he := HN12.out h12
        rw [failE] at he
        subst he
        have HT := Lib.hid (show RS = none from HGO.out.trans (finR_none (by rw [readK_28]; rw [rb_go H10.out]; rw [rb_go H11.out]; exact rb_none h12)))
        clear h12
        go_wp2_with (fail)
        exact ⟨rfl, OS11.out.trans O12.out, (fun x hx => by rw [HT.out] at hx; cases hx), (fun _ => rfl)⟩
      | some x =>
        obtain ⟨d, L12⟩ := x
        obtain ⟨a12, c12, m12, rfl, M12, B12, hr12⟩ := HY12.out _ h12
        have HR12 : Hid (RdB w12 rb L12) := hr12
        replace M12 : Hid (m12 = d.length) := M12
        have HB12 : Hid (OwB w12 w11.heap.size a12 c12 d) := Lib.hid ⟨B12.out.1.base_le (by first | exact Nat.le_refl _ | simp), B12.out.2⟩
        have H12 := Lib.hid h12
        have HLV12 := Lib.hid (show d.length ≤ 1000000 ∧ L12.length ≤ 1000000 by have := HL11.out; have h5 := szd_le h12; dsimp only at h5; omega)
        clear h12 HY12 HN12 hr12 B12
        have FF12 := Lib.hid (FB.only FS11.out O12.out hne)
        have ZZ12 := Lib.hid (FB.only ZS11.out O12.out hnz)
        have OO12 := Lib.hid (OS11.out.trans O12.out)
        have SZL12 := Lib.hid (show fb < w11.heap.size from Blk.lt FF11.out)
        have FAR12 := Lib.hid (show ∀ x, a12 = some x → fb < x.block from fun x hx => by have h1 := HB12.out.far x hx; have h2 := HLF.out; have h3 := SZL12.out; omega)
        have cc12 := FB.fc FF12.out rfl
        have p127 := cc12.c7
        have g127 := cc12.free 7
        clear cc12
        go_wp2_with (with_reducible refine stop_ldf ?_)
        have onl12 := Lib.hid ((Only.refl (· = fb) w12).set 7 (.slice a12 m12 c12))
        have fs12 := FF12.out.data a12 c12 d
        rw [← M12.out] at fs12
        have FS12 := Lib.hid fs12
        have RS12 := Lib.hid (HR12.out.only onl12.out (fun z hz => by omega))
        have ZS12 := Lib.hid (FB.only ZZ12.out onl12.out (by omega))
        have OS12 := Lib.hid (OO12.out.trans' onl12.out (fun z hz hs => by omega))
        have DS := Lib.hid (show Sl .u8 (w12.setCell ⟨fb, 7, none⟩ (.slice a12 m12 c12)) a12 c12 d from HB12.out.sl.only onl12.out (fun x hx _ h => by have := FAR12.out x hx; omega))
        clear fs12
        have HF := Lib.hid (show readK 28 L1 = some (((((fm0 28).setCode v10).setMax v11).setData a12 c12 d).f, L12) by rw [readK_28]; rw [rb_go H10.out]; rw [rb_go H11.out]; rw [rb_go H12.out]; rfl)
        have FRS := Lib.hid (show ((((fm0 28).setCode v10).setMax v11).setData a12 c12 d).fresh fb from ⟨fun x hx => Nat.le_of_lt (FAR12.out x hx), (fun x hx => by cases hx), (fun x hx => by cases hx)⟩)
        have FOK := Lib.hid (show FrOk ((((fm0 28).setCode v10).setMax v11).setData a12 c12 d).f ∧ ((((fm0 28).setCode v10).setMax v11).setData a12 c12 d).f.data.length ≤ 1000000 ∧ ((((fm0 28).setCode v10).setMax v11).setData a12 c12 d).f.acks.length ≤ 1000001 by
          obtain ⟨_, n, hn, res⟩ := readK_gives 28 (by omega) L1 ((((fm0 28).setCode v10).setMax v11).setData a12 c12 d).f L12 HF.out HBY1.out
          have h1 := HL1.out
          have h2 := res.data
          have h3 := res.acks
          exact ⟨res.ok, by omega, by omega⟩)
        have SM := Lib.hid (show ((((fm0 28).setCode v10).setMax v11).setData a12 c12 d).sm from ⟨FOK.out.2.1, Nat.zero_le _, Nat.zero_le _⟩)
        have hok := Lib.hid (show ((((fm0 28).setCode v10).setMax v11).setData a12 c12 d).ok (w12.setCell ⟨fb, 7, none⟩ (.slice a12 m12 c12)) from ⟨FOK.out.1, DS.out, Sl.nil _ _, Rs.nil _⟩)
        have HT1 := Lib.hid (show RS = finR (some (((((fm0 28).setCode v10).setMax v11).setData a12 c12 d).f, L12)) from HGO.out.trans (congrArg finR HF.out))
        refine Stop.out ?_
        refine wpList_loadF rfl rfl ((((fm0 28).setCode v10).setMax v11).setData a12 c12 d) rfl rfl FS12.out ?_
        go_wp2_with (fail)
        refine (may_any ((((fm0 28).setCode v10).setMax v11).setData a12 c12 d) _ hok.out (by have := SM.out.d; omega) SM.out.c (by have := SM.out.a; omega)).mono ?_
        cases hm : mayF ((((fm0 28).setCode v10).setMax v11).setData a12 c12 d).f with
        | false =>
          have HT2 := Lib.hid (show RS = none from HT1.out.trans (finR_no hm))
          clear hm
          rintro e w8 ⟨rfl, b8⟩
          go_wp2_with (fail)
          refine (must_false _).mono ?_
          rintro e w9 ⟨he, rfl⟩
          rw [failE] at he
          subst he
          go_wp2_with (fail)
          exact ⟨rfl, OS12.out.trans (only_of_below b8 _), (fun x hx => by rw [HT2.out] at hx; cases hx), (fun _ => rfl)⟩
        | true =>
          have HT2 := Lib.hid (show RS = some (((((fm0 28).setCode v10).setMax v11).setData a12 c12 d).f, L12) from HT1.out.trans (finR_may hm))
          clear hm
          rintro e w8 ⟨rfl, b8⟩
          have B8 := Lib.hid b8
          clear b8
          go_wp2_with (fail)
          refine (must_true _).mono ?_
          rintro e w9 ⟨rfl, rfl⟩
          have HF8 := Lib.hid (FB.below FS12.out B8.out)
          have HZ8 := Lib.hid (FB.below ZS12.out B8.out)
          go_wp2_with (with_reducible refine stop_ldf ?_)
          refine Stop.out ?_
          refine wpList_loadF rfl rfl ((((fm0 28).setCode v10).setMax v11).setData a12 c12 d) rfl rfl HF8.out ?_
          go_wp2_with (with_reducible refine stop_stf ?_)
          refine Stop.out ?_
          refine wpList_storeF rfl rfl ((((fm0 28).setCode v10).setMax v11).setData a12 c12 d) (fm0 0) rfl rfl rfl rfl HZ8.out ?_
          intro wy hby' oy
          go_wp2_with (fail)
          refine bodyPost_ret (results_cell_row rfl _ _ _ _ _ _ _ rfl hby' Try.underlying36 rfl (by rw [FM.size _ rfl]; exact fr_size)) rfl ?_
          refine ⟨(OS12.out.trans (only_of_below B8.out _)).trans' oy (fun z hz hs => by omega), ?_, (fun h => by rw [HT2.out] at h; cases h)⟩
          rw [HT2.out]
          intro x hx
          cases hx
          have hne8 : ∀ z : Nat, z ≤ rb → ¬ z = w.heap.size := fun z hz h => by omega
          have FR := FRS.out
          refine Lib.hid ⟨_, rfl, rfl, ⟨hok.out.fr, (hok.out.below B8.out).d.only oy (fun x hx _ h => by have := FR.1 x hx; omega), (hok.out.below B8.out).c.only oy (fun x hx _ h => by have := FR.2.1 x hx; omega), (hok.out.below B8.out).a.only oy (fun x hx _ h => by have := FR.2.2 x hx; omega)⟩, ⟨fun x hx => by have := FR.1 x hx; omega, fun x hx => by have := FR.2.1 x hx; omega, fun x hx => by have := FR.2.2 x hx; omega⟩, SM.out, (RS12.out.below B8.out).only oy hne8⟩

theorem readK_29 : readK 29 = rb tk fun c => rb szd fun d => rp { fr0 29 with code := c, data := d } := rfl
set_option maxHeartbeats 8000000 in
set_option maxRecDepth 100000 in
theorem rframe_29 (rb : Nat) (L L1 : List Int) (w : World) (h : RdB w rb L) (hl : L.length ≤ 1000000) (hk : tk L = some (29, L1)) (hsz : (L.length : Int) - L1.length = sizeF 29) :
    Calls Try.prog 25 #[.pointer (some ⟨rb, 0, none⟩)] w fun e w' => Only (· = rb) w w' ∧ (∀ x, readF L = some x → Hid (RF w' rb w.heap.size x.1 x.2 e)) ∧ (readF L = none → e = failE) := by
  have HR := Lib.hid h
  have hby := h.byte
  have lrb := h.lt
  obtain ⟨A, cap, m, rb1, rm, rs, rx⟩ := h
  have r0 := Blk.cell rb1 0 _ rfl
  have RM := Lib.hid rm
  have hmb : m ≤ 1000000 := by omega
  have HK := Lib.hid hk
  clear rb1 rm rs rx
  have hle1 := tk_le hk
  dsimp only at hle1
  have vk := tk_bnd hby hk
  dsimp only at vk
  have HL1 := Lib.hid (show L1.length ≤ 1000000 by omega)
  have HBY1 := Lib.hid (show ∀ x ∈ L1, Byte x from (tk_gives L _ L1 hk hby).1)
  have HSZ := Lib.hid hsz
  obtain ⟨RS, hRS⟩ : ∃ RS, readF L = RS := ⟨_, rfl⟩
  have HGO := Lib.hid (show RS = finR (readK 29 L1) by rw [← hRS]; exact readF_go hk hsz)
  rw [hRS]
  clear hRS hk hsz hle1
  go_enter Try.func25, Try.ntmps25
  go_wp2_with (fail)
  have kb0 := (Below.refl w.heap.size w).alloc (Nat.le_refl _) (.cells (fm0 0).vals 36)
  refine (rn_any rb L _ (HR.out.below kb0)).mono ?_
  rintro e w2 ⟨o2, hy2, hn2⟩
  obtain ⟨rfl, hr2⟩ := hy2 _ HK.out
  have HR2 : Hid (RdB w2 rb L1) := hr2
  have HZ2 := Lib.hid (show FB w2 w.heap.size (fm0 0) from o2.blk (fm0_at rfl) (fun h => by have h2 : w.heap.size = rb := h; omega))
  have OO2 := Lib.hid ((only_of_below kb0 (· = rb)).trans o2)
  have lz2 : w.heap.size < w2.heap.size := by have := o2.size; simp at this; omega
  obtain ⟨A2, cap2, m2, rb2, rm2, rs2, rx2⟩ := HR2.out
  have r2 := Blk.cell rb2 0 _ rfl
  have lrb2 : rb < w2.heap.size := by omega
  have hmb2 : m2 ≤ 1000000 := by have := HL1.out; omega
  have hsz2 : (m : Int) - m2 = sizeF 29 ∨ ¬ (m : Int) - m2 = sizeF 29 := Decidable.em _
  have hsm := size_le 29
  have hsm0 : 0 ≤ sizeF 29 := by omega
  have HSM := Lib.hid (show ((m : Int) - m2 = sizeF 29) ↔ ((L.length : Int) - L1.length = sizeF 29) by rw [RM.out, rm2])
  clear hy2 hn2 o2 kb0 rb2 rm2 rs2 rx2 hr2 hsz2
  obtain ⟨sz, hszv⟩ : ∃ s : Nat, sizeF 29 = s := ⟨_, rfl⟩
  have HSV := Lib.hid hszv
  clear hsm hsm0
  rw [hszv] at HSM
  have hq : ((m : Int) - m2 == (sz : Int)) = true := by simp only [beq_iff_eq]; rw [HSM.out, ← HSV.out]; exact HSZ.out
  clear hszv
  go_wp2_with (fail)
  refine rg_start 11 ?_
  refine rg_below fun KK hx hne hC hbel => ?_
  have k0 := fun z : Wd KK => (hx z _ 0 _ lrb2).trans r2
  clear hx
  refine rg_quiet 3 [0,1,2,3,4,5,6,7] hC ?_
  simp only [pickD, List.map_cons, List.map_nil, List.getD_cons_zero, List.getD_cons_succ]; repeat (go_big_quiet_step (fail))
  refine wpQuiet_nil ?_
  refine rg_act 8 ?_
  go_wp2_with (fail)
  refine (size_any 29 _ vk.1 (by omega)).mono ?_
  rintro e w3 ⟨rfl, rfl⟩
  rw [HSV.out]
  go_wp2_with (fail)
  refine ⟨hbel _ (Below.refl _ _), ?_⟩
  refine rg_quiet 1 [9] (hbel _ (Below.refl _ _)) ?_
  simp only [pickD, List.map_cons, List.map_nil, List.getD_cons_zero, List.getD_cons_succ]; repeat (go_big_quiet_step (fail))
  refine wpQuiet_nil ?_
  refine rg_cut 10 ?_
  go_wp2_with (fail)
  refine (must_true _).mono ?_
  rintro e w4 ⟨rfl, rfl⟩
  clear hbel hC hne k0
  go_wp2_with (fail)
  refine rg_end0 ?_
  go_wp2_with (with_reducible refine stop_stf ?_)
  refine Stop.out ?_
  refine wpList_storeF rfl rfl (fm0 29) (fm0 0) rfl rfl rfl rfl (fm0_at rfl) ?_
  intro w5 hb5 o5
  replace hb5 : FB w5 w2.heap.size (fm0 29) := hb5
  replace o5 : Only (· = w2.heap.size) (w2.drew.alloc (.cells (fm0 0).vals 36)) w5 := o5
  have bd : Below w2.heap.size w2 (w2.drew.alloc (.cells (fm0 0).vals 36)) := ((Below.refl _ w2).drew).alloc (Nat.le_refl _) _
  have b25 : Below w2.heap.size w2 w5 := below_onto bd o5 bd.size (by intro z hz h; omega)
  have HF5 := Lib.hid hb5
  have HZ5 := Lib.hid (FB.below HZ2.out b25)
  have HR5 := Lib.hid (HR2.out.below b25)
  have OO5 := Lib.hid (OO2.out.trans (only_of_below b25 (· = rb)))
  have hne : w2.heap.size ≠ rb := by omega
  have hnz : w.heap.size ≠ rb := by omega
  have lfb : w.heap.size < w2.heap.size := by omega
  have lrf : rb < w2.heap.size := by omega
  have HLF := Lib.hid (show w2.heap.size < w5.heap.size from Blk.lt hb5)
  clear r0 r2 lrb2 lz2 hq hb5 o5 bd b25
  generalize w2.heap.size = fb at *
  go_wp2_with (fail)
  have hby10 := HR5.out.byte
  refine (rn_any rb L1 _ HR5.out).mono ?_
  rintro e w10 ⟨o10, hy10, hn10⟩
  have HY10 := Lib.hid hy10
  have HN10 := Lib.hid hn10
  have O10 := Lib.hid o10
  clear hy10 hn10 o10
  cases h10 : tk L1 with
  | none =>
    have he := HN10.out h10
    rw [failE] at he
    subst he
    have HT := Lib.hid (show RS = none from HGO.out.trans (finR_none (by rw [readK_29]; exact rb_none h10)))
    clear h10
    go_wp2_with (fail)
    exact ⟨rfl, OO5.out.trans O10.out, (fun x hx => by rw [HT.out] at hx; cases hx), (fun _ => rfl)⟩
  | some x =>
    obtain ⟨v10, L10⟩ := x
    obtain ⟨rfl, hr10⟩ := HY10.out _ h10
    have HR10 : Hid (RdB w10 rb L10) := hr10
    have H10 := Lib.hid h10
    have vb10 := tk_bnd hby10 h10
    have ll10 := tk_le h10
    dsimp only at vb10 ll10
    have HL10 := Lib.hid (show L10.length ≤ 1000000 by have := HL1.out; omega)
    clear h10 hby10 HY10 HN10 hr10 ll10
    have FF10 := Lib.hid (FB.only HF5.out O10.out hne)
    have ZZ10 := Lib.hid (FB.only HZ5.out O10.out hnz)
    have OO10 := Lib.hid (OO5.out.trans O10.out)
    have cc10 := FB.fc FF10.out rfl
    have p104 := cc10.c4
    have g104 := cc10.free 4
    clear cc10
    go_wp2_with (fail)
    have onl10 := Lib.hid ((Only.refl (· = fb) w10).set 4 (.int .u64 v10))
    have FS10 := Lib.hid (FF10.out.code v10)
    have RS10 := Lib.hid (HR10.out.only onl10.out (fun z hz => by omega))
    have ZS10 := Lib.hid (FB.only ZZ10.out onl10.out (by omega))
    have OS10 := Lib.hid (OO10.out.trans' onl10.out (fun z hz hs => by omega))
    refine (rszd_any rb L10 _ RS10.out HL10.out).mono ?_
    rintro e w11 ⟨o11, hy11, hn11⟩
    have HY11 := Lib.hid hy11
    have HN11 := Lib.hid hn11
    have O11 := Lib.hid o11
    clear hy11 hn11 o11
    cases h11 : szd L10 with
    | none =>
      have he := HN11.out h11
      rw [failE] at he
      subst he
      have HT := Lib.hid (show RS = none from HGO.out.trans (finR_none (by rw [readK_29]; rw [rb_go H10.out]; exact rb_none h11)))
      clear h11
      go_wp2_with (fail)
      exact ⟨rfl, OS10.out.trans O11.out, (fun x hx => by rw [HT.out] at hx; cases hx), (fun _ => rfl)⟩
    | some x =>
      obtain ⟨d, L11⟩ := x
      obtain ⟨a11, c11, m11, rfl, M11, B11, hr11⟩ := HY11.out _ h11
      have HR11 : Hid (RdB w11 rb L11) := hr11
      replace M11 : Hid (m11 = d.length) := M11
      have HB11 : Hid (OwB w11 w10.heap.size a11 c11 d) := Lib.hid ⟨B11.out.1.base_le (by first | exact Nat.le_refl _ | simp), B11.out.2⟩
      have H11 := Lib.hid h11
      have HLV11 := Lib.hid (show d.length ≤ 1000000 ∧ L11.length ≤ 1000000 by have := HL10.out; have h5 := szd_le h11; dsimp only at h5; omega)
      clear h11 HY11 HN11 hr11 B11
      have FF11 := Lib.hid (FB.only FS10.out O11.out hne)
      have ZZ11 := Lib.hid (FB.only ZS10.out O11.out hnz)
      have OO11 := Lib.hid (OS10.out.trans O11.out)
      have SZL11 := Lib.hid (show fb < w10.heap.size from Blk.lt FF10.out)
      have FAR11 := Lib.hid (show ∀ x, a11 = some x → fb < x.block from fun x hx => by have h1 := HB11.out.far x hx; have h2 := HLF.out; have h3 := SZL11.out; omega)
      have cc11 := FB.fc FF11.out rfl
      have p117 := cc11.c7
      have g117 := cc11.free 7
      clear cc11
      go_wp2_with (with_reducible refine stop_ldf ?_)
      have onl11 := Lib.hid ((Only.refl (· = fb) w11).set 7 (.slice a11 m11 c11))
      have fs11 := FF11.out.data a11 c11 d
      rw [← M11.out] at fs11
      have FS11 := Lib.hid fs11
      have RS11 := Lib.hid (HR11.out.only onl11.out (fun z hz => by omega))
      have ZS11 := Lib.hid (FB.only ZZ11.out onl11.out (by omega))
      have OS11 := Lib.hid (OO11.out.trans' onl11.out (fun z hz hs => by omega))
      have DS := Lib.hid (show Sl .u8 (w11.setCell ⟨fb, 7, none⟩ (.slice a11 m11 c11)) a11 c11 d from HB11.out.sl.only onl11.out (fun x hx _ h => by have := FAR11.out x hx; omega))
      clear fs11
      have HF := Lib.hid (show readK 29 L1 = some ((((fm0 29).setCode v10).setData a11 c11 d).f, L11) by rw [readK_29]; rw [rb_go H10.out]; rw [rb_go H11.out]; rfl)
      have FRS := Lib.hid (show (((fm0 29).setCode v10).setData a11 c11 d).fresh fb from ⟨fun x hx => Nat.le_of_lt (FAR11.out x hx), (fun x hx => by cases hx), (fun x hx => by cases hx)⟩)
      have FOK := Lib.hid (show FrOk (((fm0 29).setCode v10).setData a11 c11 d).f ∧ (((fm0 29).setCode v10).setData a11 c11 d).f.data.length ≤ 1000000 ∧ (((fm0 29).setCode v10).setData a11 c11 d).f.acks.length ≤ 1000001 by
        obtain ⟨_, n, hn, res⟩ := readK_gives 29 (by omega) L1 (((fm0 29).setCode v10).setData a11 c11 d).f L11 HF.out HBY1.out
        have h1 := HL1.out
        have h2 := res.data
        have h3 := res.acks
        exact ⟨res.ok, by omega, by omega⟩)
      have SM := Lib.hid (show (((fm0 29).setCode v10).setData a11 c11 d).sm from ⟨FOK.out.2.1, Nat.zero_le _, Nat.zero_le _⟩)
      have hok := Lib.hid (show (((fm0 29).setCode v10).setData a11 c11 d).ok (w11.setCell ⟨fb, 7, none⟩ (.slice a11 m11 c11)) from ⟨FOK.out.1, DS.out, Sl.nil _ _, Rs.nil _⟩)
      have HT1 := Lib.hid (show RS = finR (some ((((fm0 29).setCode v10).setData a11 c11 d).f, L11)) from HGO.out.trans (congrArg finR HF.out))
      refine Stop.out ?_
      refine wpList_loadF rfl rfl (((fm0 29).setCode v10).setData a11 c11 d) rfl rfl FS11.out ?_
      go_wp2_with (fail)
      refine (may_any (((fm0 29).setCode v10).setData a11 c11 d) _ hok.out (by have := SM.out.d; omega) SM.out.c (by have := SM.out.a; omega)).mono ?_
      cases hm : mayF (((fm0 29).setCode v10).setData a11 c11 d).f with
      | false =>
        have HT2 := Lib.hid (show RS = none from HT1.out.trans (finR_no hm))
        clear hm
        rintro e w8 ⟨rfl, b8⟩
        go_wp2_with (fail)
        refine (must_false _).mono ?_
        rintro e w9 ⟨he, rfl⟩
        rw [failE] at he
        subst he
        go_wp2_with (fail)
        exact ⟨rfl, OS11.out.trans (only_of_below b8 _), (fun x hx => by rw [HT2.out] at hx; cases hx), (fun _ => rfl)⟩
      | true =>
        have HT2 := Lib.hid (show RS = some ((((fm0 29).setCode v10).setData a11 c11 d).f, L11) from HT1.out.trans (finR_may hm))
        clear hm
        rintro e w8 ⟨rfl, b8⟩
        have B8 := Lib.hid b8
        clear b8
        go_wp2_with (fail)
        refine (must_true _).mono ?_
        rintro e w9 ⟨rfl, rfl⟩
        have HF8 := Lib.hid (FB.below FS11.out B8.out)
        have HZ8 := Lib.hid (FB.below ZS11.out B8.out)
        go_wp2_with (with_reducible refine stop_ldf ?_)
        refine Stop.out ?_
        refine wpList_loadF rfl rfl (((fm0 29).setCode v10).setData a11 c11 d) rfl rfl HF8.out ?_
        go_wp2_with (with_reducible refine stop_stf ?_)
        refine Stop.out ?_
        refine wpList_storeF rfl rfl (((fm0 29).setCode v10).setData a11 c11 d) (fm0 0) rfl rfl rfl rfl HZ8.out ?_
        intro wy hby' oy
        go_wp2_with (fail)
        refine bodyPost_ret (results_cell_row rfl _ _ _ _ _ _ _ rfl hby' Try.underlying36 rfl (by rw [FM.size _ rfl]; exact fr_size)) rfl ?_
        refine ⟨(OS11.out.trans (only_of_below B8.out _)).trans' oy (fun z hz hs => by omega), ?_, (fun h => by rw [HT2.out] at h; cases h)⟩
        rw [HT2.out]
        intro x hx
        cases hx
        have hne8 : ∀ z : Nat, z ≤ rb → ¬ z = w.heap.size := fun z hz h => by omega
        have FR := FRS.out
        refine Lib.hid ⟨_, rfl, rfl, ⟨hok.out.fr, (hok.out.below B8.out).d.only oy (fun x hx _ h => by have := FR.1 x hx; omega), (hok.out.below B8.out).c.only oy (fun x hx _ h => by have := FR.2.1 x hx; omega), (hok.out.below B8.out).a.only oy (fun x hx _ h => by have := FR.2.2 x hx; omega)⟩, ⟨fun x hx => by have := FR.1 x hx; omega, fun x hx => by have := FR.2.1 x hx; omega, fun x hx => by have := FR.2.2 x hx; omega⟩, SM.out, (RS11.out.below B8.out).only oy hne8⟩

theorem readK_1 : readK 1 = rp (fr0 1) := rfl
set_option maxHeartbeats 8000000 in
set_option maxRecDepth 100000 in
theorem rframe_1 (rb : Nat) (L L1 : List Int) (w : World) (h : RdB w rb L) (hl : L.length ≤ 1000000) (hk : tk L = some (1, L1)) (hsz : (L.length : Int) - L1.length = sizeF 1) :
    Calls Try.prog 25 #[.pointer (some ⟨rb, 0, none⟩)] w fun e w' => Only (· = rb) w w' ∧ (∀ x, readF L = some x → Hid (RF w' rb w.heap.size x.1 x.2 e)) ∧ (readF L = none → e = failE) := by
  have HR := Lib.hid h
  have hby := h.byte
  have lrb := h.lt
  obtain ⟨A, cap, m, rb1, rm, rs, rx⟩ := h
  have r0 := Blk.cell rb1 0 _ rfl
  have RM := Lib.hid rm
  have hmb : m ≤ 1000000 := by omega
  have HK := Lib.hid hk
  clear rb1 rm rs rx
  have hle1 := tk_le hk
  dsimp only at hle1
  have vk := tk_bnd hby hk
  dsimp only at vk
  have HL1 := Lib.hid (show L1.length ≤ 1000000 by omega)
  have HBY1 := Lib.hid (show ∀ x ∈ L1, Byte x from (tk_gives L _ L1 hk hby).1)
  have HSZ := Lib.hid hsz
  obtain ⟨RS, hRS⟩ : ∃ RS, readF L = RS := ⟨_, rfl⟩
  have HGO := Lib.hid (show RS = finR (readK 1 L1) by rw [← hRS]; exact readF_go hk hsz)
  rw [hRS]
  clear hRS hk hsz hle1
  go_enter Try.func25, Try.ntmps25
  go_wp2_with (fail)
  have kb0 := (Below.refl w.heap.size w).alloc (Nat.le_refl _) (.cells (fm0 0).vals 36)
  refine (rn_any rb L _ (HR.out.below kb0)).mono ?_
  rintro e w2 ⟨o2, hy2, hn2⟩
  obtain ⟨rfl, hr2⟩ := hy2 _ HK.out
  have HR2 : Hid (RdB w2 rb L1) := hr2
  have HZ2 := Lib.hid (show FB w2 w.heap.size (fm0 0) from o2.blk (fm0_at rfl) (fun h => by have h2 : w.heap.size = rb := h; omega))
  have OO2 := Lib.hid ((only_of_below kb0 (· = rb)).trans o2)
  have lz2 : w.heap.size < w2.heap.size := by have := o2.size; simp at this; omega
  obtain ⟨A2, cap2, m2, rb2, rm2, rs2, rx2⟩ := HR2.out
  have r2 := Blk.cell rb2 0 _ rfl
  have lrb2 : rb < w2.heap.size := by omega
  have hmb2 : m2 ≤ 1000000 := by have := HL1.out; omega
  have hsz2 : (m : Int) - m2 = sizeF 1 ∨ ¬ (m : Int) - m2 = sizeF 1 := Decidable.em _
  have hsm := size_le 1
  have hsm0 : 0 ≤ sizeF 1 := by omega
  have HSM := Lib.hid (show ((m : Int) - m2 = sizeF 1) ↔ ((L.length : Int) - L1.length = sizeF 1) by rw [RM.out, rm2])
  clear hy2 hn2 o2 kb0 rb2 rm2 rs2 rx2 hr2 hsz2
  obtain ⟨sz, hszv⟩ : ∃ s : Nat, sizeF 1 = s := ⟨_, rfl⟩
  have HSV := Lib.hid hszv
  clear hsm hsm0
  rw [hszv] at HSM
  have hq : ((m : Int) - m2 == (sz : Int)) = true := by simp only [beq_iff_eq]; rw [HSM.out, ← HSV.out]; exact HSZ.out
  clear hszv
  go_wp2_with (fail)
  refine rg_start 11 ?_
  refine rg_below fun KK hx hne hC hbel => ?_
  have k0 := fun z : Wd KK => (hx z _ 0 _ lrb2).trans r2
  clear hx
  refine rg_quiet 3 [0,1,2,3,4,5,6,7] hC ?_
  simp only [pickD, List.map_cons, List.map_nil, List.getD_cons_zero, List.getD_cons_succ]; repeat (go_big_quiet_step (fail))
  refine wpQuiet_nil ?_
  refine rg_act 8 ?_
  go_wp2_with (fail)
  refine (size_any 1 _ vk.1 (by omega)).mono ?_
  rintro e w3 ⟨rfl, rfl⟩
  rw [HSV.out]
  go_wp2_with (fail)
  refine ⟨hbel _ (Below.refl _ _), ?_⟩
  refine rg_quiet 1 [9] (hbel _ (Below.refl _ _)) ?_
  simp only [pickD, List.map_cons, List.map_nil, List.getD_cons_zero, List.getD_cons_succ]; repeat (go_big_quiet_step (fail))
  refine wpQuiet_nil ?_
  refine rg_cut 10 ?_
  go_wp2_with (fail)
  refine (must_true _).mono ?_
  rintro e w4 ⟨rfl, rfl⟩
  clear hbel hC hne k0
  go_wp2_with (fail)
  refine rg_end0 ?_
  go_wp2_with (with_reducible refine stop_stf ?_)
  refine Stop.out ?_
  refine wpList_storeF rfl rfl (fm0 1) (fm0 0) rfl rfl rfl rfl (fm0_at rfl) ?_
  intro w5 hb5 o5
  replace hb5 : FB w5 w2.heap.size (fm0 1) := hb5
  replace o5 : Only (· = w2.heap.size) (w2.drew.alloc (.cells (fm0 0).vals 36)) w5 := o5
  have bd : Below w2.heap.size w2 (w2.drew.alloc (.cells (fm0 0).vals 36)) := ((Below.refl _ w2).drew).alloc (Nat.le_refl _) _
  have b25 : Below w2.heap.size w2 w5 := below_onto bd o5 bd.size (by intro z hz h; omega)
  have HF5 := Lib.hid hb5
  have HZ5 := Lib.hid (FB.below HZ2.out b25)
  have HR5 := Lib.hid (HR2.out.below b25)
  have OO5 := Lib.hid (OO2.out.trans (only_of_below b25 (· = rb)))
  have hne : w2.heap.size ≠ rb := by omega
  have hnz : w.heap.size ≠ rb := by omega
  have lfb : w.heap.size < w2.heap.size := by omega
  have lrf : rb < w2.heap.size := by omega
  have HLF := Lib.hid (show w2.heap.size < w5.heap.size from Blk.lt hb5)
  clear r0 r2 lrb2 lz2 hq hb5 o5 bd b25
  generalize w2.heap.size = fb at *
  have HF := Lib.hid (show readK 1 L1 = some ((fm0 1).f, L1) by rw [readK_1]; rfl)
  have FRS := Lib.hid (show (fm0 1).fresh fb from ⟨(fun x hx => by cases hx), (fun x hx => by cases hx), (fun x hx => by cases hx)⟩)
  have FOK := Lib.hid (show FrOk (fm0 1).f ∧ (fm0 1).f.data.length ≤ 1000000 ∧ (fm0 1).f.acks.length ≤ 1000001 by
    obtain ⟨_, n, hn, res⟩ := readK_gives 1 (by omega) L1 (fm0 1).f L1 HF.out HBY1.out
    have h1 := HL1.out
    have h2 := res.data
    have h3 := res.acks
    exact ⟨res.ok, by omega, by omega⟩)
  have SM := Lib.hid (show (fm0 1).sm from ⟨FOK.out.2.1, Nat.zero_le _, Nat.zero_le _⟩)
  have hok := Lib.hid (show (fm0 1).ok w5 from ⟨FOK.out.1, Sl.nil _ _, Sl.nil _ _, Rs.nil _⟩)
  have HT1 := Lib.hid (show RS = finR (some ((fm0 1).f, L1)) from HGO.out.trans (congrArg finR HF.out))
  go_wp2_with (with_reducible refine stop_ldf ?_)
  refine Stop.out ?_
  refine wpList_loadF rfl rfl (fm0 1) rfl rfl HF5.out ?_
  go_wp2_with (fail)
  refine (may_any (fm0 1) _ hok.out (by have := SM.out.d; omega) SM.out.c (by have := SM.out.a; omega)).mono ?_
  cases hm : mayF (fm0 1).f with
  | false =>
    have HT2 := Lib.hid (show RS = none from HT1.out.trans (finR_no hm))
    clear hm
    rintro e w8 ⟨rfl, b8⟩
    go_wp2_with (fail)
    refine (must_false _).mono ?_
    rintro e w9 ⟨he, rfl⟩
    rw [failE] at he
    subst he
    go_wp2_with (fail)
    exact ⟨rfl, OO5.out.trans (only_of_below b8 _), (fun x hx => by rw [HT2.out] at hx; cases hx), (fun _ => rfl)⟩
  | true =>
    have HT2 := Lib.hid (show RS = some ((fm0 1).f, L1) from HT1.out.trans (finR_may hm))
    clear hm
    rintro e w8 ⟨rfl, b8⟩
    have B8 := Lib.hid b8
    clear b8
    go_wp2_with (fail)
    refine (must_true _).mono ?_
    rintro e w9 ⟨rfl, rfl⟩
    have HF8 := Lib.hid (FB.below HF5.out B8.out)
    have HZ8 := Lib.hid (FB.below HZ5.out B8.out)
    go_wp2_with (with_reducible refine stop_ldf ?_)
    refine Stop.out ?_
    refine wpList_loadF rfl rfl (fm0 1) rfl rfl HF8.out ?_
    go_wp2_with (with_reducible refine stop_stf ?_)
    refine Stop.out ?_
    refine wpList_storeF rfl rfl (fm0 1) (fm0 0) rfl rfl rfl rfl HZ8.out ?_
    intro wy hby' oy
    go_wp2_with (fail)
    refine bodyPost_ret (results_cell_row rfl _ _ _ _ _ _ _ rfl hby' Try.underlying36 rfl (by rw [FM.size _ rfl]; exact fr_size)) rfl ?_
    refine ⟨(OO5.out.trans (only_of_below B8.out _)).trans' oy (fun z hz hs => by omega), ?_, (fun h => by rw [HT2.out] at h; cases h)⟩
    rw [HT2.out]
    intro x hx
    cases hx
    have hne8 : ∀ z : Nat, z ≤ rb → ¬ z = w.heap.size := fun z hz h => by omega
    have FR := FRS.out
    refine Lib.hid ⟨_, rfl, rfl, ⟨hok.out.fr, (hok.out.below B8.out).d.only oy (fun x hx _ h => by have := FR.1 x hx; omega), (hok.out.below B8.out).c.only oy (fun x hx _ h => by have := FR.2.1 x hx; omega), (hok.out.below B8.out).a.only oy (fun x hx _ h => by have := FR.2.2 x hx; omega)⟩, ⟨fun x hx => by have := FR.1 x hx; omega, fun x hx => by have := FR.2.1 x hx; omega, fun x hx => by have := FR.2.2 x hx; omega⟩, SM.out, (HR5.out.below B8.out).only oy hne8⟩

theorem readK_30 : readK 30 = rp (fr0 30) := rfl
set_option maxHeartbeats 8000000 in
set_option maxRecDepth 100000 in
theorem rframe_30 (rb : Nat) (L L1 : List Int) (w : World) (h : RdB w rb L) (hl : L.length ≤ 1000000) (hk : tk L = some (30, L1)) (hsz : (L.length : Int) - L1.length = sizeF 30) :
    Calls Try.prog 25 #[.pointer (some ⟨rb, 0, none⟩)] w fun e w' => Only (· = rb) w w' ∧ (∀ x, readF L = some x → Hid (RF w' rb w.heap.size x.1 x.2 e)) ∧ (readF L = none → e = failE) := by
  have HR := Lib.hid h
  have hby := h.byte
  have lrb := h.lt
  obtain ⟨A, cap, m, rb1, rm, rs, rx⟩ := h
  have r0 := Blk.cell rb1 0 _ rfl
  have RM := Lib.hid rm
  have hmb : m ≤ 1000000 := by omega
  have HK := Lib.hid hk
  clear rb1 rm rs rx
  have hle1 := tk_le hk
  dsimp only at hle1
  have vk := tk_bnd hby hk
  dsimp only at vk
  have HL1 := Lib.hid (show L1.length ≤ 1000000 by omega)
  have HBY1 := Lib.hid (show ∀ x ∈ L1, Byte x from (tk_gives L _ L1 hk hby).1)
  have HSZ := Lib.hid hsz
  obtain ⟨RS, hRS⟩ : ∃ RS, readF L = RS := ⟨_, rfl⟩
  have HGO := Lib.hid (show RS = finR (readK 30 L1) by rw [← hRS]; exact readF_go hk hsz)
  rw [hRS]
  clear hRS hk hsz hle1
  go_enter Try.func25, Try.ntmps25
  go_wp2_with (fail)
  have kb0 := (Below.refl w.heap.size w).alloc (Nat.le_refl _) (.cells (fm0 0).vals 36)
  refine (rn_any rb L _ (HR.out.below kb0)).mono ?_
  rintro e w2 ⟨o2, hy2, hn2⟩
  obtain ⟨rfl, hr2⟩ := hy2 _ HK.out
  have HR2 : Hid (RdB w2 rb L1) := hr2
  have HZ2 := Lib.hid (show FB w2 w.heap.size (fm0 0) from o2.blk (fm0_at rfl) (fun h => by have h2 : w.heap.size = rb := h; omega))
  have OO2 := Lib.hid ((only_of_below kb0 (· = rb)).trans o2)
  have lz2 : w.heap.size < w2.heap.size := by have := o2.size; simp at this; omega
  obtain ⟨A2, cap2, m2, rb2, rm2, rs2, rx2⟩ := HR2.out
  have r2 := Blk.cell rb2 0 _ rfl
  have lrb2 : rb < w2.heap.size := by omega
  have hmb2 : m2 ≤ 1000000 := by have := HL1.out; omega
  have hsz2 : (m : Int) - m2 = sizeF 30 ∨ ¬ (m : Int) - m2 = sizeF 30 := Decidable.em _
  have hsm := size_le 30
  have hsm0 : 0 ≤ sizeF 30 := by omega
  have HSM := Lib.hid (show ((m : Int) - m2 = sizeF 30) ↔ ((L.length : Int) - L1.length = sizeF 30) by rw [RM.out, rm2])
  clear hy2 hn2 o2 kb0 rb2 rm2 rs2 rx2 hr2 hsz2
  obtain ⟨sz, hszv⟩ : ∃ s : Nat, sizeF 30 = s := ⟨_, rfl⟩
  have HSV := Lib.hid hszv
  clear hsm hsm0
  rw [hszv] at HSM
  have hq : ((m : Int) - m2 == (sz : Int)) = true := by simp only [beq_iff_eq]; rw [HSM.out, ← HSV.out]; exact HSZ.out
  clear hszv
  go_wp2_with (fail)
  refine rg_start 11 ?_
  refine rg_below fun KK hx hne hC hbel => ?_
  have k0 := fun z : Wd KK => (hx z _ 0 _ lrb2).trans r2
  clear hx
  refine rg_quiet 3 [0,1,2,3,4,5,6,7] hC ?_
  simp only [pickD, List.map_cons, List.map_nil, List.getD_cons_zero, List.getD_cons_succ]; repeat (go_big_quiet_step (fail))
  refine wpQuiet_nil ?_
  refine rg_act 8 ?_
  go_wp2_with (fail)
  refine (size_any 30 _ vk.1 (by omega)).mono ?_
  rintro e w3 ⟨rfl, rfl⟩
  rw [HSV.out]
  go_wp2_with (fail)
  refine ⟨hbel _ (Below.refl _ _), ?_⟩
  refine rg_quiet 1 [9] (hbel _ (Below.refl _ _)) ?_
  simp only [pickD, List.map_cons, List.map_nil, List.getD_cons_zero, List.getD_cons_succ]; repeat (go_big_quiet_step (fail))
  refine wpQuiet_nil ?_
  refine rg_cut 10 ?_
  go_wp2_with (fail)
  refine (must_true _).mono ?_
  rintro e w4 ⟨rfl, rfl⟩
  clear hbel hC hne k0
  go_wp2_with (fail)
  refine rg_end0 ?_
  go_wp2_with (with_reducible refine stop_stf ?_)
  refine Stop.out ?_
  refine wpList_storeF rfl rfl (fm0 30) (fm0 0) rfl rfl rfl rfl (fm0_at rfl) ?_
  intro w5 hb5 o5
  replace hb5 : FB w5 w2.heap.size (fm0 30) := hb5
  replace o5 : Only (· = w2.heap.size) (w2.drew.alloc (.cells (fm0 0).vals 36)) w5 := o5
  have bd : Below w2.heap.size w2 (w2.drew.alloc (.cells (fm0 0).vals 36)) := ((Below.refl _ w2).drew).alloc (Nat.le_refl _) _
  have b25 : Below w2.heap.size w2 w5 := below_onto bd o5 bd.size (by intro z hz h; omega)
  have HF5 := Lib.hid hb5
  have HZ5 := Lib.hid (FB.below HZ2.out b25)
  have HR5 := Lib.hid (HR2.out.below b25)
  have OO5 := Lib.hid (OO2.out.trans (only_of_below b25 (· = rb)))
  have hne : w2.heap.size ≠ rb := by omega
  have hnz : w.heap.size ≠ rb := by omega
  have lfb : w.heap.size < w2.heap.size := by omega
  have lrf : rb < w2.heap.size := by omega
  have HLF := Lib.hid (show w2.heap.size < w5.heap.size from Blk.lt hb5)
  clear r0 r2 lrb2 lz2 hq hb5 o5 bd b25
  generalize w2.heap.size = fb at *
  have HF := Lib.hid (show readK 30 L1 = some ((fm0 30).f, L1) by rw [readK_30]; rfl)
  have FRS := Lib.hid (show (fm0 30).fresh fb from ⟨(fun x hx => by cases hx), (fun x hx => by cases hx), (fun x hx => by cases hx)⟩)
  have FOK := Lib.hid (show FrOk (fm0 30).f ∧ (fm0 30).f.data.length ≤ 1000000 ∧ (fm0 30).f.acks.length ≤ 1000001 by
    obtain ⟨_, n, hn, res⟩ := readK_gives 30 (by omega) L1 (fm0 30).f L1 HF.out HBY1.out
    have h1 := HL1.out
    have h2 := res.data
    have h3 := res.acks
    exact ⟨res.ok, by omega, by omega⟩)
  have SM := Lib.hid (show (fm0 30).sm from ⟨FOK.out.2.1, Nat.zero_le _, Nat.zero_le _⟩)
  have hok := Lib.hid (show (fm0 30).ok w5 from ⟨FOK.out.1, Sl.nil _ _, Sl.nil _ _, Rs.nil _⟩)
  have HT1 := Lib.hid (show RS = finR (some ((fm0 30).f, L1)) from HGO.out.trans (congrArg finR HF.out))
  go_wp2_with (with_reducible refine stop_ldf ?_)
  refine Stop.out ?_
  refine wpList_loadF rfl rfl (fm0 30) rfl rfl HF5.out ?_
  go_wp2_with (fail)
  refine (may_any (fm0 30) _ hok.out (by have := SM.out.d; omega) SM.out.c (by have := SM.out.a; omega)).mono ?_
  cases hm : mayF (fm0 30).f with
  | false =>
    have HT2 := Lib.hid (show RS = none from HT1.out.trans (finR_no hm))
    clear hm
    rintro e w8 ⟨rfl, b8⟩
    go_wp2_with (fail)
    refine (must_false _).mono ?_
    rintro e w9 ⟨he, rfl⟩
    rw [failE] at he
    subst he
    go_wp2_with (fail)
    exact ⟨rfl, OO5.out.trans (only_of_below b8 _), (fun x hx => by rw [HT2.out] at hx; cases hx), (fun _ => rfl)⟩
  | true =>
    have HT2 := Lib.hid (show RS = some ((fm0 30).f, L1) from HT1.out.trans (finR_may hm))
    clear hm
    rintro e w8 ⟨rfl, b8⟩
    have B8 := Lib.hid b8
    clear b8
    go_wp2_with (fail)
    refine (must_true _).mono ?_
    rintro e w9 ⟨rfl, rfl⟩
    have HF8 := Lib.hid (FB.below HF5.out B8.out)
    have HZ8 := Lib.hid (FB.below HZ5.out B8.out)
    go_wp2_with (with_reducible refine stop_ldf ?_)
    refine Stop.out ?_
    refine wpList_loadF rfl rfl (fm0 30) rfl rfl HF8.out ?_
    go_wp2_with (with_reducible refine stop_stf ?_)
    refine Stop.out ?_
    refine wpList_storeF rfl rfl (fm0 30) (fm0 0) rfl rfl rfl rfl HZ8.out ?_
    intro wy hby' oy
    go_wp2_with (fail)
    refine bodyPost_ret (results_cell_row rfl _ _ _ _ _ _ _ rfl hby' Try.underlying36 rfl (by rw [FM.size _ rfl]; exact fr_size)) rfl ?_
    refine ⟨(OO5.out.trans (only_of_below B8.out _)).trans' oy (fun z hz hs => by omega), ?_, (fun h => by rw [HT2.out] at h; cases h)⟩
    rw [HT2.out]
    intro x hx
    cases hx
    have hne8 : ∀ z : Nat, z ≤ rb → ¬ z = w.heap.size := fun z hz h => by omega
    have FR := FRS.out
    refine Lib.hid ⟨_, rfl, rfl, ⟨hok.out.fr, (hok.out.below B8.out).d.only oy (fun x hx _ h => by have := FR.1 x hx; omega), (hok.out.below B8.out).c.only oy (fun x hx _ h => by have := FR.2.1 x hx; omega), (hok.out.below B8.out).a.only oy (fun x hx _ h => by have := FR.2.2 x hx; omega)⟩, ⟨fun x hx => by have := FR.1 x hx; omega, fun x hx => by have := FR.2.1 x hx; omega, fun x hx => by have := FR.2.2 x hx; omega⟩, SM.out, (HR5.out.below B8.out).only oy hne8⟩

end Frm
end Go.Proofs.Ytcpjehgoeibbeaa
