import Derived.Test.YtcpjehgoeibbeaaFrR40
import Derived.Test.YtcpjehgoeibbeaaFrR41
import Derived.Test.YtcpjehgoeibbeaaFrR42
import Derived.Test.YtcpjehgoeibbeaaFrR43
/- The reader: a frame (written by gen_frr4.py). -/
namespace Go.Proofs.Ytcpjehgoeibbeaa
open Go.RowKit
set_option linter.unusedVariables false
namespace Frm
open Var

theorem readK_2 : readK 2 = readAck 2 := rfl
set_option maxHeartbeats 8000000 in
set_option maxRecDepth 100000 in
theorem rframe_2 (rb : Nat) (L L1 : List Int) (w : World) (h : RdB w rb L) (hl : L.length ≤ 1000000) (hk : tk L = some (2, L1)) (hsz : (L.length : Int) - L1.length = sizeF 2) :
    Calls Try.prog 25 #[.pointer (some ⟨rb, 0, none⟩)] w fun e w' => Only (· = rb) w w' ∧ (∀ x, readF L = some x → Hid (RF w' rb w.heap.size x.1 x.2 e)) ∧ (readF L = none → e = failE) := by
  have HR := Lib.hid h
  have hby := h.byte
  have lrb := h.lt
  obtain ⟨A, cap, m, rb1, rm, rs, rx⟩ := h
  have r0 := Blk.cell rb1 0 _ rfl
  have RM := Lib.hid rm
  have hmb : m ≤ 1000000 := by omega
  have HK := Lib.hid hk
  clear rb1 rm rs rx
  have hle1 := tk_le hk
  dsimp only at hle1
  have vk := tk_bnd hby hk
  dsimp only at vk
  have HL1 := Lib.hid (show L1.length ≤ 1000000 by omega)
  have HBY1 := Lib.hid (show ∀ x ∈ L1, Byte x from (tk_gives L _ L1 hk hby).1)
  have HSZ := Lib.hid hsz
  obtain ⟨RS, hRS⟩ : ∃ RS, readF L = RS := ⟨_, rfl⟩
  have HGO := Lib.hid (show RS = finR (readK 2 L1) by rw [← hRS]; exact readF_go hk hsz)
  rw [hRS]
  clear hRS hk hsz hle1
  go_enter Try.func25, Try.ntmps25
  go_wp2_with (fail)
  have kb0 := (Below.refl w.heap.size w).alloc (Nat.le_refl _) (.cells (fm0 0).vals 36)
  refine (rn_any rb L _ (HR.out.below kb0)).mono ?_
  rintro e w2 ⟨o2, hy2, hn2⟩
  obtain ⟨rfl, hr2⟩ := hy2 _ HK.out
  have HR2 : Hid (RdB w2 rb L1) := hr2
  have HZ2 := Lib.hid (show FB w2 w.heap.size (fm0 0) from o2.blk (fm0_at rfl) (fun h => by have h2 : w.heap.size = rb := h; omega))
  have OO2 := Lib.hid ((only_of_below kb0 (· = rb)).trans o2)
  have lz2 : w.heap.size < w2.heap.size := by have := o2.size; simp at this; omega
  obtain ⟨A2, cap2, m2, rb2, rm2, rs2, rx2⟩ := HR2.out
  have r2 := Blk.cell rb2 0 _ rfl
  have lrb2 : rb < w2.heap.size := by omega
  have hmb2 : m2 ≤ 1000000 := by have := HL1.out; omega
  have hsz2 : (m : Int) - m2 = sizeF 2 ∨ ¬ (m : Int) - m2 = sizeF 2 := Decidable.em _
  have hsm := size_le 2
  have hsm0 : 0 ≤ sizeF 2 := by omega
  have HSM := Lib.hid (show ((m : Int) - m2 = sizeF 2) ↔ ((L.length : Int) - L1.length = sizeF 2) by rw [RM.out, rm2])
  clear hy2 hn2 o2 kb0 rb2 rm2 rs2 rx2 hr2 hsz2
  obtain ⟨sz, hszv⟩ : ∃ s : Nat, sizeF 2 = s := ⟨_, rfl⟩
  have HSV := Lib.hid hszv
  clear hsm hsm0
  rw [hszv] at HSM
  have hq : ((m : Int) - m2 == (sz : Int)) = true := by simp only [beq_iff_eq]; rw [HSM.out, ← HSV.out]; exact HSZ.out
  clear hszv
  go_wp2_with (fail)
  refine rg_start 11 ?_
  refine rg_below fun KK hx hne hC hbel => ?_
  have k0 := fun z : Wd KK => (hx z _ 0 _ lrb2).trans r2
  clear hx
  refine rg_quiet 3 [0,1,2,3,4,5,6,7] hC ?_
  simp only [pickD, List.map_cons, List.map_nil, List.getD_cons_zero, List.getD_cons_succ]; repeat (go_big_quiet_step (fail))
  refine wpQuiet_nil ?_
  refine rg_act 8 ?_
  go_wp2_with (fail)
  refine (size_any 2 _ vk.1 (by omega)).mono ?_
  rintro e w3 ⟨rfl, rfl⟩
  rw [HSV.out]
  go_wp2_with (fail)
  refine ⟨hbel _ (Below.refl _ _), ?_⟩
  refine rg_quiet 1 [9] (hbel _ (Below.refl _ _)) ?_
  simp only [pickD, List.map_cons, List.map_nil, List.getD_cons_zero, List.getD_cons_succ]; repeat (go_big_quiet_step (fail))
  refine wpQuiet_nil ?_
  refine rg_cut 10 ?_
  go_wp2_with (fail)
  refine (must_true _).mono ?_
  rintro e w4 ⟨rfl, rfl⟩
  clear hbel hC hne k0
  go_wp2_with (fail)
  refine rg_end0 ?_
  go_wp2_with (with_reducible refine stop_stf ?_)
  refine Stop.out ?_
  refine wpList_storeF rfl rfl (fm0 2) (fm0 0) rfl rfl rfl rfl (fm0_at rfl) ?_
  intro w5 hb5 o5
  replace hb5 : FB w5 w2.heap.size (fm0 2) := hb5
  replace o5 : Only (· = w2.heap.size) (w2.drew.alloc (.cells (fm0 0).vals 36)) w5 := o5
  have bd : Below w2.heap.size w2 (w2.drew.alloc (.cells (fm0 0).vals 36)) := ((Below.refl _ w2).drew).alloc (Nat.le_refl _) _
  have b25 : Below w2.heap.size w2 w5 := below_onto bd o5 bd.size (by intro z hz h; omega)
  have HF5 := Lib.hid hb5
  have HZ5 := Lib.hid (FB.below HZ2.out b25)
  have HR5 := Lib.hid (HR2.out.below b25)
  have OO5 := Lib.hid (OO2.out.trans (only_of_below b25 (· = rb)))
  have hne : w2.heap.size ≠ rb := by omega
  have hnz : w.heap.size ≠ rb := by omega
  have lfb : w.heap.size < w2.heap.size := by omega
  have lrf : rb < w2.heap.size := by omega
  have HLF := Lib.hid (show w2.heap.size < w5.heap.size from Blk.lt hb5)
  clear r0 r2 lrb2 lz2 hq hb5 o5 bd b25
  generalize w2.heap.size = fb at *
  go_wp2_with (fail)
  refine (racks_2 rb fb L1 _ HR5.out HL1.out HF5.out lrf).mono ?_
  rintro e w10 ⟨o10, hy10, hn10⟩
  have HY10 := Lib.hid hy10
  have HN10 := Lib.hid hn10
  have OS10 := Lib.hid (OO5.out.trans' o10 (fun z hz hs => by rcases hs with h | h; exact h; omega))
  have ZS10 := Lib.hid (FB.only HZ5.out o10 (by omega))
  clear hy10 hn10 o10
  cases h10 : readAck 2 L1 with
  | none =>
    have he := HN10.out h10
    rw [failE] at he
    subst he
    have HT := Lib.hid (show RS = none from HGO.out.trans (finR_none (by rw [readK_2]; exact h10)))
    clear h10
    go_wp2_with (fail)
    exact ⟨rfl, OS10.out, (fun x hx => by rw [HT.out] at hx; cases hx), (fun _ => rfl)⟩
  | some x =>
    obtain ⟨f, LZ⟩ := x
    obtain ⟨rfl, hrq⟩ := HY10.out _ h10
    obtain ⟨⟨q, hqf, hqb, hqc, hqd, hqe, hqa, hqr⟩, hrd⟩ := hrq.out
    have hqf : q.f = f := hqf
    subst hqf
    have HF := Lib.hid (show readK 2 L1 = some (q.f, LZ) by rw [readK_2]; exact h10)
    have HQB := Lib.hid hqb
    have HRD := Lib.hid (show RdB w10 rb LZ from hrd)
    have HQ := Lib.hid (show Sl .u8 w10 q.da q.dc q.f.data ∧ Sl .u8 w10 q.ca q.cc q.f.cid ∧ Rs w10 q.aa q.ac q.f.acks from ⟨hqd, hqe, hqa⟩)
    have FRS := Lib.hid (show q.fresh fb from ⟨fun x hx => by have := hqr.1 x hx; have := HLF.out; omega, fun x hx => by have := hqr.2.1 x hx; have := HLF.out; omega, fun x hx => by have := hqr.2.2 x hx; have := HLF.out; omega⟩)
    have HQC := Lib.hid hqc
    clear h10 HY10 HN10 hqb hqc hqd hqe hqa hqr hrd hrq
    have FOK := Lib.hid (show FrOk q.f ∧ q.f.data.length ≤ 1000000 ∧ q.f.acks.length ≤ 1000001 by
      obtain ⟨_, n, hn, res⟩ := readK_gives 2 (by omega) L1 q.f LZ HF.out HBY1.out
      have h1 := HL1.out
      have h2 := res.data
      have h3 := res.acks
      exact ⟨res.ok, by omega, by omega⟩)
    have SM := Lib.hid (show q.sm from ⟨FOK.out.2.1, by have := HQC.out; omega, by have := FOK.out.2.2; omega⟩)
    have hok := Lib.hid (show q.ok w10 from ⟨FOK.out.1, HQ.out.1, HQ.out.2.1, HQ.out.2.2⟩)
    have HT1 := Lib.hid (show RS = finR (some (q.f, LZ)) from HGO.out.trans (congrArg finR HF.out))
    go_wp2_with (with_reducible refine stop_ldf ?_)
    refine Stop.out ?_
    refine wpList_loadF rfl rfl q hok.out.fr.tok16 rfl HQB.out ?_
    go_wp2_with (fail)
    refine (may_any q _ hok.out (by have := SM.out.d; omega) SM.out.c (by have := SM.out.a; omega)).mono ?_
    cases hm : mayF q.f with
    | false =>
      have HT2 := Lib.hid (show RS = none from HT1.out.trans (finR_no hm))
      clear hm
      rintro e w8 ⟨rfl, b8⟩
      go_wp2_with (fail)
      refine (must_false _).mono ?_
      rintro e w9 ⟨he, rfl⟩
      rw [failE] at he
      subst he
      go_wp2_with (fail)
      exact ⟨rfl, OS10.out.trans (only_of_below b8 _), (fun x hx => by rw [HT2.out] at hx; cases hx), (fun _ => rfl)⟩
    | true =>
      have HT2 := Lib.hid (show RS = some (q.f, LZ) from HT1.out.trans (finR_may hm))
      clear hm
      rintro e w8 ⟨rfl, b8⟩
      have B8 := Lib.hid b8
      clear b8
      go_wp2_with (fail)
      refine (must_true _).mono ?_
      rintro e w9 ⟨rfl, rfl⟩
      have HF8 := Lib.hid (FB.below HQB.out B8.out)
      have HZ8 := Lib.hid (FB.below ZS10.out B8.out)
      go_wp2_with (with_reducible refine stop_ldf ?_)
      refine Stop.out ?_
      refine wpList_loadF rfl rfl q hok.out.fr.tok16 rfl HF8.out ?_
      go_wp2_with (with_reducible refine stop_stf ?_)
      refine Stop.out ?_
      refine wpList_storeF rfl rfl q (fm0 0) hok.out.fr.tok16 rfl rfl rfl HZ8.out ?_
      intro wy hby' oy
      go_wp2_with (fail)
      refine bodyPost_ret (results_cell_row rfl _ _ _ _ _ _ _ rfl hby' Try.underlying36 rfl (by rw [FM.size _ hok.out.fr.tok16]; exact fr_size)) rfl ?_
      refine ⟨(OS10.out.trans (only_of_below B8.out _)).trans' oy (fun z hz hs => by omega), ?_, (fun h => by rw [HT2.out] at h; cases h)⟩
      rw [HT2.out]
      intro x hx
      cases hx
      have hne8 : ∀ z : Nat, z ≤ rb → ¬ z = w.heap.size := fun z hz h => by omega
      have FR := FRS.out
      refine Lib.hid ⟨_, rfl, rfl, ⟨hok.out.fr, (hok.out.below B8.out).d.only oy (fun x hx _ h => by have := FR.1 x hx; omega), (hok.out.below B8.out).c.only oy (fun x hx _ h => by have := FR.2.1 x hx; omega), (hok.out.below B8.out).a.only oy (fun x hx _ h => by have := FR.2.2 x hx; omega)⟩, ⟨fun x hx => by have := FR.1 x hx; omega, fun x hx => by have := FR.2.1 x hx; omega, fun x hx => by have := FR.2.2 x hx; omega⟩, SM.out, (HRD.out.below B8.out).only oy hne8⟩

theorem readK_3 : readK 3 = readAck 3 := rfl
set_option maxHeartbeats 8000000 in
set_option maxRecDepth 100000 in
theorem rframe_3 (rb : Nat) (L L1 : List Int) (w : World) (h : RdB w rb L) (hl : L.length ≤ 1000000) (hk : tk L = some (3, L1)) (hsz : (L.length : Int) - L1.length = sizeF 3) :
    Calls Try.prog 25 #[.pointer (some ⟨rb, 0, none⟩)] w fun e w' => Only (· = rb) w w' ∧ (∀ x, readF L = some x → Hid (RF w' rb w.heap.size x.1 x.2 e)) ∧ (readF L = none → e = failE) := by
  have HR := Lib.hid h
  have hby := h.byte
  have lrb := h.lt
  obtain ⟨A, cap, m, rb1, rm, rs, rx⟩ := h
  have r0 := Blk.cell rb1 0 _ rfl
  have RM := Lib.hid rm
  have hmb : m ≤ 1000000 := by omega
  have HK := Lib.hid hk
  clear rb1 rm rs rx
  have hle1 := tk_le hk
  dsimp only at hle1
  have vk := tk_bnd hby hk
  dsimp only at vk
  have HL1 := Lib.hid (show L1.length ≤ 1000000 by omega)
  have HBY1 := Lib.hid (show ∀ x ∈ L1, Byte x from (tk_gives L _ L1 hk hby).1)
  have HSZ := Lib.hid hsz
  obtain ⟨RS, hRS⟩ : ∃ RS, readF L = RS := ⟨_, rfl⟩
  have HGO := Lib.hid (show RS = finR (readK 3 L1) by rw [← hRS]; exact readF_go hk hsz)
  rw [hRS]
  clear hRS hk hsz hle1
  go_enter Try.func25, Try.ntmps25
  go_wp2_with (fail)
  have kb0 := (Below.refl w.heap.size w).alloc (Nat.le_refl _) (.cells (fm0 0).vals 36)
  refine (rn_any rb L _ (HR.out.below kb0)).mono ?_
  rintro e w2 ⟨o2, hy2, hn2⟩
  obtain ⟨rfl, hr2⟩ := hy2 _ HK.out
  have HR2 : Hid (RdB w2 rb L1) := hr2
  have HZ2 := Lib.hid (show FB w2 w.heap.size (fm0 0) from o2.blk (fm0_at rfl) (fun h => by have h2 : w.heap.size = rb := h; omega))
  have OO2 := Lib.hid ((only_of_below kb0 (· = rb)).trans o2)
  have lz2 : w.heap.size < w2.heap.size := by have := o2.size; simp at this; omega
  obtain ⟨A2, cap2, m2, rb2, rm2, rs2, rx2⟩ := HR2.out
  have r2 := Blk.cell rb2 0 _ rfl
  have lrb2 : rb < w2.heap.size := by omega
  have hmb2 : m2 ≤ 1000000 := by have := HL1.out; omega
  have hsz2 : (m : Int) - m2 = sizeF 3 ∨ ¬ (m : Int) - m2 = sizeF 3 := Decidable.em _
  have hsm := size_le 3
  have hsm0 : 0 ≤ sizeF 3 := by omega
  have HSM := Lib.hid (show ((m : Int) - m2 = sizeF 3) ↔ ((L.length : Int) - L1.length = sizeF 3) by rw [RM.out, rm2])
  clear hy2 hn2 o2 kb0 rb2 rm2 rs2 rx2 hr2 hsz2
  obtain ⟨sz, hszv⟩ : ∃ s : Nat, sizeF 3 = s := ⟨_, rfl⟩
  have HSV := Lib.hid hszv
  clear hsm hsm0
  rw [hszv] at HSM
  have hq : ((m : Int) - m2 == (sz : Int)) = true := by simp only [beq_iff_eq]; rw [HSM.out, ← HSV.out]; exact HSZ.out
  clear hszv
  go_wp2_with (fail)
  refine rg_start 11 ?_
  refine rg_below fun KK hx hne hC hbel => ?_
  have k0 := fun z : Wd KK => (hx z _ 0 _ lrb2).trans r2
  clear hx
  refine rg_quiet 3 [0,1,2,3,4,5,6,7] hC ?_
  simp only [pickD, List.map_cons, List.map_nil, List.getD_cons_zero, List.getD_cons_succ]; repeat (go_big_quiet_step (fail))
  refine wpQuiet_nil ?_
  refine rg_act 8 ?_
  go_wp2_with (fail)
  refine (size_any 3 _ vk.1 (by omega)).mono ?_
  rintro e w3 ⟨rfl, rfl⟩
  rw [HSV.out]
  go_wp2_with (fail)
  refine ⟨hbel _ (Below.refl _ _), ?_⟩
  refine rg_quiet 1 [9] (hbel _ (Below.refl _ _)) ?_
  simp only [pickD, List.map_cons, List.map_nil, List.getD_cons_zero, List.getD_cons_succ]; repeat (go_big_quiet_step (fail))
  refine wpQuiet_nil ?_
  refine rg_cut 10 ?_
  go_wp2_with (fail)
  refine (must_true _).mono ?_
  rintro e w4 ⟨rfl, rfl⟩
  clear hbel hC hne k0
  go_wp2_with (fail)
  refine rg_end0 ?_
  go_wp2_with (with_reducible refine stop_stf ?_)
  refine Stop.out ?_
  refine wpList_storeF rfl rfl (fm0 3) (fm0 0) rfl rfl rfl rfl (fm0_at rfl) ?_
  intro w5 hb5 o5
  replace hb5 : FB w5 w2.heap.size (fm0 3) := hb5
  replace o5 : Only (· = w2.heap.size) (w2.drew.alloc (.cells (fm0 0).vals 36)) w5 := o5
  have bd : Below w2.heap.size w2 (w2.drew.alloc (.cells (fm0 0).vals 36)) := ((Below.refl _ w2).drew).alloc (Nat.le_refl _) _
  have b25 : Below w2.heap.size w2 w5 := below_onto bd o5 bd.size (by intro z hz h; omega)
  have HF5 := Lib.hid hb5
  have HZ5 := Lib.hid (FB.below HZ2.out b25)
  have HR5 := Lib.hid (HR2.out.below b25)
  have OO5 := Lib.hid (OO2.out.trans (only_of_below b25 (· = rb)))
  have hne : w2.heap.size ≠ rb := by omega
  have hnz : w.heap.size ≠ rb := by omega
  have lfb : w.heap.size < w2.heap.size := by omega
  have lrf : rb < w2.heap.size := by omega
  have HLF := Lib.hid (show w2.heap.size < w5.heap.size from Blk.lt hb5)
  clear r0 r2 lrb2 lz2 hq hb5 o5 bd b25
  generalize w2.heap.size = fb at *
  go_wp2_with (fail)
  refine (racks_3 rb fb L1 _ HR5.out HL1.out HF5.out lrf).mono ?_
  rintro e w10 ⟨o10, hy10, hn10⟩
  have HY10 := Lib.hid hy10
  have HN10 := Lib.hid hn10
  have OS10 := Lib.hid (OO5.out.trans' o10 (fun z hz hs => by rcases hs with h | h; exact h; omega))
  have ZS10 := Lib.hid (FB.only HZ5.out o10 (by omega))
  clear hy10 hn10 o10
  cases h10 : readAck 3 L1 with
  | none =>
    have he := HN10.out h10
    rw [failE] at he
    subst he
    have HT := Lib.hid (show RS = none from HGO.out.trans (finR_none (by rw [readK_3]; exact h10)))
    clear h10
    go_wp2_with (fail)
    exact ⟨rfl, OS10.out, (fun x hx => by rw [HT.out] at hx; cases hx), (fun _ => rfl)⟩
  | some x =>
    obtain ⟨f, LZ⟩ := x
    obtain ⟨rfl, hrq⟩ := HY10.out _ h10
    obtain ⟨⟨q, hqf, hqb, hqc, hqd, hqe, hqa, hqr⟩, hrd⟩ := hrq.out
    have hqf : q.f = f := hqf
    subst hqf
    have HF := Lib.hid (show readK 3 L1 = some (q.f, LZ) by rw [readK_3]; exact h10)
    have HQB := Lib.hid hqb
    have HRD := Lib.hid (show RdB w10 rb LZ from hrd)
    have HQ := Lib.hid (show Sl .u8 w10 q.da q.dc q.f.data ∧ Sl .u8 w10 q.ca q.cc q.f.cid ∧ Rs w10 q.aa q.ac q.f.acks from ⟨hqd, hqe, hqa⟩)
    have FRS := Lib.hid (show q.fresh fb from ⟨fun x hx => by have := hqr.1 x hx; have := HLF.out; omega, fun x hx => by have := hqr.2.1 x hx; have := HLF.out; omega, fun x hx => by have := hqr.2.2 x hx; have := HLF.out; omega⟩)
    have HQC := Lib.hid hqc
    clear h10 HY10 HN10 hqb hqc hqd hqe hqa hqr hrd hrq
    have FOK := Lib.hid (show FrOk q.f ∧ q.f.data.length ≤ 1000000 ∧ q.f.acks.length ≤ 1000001 by
      obtain ⟨_, n, hn, res⟩ := readK_gives 3 (by omega) L1 q.f LZ HF.out HBY1.out
      have h1 := HL1.out
      have h2 := res.data
      have h3 := res.acks
      exact ⟨res.ok, by omega, by omega⟩)
    have SM := Lib.hid (show q.sm from ⟨FOK.out.2.1, by have := HQC.out; omega, by have := FOK.out.2.2; omega⟩)
    have hok := Lib.hid (show q.ok w10 from ⟨FOK.out.1, HQ.out.1, HQ.out.2.1, HQ.out.2.2⟩)
    have HT1 := Lib.hid (show RS = finR (some (q.f, LZ)) from HGO.out.trans (congrArg finR HF.out))
    go_wp2_with (with_reducible refine stop_ldf ?_)
    refine Stop.out ?_
    refine wpList_loadF rfl rfl q hok.out.fr.tok16 rfl HQB.out ?_
    go_wp2_with (fail)
    refine (may_any q _ hok.out (by have := SM.out.d; omega) SM.out.c (by have := SM.out.a; omega)).mono ?_
    cases hm : mayF q.f with
    | false =>
      have HT2 := Lib.hid (show RS = none from HT1.out.trans (finR_no hm))
      clear hm
      rintro e w8 ⟨rfl, b8⟩
      go_wp2_with (fail)
      refine (must_false _).mono ?_
      rintro e w9 ⟨he, rfl⟩
      rw [failE] at he
      subst he
      go_wp2_with (fail)
      exact ⟨rfl, OS10.out.trans (only_of_below b8 _), (fun x hx => by rw [HT2.out] at hx; cases hx), (fun _ => rfl)⟩
    | true =>
      have HT2 := Lib.hid (show RS = some (q.f, LZ) from HT1.out.trans (finR_may hm))
      clear hm
      rintro e w8 ⟨rfl, b8⟩
      have B8 := Lib.hid b8
      clear b8
      go_wp2_with (fail)
      refine (must_true _).mono ?_
      rintro e w9 ⟨rfl, rfl⟩
      have HF8 := Lib.hid (FB.below HQB.out B8.out)
      have HZ8 := Lib.hid (FB.below ZS10.out B8.out)
      go_wp2_with (with_reducible refine stop_ldf ?_)
      refine Stop.out ?_
      refine wpList_loadF rfl rfl q hok.out.fr.tok16 rfl HF8.out ?_
      go_wp2_with (with_reducible refine stop_stf ?_)
      refine Stop.out ?_
      refine wpList_storeF rfl rfl q (fm0 0) hok.out.fr.tok16 rfl rfl rfl HZ8.out ?_
      intro wy hby' oy
      go_wp2_with (fail)
      refine bodyPost_ret (results_cell_row rfl _ _ _ _ _ _ _ rfl hby' Try.underlying36 rfl (by rw [FM.size _ hok.out.fr.tok16]; exact fr_size)) rfl ?_
      refine ⟨(OS10.out.trans (only_of_below B8.out _)).trans' oy (fun z hz hs => by omega), ?_, (fun h => by rw [HT2.out] at h; cases h)⟩
      rw [HT2.out]
      intro x hx
      cases hx
      have hne8 : ∀ z : Nat, z ≤ rb → ¬ z = w.heap.size := fun z hz h => by omega
      have FR := FRS.out
      refine Lib.hid ⟨_, rfl, rfl, ⟨hok.out.fr, (hok.out.below B8.out).d.only oy (fun x hx _ h => by have := FR.1 x hx; omega), (hok.out.below B8.out).c.only oy (fun x hx _ h => by have := FR.2.1 x hx; omega), (hok.out.below B8.out).a.only oy (fun x hx _ h => by have := FR.2.2 x hx; omega)⟩, ⟨fun x hx => by have := FR.1 x hx; omega, fun x hx => by have := FR.2.1 x hx; omega, fun x hx => by have := FR.2.2 x hx; omega⟩, SM.out, (HRD.out.below B8.out).only oy hne8⟩

theorem readK_8 : readK 8 = readStream 0 := rfl
set_option maxHeartbeats 8000000 in
set_option maxRecDepth 100000 in
theorem rframe_8 (rb : Nat) (L L1 : List Int) (w : World) (h : RdB w rb L) (hl : L.length ≤ 1000000) (hk : tk L = some (8, L1)) (hsz : (L.length : Int) - L1.length = sizeF 8) :
    Calls Try.prog 25 #[.pointer (some ⟨rb, 0, none⟩)] w fun e w' => Only (· = rb) w w' ∧ (∀ x, readF L = some x → Hid (RF w' rb w.heap.size x.1 x.2 e)) ∧ (readF L = none → e = failE) := by
  have HR := Lib.hid h
  have hby := h.byte
  have lrb := h.lt
  obtain ⟨A, cap, m, rb1, rm, rs, rx⟩ := h
  have r0 := Blk.cell rb1 0 _ rfl
  have RM := Lib.hid rm
  have hmb : m ≤ 1000000 := by omega
  have HK := Lib.hid hk
  clear rb1 rm rs rx
  have hle1 := tk_le hk
  dsimp only at hle1
  have vk := tk_bnd hby hk
  dsimp only at vk
  have HL1 := Lib.hid (show L1.length ≤ 1000000 by omega)
  have HBY1 := Lib.hid (show ∀ x ∈ L1, Byte x from (tk_gives L _ L1 hk hby).1)
  have HSZ := Lib.hid hsz
  obtain ⟨RS, hRS⟩ : ∃ RS, readF L = RS := ⟨_, rfl⟩
  have HGO := Lib.hid (show RS = finR (readK 8 L1) by rw [← hRS]; exact readF_go hk hsz)
  rw [hRS]
  clear hRS hk hsz hle1
  go_enter Try.func25, Try.ntmps25
  go_wp2_with (fail)
  have kb0 := (Below.refl w.heap.size w).alloc (Nat.le_refl _) (.cells (fm0 0).vals 36)
  refine (rn_any rb L _ (HR.out.below kb0)).mono ?_
  rintro e w2 ⟨o2, hy2, hn2⟩
  obtain ⟨rfl, hr2⟩ := hy2 _ HK.out
  have HR2 : Hid (RdB w2 rb L1) := hr2
  have HZ2 := Lib.hid (show FB w2 w.heap.size (fm0 0) from o2.blk (fm0_at rfl) (fun h => by have h2 : w.heap.size = rb := h; omega))
  have OO2 := Lib.hid ((only_of_below kb0 (· = rb)).trans o2)
  have lz2 : w.heap.size < w2.heap.size := by have := o2.size; simp at this; omega
  obtain ⟨A2, cap2, m2, rb2, rm2, rs2, rx2⟩ := HR2.out
  have r2 := Blk.cell rb2 0 _ rfl
  have lrb2 : rb < w2.heap.size := by omega
  have hmb2 : m2 ≤ 1000000 := by have := HL1.out; omega
  have hsz2 : (m : Int) - m2 = sizeF 8 ∨ ¬ (m : Int) - m2 = sizeF 8 := Decidable.em _
  have hsm := size_le 8
  have hsm0 : 0 ≤ sizeF 8 := by omega
  have HSM := Lib.hid (show ((m : Int) - m2 = sizeF 8) ↔ ((L.length : Int) - L1.length = sizeF 8) by rw [RM.out, rm2])
  clear hy2 hn2 o2 kb0 rb2 rm2 rs2 rx2 hr2 hsz2
  obtain ⟨sz, hszv⟩ : ∃ s : Nat, sizeF 8 = s := ⟨_, rfl⟩
  have HSV := Lib.hid hszv
  clear hsm hsm0
  rw [hszv] at HSM
  have hq : ((m : Int) - m2 == (sz : Int)) = true := by simp only [beq_iff_eq]; rw [HSM.out, ← HSV.out]; exact HSZ.out
  clear hszv
  go_wp2_with (fail)
  refine rg_start 11 ?_
  refine rg_below fun KK hx hne hC hbel => ?_
  have k0 := fun z : Wd KK => (hx z _ 0 _ lrb2).trans r2
  clear hx
  refine rg_quiet 3 [0,1,2,3,4,5,6,7] hC ?_
  simp only [pickD, List.map_cons, List.map_nil, List.getD_cons_zero, List.getD_cons_succ]; repeat (go_big_quiet_step (fail))
  refine wpQuiet_nil ?_
  refine rg_act 8 ?_
  go_wp2_with (fail)
  refine (size_any 8 _ vk.1 (by omega)).mono ?_
  rintro e w3 ⟨rfl, rfl⟩
  rw [HSV.out]
  go_wp2_with (fail)
  refine ⟨hbel _ (Below.refl _ _), ?_⟩
  refine rg_quiet 1 [9] (hbel _ (Below.refl _ _)) ?_
  simp only [pickD, List.map_cons, List.map_nil, List.getD_cons_zero, List.getD_cons_succ]; repeat (go_big_quiet_step (fail))
  refine wpQuiet_nil ?_
  refine rg_cut 10 ?_
  go_wp2_with (fail)
  refine (must_true _).mono ?_
  rintro e w4 ⟨rfl, rfl⟩
  clear hbel hC hne k0
  go_wp2_with (fail)
  refine rg_end0 ?_
  go_wp2_with (with_reducible refine stop_stf ?_)
  refine Stop.out ?_
  refine wpList_storeF rfl rfl (fm0 8) (fm0 0) rfl rfl rfl rfl (fm0_at rfl) ?_
  intro w5 hb5 o5
  replace hb5 : FB w5 w2.heap.size (fm0 8) := hb5
  replace o5 : Only (· = w2.heap.size) (w2.drew.alloc (.cells (fm0 0).vals 36)) w5 := o5
  have bd : Below w2.heap.size w2 (w2.drew.alloc (.cells (fm0 0).vals 36)) := ((Below.refl _ w2).drew).alloc (Nat.le_refl _) _
  have b25 : Below w2.heap.size w2 w5 := below_onto bd o5 bd.size (by intro z hz h; omega)
  have HF5 := Lib.hid hb5
  have HZ5 := Lib.hid (FB.below HZ2.out b25)
  have HR5 := Lib.hid (HR2.out.below b25)
  have OO5 := Lib.hid (OO2.out.trans (only_of_below b25 (· = rb)))
  have hne : w2.heap.size ≠ rb := by omega
  have hnz : w.heap.size ≠ rb := by omega
  have lfb : w.heap.size < w2.heap.size := by omega
  have lrf : rb < w2.heap.size := by omega
  have HLF := Lib.hid (show w2.heap.size < w5.heap.size from Blk.lt hb5)
  clear r0 r2 lrb2 lz2 hq hb5 o5 bd b25
  generalize w2.heap.size = fb at *
  go_wp2_with (fail)
  refine (rstream_0 rb fb L1 8 _ HR5.out HL1.out HF5.out lrf).mono ?_
  rintro e w10 ⟨o10, hy10, hn10⟩
  have HY10 := Lib.hid hy10
  have HN10 := Lib.hid hn10
  have OS10 := Lib.hid (OO5.out.trans' o10 (fun z hz hs => by rcases hs with h | h; exact h; omega))
  have ZS10 := Lib.hid (FB.only HZ5.out o10 (by omega))
  clear hy10 hn10 o10
  cases h10 : readStream 0 L1 with
  | none =>
    have he := HN10.out h10
    rw [failE] at he
    subst he
    have HT := Lib.hid (show RS = none from HGO.out.trans (finR_none (by rw [readK_8]; exact h10)))
    clear h10
    go_wp2_with (fail)
    exact ⟨rfl, OS10.out, (fun x hx => by rw [HT.out] at hx; cases hx), (fun _ => rfl)⟩
  | some x =>
    obtain ⟨f, LZ⟩ := x
    obtain ⟨rfl, hrq⟩ := HY10.out _ h10
    obtain ⟨⟨q, hqf, hqb, hqc, hqd, hqe, hqa, hqr⟩, hrd⟩ := hrq.out
    have hqf : q.f = f := hqf
    subst hqf
    have HF := Lib.hid (show readK 8 L1 = some (q.f, LZ) by rw [readK_8]; exact h10)
    have HQB := Lib.hid hqb
    have HRD := Lib.hid (show RdB w10 rb LZ from hrd)
    have HQ := Lib.hid (show Sl .u8 w10 q.da q.dc q.f.data ∧ Sl .u8 w10 q.ca q.cc q.f.cid ∧ Rs w10 q.aa q.ac q.f.acks from ⟨hqd, hqe, hqa⟩)
    have FRS := Lib.hid (show q.fresh fb from ⟨fun x hx => by have := hqr.1 x hx; have := HLF.out; omega, fun x hx => by have := hqr.2.1 x hx; have := HLF.out; omega, fun x hx => by have := hqr.2.2 x hx; have := HLF.out; omega⟩)
    have HQC := Lib.hid hqc
    clear h10 HY10 HN10 hqb hqc hqd hqe hqa hqr hrd hrq
    have FOK := Lib.hid (show FrOk q.f ∧ q.f.data.length ≤ 1000000 ∧ q.f.acks.length ≤ 1000001 by
      obtain ⟨_, n, hn, res⟩ := readK_gives 8 (by omega) L1 q.f LZ HF.out HBY1.out
      have h1 := HL1.out
      have h2 := res.data
      have h3 := res.acks
      exact ⟨res.ok, by omega, by omega⟩)
    have SM := Lib.hid (show q.sm from ⟨FOK.out.2.1, by have := HQC.out; omega, by have := FOK.out.2.2; omega⟩)
    have hok := Lib.hid (show q.ok w10 from ⟨FOK.out.1, HQ.out.1, HQ.out.2.1, HQ.out.2.2⟩)
    have HT1 := Lib.hid (show RS = finR (some (q.f, LZ)) from HGO.out.trans (congrArg finR HF.out))
    go_wp2_with (with_reducible refine stop_ldf ?_)
    refine Stop.out ?_
    refine wpList_loadF rfl rfl q hok.out.fr.tok16 rfl HQB.out ?_
    go_wp2_with (fail)
    refine (may_any q _ hok.out (by have := SM.out.d; omega) SM.out.c (by have := SM.out.a; omega)).mono ?_
    cases hm : mayF q.f with
    | false =>
      have HT2 := Lib.hid (show RS = none from HT1.out.trans (finR_no hm))
      clear hm
      rintro e w8 ⟨rfl, b8⟩
      go_wp2_with (fail)
      refine (must_false _).mono ?_
      rintro e w9 ⟨he, rfl⟩
      rw [failE] at he
      subst he
      go_wp2_with (fail)
      exact ⟨rfl, OS10.out.trans (only_of_below b8 _), (fun x hx => by rw [HT2.out] at hx; cases hx), (fun _ => rfl)⟩
    | true =>
      have HT2 := Lib.hid (show RS = some (q.f, LZ) from HT1.out.trans (finR_may hm))
      clear hm
      rintro e w8 ⟨rfl, b8⟩
      have B8 := Lib.hid b8
      clear b8
      go_wp2_with (fail)
      refine (must_true _).mono ?_
      rintro e w9 ⟨rfl, rfl⟩
      have HF8 := Lib.hid (FB.below HQB.out B8.out)
      have HZ8 := Lib.hid (FB.below ZS10.out B8.out)
      go_wp2_with (with_reducible refine stop_ldf ?_)
      refine Stop.out ?_
      refine wpList_loadF rfl rfl q hok.out.fr.tok16 rfl HF8.out ?_
      go_wp2_with (with_reducible refine stop_stf ?_)
      refine Stop.out ?_
      refine wpList_storeF rfl rfl q (fm0 0) hok.out.fr.tok16 rfl rfl rfl HZ8.out ?_
      intro wy hby' oy
      go_wp2_with (fail)
      refine bodyPost_ret (results_cell_row rfl _ _ _ _ _ _ _ rfl hby' Try.underlying36 rfl (by rw [FM.size _ hok.out.fr.tok16]; exact fr_size)) rfl ?_
      refine ⟨(OS10.out.trans (only_of_below B8.out _)).trans' oy (fun z hz hs => by omega), ?_, (fun h => by rw [HT2.out] at h; cases h)⟩
      rw [HT2.out]
      intro x hx
      cases hx
      have hne8 : ∀ z : Nat, z ≤ rb → ¬ z = w.heap.size := fun z hz h => by omega
      have FR := FRS.out
      refine Lib.hid ⟨_, rfl, rfl, ⟨hok.out.fr, (hok.out.below B8.out).d.only oy (fun x hx _ h => by have := FR.1 x hx; omega), (hok.out.below B8.out).c.only oy (fun x hx _ h => by have := FR.2.1 x hx; omega), (hok.out.below B8.out).a.only oy (fun x hx _ h => by have := FR.2.2 x hx; omega)⟩, ⟨fun x hx => by have := FR.1 x hx; omega, fun x hx => by have := FR.2.1 x hx; omega, fun x hx => by have := FR.2.2 x hx; omega⟩, SM.out, (HRD.out.below B8.out).only oy hne8⟩

theorem readK_9 : readK 9 = readStream 1 := rfl
set_option maxHeartbeats 8000000 in
set_option maxRecDepth 100000 in
theorem rframe_9 (rb : Nat) (L L1 : List Int) (w : World) (h : RdB w rb L) (hl : L.length ≤ 1000000) (hk : tk L = some (9, L1)) (hsz : (L.length : Int) - L1.length = sizeF 9) :
    Calls Try.prog 25 #[.pointer (some ⟨rb, 0, none⟩)] w fun e w' => Only (· = rb) w w' ∧ (∀ x, readF L = some x → Hid (RF w' rb w.heap.size x.1 x.2 e)) ∧ (readF L = none → e = failE) := by
  have HR := Lib.hid h
  have hby := h.byte
  have lrb := h.lt
  obtain ⟨A, cap, m, rb1, rm, rs, rx⟩ := h
  have r0 := Blk.cell rb1 0 _ rfl
  have RM := Lib.hid rm
  have hmb : m ≤ 1000000 := by omega
  have HK := Lib.hid hk
  clear rb1 rm rs rx
  have hle1 := tk_le hk
  dsimp only at hle1
  have vk := tk_bnd hby hk
  dsimp only at vk
  have HL1 := Lib.hid (show L1.length ≤ 1000000 by omega)
  have HBY1 := Lib.hid (show ∀ x ∈ L1, Byte x from (tk_gives L _ L1 hk hby).1)
  have HSZ := Lib.hid hsz
  obtain ⟨RS, hRS⟩ : ∃ RS, readF L = RS := ⟨_, rfl⟩
  have HGO := Lib.hid (show RS = finR (readK 9 L1) by rw [← hRS]; exact readF_go hk hsz)
  rw [hRS]
  clear hRS hk hsz hle1
  go_enter Try.func25, Try.ntmps25
  go_wp2_with (fail)
  have kb0 := (Below.refl w.heap.size w).alloc (Nat.le_refl _) (.cells (fm0 0).vals 36)
  refine (rn_any rb L _ (HR.out.below kb0)).mono ?_
  rintro e w2 ⟨o2, hy2, hn2⟩
  obtain ⟨rfl, hr2⟩ := hy2 _ HK.out
  have HR2 : Hid (RdB w2 rb L1) := hr2
  have HZ2 := Lib.hid (show FB w2 w.heap.size (fm0 0) from o2.blk (fm0_at rfl) (fun h => by have h2 : w.heap.size = rb := h; omega))
  have OO2 := Lib.hid ((only_of_below kb0 (· = rb)).trans o2)
  have lz2 : w.heap.size < w2.heap.size := by have := o2.size; simp at this; omega
  obtain ⟨A2, cap2, m2, rb2, rm2, rs2, rx2⟩ := HR2.out
  have r2 := Blk.cell rb2 0 _ rfl
  have lrb2 : rb < w2.heap.size := by omega
  have hmb2 : m2 ≤ 1000000 := by have := HL1.out; omega
  have hsz2 : (m : Int) - m2 = sizeF 9 ∨ ¬ (m : Int) - m2 = sizeF 9 := Decidable.em _
  have hsm := size_le 9
  have hsm0 : 0 ≤ sizeF 9 := by omega
  have HSM := Lib.hid (show ((m : Int) - m2 = sizeF 9) ↔ ((L.length : Int) - L1.length = sizeF 9) by rw [RM.out, rm2])
  clear hy2 hn2 o2 kb0 rb2 rm2 rs2 rx2 hr2 hsz2
  obtain ⟨sz, hszv⟩ : ∃ s : Nat, sizeF 9 = s := ⟨_, rfl⟩
  have HSV := Lib.hid hszv
  clear hsm hsm0
  rw [hszv] at HSM
  have hq : ((m : Int) - m2 == (sz : Int)) = true := by simp only [beq_iff_eq]; rw [HSM.out, ← HSV.out]; exact HSZ.out
  clear hszv
  go_wp2_with (fail)
  refine rg_start 11 ?_
  refine rg_below fun KK hx hne hC hbel => ?_
  have k0 := fun z : Wd KK => (hx z _ 0 _ lrb2).trans r2
  clear hx
  refine rg_quiet 3 [0,1,2,3,4,5,6,7] hC ?_
  simp only [pickD, List.map_cons, List.map_nil, List.getD_cons_zero, List.getD_cons_succ]; repeat (go_big_quiet_step (fail))
  refine wpQuiet_nil ?_
  refine rg_act 8 ?_
  go_wp2_with (fail)
  refine (size_any 9 _ vk.1 (by omega)).mono ?_
  rintro e w3 ⟨rfl, rfl⟩
  rw [HSV.out]
  go_wp2_with (fail)
  refine ⟨hbel _ (Below.refl _ _), ?_⟩
  refine rg_quiet 1 [9] (hbel _ (Below.refl _ _)) ?_
  simp only [pickD, List.map_cons, List.map_nil, List.getD_cons_zero, List.getD_cons_succ]; repeat (go_big_quiet_step (fail))
  refine wpQuiet_nil ?_
  refine rg_cut 10 ?_
  go_wp2_with (fail)
  refine (must_true _).mono ?_
  rintro e w4 ⟨rfl, rfl⟩
  clear hbel hC hne k0
  go_wp2_with (fail)
  refine rg_end0 ?_
  go_wp2_with (with_reducible refine stop_stf ?_)
  refine Stop.out ?_
  refine wpList_storeF rfl rfl (fm0 9) (fm0 0) rfl rfl rfl rfl (fm0_at rfl) ?_
  intro w5 hb5 o5
  replace hb5 : FB w5 w2.heap.size (fm0 9) := hb5
  replace o5 : Only (· = w2.heap.size) (w2.drew.alloc (.cells (fm0 0).vals 36)) w5 := o5
  have bd : Below w2.heap.size w2 (w2.drew.alloc (.cells (fm0 0).vals 36)) := ((Below.refl _ w2).drew).alloc (Nat.le_refl _) _
  have b25 : Below w2.heap.size w2 w5 := below_onto bd o5 bd.size (by intro z hz h; omega)
  have HF5 := Lib.hid hb5
  have HZ5 := Lib.hid (FB.below HZ2.out b25)
  have HR5 := Lib.hid (HR2.out.below b25)
  have OO5 := Lib.hid (OO2.out.trans (only_of_below b25 (· = rb)))
  have hne : w2.heap.size ≠ rb := by omega
  have hnz : w.heap.size ≠ rb := by omega
  have lfb : w.heap.size < w2.heap.size := by omega
  have lrf : rb < w2.heap.size := by omega
  have HLF := Lib.hid (show w2.heap.size < w5.heap.size from Blk.lt hb5)
  clear r0 r2 lrb2 lz2 hq hb5 o5 bd b25
  generalize w2.heap.size = fb at *
  go_wp2_with (fail)
  refine (rstream_1 rb fb L1 9 _ HR5.out HL1.out HF5.out lrf).mono ?_
  rintro e w10 ⟨o10, hy10, hn10⟩
  have HY10 := Lib.hid hy10
  have HN10 := Lib.hid hn10
  have OS10 := Lib.hid (OO5.out.trans' o10 (fun z hz hs => by rcases hs with h | h; exact h; omega))
  have ZS10 := Lib.hid (FB.only HZ5.out o10 (by omega))
  clear hy10 hn10 o10
  cases h10 : readStream 1 L1 with
  | none =>
    have he := HN10.out h10
    rw [failE] at he
    subst he
    have HT := Lib.hid (show RS = none from HGO.out.trans (finR_none (by rw [readK_9]; exact h10)))
    clear h10
    go_wp2_with (fail)
    exact ⟨rfl, OS10.out, (fun x hx => by rw [HT.out] at hx; cases hx), (fun _ => rfl)⟩
  | some x =>
    obtain ⟨f, LZ⟩ := x
    obtain ⟨rfl, hrq⟩ := HY10.out _ h10
    obtain ⟨⟨q, hqf, hqb, hqc, hqd, hqe, hqa, hqr⟩, hrd⟩ := hrq.out
    have hqf : q.f = f := hqf
    subst hqf
    have HF := Lib.hid (show readK 9 L1 = some (q.f, LZ) by rw [readK_9]; exact h10)
    have HQB := Lib.hid hqb
    have HRD := Lib.hid (show RdB w10 rb LZ from hrd)
    have HQ := Lib.hid (show Sl .u8 w10 q.da q.dc q.f.data ∧ Sl .u8 w10 q.ca q.cc q.f.cid ∧ Rs w10 q.aa q.ac q.f.acks from ⟨hqd, hqe, hqa⟩)
    have FRS := Lib.hid (show q.fresh fb from ⟨fun x hx => by have := hqr.1 x hx; have := HLF.out; omega, fun x hx => by have := hqr.2.1 x hx; have := HLF.out; omega, fun x hx => by have := hqr.2.2 x hx; have := HLF.out; omega⟩)
    have HQC := Lib.hid hqc
    clear h10 HY10 HN10 hqb hqc hqd hqe hqa hqr hrd hrq
    have FOK := Lib.hid (show FrOk q.f ∧ q.f.data.length ≤ 1000000 ∧ q.f.acks.length ≤ 1000001 by
      obtain ⟨_, n, hn, res⟩ := readK_gives 9 (by omega) L1 q.f LZ HF.out HBY1.out
      have h1 := HL1.out
      have h2 := res.data
      have h3 := res.acks
      exact ⟨res.ok, by omega, by omega⟩)
    have SM := Lib.hid (show q.sm from ⟨FOK.out.2.1, by have := HQC.out; omega, by have := FOK.out.2.2; omega⟩)
    have hok := Lib.hid (show q.ok w10 from ⟨FOK.out.1, HQ.out.1, HQ.out.2.1, HQ.out.2.2⟩)
    have HT1 := Lib.hid (show RS = finR (some (q.f, LZ)) from HGO.out.trans (congrArg finR HF.out))
    go_wp2_with (with_reducible refine stop_ldf ?_)
    refine Stop.out ?_
    refine wpList_loadF rfl rfl q hok.out.fr.tok16 rfl HQB.out ?_
    go_wp2_with (fail)
    refine (may_any q _ hok.out (by have := SM.out.d; omega) SM.out.c (by have := SM.out.a; omega)).mono ?_
    cases hm : mayF q.f with
    | false =>
      have HT2 := Lib.hid (show RS = none from HT1.out.trans (finR_no hm))
      clear hm
      rintro e w8 ⟨rfl, b8⟩
      go_wp2_with (fail)
      refine (must_false _).mono ?_
      rintro e w9 ⟨he, rfl⟩
      rw [failE] at he
      subst he
      go_wp2_with (fail)
      exact ⟨rfl, OS10.out.trans (only_of_below b8 _), (fun x hx => by rw [HT2.out] at hx; cases hx), (fun _ => rfl)⟩
    | true =>
      have HT2 := Lib.hid (show RS = some (q.f, LZ) from HT1.out.trans (finR_may hm))
      clear hm
      rintro e w8 ⟨rfl, b8⟩
      have B8 := Lib.hid b8
      clear b8
      go_wp2_with (fail)
      refine (must_true _).mono ?_
      rintro e w9 ⟨rfl, rfl⟩
      have HF8 := Lib.hid (FB.below HQB.out B8.out)
      have HZ8 := Lib.hid (FB.below ZS10.out B8.out)
      go_wp2_with (with_reducible refine stop_ldf ?_)
      refine Stop.out ?_
      refine wpList_loadF rfl rfl q hok.out.fr.tok16 rfl HF8.out ?_
      go_wp2_with (with_reducible refine stop_stf ?_)
      refine Stop.out ?_
      refine wpList_storeF rfl rfl q (fm0 0) hok.out.fr.tok16 rfl rfl rfl HZ8.out ?_
      intro wy hby' oy
      go_wp2_with (fail)
      refine bodyPost_ret (results_cell_row rfl _ _ _ _ _ _ _ rfl hby' Try.underlying36 rfl (by rw [FM.size _ hok.out.fr.tok16]; exact fr_size)) rfl ?_
      refine ⟨(OS10.out.trans (only_of_below B8.out _)).trans' oy (fun z hz hs => by omega), ?_, (fun h => by rw [HT2.out] at h; cases h)⟩
      rw [HT2.out]
      intro x hx
      cases hx
      have hne8 : ∀ z : Nat, z ≤ rb → ¬ z = w.heap.size := fun z hz h => by omega
      have FR := FRS.out
      refine Lib.hid ⟨_, rfl, rfl, ⟨hok.out.fr, (hok.out.below B8.out).d.only oy (fun x hx _ h => by have := FR.1 x hx; omega), (hok.out.below B8.out).c.only oy (fun x hx _ h => by have := FR.2.1 x hx; omega), (hok.out.below B8.out).a.only oy (fun x hx _ h => by have := FR.2.2 x hx; omega)⟩, ⟨fun x hx => by have := FR.1 x hx; omega, fun x hx => by have := FR.2.1 x hx; omega, fun x hx => by have := FR.2.2 x hx; omega⟩, SM.out, (HRD.out.below B8.out).only oy hne8⟩

theorem readK_10 : readK 10 = readStream 2 := rfl
set_option maxHeartbeats 8000000 in
set_option maxRecDepth 100000 in
theorem rframe_10 (rb : Nat) (L L1 : List Int) (w : World) (h : RdB w rb L) (hl : L.length ≤ 1000000) (hk : tk L = some (10, L1)) (hsz : (L.length : Int) - L1.length = sizeF 10) :
    Calls Try.prog 25 #[.pointer (some ⟨rb, 0, none⟩)] w fun e w' => Only (· = rb) w w' ∧ (∀ x, readF L = some x → Hid (RF w' rb w.heap.size x.1 x.2 e)) ∧ (readF L = none → e = failE) := by
  have HR := Lib.hid h
  have hby := h.byte
  have lrb := h.lt
  obtain ⟨A, cap, m, rb1, rm, rs, rx⟩ := h
  have r0 := Blk.cell rb1 0 _ rfl
  have RM := Lib.hid rm
  have hmb : m ≤ 1000000 := by omega
  have HK := Lib.hid hk
  clear rb1 rm rs rx
  have hle1 := tk_le hk
  dsimp only at hle1
  have vk := tk_bnd hby hk
  dsimp only at vk
  have HL1 := Lib.hid (show L1.length ≤ 1000000 by omega)
  have HBY1 := Lib.hid (show ∀ x ∈ L1, Byte x from (tk_gives L _ L1 hk hby).1)
  have HSZ := Lib.hid hsz
  obtain ⟨RS, hRS⟩ : ∃ RS, readF L = RS := ⟨_, rfl⟩
  have HGO := Lib.hid (show RS = finR (readK 10 L1) by rw [← hRS]; exact readF_go hk hsz)
  rw [hRS]
  clear hRS hk hsz hle1
  go_enter Try.func25, Try.ntmps25
  go_wp2_with (fail)
  have kb0 := (Below.refl w.heap.size w).alloc (Nat.le_refl _) (.cells (fm0 0).vals 36)
  refine (rn_any rb L _ (HR.out.below kb0)).mono ?_
  rintro e w2 ⟨o2, hy2, hn2⟩
  obtain ⟨rfl, hr2⟩ := hy2 _ HK.out
  have HR2 : Hid (RdB w2 rb L1) := hr2
  have HZ2 := Lib.hid (show FB w2 w.heap.size (fm0 0) from o2.blk (fm0_at rfl) (fun h => by have h2 : w.heap.size = rb := h; omega))
  have OO2 := Lib.hid ((only_of_below kb0 (· = rb)).trans o2)
  have lz2 : w.heap.size < w2.heap.size := by have := o2.size; simp at this; omega
  obtain ⟨A2, cap2, m2, rb2, rm2, rs2, rx2⟩ := HR2.out
  have r2 := Blk.cell rb2 0 _ rfl
  have lrb2 : rb < w2.heap.size := by omega
  have hmb2 : m2 ≤ 1000000 := by have := HL1.out; omega
  have hsz2 : (m : Int) - m2 = sizeF 10 ∨ ¬ (m : Int) - m2 = sizeF 10 := Decidable.em _
  have hsm := size_le 10
  have hsm0 : 0 ≤ sizeF 10 := by omega
  have HSM := Lib.hid (show ((m : Int) - m2 = sizeF 10) ↔ ((L.length : Int) - L1.length = sizeF 10) by rw [RM.out, rm2])
  clear hy2 hn2 o2 kb0 rb2 rm2 rs2 rx2 hr2 hsz2
  obtain ⟨sz, hszv⟩ : ∃ s : Nat, sizeF 10 = s := ⟨_, rfl⟩
  have HSV := Lib.hid hszv
  clear hsm hsm0
  rw [hszv] at HSM
  have hq : ((m : Int) - m2 == (sz : Int)) = true := by simp only [beq_iff_eq]; rw [HSM.out, ← HSV.out]; exact HSZ.out
  clear hszv
  go_wp2_with (fail)
  refine rg_start 11 ?_
  refine rg_below fun KK hx hne hC hbel => ?_
  have k0 := fun z : Wd KK => (hx z _ 0 _ lrb2).trans r2
  clear hx
  refine rg_quiet 3 [0,1,2,3,4,5,6,7] hC ?_
  simp only [pickD, List.map_cons, List.map_nil, List.getD_cons_zero, List.getD_cons_succ]; repeat (go_big_quiet_step (fail))
  refine wpQuiet_nil ?_
  refine rg_act 8 ?_
  go_wp2_with (fail)
  refine (size_any 10 _ vk.1 (by omega)).mono ?_
  rintro e w3 ⟨rfl, rfl⟩
  rw [HSV.out]
  go_wp2_with (fail)
  refine ⟨hbel _ (Below.refl _ _), ?_⟩
  refine rg_quiet 1 [9] (hbel _ (Below.refl _ _)) ?_
  simp only [pickD, List.map_cons, List.map_nil, List.getD_cons_zero, List.getD_cons_succ]; repeat (go_big_quiet_step (fail))
  refine wpQuiet_nil ?_
  refine rg_cut 10 ?_
  go_wp2_with (fail)
  refine (must_true _).mono ?_
  rintro e w4 ⟨rfl, rfl⟩
  clear hbel hC hne k0
  go_wp2_with (fail)
  refine rg_end0 ?_
  go_wp2_with (with_reducible refine stop_stf ?_)
  refine Stop.out ?_
  refine wpList_storeF rfl rfl (fm0 10) (fm0 0) rfl rfl rfl rfl (fm0_at rfl) ?_
  intro w5 hb5 o5
  replace hb5 : FB w5 w2.heap.size (fm0 10) := hb5
  replace o5 : Only (· = w2.heap.size) (w2.drew.alloc (.cells (fm0 0).vals 36)) w5 := o5
  have bd : Below w2.heap.size w2 (w2.drew.alloc (.cells (fm0 0).vals 36)) := ((Below.refl _ w2).drew).alloc (Nat.le_refl _) _
  have b25 : Below w2.heap.size w2 w5 := below_onto bd o5 bd.size (by intro z hz h; omega)
  have HF5 := Lib.hid hb5
  have HZ5 := Lib.hid (FB.below HZ2.out b25)
  have HR5 := Lib.hid (HR2.out.below b25)
  have OO5 := Lib.hid (OO2.out.trans (only_of_below b25 (· = rb)))
  have hne : w2.heap.size ≠ rb := by omega
  have hnz : w.heap.size ≠ rb := by omega
  have lfb : w.heap.size < w2.heap.size := by omega
  have lrf : rb < w2.heap.size := by omega
  have HLF := Lib.hid (show w2.heap.size < w5.heap.size from Blk.lt hb5)
  clear r0 r2 lrb2 lz2 hq hb5 o5 bd b25
  generalize w2.heap.size = fb at *
  go_wp2_with (fail)
  refine (rstream_2 rb fb L1 10 _ HR5.out HL1.out HF5.out lrf).mono ?_
  rintro e w10 ⟨o10, hy10, hn10⟩
  have HY10 := Lib.hid hy10
  have HN10 := Lib.hid hn10
  have OS10 := Lib.hid (OO5.out.trans' o10 (fun z hz hs => by rcases hs with h | h; exact h; omega))
  have ZS10 := Lib.hid (FB.only HZ5.out o10 (by omega))
  clear hy10 hn10 o10
  cases h10 : readStream 2 L1 with
  | none =>
    have he := HN10.out h10
    rw [failE] at he
    subst he
    have HT := Lib.hid (show RS = none from HGO.out.trans (finR_none (by rw [readK_10]; exact h10)))
    clear h10
    go_wp2_with (fail)
    exact ⟨rfl, OS10.out, (fun x hx => by rw [HT.out] at hx; cases hx), (fun _ => rfl)⟩
  | some x =>
    obtain ⟨f, LZ⟩ := x
    obtain ⟨rfl, hrq⟩ := HY10.out _ h10
    obtain ⟨⟨q, hqf, hqb, hqc, hqd, hqe, hqa, hqr⟩, hrd⟩ := hrq.out
    have hqf : q.f = f := hqf
    subst hqf
    have HF := Lib.hid (show readK 10 L1 = some (q.f, LZ) by rw [readK_10]; exact h10)
    have HQB := Lib.hid hqb
    have HRD := Lib.hid (show RdB w10 rb LZ from hrd)
    have HQ := Lib.hid (show Sl .u8 w10 q.da q.dc q.f.data ∧ Sl .u8 w10 q.ca q.cc q.f.cid ∧ Rs w10 q.aa q.ac q.f.acks from ⟨hqd, hqe, hqa⟩)
    have FRS := Lib.hid (show q.fresh fb from ⟨fun x hx => by have := hqr.1 x hx; have := HLF.out; omega, fun x hx => by have := hqr.2.1 x hx; have := HLF.out; omega, fun x hx => by have := hqr.2.2 x hx; have := HLF.out; omega⟩)
    have HQC := Lib.hid hqc
    clear h10 HY10 HN10 hqb hqc hqd hqe hqa hqr hrd hrq
    have FOK := Lib.hid (show FrOk q.f ∧ q.f.data.length ≤ 1000000 ∧ q.f.acks.length ≤ 1000001 by
      obtain ⟨_, n, hn, res⟩ := readK_gives 10 (by omega) L1 q.f LZ HF.out HBY1.out
      have h1 := HL1.out
      have h2 := res.data
      have h3 := res.acks
      exact ⟨res.ok, by omega, by omega⟩)
    have SM := Lib.hid (show q.sm from ⟨FOK.out.2.1, by have := HQC.out; omega, by have := FOK.out.2.2; omega⟩)
    have hok := Lib.hid (show q.ok w10 from ⟨FOK.out.1, HQ.out.1, HQ.out.2.1, HQ.out.2.2⟩)
    have HT1 := Lib.hid (show RS = finR (some (q.f, LZ)) from HGO.out.trans (congrArg finR HF.out))
    go_wp2_with (with_reducible refine stop_ldf ?_)
    refine Stop.out ?_
    refine wpList_loadF rfl rfl q hok.out.fr.tok16 rfl HQB.out ?_
    go_wp2_with (fail)
    refine (may_any q _ hok.out (by have := SM.out.d; omega) SM.out.c (by have := SM.out.a; omega)).mono ?_
    cases hm : mayF q.f with
    | false =>
      have HT2 := Lib.hid (show RS = none from HT1.out.trans (finR_no hm))
      clear hm
      rintro e w8 ⟨rfl, b8⟩
      go_wp2_with (fail)
      refine (must_false _).mono ?_
      rintro e w9 ⟨he, rfl⟩
      rw [failE] at he
      subst he
      go_wp2_with (fail)
      exact ⟨rfl, OS10.out.trans (only_of_below b8 _), (fun x hx => by rw [HT2.out] at hx; cases hx), (fun _ => rfl)⟩
    | true =>
      have HT2 := Lib.hid (show RS = some (q.f, LZ) from HT1.out.trans (finR_may hm))
      clear hm
      rintro e w8 ⟨rfl, b8⟩
      have B8 := Lib.hid b8
      clear b8
      go_wp2_with (fail)
      refine (must_true _).mono ?_
      rintro e w9 ⟨rfl, rfl⟩
      have HF8 := Lib.hid (FB.below HQB.out B8.out)
      have HZ8 := Lib.hid (FB.below ZS10.out B8.out)
      go_wp2_with (with_reducible refine stop_ldf ?_)
      refine Stop.out ?_
      refine wpList_loadF rfl rfl q hok.out.fr.tok16 rfl HF8.out ?_
      go_wp2_with (with_reducible refine stop_stf ?_)
      refine Stop.out ?_
      refine wpList_storeF rfl rfl q (fm0 0) hok.out.fr.tok16 rfl rfl rfl HZ8.out ?_
      intro wy hby' oy
      go_wp2_with (fail)
      refine bodyPost_ret (results_cell_row rfl _ _ _ _ _ _ _ rfl hby' Try.underlying36 rfl (by rw [FM.size _ hok.out.fr.tok16]; exact fr_size)) rfl ?_
      refine ⟨(OS10.out.trans (only_of_below B8.out _)).trans' oy (fun z hz hs => by omega), ?_, (fun h => by rw [HT2.out] at h; cases h)⟩
      rw [HT2.out]
      intro x hx
      cases hx
      have hne8 : ∀ z : Nat, z ≤ rb → ¬ z = w.heap.size := fun z hz h => by omega
      have FR := FRS.out
      refine Lib.hid ⟨_, rfl, rfl, ⟨hok.out.fr, (hok.out.below B8.out).d.only oy (fun x hx _ h => by have := FR.1 x hx; omega), (hok.out.below B8.out).c.only oy (fun x hx _ h => by have := FR.2.1 x hx; omega), (hok.out.below B8.out).a.only oy (fun x hx _ h => by have := FR.2.2 x hx; omega)⟩, ⟨fun x hx => by have := FR.1 x hx; omega, fun x hx => by have := FR.2.1 x hx; omega, fun x hx => by have := FR.2.2 x hx; omega⟩, SM.out, (HRD.out.below B8.out).only oy hne8⟩

theorem readK_11 : readK 11 = readStream 3 := rfl
set_option maxHeartbeats 8000000 in
set_option maxRecDepth 100000 in
theorem rframe_11 (rb : Nat) (L L1 : List Int) (w : World) (h : RdB w rb L) (hl : L.length ≤ 1000000) (hk : tk L = some (11, L1)) (hsz : (L.length : Int) - L1.length = sizeF 11) :
    Calls Try.prog 25 #[.pointer (some ⟨rb, 0, none⟩)] w fun e w' => Only (· = rb) w w' ∧ (∀ x, readF L = some x → Hid (RF w' rb w.heap.size x.1 x.2 e)) ∧ (readF L = none → e = failE) := by
  have HR := Lib.hid h
  have hby := h.byte
  have lrb := h.lt
  obtain ⟨A, cap, m, rb1, rm, rs, rx⟩ := h
  have r0 := Blk.cell rb1 0 _ rfl
  have RM := Lib.hid rm
  have hmb : m ≤ 1000000 := by omega
  have HK := Lib.hid hk
  clear rb1 rm rs rx
  have hle1 := tk_le hk
  dsimp only at hle1
  have vk := tk_bnd hby hk
  dsimp only at vk
  have HL1 := Lib.hid (show L1.length ≤ 1000000 by omega)
  have HBY1 := Lib.hid (show ∀ x ∈ L1, Byte x from (tk_gives L _ L1 hk hby).1)
  have HSZ := Lib.hid hsz
  obtain ⟨RS, hRS⟩ : ∃ RS, readF L = RS := ⟨_, rfl⟩
  have HGO := Lib.hid (show RS = finR (readK 11 L1) by rw [← hRS]; exact readF_go hk hsz)
  rw [hRS]
  clear hRS hk hsz hle1
  go_enter Try.func25, Try.ntmps25
  go_wp2_with (fail)
  have kb0 := (Below.refl w.heap.size w).alloc (Nat.le_refl _) (.cells (fm0 0).vals 36)
  refine (rn_any rb L _ (HR.out.below kb0)).mono ?_
  rintro e w2 ⟨o2, hy2, hn2⟩
  obtain ⟨rfl, hr2⟩ := hy2 _ HK.out
  have HR2 : Hid (RdB w2 rb L1) := hr2
  have HZ2 := Lib.hid (show FB w2 w.heap.size (fm0 0) from o2.blk (fm0_at rfl) (fun h => by have h2 : w.heap.size = rb := h; omega))
  have OO2 := Lib.hid ((only_of_below kb0 (· = rb)).trans o2)
  have lz2 : w.heap.size < w2.heap.size := by have := o2.size; simp at this; omega
  obtain ⟨A2, cap2, m2, rb2, rm2, rs2, rx2⟩ := HR2.out
  have r2 := Blk.cell rb2 0 _ rfl
  have lrb2 : rb < w2.heap.size := by omega
  have hmb2 : m2 ≤ 1000000 := by have := HL1.out; omega
  have hsz2 : (m : Int) - m2 = sizeF 11 ∨ ¬ (m : Int) - m2 = sizeF 11 := Decidable.em _
  have hsm := size_le 11
  have hsm0 : 0 ≤ sizeF 11 := by omega
  have HSM := Lib.hid (show ((m : Int) - m2 = sizeF 11) ↔ ((L.length : Int) - L1.length = sizeF 11) by rw [RM.out, rm2])
  clear hy2 hn2 o2 kb0 rb2 rm2 rs2 rx2 hr2 hsz2
  obtain ⟨sz, hszv⟩ : ∃ s : Nat, sizeF 11 = s := ⟨_, rfl⟩
  have HSV := Lib.hid hszv
  clear hsm hsm0
  rw [hszv] at HSM
  have hq : ((m : Int) - m2 == (sz : Int)) = true := by simp only [beq_iff_eq]; rw [HSM.out, ← HSV.out]; exact HSZ.out
  clear hszv
  go_wp2_with (fail)
  refine rg_start 11 ?_
  refine rg_below fun KK hx hne hC hbel => ?_
  have k0 := fun z : Wd KK => (hx z _ 0 _ lrb2).trans r2
  clear hx
  refine rg_quiet 3 [0,1,2,3,4,5,6,7] hC ?_
  simp only [pickD, List.map_cons, List.map_nil, List.getD_cons_zero, List.getD_cons_succ]; repeat (go_big_quiet_step (fail))
  refine wpQuiet_nil ?_
  refine rg_act 8 ?_
  go_wp2_with (fail)
  refine (size_any 11 _ vk.1 (by omega)).mono ?_
  rintro e w3 ⟨rfl, rfl⟩
  rw [HSV.out]
  go_wp2_with (fail)
  refine ⟨hbel _ (Below.refl _ _), ?_⟩
  refine rg_quiet 1 [9] (hbel _ (Below.refl _ _)) ?_
  simp only [pickD, List.map_cons, List.map_nil, List.getD_cons_zero, List.getD_cons_succ]; repeat (go_big_quiet_step (fail))
  refine wpQuiet_nil ?_
  refine rg_cut 10 ?_
  go_wp2_with (fail)
  refine (must_true _).mono ?_
  rintro e w4 ⟨rfl, rfl⟩
  clear hbel hC hne k0
  go_wp2_with (fail)
  refine rg_end0 ?_
  go_wp2_with (with_reducible refine stop_stf ?_)
  refine Stop.out ?_
  refine wpList_storeF rfl rfl (fm0 11) (fm0 0) rfl rfl rfl rfl (fm0_at rfl) ?_
  intro w5 hb5 o5
  replace hb5 : FB w5 w2.heap.size (fm0 11) := hb5
  replace o5 : Only (· = w2.heap.size) (w2.drew.alloc (.cells (fm0 0).vals 36)) w5 := o5
  have bd : Below w2.heap.size w2 (w2.drew.alloc (.cells (fm0 0).vals 36)) := ((Below.refl _ w2).drew).alloc (Nat.le_refl _) _
  have b25 : Below w2.heap.size w2 w5 := below_onto bd o5 bd.size (by intro z hz h; omega)
  have HF5 := Lib.hid hb5
  have HZ5 := Lib.hid (FB.below HZ2.out b25)
  have HR5 := Lib.hid (HR2.out.below b25)
  have OO5 := Lib.hid (OO2.out.trans (only_of_below b25 (· = rb)))
  have hne : w2.heap.size ≠ rb := by omega
  have hnz : w.heap.size ≠ rb := by omega
  have lfb : w.heap.size < w2.heap.size := by omega
  have lrf : rb < w2.heap.size := by omega
  have HLF := Lib.hid (show w2.heap.size < w5.heap.size from Blk.lt hb5)
  clear r0 r2 lrb2 lz2 hq hb5 o5 bd b25
  generalize w2.heap.size = fb at *
  go_wp2_with (fail)
  refine (rstream_3 rb fb L1 11 _ HR5.out HL1.out HF5.out lrf).mono ?_
  rintro e w10 ⟨o10, hy10, hn10⟩
  have HY10 := Lib.hid hy10
  have HN10 := Lib.hid hn10
  have OS10 := Lib.hid (OO5.out.trans' o10 (fun z hz hs => by rcases hs with h | h; exact h; omega))
  have ZS10 := Lib.hid (FB.only HZ5.out o10 (by omega))
  clear hy10 hn10 o10
  cases h10 : readStream 3 L1 with
  | none =>
    have he := HN10.out h10
    rw [failE] at he
    subst he
    have HT := Lib.hid (show RS = none from HGO.out.trans (finR_none (by rw [readK_11]; exact h10)))
    clear h10
    go_wp2_with (fail)
    exact ⟨rfl, OS10.out, (fun x hx => by rw [HT.out] at hx; cases hx), (fun _ => rfl)⟩
  | some x =>
    obtain ⟨f, LZ⟩ := x
    obtain ⟨rfl, hrq⟩ := HY10.out _ h10
    obtain ⟨⟨q, hqf, hqb, hqc, hqd, hqe, hqa, hqr⟩, hrd⟩ := hrq.out
    have hqf : q.f = f := hqf
    subst hqf
    have HF := Lib.hid (show readK 11 L1 = some (q.f, LZ) by rw [readK_11]; exact h10)
    have HQB := Lib.hid hqb
    have HRD := Lib.hid (show RdB w10 rb LZ from hrd)
    have HQ := Lib.hid (show Sl .u8 w10 q.da q.dc q.f.data ∧ Sl .u8 w10 q.ca q.cc q.f.cid ∧ Rs w10 q.aa q.ac q.f.acks from ⟨hqd, hqe, hqa⟩)
    have FRS := Lib.hid (show q.fresh fb from ⟨fun x hx => by have := hqr.1 x hx; have := HLF.out; omega, fun x hx => by have := hqr.2.1 x hx; have := HLF.out; omega, fun x hx => by have := hqr.2.2 x hx; have := HLF.out; omega⟩)
    have HQC := Lib.hid hqc
    clear h10 HY10 HN10 hqb hqc hqd hqe hqa hqr hrd hrq
    have FOK := Lib.hid (show FrOk q.f ∧ q.f.data.length ≤ 1000000 ∧ q.f.acks.length ≤ 1000001 by
      obtain ⟨_, n, hn, res⟩ := readK_gives 11 (by omega) L1 q.f LZ HF.out HBY1.out
      have h1 := HL1.out
      have h2 := res.data
      have h3 := res.acks
      exact ⟨res.ok, by omega, by omega⟩)
    have SM := Lib.hid (show q.sm from ⟨FOK.out.2.1, by have := HQC.out; omega, by have := FOK.out.2.2; omega⟩)
    have hok := Lib.hid (show q.ok w10 from ⟨FOK.out.1, HQ.out.1, HQ.out.2.1, HQ.out.2.2⟩)
    have HT1 := Lib.hid (show RS = finR (some (q.f, LZ)) from HGO.out.trans (congrArg finR HF.out))
    go_wp2_with (with_reducible refine stop_ldf ?_)
    refine Stop.out ?_
    refine wpList_loadF rfl rfl q hok.out.fr.tok16 rfl HQB.out ?_
    go_wp2_with (fail)
    refine (may_any q _ hok.out (by have := SM.out.d; omega) SM.out.c (by have := SM.out.a; omega)).mono ?_
    cases hm : mayF q.f with
    | false =>
      have HT2 := Lib.hid (show RS = none from HT1.out.trans (finR_no hm))
      clear hm
      rintro e w8 ⟨rfl, b8⟩
      go_wp2_with (fail)
      refine (must_false _).mono ?_
      rintro e w9 ⟨he, rfl⟩
      rw [failE] at he
      subst he
      go_wp2_with (fail)
      exact ⟨rfl, OS10.out.trans (only_of_below b8 _), (fun x hx => by rw [HT2.out] at hx; cases hx), (fun _ => rfl)⟩
    | true =>
      have HT2 := Lib.hid (show RS = some (q.f, LZ) from HT1.out.trans (finR_may hm))
      clear hm
      rintro e w8 ⟨rfl, b8⟩
      have B8 := Lib.hid b8
      clear b8
      go_wp2_with (fail)
      refine (must_true _).mono ?_
      rintro e w9 ⟨rfl, rfl⟩
      have HF8 := Lib.hid (FB.below HQB.out B8.out)
      have HZ8 := Lib.hid (FB.below ZS10.out B8.out)
      go_wp2_with (with_reducible refine stop_ldf ?_)
      refine Stop.out ?_
      refine wpList_loadF rfl rfl q hok.out.fr.tok16 rfl HF8.out ?_
      go_wp2_with (with_reducible refine stop_stf ?_)
      refine Stop.out ?_
      refine wpList_storeF rfl rfl q (fm0 0) hok.out.fr.tok16 rfl rfl rfl HZ8.out ?_
      intro wy hby' oy
      go_wp2_with (fail)
      refine bodyPost_ret (results_cell_row rfl _ _ _ _ _ _ _ rfl hby' Try.underlying36 rfl (by rw [FM.size _ hok.out.fr.tok16]; exact fr_size)) rfl ?_
      refine ⟨(OS10.out.trans (only_of_below B8.out _)).trans' oy (fun z hz hs => by omega), ?_, (fun h => by rw [HT2.out] at h; cases h)⟩
      rw [HT2.out]
      intro x hx
      cases hx
      have hne8 : ∀ z : Nat, z ≤ rb → ¬ z = w.heap.size := fun z hz h => by omega
      have FR := FRS.out
      refine Lib.hid ⟨_, rfl, rfl, ⟨hok.out.fr, (hok.out.below B8.out).d.only oy (fun x hx _ h => by have := FR.1 x hx; omega), (hok.out.below B8.out).c.only oy (fun x hx _ h => by have := FR.2.1 x hx; omega), (hok.out.below B8.out).a.only oy (fun x hx _ h => by have := FR.2.2 x hx; omega)⟩, ⟨fun x hx => by have := FR.1 x hx; omega, fun x hx => by have := FR.2.1 x hx; omega, fun x hx => by have := FR.2.2 x hx; omega⟩, SM.out, (HRD.out.below B8.out).only oy hne8⟩

end Frm
end Go.Proofs.Ytcpjehgoeibbeaa

/- The reader: a frame (written by gen_frr4.py). -/
namespace Go.Proofs.Ytcpjehgoeibbeaa
open Go.RowKit
set_option linter.unusedVariables false
namespace Frm
open Var

theorem readK_12 : readK 12 = readStream 4 := rfl
set_option maxHeartbeats 8000000 in
set_option maxRecDepth 100000 in
theorem rframe_12 (rb : Nat) (L L1 : List Int) (w : World) (h : RdB w rb L) (hl : L.length ≤ 1000000) (hk : tk L = some (12, L1)) (hsz : (L.length : Int) - L1.length = sizeF 12) :
    Calls Try.prog 25 #[.pointer (some ⟨rb, 0, none⟩)] w fun e w' => Only (· = rb) w w' ∧ (∀ x, readF L = some x → Hid (RF w' rb w.heap.size x.1 x.2 e)) ∧ (readF L = none → e = failE) := by
  have HR := Lib.hid h
  have hby := h.byte
  have lrb := h.lt
  obtain ⟨A, cap, m, rb1, rm, rs, rx⟩ := h
  have r0 := Blk.cell rb1 0 _ rfl
  have RM := Lib.hid rm
  have hmb : m ≤ 1000000 := by omega
  have HK := Lib.hid hk
  clear rb1 rm rs rx
  have hle1 := tk_le hk
  dsimp only at hle1
  have vk := tk_bnd hby hk
  dsimp only at vk
  have HL1 := Lib.hid (show L1.length ≤ 1000000 by omega)
  have HBY1 := Lib.hid (show ∀ x ∈ L1, Byte x from (tk_gives L _ L1 hk hby).1)
  have HSZ := Lib.hid hsz
  obtain ⟨RS, hRS⟩ : ∃ RS, readF L = RS := ⟨_, rfl⟩
  have HGO := Lib.hid (show RS = finR (readK 12 L1) by rw [← hRS]; exact readF_go hk hsz)
  rw [hRS]
  clear hRS hk hsz hle1
  go_enter Try.func25, Try.ntmps25
  go_wp2_with (fail)
  have kb0 := (Below.refl w.heap.size w).alloc (Nat.le_refl _) (.cells (fm0 0).vals 36)
  refine (rn_any rb L _ (HR.out.below kb0)).mono ?_
  rintro e w2 ⟨o2, hy2, hn2⟩
  obtain ⟨rfl, hr2⟩ := hy2 _ HK.out
  have HR2 : Hid (RdB w2 rb L1) := hr2
  have HZ2 := Lib.hid (show FB w2 w.heap.size (fm0 0) from o2.blk (fm0_at rfl) (fun h => by have h2 : w.heap.size = rb := h; omega))
  have OO2 := Lib.hid ((only_of_below kb0 (· = rb)).trans o2)
  have lz2 : w.heap.size < w2.heap.size := by have := o2.size; simp at this; omega
  obtain ⟨A2, cap2, m2, rb2, rm2, rs2, rx2⟩ := HR2.out
  have r2 := Blk.cell rb2 0 _ rfl
  have lrb2 : rb < w2.heap.size := by omega
  have hmb2 : m2 ≤ 1000000 := by have := HL1.out; omega
  have hsz2 : (m : Int) - m2 = sizeF 12 ∨ ¬ (m : Int) - m2 = sizeF 12 := Decidable.em _
  have hsm := size_le 12
  have hsm0 : 0 ≤ sizeF 12 := by omega
  have HSM := Lib.hid (show ((m : Int) - m2 = sizeF 12) ↔ ((L.length : Int) - L1.length = sizeF 12) by rw [RM.out, rm2])
  clear hy2 hn2 o2 kb0 rb2 rm2 rs2 rx2 hr2 hsz2
  obtain ⟨sz, hszv⟩ : ∃ s : Nat, sizeF 12 = s := ⟨_, rfl⟩
  have HSV := Lib.hid hszv
  clear hsm hsm0
  rw [hszv] at HSM
  have hq : ((m : Int) - m2 == (sz : Int)) = true := by simp only [beq_iff_eq]; rw [HSM.out, ← HSV.out]; exact HSZ.out
  clear hszv
  go_wp2_with (fail)
  refine rg_start 11 ?_
  refine rg_below fun KK hx hne hC hbel => ?_
  have k0 := fun z : Wd KK => (hx z _ 0 _ lrb2).trans r2
  clear hx
  refine rg_quiet 3 [0,1,2,3,4,5,6,7] hC ?_
  simp only [pickD, List.map_cons, List.map_nil, List.getD_cons_zero, List.getD_cons_succ]; repeat (go_big_quiet_step (fail))
  refine wpQuiet_nil ?_
  refine rg_act 8 ?_
  go_wp2_with (fail)
  refine (size_any 12 _ vk.1 (by omega)).mono ?_
  rintro e w3 ⟨rfl, rfl⟩
  rw [HSV.out]
  go_wp2_with (fail)
  refine ⟨hbel _ (Below.refl _ _), ?_⟩
  refine rg_quiet 1 [9] (hbel _ (Below.refl _ _)) ?_
  simp only [pickD, List.map_cons, List.map_nil, List.getD_cons_zero, List.getD_cons_succ]; repeat (go_big_quiet_step (fail))
  refine wpQuiet_nil ?_
  refine rg_cut 10 ?_
  go_wp2_with (fail)
  refine (must_true _).mono ?_
  rintro e w4 ⟨rfl, rfl⟩
  clear hbel hC hne k0
  go_wp2_with (fail)
  refine rg_end0 ?_
  go_wp2_with (with_reducible refine stop_stf ?_)
  refine Stop.out ?_
  refine wpList_storeF rfl rfl (fm0 12) (fm0 0) rfl rfl rfl rfl (fm0_at rfl) ?_
  intro w5 hb5 o5
  replace hb5 : FB w5 w2.heap.size (fm0 12) := hb5
  replace o5 : Only (· = w2.heap.size) (w2.drew.alloc (.cells (fm0 0).vals 36)) w5 := o5
  have bd : Below w2.heap.size w2 (w2.drew.alloc (.cells (fm0 0).vals 36)) := ((Below.refl _ w2).drew).alloc (Nat.le_refl _) _
  have b25 : Below w2.heap.size w2 w5 := below_onto bd o5 bd.size (by intro z hz h; omega)
  have HF5 := Lib.hid hb5
  have HZ5 := Lib.hid (FB.below HZ2.out b25)
  have HR5 := Lib.hid (HR2.out.below b25)
  have OO5 := Lib.hid (OO2.out.trans (only_of_below b25 (· = rb)))
  have hne : w2.heap.size ≠ rb := by omega
  have hnz : w.heap.size ≠ rb := by omega
  have lfb : w.heap.size < w2.heap.size := by omega
  have lrf : rb < w2.heap.size := by omega
  have HLF := Lib.hid (show w2.heap.size < w5.heap.size from Blk.lt hb5)
  clear r0 r2 lrb2 lz2 hq hb5 o5 bd b25
  generalize w2.heap.size = fb at *
  go_wp2_with (fail)
  refine (rstream_4 rb fb L1 12 _ HR5.out HL1.out HF5.out lrf).mono ?_
  rintro e w10 ⟨o10, hy10, hn10⟩
  have HY10 := Lib.hid hy10
  have HN10 := Lib.hid hn10
  have OS10 := Lib.hid (OO5.out.trans' o10 (fun z hz hs => by rcases hs with h | h; exact h; omega))
  have ZS10 := Lib.hid (FB.only HZ5.out o10 (by omega))
  clear hy10 hn10 o10
  cases h10 : readStream 4 L1 with
  | none =>
    have he := HN10.out h10
    rw [failE] at he
    subst he
    have HT := Lib.hid (show RS = none from HGO.out.trans (finR_none (by rw [readK_12]; exact h10)))
    clear h10
    go_wp2_with (fail)
    exact ⟨rfl, OS10.out, (fun x hx => by rw [HT.out] at hx; cases hx), (fun _ => rfl)⟩
  | some x =>
    obtain ⟨f, LZ⟩ := x
    obtain ⟨rfl, hrq⟩ := HY10.out _ h10
    obtain ⟨⟨q, hqf, hqb, hqc, hqd, hqe, hqa, hqr⟩, hrd⟩ := hrq.out
    have hqf : q.f = f := hqf
    subst hqf
    have HF := Lib.hid (show readK 12 L1 = some (q.f, LZ) by rw [readK_12]; exact h10)
    have HQB := Lib.hid hqb
    have HRD := Lib.hid (show RdB w10 rb LZ from hrd)
    have HQ := Lib.hid (show Sl .u8 w10 q.da q.dc q.f.data ∧ Sl .u8 w10 q.ca q.cc q.f.cid ∧ Rs w10 q.aa q.ac q.f.acks from ⟨hqd, hqe, hqa⟩)
    have FRS := Lib.hid (show q.fresh fb from ⟨fun x hx => by have := hqr.1 x hx; have := HLF.out; omega, fun x hx => by have := hqr.2.1 x hx; have := HLF.out; omega, fun x hx => by have := hqr.2.2 x hx; have := HLF.out; omega⟩)
    have HQC := Lib.hid hqc
    clear h10 HY10 HN10 hqb hqc hqd hqe hqa hqr hrd hrq
    have FOK := Lib.hid (show FrOk q.f ∧ q.f.data.length ≤ 1000000 ∧ q.f.acks.length ≤ 1000001 by
      obtain ⟨_, n, hn, res⟩ := readK_gives 12 (by omega) L1 q.f LZ HF.out HBY1.out
      have h1 := HL1.out
      have h2 := res.data
      have h3 := res.acks
      exact ⟨res.ok, by omega, by omega⟩)
    have SM := Lib.hid (show q.sm from ⟨FOK.out.2.1, by have := HQC.out; omega, by have := FOK.out.2.2; omega⟩)
    have hok := Lib.hid (show q.ok w10 from ⟨FOK.out.1, HQ.out.1, HQ.out.2.1, HQ.out.2.2⟩)
    have HT1 := Lib.hid (show RS = finR (some (q.f, LZ)) from HGO.out.trans (congrArg finR HF.out))
    go_wp2_with (with_reducible refine stop_ldf ?_)
    refine Stop.out ?_
    refine wpList_loadF rfl rfl q hok.out.fr.tok16 rfl HQB.out ?_
    go_wp2_with (fail)
    refine (may_any q _ hok.out (by have := SM.out.d; omega) SM.out.c (by have := SM.out.a; omega)).mono ?_
    cases hm : mayF q.f with
    | false =>
      have HT2 := Lib.hid (show RS = none from HT1.out.trans (finR_no hm))
      clear hm
      rintro e w8 ⟨rfl, b8⟩
      go_wp2_with (fail)
      refine (must_false _).mono ?_
      rintro e w9 ⟨he, rfl⟩
      rw [failE] at he
      subst he
      go_wp2_with (fail)
      exact ⟨rfl, OS10.out.trans (only_of_below b8 _), (fun x hx => by rw [HT2.out] at hx; cases hx), (fun _ => rfl)⟩
    | true =>
      have HT2 := Lib.hid (show RS = some (q.f, LZ) from HT1.out.trans (finR_may hm))
      clear hm
      rintro e w8 ⟨rfl, b8⟩
      have B8 := Lib.hid b8
      clear b8
      go_wp2_with (fail)
      refine (must_true _).mono ?_
      rintro e w9 ⟨rfl, rfl⟩
      have HF8 := Lib.hid (FB.below HQB.out B8.out)
      have HZ8 := Lib.hid (FB.below ZS10.out B8.out)
      go_wp2_with (with_reducible refine stop_ldf ?_)
      refine Stop.out ?_
      refine wpList_loadF rfl rfl q hok.out.fr.tok16 rfl HF8.out ?_
      go_wp2_with (with_reducible refine stop_stf ?_)
      refine Stop.out ?_
      refine wpList_storeF rfl rfl q (fm0 0) hok.out.fr.tok16 rfl rfl rfl HZ8.out ?_
      intro wy hby' oy
      go_wp2_with (fail)
      refine bodyPost_ret (results_cell_row rfl _ _ _ _ _ _ _ rfl hby' Try.underlying36 rfl (by rw [FM.size _ hok.out.fr.tok16]; exact fr_size)) rfl ?_
      refine ⟨(OS10.out.trans (only_of_below B8.out _)).trans' oy (fun z hz hs => by omega), ?_, (fun h => by rw [HT2.out] at h; cases h)⟩
      rw [HT2.out]
      intro x hx
      cases hx
      have hne8 : ∀ z : Nat, z ≤ rb → ¬ z = w.heap.size := fun z hz h => by omega
      have FR := FRS.out
      refine Lib.hid ⟨_, rfl, rfl, ⟨hok.out.fr, (hok.out.below B8.out).d.only oy (fun x hx _ h => by have := FR.1 x hx; omega), (hok.out.below B8.out).c.only oy (fun x hx _ h => by have := FR.2.1 x hx; omega), (hok.out.below B8.out).a.only oy (fun x hx _ h => by have := FR.2.2 x hx; omega)⟩, ⟨fun x hx => by have := FR.1 x hx; omega, fun x hx => by have := FR.2.1 x hx; omega, fun x hx => by have := FR.2.2 x hx; omega⟩, SM.out, (HRD.out.below B8.out).only oy hne8⟩

theorem readK_13 : readK 13 = readStream 5 := rfl
set_option maxHeartbeats 8000000 in
set_option maxRecDepth 100000 in
theorem rframe_13 (rb : Nat) (L L1 : List Int) (w : World) (h : RdB w rb L) (hl : L.length ≤ 1000000) (hk : tk L = some (13, L1)) (hsz : (L.length : Int) - L1.length = sizeF 13) :
    Calls Try.prog 25 #[.pointer (some ⟨rb, 0, none⟩)] w fun e w' => Only (· = rb) w w' ∧ (∀ x, readF L = some x → Hid (RF w' rb w.heap.size x.1 x.2 e)) ∧ (readF L = none → e = failE) := by
  have HR := Lib.hid h
  have hby := h.byte
  have lrb := h.lt
  obtain ⟨A, cap, m, rb1, rm, rs, rx⟩ := h
  have r0 := Blk.cell rb1 0 _ rfl
  have RM := Lib.hid rm
  have hmb : m ≤ 1000000 := by omega
  have HK := Lib.hid hk
  clear rb1 rm rs rx
  have hle1 := tk_le hk
  dsimp only at hle1
  have vk := tk_bnd hby hk
  dsimp only at vk
  have HL1 := Lib.hid (show L1.length ≤ 1000000 by omega)
  have HBY1 := Lib.hid (show ∀ x ∈ L1, Byte x from (tk_gives L _ L1 hk hby).1)
  have HSZ := Lib.hid hsz
  obtain ⟨RS, hRS⟩ : ∃ RS, readF L = RS := ⟨_, rfl⟩
  have HGO := Lib.hid (show RS = finR (readK 13 L1) by rw [← hRS]; exact readF_go hk hsz)
  rw [hRS]
  clear hRS hk hsz hle1
  go_enter Try.func25, Try.ntmps25
  go_wp2_with (fail)
  have kb0 := (Below.refl w.heap.size w).alloc (Nat.le_refl _) (.cells (fm0 0).vals 36)
  refine (rn_any rb L _ (HR.out.below kb0)).mono ?_
  rintro e w2 ⟨o2, hy2, hn2⟩
  obtain ⟨rfl, hr2⟩ := hy2 _ HK.out
  have HR2 : Hid (RdB w2 rb L1) := hr2
  have HZ2 := Lib.hid (show FB w2 w.heap.size (fm0 0) from o2.blk (fm0_at rfl) (fun h => by have h2 : w.heap.size = rb := h; omega))
  have OO2 := Lib.hid ((only_of_below kb0 (· = rb)).trans o2)
  have lz2 : w.heap.size < w2.heap.size := by have := o2.size; simp at this; omega
  obtain ⟨A2, cap2, m2, rb2, rm2, rs2, rx2⟩ := HR2.out
  have r2 := Blk.cell rb2 0 _ rfl
  have lrb2 : rb < w2.heap.size := by omega
  have hmb2 : m2 ≤ 1000000 := by have := HL1.out; omega
  have hsz2 : (m : Int) - m2 = sizeF 13 ∨ ¬ (m : Int) - m2 = sizeF 13 := Decidable.em _
  have hsm := size_le 13
  have hsm0 : 0 ≤ sizeF 13 := by omega
  have HSM := Lib.hid (show ((m : Int) - m2 = sizeF 13) ↔ ((L.length : Int) - L1.length = sizeF 13) by rw [RM.out, rm2])
  clear hy2 hn2 o2 kb0 rb2 rm2 rs2 rx2 hr2 hsz2
  obtain ⟨sz, hszv⟩ : ∃ s : Nat, sizeF 13 = s := ⟨_, rfl⟩
  have HSV := Lib.hid hszv
  clear hsm hsm0
  rw [hszv] at HSM
  have hq : ((m : Int) - m2 == (sz : Int)) = true := by simp only [beq_iff_eq]; rw [HSM.out, ← HSV.out]; exact HSZ.out
  clear hszv
  go_wp2_with (fail)
  refine rg_start 11 ?_
  refine rg_below fun KK hx hne hC hbel => ?_
  have k0 := fun z : Wd KK => (hx z _ 0 _ lrb2).trans r2
  clear hx
  refine rg_quiet 3 [0,1,2,3,4,5,6,7] hC ?_
  simp only [pickD, List.map_cons, List.map_nil, List.getD_cons_zero, List.getD_cons_succ]; repeat (go_big_quiet_step (fail))
  refine wpQuiet_nil ?_
  refine rg_act 8 ?_
  go_wp2_with (fail)
  refine (size_any 13 _ vk.1 (by omega)).mono ?_
  rintro e w3 ⟨rfl, rfl⟩
  rw [HSV.out]
  go_wp2_with (fail)
  refine ⟨hbel _ (Below.refl _ _), ?_⟩
  refine rg_quiet 1 [9] (hbel _ (Below.refl _ _)) ?_
  simp only [pickD, List.map_cons, List.map_nil, List.getD_cons_zero, List.getD_cons_succ]; repeat (go_big_quiet_step (fail))
  refine wpQuiet_nil ?_
  refine rg_cut 10 ?_
  go_wp2_with (fail)
  refine (must_true _).mono ?_
  rintro e w4 ⟨rfl, rfl⟩
  clear hbel hC hne k0
  go_wp2_with (fail)
  refine rg_end0 ?_
  go_wp2_with (with_reducible refine stop_stf ?_)
  refine Stop.out ?_
  refine wpList_storeF rfl rfl (fm0 13) (fm0 0) rfl rfl rfl rfl (fm0_at rfl) ?_
  intro w5 hb5 o5
  replace hb5 : FB w5 w2.heap.size (fm0 13) := hb5
  replace o5 : Only (· = w2.heap.size) (w2.drew.alloc (.cells (fm0 0).vals 36)) w5 := o5
  have bd : Below w2.heap.size w2 (w2.drew.alloc (.cells (fm0 0).vals 36)) := ((Below.refl _ w2).drew).alloc (Nat.le_refl _) _
  have b25 : Below w2.heap.size w2 w5 := below_onto bd o5 bd.size (by intro z hz h; omega)
  have HF5 := Lib.hid hb5
  have HZ5 := Lib.hid (FB.below HZ2.out b25)
  have HR5 := Lib.hid (HR2.out.below b25)
  have OO5 := Lib.hid (OO2.out.trans (only_of_below b25 (· = rb)))
  have hne : w2.heap.size ≠ rb := by omega
  have hnz : w.heap.size ≠ rb := by omega
  have lfb : w.heap.size < w2.heap.size := by omega
  have lrf : rb < w2.heap.size := by omega
  have HLF := Lib.hid (show w2.heap.size < w5.heap.size from Blk.lt hb5)
  clear r0 r2 lrb2 lz2 hq hb5 o5 bd b25
  generalize w2.heap.size = fb at *
  go_wp2_with (fail)
  refine (rstream_5 rb fb L1 13 _ HR5.out HL1.out HF5.out lrf).mono ?_
  rintro e w10 ⟨o10, hy10, hn10⟩
  have HY10 := Lib.hid hy10
  have HN10 := Lib.hid hn10
  have OS10 := Lib.hid (OO5.out.trans' o10 (fun z hz hs => by rcases hs with h | h; exact h; omega))
  have ZS10 := Lib.hid (FB.only HZ5.out o10 (by omega))
  clear hy10 hn10 o10
  cases h10 : readStream 5 L1 with
  | none =>
    have he := HN10.out h10
    rw [failE] at he
    subst he
    have HT := Lib.hid (show RS = none from HGO.out.trans (finR_none (by rw [readK_13]; exact h10)))
    clear h10
    go_wp2_with (fail)
    exact ⟨rfl, OS10.out, (fun x hx => by rw [HT.out] at hx; cases hx), (fun _ => rfl)⟩
  | some x =>
    obtain ⟨f, LZ⟩ := x
    obtain ⟨rfl, hrq⟩ := HY10.out _ h10
    obtain ⟨⟨q, hqf, hqb, hqc, hqd, hqe, hqa, hqr⟩, hrd⟩ := hrq.out
    have hqf : q.f = f := hqf
    subst hqf
    have HF := Lib.hid (show readK 13 L1 = some (q.f, LZ) by rw [readK_13]; exact h10)
    have HQB := Lib.hid hqb
    have HRD := Lib.hid (show RdB w10 rb LZ from hrd)
    have HQ := Lib.hid (show Sl .u8 w10 q.da q.dc q.f.data ∧ Sl .u8 w10 q.ca q.cc q.f.cid ∧ Rs w10 q.aa q.ac q.f.acks from ⟨hqd, hqe, hqa⟩)
    have FRS := Lib.hid (show q.fresh fb from ⟨fun x hx => by have := hqr.1 x hx; have := HLF.out; omega, fun x hx => by have := hqr.2.1 x hx; have := HLF.out; omega, fun x hx => by have := hqr.2.2 x hx; have := HLF.out; omega⟩)
    have HQC := Lib.hid hqc
    clear h10 HY10 HN10 hqb hqc hqd hqe hqa hqr hrd hrq
    have FOK := Lib.hid (show FrOk q.f ∧ q.f.data.length ≤ 1000000 ∧ q.f.acks.length ≤ 1000001 by
      obtain ⟨_, n, hn, res⟩ := readK_gives 13 (by omega) L1 q.f LZ HF.out HBY1.out
      have h1 := HL1.out
      have h2 := res.data
      have h3 := res.acks
      exact ⟨res.ok, by omega, by omega⟩)
    have SM := Lib.hid (show q.sm from ⟨FOK.out.2.1, by have := HQC.out; omega, by have := FOK.out.2.2; omega⟩)
    have hok := Lib.hid (show q.ok w10 from ⟨FOK.out.1, HQ.out.1, HQ.out.2.1, HQ.out.2.2⟩)
    have HT1 := Lib.hid (show RS = finR (some (q.f, LZ)) from HGO.out.trans (congrArg finR HF.out))
    go_wp2_with (with_reducible refine stop_ldf ?_)
    refine Stop.out ?_
    refine wpList_loadF rfl rfl q hok.out.fr.tok16 rfl HQB.out ?_
    go_wp2_with (fail)
    refine (may_any q _ hok.out (by have := SM.out.d; omega) SM.out.c (by have := SM.out.a; omega)).mono ?_
    cases hm : mayF q.f with
    | false =>
      have HT2 := Lib.hid (show RS = none from HT1.out.trans (finR_no hm))
      clear hm
      rintro e w8 ⟨rfl, b8⟩
      go_wp2_with (fail)
      refine (must_false _).mono ?_
      rintro e w9 ⟨he, rfl⟩
      rw [failE] at he
      subst he
      go_wp2_with (fail)
      exact ⟨rfl, OS10.out.trans (only_of_below b8 _), (fun x hx => by rw [HT2.out] at hx; cases hx), (fun _ => rfl)⟩
    | true =>
      have HT2 := Lib.hid (show RS = some (q.f, LZ) from HT1.out.trans (finR_may hm))
      clear hm
      rintro e w8 ⟨rfl, b8⟩
      have B8 := Lib.hid b8
      clear b8
      go_wp2_with (fail)
      refine (must_true _).mono ?_
      rintro e w9 ⟨rfl, rfl⟩
      have HF8 := Lib.hid (FB.below HQB.out B8.out)
      have HZ8 := Lib.hid (FB.below ZS10.out B8.out)
      go_wp2_with (with_reducible refine stop_ldf ?_)
      refine Stop.out ?_
      refine wpList_loadF rfl rfl q hok.out.fr.tok16 rfl HF8.out ?_
      go_wp2_with (with_reducible refine stop_stf ?_)
      refine Stop.out ?_
      refine wpList_storeF rfl rfl q (fm0 0) hok.out.fr.tok16 rfl rfl rfl HZ8.out ?_
      intro wy hby' oy
      go_wp2_with (fail)
      refine bodyPost_ret (results_cell_row rfl _ _ _ _ _ _ _ rfl hby' Try.underlying36 rfl (by rw [FM.size _ hok.out.fr.tok16]; exact fr_size)) rfl ?_
      refine ⟨(OS10.out.trans (only_of_below B8.out _)).trans' oy (fun z hz hs => by omega), ?_, (fun h => by rw [HT2.out] at h; cases h)⟩
      rw [HT2.out]
      intro x hx
      cases hx
      have hne8 : ∀ z : Nat, z ≤ rb → ¬ z = w.heap.size := fun z hz h => by omega
      have FR := FRS.out
      refine Lib.hid ⟨_, rfl, rfl, ⟨hok.out.fr, (hok.out.below B8.out).d.only oy (fun x hx _ h => by have := FR.1 x hx; omega), (hok.out.below B8.out).c.only oy (fun x hx _ h => by have := FR.2.1 x hx; omega), (hok.out.below B8.out).a.only oy (fun x hx _ h => by have := FR.2.2 x hx; omega)⟩, ⟨fun x hx => by have := FR.1 x hx; omega, fun x hx => by have := FR.2.1 x hx; omega, fun x hx => by have := FR.2.2 x hx; omega⟩, SM.out, (HRD.out.below B8.out).only oy hne8⟩

theorem readK_14 : readK 14 = readStream 6 := rfl
set_option maxHeartbeats 8000000 in
set_option maxRecDepth 100000 in
theorem rframe_14 (rb : Nat) (L L1 : List Int) (w : World) (h : RdB w rb L) (hl : L.length ≤ 1000000) (hk : tk L = some (14, L1)) (hsz : (L.length : Int) - L1.length = sizeF 14) :
    Calls Try.prog 25 #[.pointer (some ⟨rb, 0, none⟩)] w fun e w' => Only (· = rb) w w' ∧ (∀ x, readF L = some x → Hid (RF w' rb w.heap.size x.1 x.2 e)) ∧ (readF L = none → e = failE) := by
  have HR := Lib.hid h
  have hby := h.byte
  have lrb := h.lt
  obtain ⟨A, cap, m, rb1, rm, rs, rx⟩ := h
  have r0 := Blk.cell rb1 0 _ rfl
  have RM := Lib.hid rm
  have hmb : m ≤ 1000000 := by omega
  have HK := Lib.hid hk
  clear rb1 rm rs rx
  have hle1 := tk_le hk
  dsimp only at hle1
  have vk := tk_bnd hby hk
  dsimp only at vk
  have HL1 := Lib.hid (show L1.length ≤ 1000000 by omega)
  have HBY1 := Lib.hid (show ∀ x ∈ L1, Byte x from (tk_gives L _ L1 hk hby).1)
  have HSZ := Lib.hid hsz
  obtain ⟨RS, hRS⟩ : ∃ RS, readF L = RS := ⟨_, rfl⟩
  have HGO := Lib.hid (show RS = finR (readK 14 L1) by rw [← hRS]; exact readF_go hk hsz)
  rw [hRS]
  clear hRS hk hsz hle1
  go_enter Try.func25, Try.ntmps25
  go_wp2_with (fail)
  have kb0 := (Below.refl w.heap.size w).alloc (Nat.le_refl _) (.cells (fm0 0).vals 36)
  refine (rn_any rb L _ (HR.out.below kb0)).mono ?_
  rintro e w2 ⟨o2, hy2, hn2⟩
  obtain ⟨rfl, hr2⟩ := hy2 _ HK.out
  have HR2 : Hid (RdB w2 rb L1) := hr2
  have HZ2 := Lib.hid (show FB w2 w.heap.size (fm0 0) from o2.blk (fm0_at rfl) (fun h => by have h2 : w.heap.size = rb := h; omega))
  have OO2 := Lib.hid ((only_of_below kb0 (· = rb)).trans o2)
  have lz2 : w.heap.size < w2.heap.size := by have := o2.size; simp at this; omega
  obtain ⟨A2, cap2, m2, rb2, rm2, rs2, rx2⟩ := HR2.out
  have r2 := Blk.cell rb2 0 _ rfl
  have lrb2 : rb < w2.heap.size := by omega
  have hmb2 : m2 ≤ 1000000 := by have := HL1.out; omega
  have hsz2 : (m : Int) - m2 = sizeF 14 ∨ ¬ (m : Int) - m2 = sizeF 14 := Decidable.em _
  have hsm := size_le 14
  have hsm0 : 0 ≤ sizeF 14 := by omega
  have HSM := Lib.hid (show ((m : Int) - m2 = sizeF 14) ↔ ((L.length : Int) - L1.length = sizeF 14) by rw [RM.out, rm2])
  clear hy2 hn2 o2 kb0 rb2 rm2 rs2 rx2 hr2 hsz2
  obtain ⟨sz, hszv⟩ : ∃ s : Nat, sizeF 14 = s := ⟨_, rfl⟩
  have HSV := Lib.hid hszv
  clear hsm hsm0
  rw [hszv] at HSM
  have hq : ((m : Int) - m2 == (sz : Int)) = true := by simp only [beq_iff_eq]; rw [HSM.out, ← HSV.out]; exact HSZ.out
  clear hszv
  go_wp2_with (fail)
  refine rg_start 11 ?_
  refine rg_below fun KK hx hne hC hbel => ?_
  have k0 := fun z : Wd KK => (hx z _ 0 _ lrb2).trans r2
  clear hx
  refine rg_quiet 3 [0,1,2,3,4,5,6,7] hC ?_
  simp only [pickD, List.map_cons, List.map_nil, List.getD_cons_zero, List.getD_cons_succ]; repeat (go_big_quiet_step (fail))
  refine wpQuiet_nil ?_
  refine rg_act 8 ?_
  go_wp2_with (fail)
  refine (size_any 14 _ vk.1 (by omega)).mono ?_
  rintro e w3 ⟨rfl, rfl⟩
  rw [HSV.out]
  go_wp2_with (fail)
  refine ⟨hbel _ (Below.refl _ _), ?_⟩
  refine rg_quiet 1 [9] (hbel _ (Below.refl _ _)) ?_
  simp only [pickD, List.map_cons, List.map_nil, List.getD_cons_zero, List.getD_cons_succ]; repeat (go_big_quiet_step (fail))
  refine wpQuiet_nil ?_
  refine rg_cut 10 ?_
  go_wp2_with (fail)
  refine (must_true _).mono ?_
  rintro e w4 ⟨rfl, rfl⟩
  clear hbel hC hne k0
  go_wp2_with (fail)
  refine rg_end0 ?_
  go_wp2_with (with_reducible refine stop_stf ?_)
  refine Stop.out ?_
  refine wpList_storeF rfl rfl (fm0 14) (fm0 0) rfl rfl rfl rfl (fm0_at rfl) ?_
  intro w5 hb5 o5
  replace hb5 : FB w5 w2.heap.size (fm0 14) := hb5
  replace o5 : Only (· = w2.heap.size) (w2.drew.alloc (.cells (fm0 0).vals 36)) w5 := o5
  have bd : Below w2.heap.size w2 (w2.drew.alloc (.cells (fm0 0).vals 36)) := ((Below.refl _ w2).drew).alloc (Nat.le_refl _) _
  have b25 : Below w2.heap.size w2 w5 := below_onto bd o5 bd.size (by intro z hz h; omega)
  have HF5 := Lib.hid hb5
  have HZ5 := Lib.hid (FB.below HZ2.out b25)
  have HR5 := Lib.hid (HR2.out.below b25)
  have OO5 := Lib.hid (OO2.out.trans (only_of_below b25 (· = rb)))
  have hne : w2.heap.size ≠ rb := by omega
  have hnz : w.heap.size ≠ rb := by omega
  have lfb : w.heap.size < w2.heap.size := by omega
  have lrf : rb < w2.heap.size := by omega
  have HLF := Lib.hid (show w2.heap.size < w5.heap.size from Blk.lt hb5)
  clear r0 r2 lrb2 lz2 hq hb5 o5 bd b25
  generalize w2.heap.size = fb at *
  go_wp2_with (fail)
  refine (rstream_6 rb fb L1 14 _ HR5.out HL1.out HF5.out lrf).mono ?_
  rintro e w10 ⟨o10, hy10, hn10⟩
  have HY10 := Lib.hid hy10
  have HN10 := Lib.hid hn10
  have OS10 := Lib.hid (OO5.out.trans' o10 (fun z hz hs => by rcases hs with h | h; exact h; omega))
  have ZS10 := Lib.hid (FB.only HZ5.out o10 (by omega))
  clear hy10 hn10 o10
  cases h10 : readStream 6 L1 with
  | none =>
    have he := HN10.out h10
    rw [failE] at he
    subst he
    have HT := Lib.hid (show RS = none from HGO.out.trans (finR_none (by rw [readK_14]; exact h10)))
    clear h10
    go_wp2_with (fail)
    exact ⟨rfl, OS10.out, (fun x hx => by rw [HT.out] at hx; cases hx), (fun _ => rfl)⟩
  | some x =>
    obtain ⟨f, LZ⟩ := x
    obtain ⟨rfl, hrq⟩ := HY10.out _ h10
    obtain ⟨⟨q, hqf, hqb, hqc, hqd, hqe, hqa, hqr⟩, hrd⟩ := hrq.out
    have hqf : q.f = f := hqf
    subst hqf
    have HF := Lib.hid (show readK 14 L1 = some (q.f, LZ) by rw [readK_14]; exact h10)
    have HQB := Lib.hid hqb
    have HRD := Lib.hid (show RdB w10 rb LZ from hrd)
    have HQ := Lib.hid (show Sl .u8 w10 q.da q.dc q.f.data ∧ Sl .u8 w10 q.ca q.cc q.f.cid ∧ Rs w10 q.aa q.ac q.f.acks from ⟨hqd, hqe, hqa⟩)
    have FRS := Lib.hid (show q.fresh fb from ⟨fun x hx => by have := hqr.1 x hx; have := HLF.out; omega, fun x hx => by have := hqr.2.1 x hx; have := HLF.out; omega, fun x hx => by have := hqr.2.2 x hx; have := HLF.out; omega⟩)
    have HQC := Lib.hid hqc
    clear h10 HY10 HN10 hqb hqc hqd hqe hqa hqr hrd hrq
    have FOK := Lib.hid (show FrOk q.f ∧ q.f.data.length ≤ 1000000 ∧ q.f.acks.length ≤ 1000001 by
      obtain ⟨_, n, hn, res⟩ := readK_gives 14 (by omega) L1 q.f LZ HF.out HBY1.out
      have h1 := HL1.out
      have h2 := res.data
      have h3 := res.acks
      exact ⟨res.ok, by omega, by omega⟩)
    have SM := Lib.hid (show q.sm from ⟨FOK.out.2.1, by have := HQC.out; omega, by have := FOK.out.2.2; omega⟩)
    have hok := Lib.hid (show q.ok w10 from ⟨FOK.out.1, HQ.out.1, HQ.out.2.1, HQ.out.2.2⟩)
    have HT1 := Lib.hid (show RS = finR (some (q.f, LZ)) from HGO.out.trans (congrArg finR HF.out))
    go_wp2_with (with_reducible refine stop_ldf ?_)
    refine Stop.out ?_
    refine wpList_loadF rfl rfl q hok.out.fr.tok16 rfl HQB.out ?_
    go_wp2_with (fail)
    refine (may_any q _ hok.out (by have := SM.out.d; omega) SM.out.c (by have := SM.out.a; omega)).mono ?_
    cases hm : mayF q.f with
    | false =>
      have HT2 := Lib.hid (show RS = none from HT1.out.trans (finR_no hm))
      clear hm
      rintro e w8 ⟨rfl, b8⟩
      go_wp2_with (fail)
      refine (must_false _).mono ?_
      rintro e w9 ⟨he, rfl⟩
      rw [failE] at he
      subst he
      go_wp2_with (fail)
      exact ⟨rfl, OS10.out.trans (only_of_below b8 _), (fun x hx => by rw [HT2.out] at hx; cases hx), (fun _ => rfl)⟩
    | true =>
      have HT2 := Lib.hid (show RS = some (q.f, LZ) from HT1.out.trans (finR_may hm))
      clear hm
      rintro e w8 ⟨rfl, b8⟩
      have B8 := Lib.hid b8
      clear b8
      go_wp2_with (fail)
      refine (must_true _).mono ?_
      rintro e w9 ⟨rfl, rfl⟩
      have HF8 := Lib.hid (FB.below HQB.out B8.out)
      have HZ8 := Lib.hid (FB.below ZS10.out B8.out)
      go_wp2_with (with_reducible refine stop_ldf ?_)
      refine Stop.out ?_
      refine wpList_loadF rfl rfl q hok.out.fr.tok16 rfl HF8.out ?_
      go_wp2_with (with_reducible refine stop_stf ?_)
      refine Stop.out ?_
      refine wpList_storeF rfl rfl q (fm0 0) hok.out.fr.tok16 rfl rfl rfl HZ8.out ?_
      intro wy hby' oy
      go_wp2_with (fail)
      refine bodyPost_ret (results_cell_row rfl _ _ _ _ _ _ _ rfl hby' Try.underlying36 rfl (by rw [FM.size _ hok.out.fr.tok16]; exact fr_size)) rfl ?_
      refine ⟨(OS10.out.trans (only_of_below B8.out _)).trans' oy (fun z hz hs => by omega), ?_, (fun h => by rw [HT2.out] at h; cases h)⟩
      rw [HT2.out]
      intro x hx
      cases hx
      have hne8 : ∀ z : Nat, z ≤ rb → ¬ z = w.heap.size := fun z hz h => by omega
      have FR := FRS.out
      refine Lib.hid ⟨_, rfl, rfl, ⟨hok.out.fr, (hok.out.below B8.out).d.only oy (fun x hx _ h => by have := FR.1 x hx; omega), (hok.out.below B8.out).c.only oy (fun x hx _ h => by have := FR.2.1 x hx; omega), (hok.out.below B8.out).a.only oy (fun x hx _ h => by have := FR.2.2 x hx; omega)⟩, ⟨fun x hx => by have := FR.1 x hx; omega, fun x hx => by have := FR.2.1 x hx; omega, fun x hx => by have := FR.2.2 x hx; omega⟩, SM.out, (HRD.out.below B8.out).only oy hne8⟩

theorem readK_15 : readK 15 = readStream 7 := rfl
set_option maxHeartbeats 8000000 in
set_option maxRecDepth 100000 in
theorem rframe_15 (rb : Nat) (L L1 : List Int) (w : World) (h : RdB w rb L) (hl : L.length ≤ 1000000) (hk : tk L = some (15, L1)) (hsz : (L.length : Int) - L1.length = sizeF 15) :
    Calls Try.prog 25 #[.pointer (some ⟨rb, 0, none⟩)] w fun e w' => Only (· = rb) w w' ∧ (∀ x, readF L = some x → Hid (RF w' rb w.heap.size x.1 x.2 e)) ∧ (readF L = none → e = failE) := by
  have HR := Lib.hid h
  have hby := h.byte
  have lrb := h.lt
  obtain ⟨A, cap, m, rb1, rm, rs, rx⟩ := h
  have r0 := Blk.cell rb1 0 _ rfl
  have RM := Lib.hid rm
  have hmb : m ≤ 1000000 := by omega
  have HK := Lib.hid hk
  clear rb1 rm rs rx
  have hle1 := tk_le hk
  dsimp only at hle1
  have vk := tk_bnd hby hk
  dsimp only at vk
  have HL1 := Lib.hid (show L1.length ≤ 1000000 by omega)
  have HBY1 := Lib.hid (show ∀ x ∈ L1, Byte x from (tk_gives L _ L1 hk hby).1)
  have HSZ := Lib.hid hsz
  obtain ⟨RS, hRS⟩ : ∃ RS, readF L = RS := ⟨_, rfl⟩
  have HGO := Lib.hid (show RS = finR (readK 15 L1) by rw [← hRS]; exact readF_go hk hsz)
  rw [hRS]
  clear hRS hk hsz hle1
  go_enter Try.func25, Try.ntmps25
  go_wp2_with (fail)
  have kb0 := (Below.refl w.heap.size w).alloc (Nat.le_refl _) (.cells (fm0 0).vals 36)
  refine (rn_any rb L _ (HR.out.below kb0)).mono ?_
  rintro e w2 ⟨o2, hy2, hn2⟩
  obtain ⟨rfl, hr2⟩ := hy2 _ HK.out
  have HR2 : Hid (RdB w2 rb L1) := hr2
  have HZ2 := Lib.hid (show FB w2 w.heap.size (fm0 0) from o2.blk (fm0_at rfl) (fun h => by have h2 : w.heap.size = rb := h; omega))
  have OO2 := Lib.hid ((only_of_below kb0 (· = rb)).trans o2)
  have lz2 : w.heap.size < w2.heap.size := by have := o2.size; simp at this; omega
  obtain ⟨A2, cap2, m2, rb2, rm2, rs2, rx2⟩ := HR2.out
  have r2 := Blk.cell rb2 0 _ rfl
  have lrb2 : rb < w2.heap.size := by omega
  have hmb2 : m2 ≤ 1000000 := by have := HL1.out; omega
  have hsz2 : (m : Int) - m2 = sizeF 15 ∨ ¬ (m : Int) - m2 = sizeF 15 := Decidable.em _
  have hsm := size_le 15
  have hsm0 : 0 ≤ sizeF 15 := by omega
  have HSM := Lib.hid (show ((m : Int) - m2 = sizeF 15) ↔ ((L.length : Int) - L1.length = sizeF 15) by rw [RM.out, rm2])
  clear hy2 hn2 o2 kb0 rb2 rm2 rs2 rx2 hr2 hsz2
  obtain ⟨sz, hszv⟩ : ∃ s : Nat, sizeF 15 = s := ⟨_, rfl⟩
  have HSV := Lib.hid hszv
  clear hsm hsm0
  rw [hszv] at HSM
  have hq : ((m : Int) - m2 == (sz : Int)) = true := by simp only [beq_iff_eq]; rw [HSM.out, ← HSV.out]; exact HSZ.out
  clear hszv
  go_wp2_with (fail)
  refine rg_start 11 ?_
  refine rg_below fun KK hx hne hC hbel => ?_
  have k0 := fun z : Wd KK => (hx z _ 0 _ lrb2).trans r2
  clear hx
  refine rg_quiet 3 [0,1,2,3,4,5,6,7] hC ?_
  simp only [pickD, List.map_cons, List.map_nil, List.getD_cons_zero, List.getD_cons_succ]; repeat (go_big_quiet_step (fail))
  refine wpQuiet_nil ?_
  refine rg_act 8 ?_
  go_wp2_with (fail)
  refine (size_any 15 _ vk.1 (by omega)).mono ?_
  rintro e w3 ⟨rfl, rfl⟩
  rw [HSV.out]
  go_wp2_with (fail)
  refine ⟨hbel _ (Below.refl _ _), ?_⟩
  refine rg_quiet 1 [9] (hbel _ (Below.refl _ _)) ?_
  simp only [pickD, List.map_cons, List.map_nil, List.getD_cons_zero, List.getD_cons_succ]; repeat (go_big_quiet_step (fail))
  refine wpQuiet_nil ?_
  refine rg_cut 10 ?_
  go_wp2_with (fail)
  refine (must_true _).mono ?_
  rintro e w4 ⟨rfl, rfl⟩
  clear hbel hC hne k0
  go_wp2_with (fail)
  refine rg_end0 ?_
  go_wp2_with (with_reducible refine stop_stf ?_)
  refine Stop.out ?_
  refine wpList_storeF rfl rfl (fm0 15) (fm0 0) rfl rfl rfl rfl (fm0_at rfl) ?_
  intro w5 hb5 o5
  replace hb5 : FB w5 w2.heap.size (fm0 15) := hb5
  replace o5 : Only (· = w2.heap.size) (w2.drew.alloc (.cells (fm0 0).vals 36)) w5 := o5
  have bd : Below w2.heap.size w2 (w2.drew.alloc (.cells (fm0 0).vals 36)) := ((Below.refl _ w2).drew).alloc (Nat.le_refl _) _
  have b25 : Below w2.heap.size w2 w5 := below_onto bd o5 bd.size (by intro z hz h; omega)
  have HF5 := Lib.hid hb5
  have HZ5 := Lib.hid (FB.below HZ2.out b25)
  have HR5 := Lib.hid (HR2.out.below b25)
  have OO5 := Lib.hid (OO2.out.trans (only_of_below b25 (· = rb)))
  have hne : w2.heap.size ≠ rb := by omega
  have hnz : w.heap.size ≠ rb := by omega
  have lfb : w.heap.size < w2.heap.size := by omega
  have lrf : rb < w2.heap.size := by omega
  have HLF := Lib.hid (show w2.heap.size < w5.heap.size from Blk.lt hb5)
  clear r0 r2 lrb2 lz2 hq hb5 o5 bd b25
  generalize w2.heap.size = fb at *
  go_wp2_with (fail)
  refine (rstream_7 rb fb L1 15 _ HR5.out HL1.out HF5.out lrf).mono ?_
  rintro e w10 ⟨o10, hy10, hn10⟩
  have HY10 := Lib.hid hy10
  have HN10 := Lib.hid hn10
  have OS10 := Lib.hid (OO5.out.trans' o10 (fun z hz hs => by rcases hs with h | h; exact h; omega))
  have ZS10 := Lib.hid (FB.only HZ5.out o10 (by omega))
  clear hy10 hn10 o10
  cases h10 : readStream 7 L1 with
  | none =>
    have he := HN10.out h10
    rw [failE] at he
    subst he
    have HT := Lib.hid (show RS = none from HGO.out.trans (finR_none (by rw [readK_15]; exact h10)))
    clear h10
    go_wp2_with (fail)
    exact ⟨rfl, OS10.out, (fun x hx => by rw [HT.out] at hx; cases hx), (fun _ => rfl)⟩
  | some x =>
    obtain ⟨f, LZ⟩ := x
    obtain ⟨rfl, hrq⟩ := HY10.out _ h10
    obtain ⟨⟨q, hqf, hqb, hqc, hqd, hqe, hqa, hqr⟩, hrd⟩ := hrq.out
    have hqf : q.f = f := hqf
    subst hqf
    have HF := Lib.hid (show readK 15 L1 = some (q.f, LZ) by rw [readK_15]; exact h10)
    have HQB := Lib.hid hqb
    have HRD := Lib.hid (show RdB w10 rb LZ from hrd)
    have HQ := Lib.hid (show Sl .u8 w10 q.da q.dc q.f.data ∧ Sl .u8 w10 q.ca q.cc q.f.cid ∧ Rs w10 q.aa q.ac q.f.acks from ⟨hqd, hqe, hqa⟩)
    have FRS := Lib.hid (show q.fresh fb from ⟨fun x hx => by have := hqr.1 x hx; have := HLF.out; omega, fun x hx => by have := hqr.2.1 x hx; have := HLF.out; omega, fun x hx => by have := hqr.2.2 x hx; have := HLF.out; omega⟩)
    have HQC := Lib.hid hqc
    clear h10 HY10 HN10 hqb hqc hqd hqe hqa hqr hrd hrq
    have FOK := Lib.hid (show FrOk q.f ∧ q.f.data.length ≤ 1000000 ∧ q.f.acks.length ≤ 1000001 by
      obtain ⟨_, n, hn, res⟩ := readK_gives 15 (by omega) L1 q.f LZ HF.out HBY1.out
      have h1 := HL1.out
      have h2 := res.data
      have h3 := res.acks
      exact ⟨res.ok, by omega, by omega⟩)
    have SM := Lib.hid (show q.sm from ⟨FOK.out.2.1, by have := HQC.out; omega, by have := FOK.out.2.2; omega⟩)
    have hok := Lib.hid (show q.ok w10 from ⟨FOK.out.1, HQ.out.1, HQ.out.2.1, HQ.out.2.2⟩)
    have HT1 := Lib.hid (show RS = finR (some (q.f, LZ)) from HGO.out.trans (congrArg finR HF.out))
    go_wp2_with (with_reducible refine stop_ldf ?_)
    refine Stop.out ?_
    refine wpList_loadF rfl rfl q hok.out.fr.tok16 rfl HQB.out ?_
    go_wp2_with (fail)
    refine (may_any q _ hok.out (by have := SM.out.d; omega) SM.out.c (by have := SM.out.a; omega)).mono ?_
    cases hm : mayF q.f with
    | false =>
      have HT2 := Lib.hid (show RS = none from HT1.out.trans (finR_no hm))
      clear hm
      rintro e w8 ⟨rfl, b8⟩
      go_wp2_with (fail)
      refine (must_false _).mono ?_
      rintro e w9 ⟨he, rfl⟩
      rw [failE] at he
      subst he
      go_wp2_with (fail)
      exact ⟨rfl, OS10.out.trans (only_of_below b8 _), (fun x hx => by rw [HT2.out] at hx; cases hx), (fun _ => rfl)⟩
    | true =>
      have HT2 := Lib.hid (show RS = some (q.f, LZ) from HT1.out.trans (finR_may hm))
      clear hm
      rintro e w8 ⟨rfl, b8⟩
      have B8 := Lib.hid b8
      clear b8
      go_wp2_with (fail)
      refine (must_true _).mono ?_
      rintro e w9 ⟨rfl, rfl⟩
      have HF8 := Lib.hid (FB.below HQB.out B8.out)
      have HZ8 := Lib.hid (FB.below ZS10.out B8.out)
      go_wp2_with (with_reducible refine stop_ldf ?_)
      refine Stop.out ?_
      refine wpList_loadF rfl rfl q hok.out.fr.tok16 rfl HF8.out ?_
      go_wp2_with (with_reducible refine stop_stf ?_)
      refine Stop.out ?_
      refine wpList_storeF rfl rfl q (fm0 0) hok.out.fr.tok16 rfl rfl rfl HZ8.out ?_
      intro wy hby' oy
      go_wp2_with (fail)
      refine bodyPost_ret (results_cell_row rfl _ _ _ _ _ _ _ rfl hby' Try.underlying36 rfl (by rw [FM.size _ hok.out.fr.tok16]; exact fr_size)) rfl ?_
      refine ⟨(OS10.out.trans (only_of_below B8.out _)).trans' oy (fun z hz hs => by omega), ?_, (fun h => by rw [HT2.out] at h; cases h)⟩
      rw [HT2.out]
      intro x hx
      cases hx
      have hne8 : ∀ z : Nat, z ≤ rb → ¬ z = w.heap.size := fun z hz h => by omega
      have FR := FRS.out
      refine Lib.hid ⟨_, rfl, rfl, ⟨hok.out.fr, (hok.out.below B8.out).d.only oy (fun x hx _ h => by have := FR.1 x hx; omega), (hok.out.below B8.out).c.only oy (fun x hx _ h => by have := FR.2.1 x hx; omega), (hok.out.below B8.out).a.only oy (fun x hx _ h => by have := FR.2.2 x hx; omega)⟩, ⟨fun x hx => by have := FR.1 x hx; omega, fun x hx => by have := FR.2.1 x hx; omega, fun x hx => by have := FR.2.2 x hx; omega⟩, SM.out, (HRD.out.below B8.out).only oy hne8⟩

end Frm
end Go.Proofs.Ytcpjehgoeibbeaa

/- The reader: a frame (written by gen_frr4.py). -/
namespace Go.Proofs.Ytcpjehgoeibbeaa
open Go.RowKit
set_option linter.unusedVariables false
namespace Frm
open Var

theorem readK_x (k : Int) (L : List Int) (h : 30 < k) : readK k L = none := by
  unfold readK
  rw [if_neg (by omega), if_neg (by omega), if_neg (by omega), if_neg (by omega), if_neg (by omega), if_neg (by omega), if_neg (by omega), if_neg (by omega), if_neg (by omega), if_neg (by omega), if_neg (by omega), if_neg (by omega), if_neg (by omega), if_neg (by omega), if_neg (by omega)]
  rfl
set_option maxHeartbeats 8000000 in
set_option maxRecDepth 100000 in
theorem rframe_x3 (rb : Nat) (L L1 : List Int) (k : Int) (w : World) (h : RdB w rb L) (hl : L.length ≤ 1000000) (hk : tk L = some (k, L1)) (hsz : (L.length : Int) - L1.length = sizeF k) (h30 : 30 < k) :
    Calls Try.prog 25 #[.pointer (some ⟨rb, 0, none⟩)] w fun e w' => Only (· = rb) w w' ∧ (∀ x, readF L = some x → Hid (RF w' rb w.heap.size x.1 x.2 e)) ∧ (readF L = none → e = failE) := by
  have HR := Lib.hid h
  have hby := h.byte
  have lrb := h.lt
  obtain ⟨A, cap, m, rb1, rm, rs, rx⟩ := h
  have r0 := Blk.cell rb1 0 _ rfl
  have RM := Lib.hid rm
  have hmb : m ≤ 1000000 := by omega
  have HK := Lib.hid hk
  clear rb1 rm rs rx
  have hle1 := tk_le hk
  dsimp only at hle1
  have vk := tk_bnd hby hk
  dsimp only at vk
  have HL1 := Lib.hid (show L1.length ≤ 1000000 by omega)
  have HBY1 := Lib.hid (show ∀ x ∈ L1, Byte x from (tk_gives L _ L1 hk hby).1)
  have HSZ := Lib.hid hsz
  obtain ⟨RS, hRS⟩ : ∃ RS, readF L = RS := ⟨_, rfl⟩
  have HGO := Lib.hid (show RS = finR (readK k L1) by rw [← hRS]; exact readF_go hk hsz)
  rw [hRS]
  clear hRS hk hsz hle1
  go_enter Try.func25, Try.ntmps25
  go_wp2_with (fail)
  have kb0 := (Below.refl w.heap.size w).alloc (Nat.le_refl _) (.cells (fm0 0).vals 36)
  refine (rn_any rb L _ (HR.out.below kb0)).mono ?_
  rintro e w2 ⟨o2, hy2, hn2⟩
  obtain ⟨rfl, hr2⟩ := hy2 _ HK.out
  have HR2 : Hid (RdB w2 rb L1) := hr2
  have HZ2 := Lib.hid (show FB w2 w.heap.size (fm0 0) from o2.blk (fm0_at rfl) (fun h => by have h2 : w.heap.size = rb := h; omega))
  have OO2 := Lib.hid ((only_of_below kb0 (· = rb)).trans o2)
  have lz2 : w.heap.size < w2.heap.size := by have := o2.size; simp at this; omega
  obtain ⟨A2, cap2, m2, rb2, rm2, rs2, rx2⟩ := HR2.out
  have r2 := Blk.cell rb2 0 _ rfl
  have lrb2 : rb < w2.heap.size := by omega
  have hmb2 : m2 ≤ 1000000 := by have := HL1.out; omega
  have hsz2 : (m : Int) - m2 = sizeF k ∨ ¬ (m : Int) - m2 = sizeF k := Decidable.em _
  have hsm := size_le k
  have hsm0 : 0 ≤ sizeF k := by omega
  have HSM := Lib.hid (show ((m : Int) - m2 = sizeF k) ↔ ((L.length : Int) - L1.length = sizeF k) by rw [RM.out, rm2])
  clear hy2 hn2 o2 kb0 rb2 rm2 rs2 rx2 hr2 hsz2
  obtain ⟨sz, hszv⟩ : ∃ s : Nat, sizeF k = s := ⟨_, rfl⟩
  have HSV := Lib.hid hszv
  clear hsm hsm0
  rw [hszv] at HSM
  have hq : ((m : Int) - m2 == (sz : Int)) = true := by simp only [beq_iff_eq]; rw [HSM.out, ← HSV.out]; exact HSZ.out
  clear hszv
  go_wp2_with (fail)
  refine rg_start 11 ?_
  refine rg_below fun KK hx hne hC hbel => ?_
  have k0 := fun z : Wd KK => (hx z _ 0 _ lrb2).trans r2
  clear hx
  refine rg_quiet 3 [0,1,2,3,4,5,6,7] hC ?_
  simp only [pickD, List.map_cons, List.map_nil, List.getD_cons_zero, List.getD_cons_succ]; repeat (go_big_quiet_step (fail))
  refine wpQuiet_nil ?_
  refine rg_act 8 ?_
  go_wp2_with (fail)
  refine (size_any k _ vk.1 (by omega)).mono ?_
  rintro e w3 ⟨rfl, rfl⟩
  rw [HSV.out]
  go_wp2_with (fail)
  refine ⟨hbel _ (Below.refl _ _), ?_⟩
  refine rg_quiet 1 [9] (hbel _ (Below.refl _ _)) ?_
  simp only [pickD, List.map_cons, List.map_nil, List.getD_cons_zero, List.getD_cons_succ]; repeat (go_big_quiet_step (fail))
  refine wpQuiet_nil ?_
  refine rg_cut 10 ?_
  go_wp2_with (fail)
  refine (must_true _).mono ?_
  rintro e w4 ⟨rfl, rfl⟩
  clear hbel hC hne k0
  go_wp2_with (fail)
  refine rg_end0 ?_
  go_wp2_with (with_reducible refine stop_stf ?_)
  refine Stop.out ?_
  refine wpList_storeF rfl rfl (fm0 k) (fm0 0) rfl rfl rfl rfl (fm0_at rfl) ?_
  intro w5 hb5 o5
  replace hb5 : FB w5 w2.heap.size (fm0 k) := hb5
  replace o5 : Only (· = w2.heap.size) (w2.drew.alloc (.cells (fm0 0).vals 36)) w5 := o5
  have bd : Below w2.heap.size w2 (w2.drew.alloc (.cells (fm0 0).vals 36)) := ((Below.refl _ w2).drew).alloc (Nat.le_refl _) _
  have b25 : Below w2.heap.size w2 w5 := below_onto bd o5 bd.size (by intro z hz h; omega)
  have HF5 := Lib.hid hb5
  have HZ5 := Lib.hid (FB.below HZ2.out b25)
  have HR5 := Lib.hid (HR2.out.below b25)
  have OO5 := Lib.hid (OO2.out.trans (only_of_below b25 (· = rb)))
  have hne : w2.heap.size ≠ rb := by omega
  have hnz : w.heap.size ≠ rb := by omega
  have lfb : w.heap.size < w2.heap.size := by omega
  have lrf : rb < w2.heap.size := by omega
  have HLF := Lib.hid (show w2.heap.size < w5.heap.size from Blk.lt hb5)
  clear r0 r2 lrb2 lz2 hq hb5 o5 bd b25
  generalize w2.heap.size = fb at *
  have HT := Lib.hid (show RS = none from HGO.out.trans (finR_none (readK_x k L1 h30)))
  have d1 : decide (8 < k) = true := by simp; omega
  have d2 : decide (k < 16) = false := by simp; omega
  have d3 : decide (k ≤ 30) = false := by simp; omega
  have q0 : ¬ k = 0 := by omega
  have q1 : ¬ k = 1 := by omega
  have q30 : ¬ k = 30 := by omega
  have q2 : ¬ k = 2 := by omega
  have q3 : ¬ k = 3 := by omega
  have q4 : ¬ k = 4 := by omega
  have q5 : ¬ k = 5 := by omega
  have q6 : ¬ k = 6 := by omega
  have q7 : ¬ k = 7 := by omega
  have q17 : ¬ k = 17 := by omega
  have q21 : ¬ k = 21 := by omega
  have q24 : ¬ k = 24 := by omega
  have q25 : ¬ k = 25 := by omega
  have q26 : ¬ k = 26 := by omega
  have q27 : ¬ k = 27 := by omega
  have q28 : ¬ k = 28 := by omega
  have q29 : ¬ k = 29 := by omega
  have q8 : ¬ k = 8 := by omega
  go_wp2_with (fail)
  refine (must_false _).mono ?_
  rintro e w9 ⟨he, rfl⟩
  rw [failE] at he
  subst he
  go_wp2_with (fail)
  exact ⟨rfl, OO5.out, (fun x hx => by rw [HT.out] at hx; cases hx), (fun _ => rfl)⟩

end Frm
end Go.Proofs.Ytcpjehgoeibbeaa

/- The reader: a frame (written by gen_frr4.py). -/
namespace Go.Proofs.Ytcpjehgoeibbeaa
open Go.RowKit
set_option linter.unusedVariables false
namespace Frm
open Var

theorem zeros_cons (x : Int) (r : List Int) : zeros (x :: r) = if x = 0 then 1 + zeros r else 0 := by
  unfold zeros
  rw [List.takeWhile_cons]
  by_cases h : x = 0
  · rw [if_pos (by simpa using h), if_pos h]; simp; omega
  · rw [if_neg (by simpa using h), if_neg h]; rfl
theorem zeros_step : ∀ (b : List Int) (j : Nat), j ≤ zeros b → ∀ x r, b.drop j = x :: r → x = 0 → j + 1 ≤ zeros b
  | [], j, _, x, r, h, _ => by simp at h
  | y :: b, 0, _, x, r, h, hx => by
    rw [List.drop_zero] at h
    cases h
    rw [zeros_cons, if_pos hx]; omega
  | y :: b, j + 1, hj, x, r, h, hx => by
    rw [zeros_cons] at hj ⊢
    by_cases hy : y = 0
    · rw [if_pos hy] at hj ⊢
      have := zeros_step b j (by omega) x r (by simpa using h) hx
      omega
    · rw [if_neg hy] at hj; omega
theorem zeros_end' : ∀ (b : List Int) (j : Nat), j ≤ zeros b → (b.drop j = [] ∨ ∃ x r, b.drop j = x :: r ∧ x ≠ 0) → zeros b = j
  | [], j, hj, _ => by have : zeros [] = 0 := rfl; omega
  | y :: b, 0, _, h => by
    rw [List.drop_zero] at h
    rcases h with h | ⟨x, r, h, hx⟩
    · cases h
    · cases h; rw [zeros_cons, if_neg hx]
  | y :: b, j + 1, hj, h => by
    rw [zeros_cons] at hj ⊢
    by_cases hy : y = 0
    · rw [if_pos hy] at hj ⊢
      have := zeros_end' b j (by omega) (by simpa using h)
      omega
    · rw [if_neg hy] at hj; omega
def numOf : Option Value → Nat
  | some (.int _ n) => n.toNat
  | _ => 0
theorem readK_0 : readK 0 = readPad := rfl
theorem readPad_at (b : List Int) (j : Nat) (h : j = min (zeros b) 65535) : readPad b = some ({ fr0 0 with n := 1 + (j : Int) }, b.drop j) := by
  unfold readPad
  rw [← h]
  rw [show ((1 + j : Nat) : Int) = 1 + (j : Int) by omega]
set_option maxHeartbeats 8000000 in
set_option maxRecDepth 100000 in
theorem rframe_0 (rb : Nat) (L L1 : List Int) (w : World) (h : RdB w rb L) (hl : L.length ≤ 1000000) (hk : tk L = some (0, L1)) (hsz : (L.length : Int) - L1.length = sizeF 0) :
    Calls Try.prog 25 #[.pointer (some ⟨rb, 0, none⟩)] w fun e w' => Only (· = rb) w w' ∧ (∀ x, readF L = some x → Hid (RF w' rb w.heap.size x.1 x.2 e)) ∧ (readF L = none → e = failE) := by
  have HR := Lib.hid h
  have hby := h.byte
  have lrb := h.lt
  obtain ⟨A, cap, m, rb1, rm, rs, rx⟩ := h
  have r0 := Blk.cell rb1 0 _ rfl
  have RM := Lib.hid rm
  have hmb : m ≤ 1000000 := by omega
  have HK := Lib.hid hk
  clear rb1 rm rs rx
  have hle1 := tk_le hk
  dsimp only at hle1
  have vk := tk_bnd hby hk
  dsimp only at vk
  have HL1 := Lib.hid (show L1.length ≤ 1000000 by omega)
  have HBY1 := Lib.hid (show ∀ x ∈ L1, Byte x from (tk_gives L _ L1 hk hby).1)
  have HSZ := Lib.hid hsz
  obtain ⟨RS, hRS⟩ : ∃ RS, readF L = RS := ⟨_, rfl⟩
  have HGO := Lib.hid (show RS = finR (readK 0 L1) by rw [← hRS]; exact readF_go hk hsz)
  rw [hRS]
  clear hRS hk hsz hle1
  go_enter Try.func25, Try.ntmps25
  go_wp2_with (fail)
  have kb0 := (Below.refl w.heap.size w).alloc (Nat.le_refl _) (.cells (fm0 0).vals 36)
  refine (rn_any rb L _ (HR.out.below kb0)).mono ?_
  rintro e w2 ⟨o2, hy2, hn2⟩
  obtain ⟨rfl, hr2⟩ := hy2 _ HK.out
  have HR2 : Hid (RdB w2 rb L1) := hr2
  have HZ2 := Lib.hid (show FB w2 w.heap.size (fm0 0) from o2.blk (fm0_at rfl) (fun h => by have h2 : w.heap.size = rb := h; omega))
  have OO2 := Lib.hid ((only_of_below kb0 (· = rb)).trans o2)
  have lz2 : w.heap.size < w2.heap.size := by have := o2.size; simp at this; omega
  obtain ⟨A2, cap2, m2, rb2, rm2, rs2, rx2⟩ := HR2.out
  have r2 := Blk.cell rb2 0 _ rfl
  have lrb2 : rb < w2.heap.size := by omega
  have hmb2 : m2 ≤ 1000000 := by have := HL1.out; omega
  have hsz2 : (m : Int) - m2 = sizeF 0 ∨ ¬ (m : Int) - m2 = sizeF 0 := Decidable.em _
  have hsm := size_le 0
  have hsm0 : 0 ≤ sizeF 0 := by omega
  have HSM := Lib.hid (show ((m : Int) - m2 = sizeF 0) ↔ ((L.length : Int) - L1.length = sizeF 0) by rw [RM.out, rm2])
  clear hy2 hn2 o2 kb0 rb2 rm2 rs2 rx2 hr2 hsz2
  obtain ⟨sz, hszv⟩ : ∃ s : Nat, sizeF 0 = s := ⟨_, rfl⟩
  have HSV := Lib.hid hszv
  clear hsm hsm0
  rw [hszv] at HSM
  have hq : ((m : Int) - m2 == (sz : Int)) = true := by simp only [beq_iff_eq]; rw [HSM.out, ← HSV.out]; exact HSZ.out
  clear hszv
  go_wp2_with (fail)
  refine rg_start 11 ?_
  refine rg_below fun KK hx hne hC hbel => ?_
  have k0 := fun z : Wd KK => (hx z _ 0 _ lrb2).trans r2
  clear hx
  refine rg_quiet 3 [0,1,2,3,4,5,6,7] hC ?_
  simp only [pickD, List.map_cons, List.map_nil, List.getD_cons_zero, List.getD_cons_succ]; repeat (go_big_quiet_step (fail))
  refine wpQuiet_nil ?_
  refine rg_act 8 ?_
  go_wp2_with (fail)
  refine (size_any 0 _ vk.1 (by omega)).mono ?_
  rintro e w3 ⟨rfl, rfl⟩
  rw [HSV.out]
  go_wp2_with (fail)
  refine ⟨hbel _ (Below.refl _ _), ?_⟩
  refine rg_quiet 1 [9] (hbel _ (Below.refl _ _)) ?_
  simp only [pickD, List.map_cons, List.map_nil, List.getD_cons_zero, List.getD_cons_succ]; repeat (go_big_quiet_step (fail))
  refine wpQuiet_nil ?_
  refine rg_cut 10 ?_
  go_wp2_with (fail)
  refine (must_true _).mono ?_
  rintro e w4 ⟨rfl, rfl⟩
  clear hbel hC hne k0
  go_wp2_with (fail)
  refine rg_end0 ?_
  go_wp2_with (with_reducible refine stop_stf ?_)
  refine Stop.out ?_
  refine wpList_storeF rfl rfl (fm0 0) (fm0 0) rfl rfl rfl rfl (fm0_at rfl) ?_
  intro w5 hb5 o5
  replace hb5 : FB w5 w2.heap.size (fm0 0) := hb5
  replace o5 : Only (· = w2.heap.size) (w2.drew.alloc (.cells (fm0 0).vals 36)) w5 := o5
  have bd : Below w2.heap.size w2 (w2.drew.alloc (.cells (fm0 0).vals 36)) := ((Below.refl _ w2).drew).alloc (Nat.le_refl _) _
  have b25 : Below w2.heap.size w2 w5 := below_onto bd o5 bd.size (by intro z hz h; omega)
  have HF5 := Lib.hid hb5
  have HZ5 := Lib.hid (FB.below HZ2.out b25)
  have HR5 := Lib.hid (HR2.out.below b25)
  have OO5 := Lib.hid (OO2.out.trans (only_of_below b25 (· = rb)))
  have hne : w2.heap.size ≠ rb := by omega
  have hnz : w.heap.size ≠ rb := by omega
  have lfb : w.heap.size < w2.heap.size := by omega
  have lrf : rb < w2.heap.size := by omega
  have HLF := Lib.hid (show w2.heap.size < w5.heap.size from Blk.lt hb5)
  clear r0 r2 lrb2 lz2 hq hb5 o5 bd b25
  generalize w2.heap.size = fb at *
  have cc := FB.fc HF5.out rfl
  have p5 := cc.c5
  have g5 := cc.free 5
  clear cc
  go_wp2_with (fail)
  have onl := Lib.hid ((Only.refl (· = fb) w5).set 5 (.int .u64 1))
  have FS := Lib.hid (HF5.out.n 1)
  have RS5 := Lib.hid (HR5.out.only onl.out (fun z hz => by omega))
  have ZS := Lib.hid (FB.only HZ5.out onl.out (by omega))
  have OS := Lib.hid (OO5.out.trans' onl.out (fun z hz hs => by omega))
  obtain ⟨w6, hw6⟩ : ∃ w6, w5.setCell ⟨fb, 5, none⟩ (.int .u64 1) = w6 := ⟨_, rfl⟩
  rw [hw6] at FS RS5 ZS OS ⊢
  clear onl hw6 p5 g5 HF5 HZ5 HR5 OO5
  go_loopw [50] (fun _ wr => ∃ j : Nat, j ≤ 65535 ∧ Hid (j ≤ zeros L1) ∧ Hid (FB wr fb ((fm0 0).setN (1 + (j : Int)))) ∧ Hid (RdB wr rb (L1.drop j)) ∧ Hid (FB wr w.heap.size (fm0 0)) ∧ Hid (Only (· = rb) w wr)) (fun _ wr => 65536 - numOf (wr.cell? ⟨fb, 5, none⟩))
  case atStart => exact ⟨0, by omega, Lib.hid (Nat.zero_le _), FS, RS5, ZS, OS⟩
  case round =>
    obtain ⟨j, hj, hz, hf, hr, hzb, hon⟩ := hrel
    have p5 : wr.cell? ⟨fb, 5, none⟩ = some (.int .u64 (1 + (j : Int))) := (FB.fc hf.out rfl).c5
    have g5 := (FB.fc hf.out rfl).free 5
    obtain ⟨A3, cap3, m3, rb3, rm3, rs3, rx3⟩ := hr.out
    have r3 := Blk.cell rb3 0 _ rfl
    have fr3 := Blk.free rb3 0
    have hm3 : m3 ≤ 1000000 := by have := HL1.out; rw [List.length_drop] at rm3; omega
    have RM3 := Lib.hid rm3
    have RB3 := Lib.hid rb3
    have RS3 := Lib.hid rs3
    have RX3 := Lib.hid rx3
    clear rb3 rm3 rs3 rx3
    have OUT : Hid (j = min (zeros L1) 65535 → RS = finR (some (((fm0 0).setN (1 + (j : Int))).f, L1.drop j))) := Lib.hid (fun hh => HGO.out.trans (by rw [readK_0, readPad_at L1 j hh]; rfl))
    by_cases c1 : 1 + (j : Int) < 65536
    · have e1 : decide (1 + (j : Int) < 65536) = true := decide_eq_true c1
      by_cases c2 : 0 < m3
      · have e2 : decide (0 < m3) = true := decide_eq_true c2
        have hl3 : 0 < (L1.drop j).length := by have := RM3.out; omega
        obtain ⟨bA, oA, ha, hbA, hcA, hwA⟩ := RS3.out.ints 0 hl3
        obtain ⟨x3, r3', hx3⟩ : ∃ x r, L1.drop j = x :: r := by
          cases hd : L1.drop j with
          | nil => rw [hd] at hl3; simp at hl3
          | cons x r => exact ⟨x, r, rfl⟩
        rw [hx3] at hcA
        rw [Nat.add_zero] at hcA
        have hcA : wr.cell? ⟨bA, oA, none⟩ = some (.int .u8 x3) := hcA
        subst ha
        have HX3 := Lib.hid hx3
        clear hx3 hl3 hwA
        by_cases c3 : x3 = 0
        · subst c3
          have HST := Lib.hid (zeros_step L1 j hz.out 0 r3' HX3.out rfl)
          go_wp2_with (with_reducible refine stop_cut ?_)
          refine Stop.out ?_
          refine wpList_cut_l bytes_et rfl rfl rfl rfl RM3.out RS3.out 1 rfl (by have := RM3.out; omega) ?_
          intro a4 hs4 hb4
          obtain ⟨m4, hm4⟩ : ∃ m2, ((L1.drop j).drop 1).length = m2 := ⟨_, rfl⟩
          rw [hm4]
          have hdd : (L1.drop j).drop 1 = L1.drop (j + 1) := by rw [List.drop_drop]
          have HM4 := Lib.hid (show m4 = (L1.drop (j + 1)).length by rw [← hm4, hdd])
          rw [hdd] at hs4
          have HS4 := Lib.hid hs4
          have HB4 := Lib.hid (show ∀ y, a4 = some y → 0 < (L1.drop (j + 1)).length → y.block + 2 ≤ rb from fun y hy h0 => by
            obtain ⟨z, hz', e⟩ := hb4 y hy
            rw [e]
            exact RX3.out z hz' (by rw [HX3.out]; simp))
          clear hm4 hs4 hb4 hdd
          go_wp2_with (fail)
          have ho4 := (Only.refl (· = rb) wr).set 0 (.slice a4 m4 (cap3 - 1))
          have hr4 : RdB (wr.setCell ⟨rb, 0, none⟩ (.slice a4 m4 (cap3 - 1))) rb (L1.drop (j + 1)) := ⟨a4, cap3 - 1, m4, (Blk.set RB3.out 0 _).congr rfl, HM4.out, HS4.out.only ho4 (fun y hy h0 h => by have := HB4.out y hy h0; have h2 : y.block = rb := h; omega), HB4.out⟩
          have hf4 : FB (wr.setCell ⟨rb, 0, none⟩ (.slice a4 m4 (cap3 - 1))) fb ((fm0 0).setN (1 + (j : Int))) := FB.only hf.out ho4 hne
          have ho5 := (Only.refl (· = fb) (wr.setCell ⟨rb, 0, none⟩ (.slice a4 m4 (cap3 - 1)))).set 5 (.int .u64 (1 + (j : Int) + 1))
          have hf5 := hf4.n (1 + (j : Int) + 1)
          have hc5 := (FB.fc hf5 rfl).c5
          refine ⟨⟨j + 1, by omega, HST, Lib.hid (by rw [show 1 + ((j + 1 : Nat) : Int) = 1 + (j : Int) + 1 by omega]; exact hf5), Lib.hid (hr4.only ho5 (fun z hz => by omega)), Lib.hid (FB.only (FB.only hzb.out ho4 hnz) ho5 (by omega)), Lib.hid ((hon.out.trans ho4).trans' ho5 (fun z hz hs => by omega))⟩, ?_⟩
          have n1 : numOf (some (.int .u64 (1 + (j : Int) + 1))) = j + 2 := by show (1 + (j : Int) + 1).toNat = j + 2; omega
          have n2 : numOf (some (.int .u64 (1 + (j : Int)))) = j + 1 := by show (1 + (j : Int)).toNat = j + 1; omega
          have hc5' : World.cell? ((wr.setCell ⟨rb, 0, none⟩ (.slice a4 m4 (cap3 - 1))).setCell ⟨fb, 5, none⟩ (.int .u64 (1 + (j : Int) + 1))) ⟨fb, 5, none⟩ = some (.int .u64 (1 + (j : Int) + 1)) := hc5
          rw [hc5', p5, n1, n2]
          clear n1 n2 hc5 hc5' hf5 ho5 hf4 hr4 ho4
          omega
        · have hend := Lib.hid (zeros_end' L1 j hz.out (.inr ⟨x3, r3', HX3.out, c3⟩))
          have HT1 := Lib.hid (OUT.out (by have := hend.out; omega))
          have e3 : decide (x3 = 0) = false := decide_eq_false c3
          have e4 : (x3 == 0) = false := by simpa using c3
          have okN : FrOk ((fm0 0).setN (1 + (j : Int))).f := by
            have h0 := fr0_ok 0 (by omega)
            exact { h0 with n := ⟨by show 0 ≤ 1 + (j : Int); omega, by show 1 + (j : Int) ≤ _; omega⟩ }
          have FOK := Lib.hid (show FrOk ((fm0 0).setN (1 + (j : Int))).f ∧ True from ⟨okN, trivial⟩)
          have SM := Lib.hid (show ((fm0 0).setN (1 + (j : Int))).sm from ⟨Nat.zero_le _, Nat.zero_le _, Nat.zero_le _⟩)
          have FRS := Lib.hid (show ((fm0 0).setN (1 + (j : Int))).fresh fb from ⟨(fun x hx => by cases hx), (fun x hx => by cases hx), (fun x hx => by cases hx)⟩)
          have hok := Lib.hid (show ((fm0 0).setN (1 + (j : Int))).ok wr from ⟨FOK.out.1, Sl.nil _ _, Sl.nil _ _, Rs.nil _⟩)
          go_wp2_with (with_reducible refine stop_ldf ?_)
          refine Stop.out ?_
          refine wpList_loadF rfl rfl ((fm0 0).setN (1 + (j : Int))) rfl rfl hf.out ?_
          go_wp2_with (fail)
          refine (may_any ((fm0 0).setN (1 + (j : Int))) _ hok.out (by have := SM.out.d; omega) SM.out.c (by have := SM.out.a; omega)).mono ?_
          cases hm : mayF ((fm0 0).setN (1 + (j : Int))).f with
          | false =>
            have HT2 := Lib.hid (show RS = none from HT1.out.trans (finR_no hm))
            clear hm
            rintro e w8 ⟨rfl, b8⟩
            go_wp2_with (fail)
            refine (must_false _).mono ?_
            rintro e w9 ⟨he, rfl⟩
            rw [failE] at he
            subst he
            go_wp2_with (fail)
            exact ⟨rfl, hon.out.trans (only_of_below b8 _), (fun x hx => by rw [HT2.out] at hx; cases hx), (fun _ => rfl)⟩
          | true =>
            have HT2 := Lib.hid (show RS = some (((fm0 0).setN (1 + (j : Int))).f, (L1.drop j)) from HT1.out.trans (finR_may hm))
            clear hm
            rintro e w8 ⟨rfl, b8⟩
            have B8 := Lib.hid b8
            clear b8
            go_wp2_with (fail)
            refine (must_true _).mono ?_
            rintro e w9 ⟨rfl, rfl⟩
            have HF8 := Lib.hid (FB.below hf.out B8.out)
            have HZ8 := Lib.hid (FB.below hzb.out B8.out)
            go_wp2_with (with_reducible refine stop_ldf ?_)
            refine Stop.out ?_
            refine wpList_loadF rfl rfl ((fm0 0).setN (1 + (j : Int))) rfl rfl HF8.out ?_
            go_wp2_with (with_reducible refine stop_stf ?_)
            refine Stop.out ?_
            refine wpList_storeF rfl rfl ((fm0 0).setN (1 + (j : Int))) (fm0 0) rfl rfl rfl rfl HZ8.out ?_
            intro wy hby' oy
            go_wp2_with (fail)
            refine bodyPost_ret (results_cell_row rfl _ _ _ _ _ _ _ rfl hby' Try.underlying36 rfl (by rw [FM.size _ rfl]; exact fr_size)) rfl ?_
            refine ⟨(hon.out.trans (only_of_below B8.out _)).trans' oy (fun z hz hs => by omega), ?_, (fun h => by rw [HT2.out] at h; cases h)⟩
            rw [HT2.out]
            intro x hx
            cases hx
            have hne8 : ∀ z : Nat, z ≤ rb → ¬ z = w.heap.size := fun z hz h => by omega
            have FR := FRS.out
            refine Lib.hid ⟨_, rfl, rfl, ⟨hok.out.fr, (hok.out.below B8.out).d.only oy (fun x hx _ h => by have := FR.1 x hx; omega), (hok.out.below B8.out).c.only oy (fun x hx _ h => by have := FR.2.1 x hx; omega), (hok.out.below B8.out).a.only oy (fun x hx _ h => by have := FR.2.2 x hx; omega)⟩, ⟨fun x hx => by have := FR.1 x hx; omega, fun x hx => by have := FR.2.1 x hx; omega, fun x hx => by have := FR.2.2 x hx; omega⟩, SM.out, (hr.out.below B8.out).only oy hne8⟩

      · have c2' : m3 = 0 := by omega
        subst c2'
        have hend := Lib.hid (zeros_end' L1 j hz.out (.inl (List.length_eq_zero_iff.1 RM3.out.symm)))
        have HT1 := Lib.hid (OUT.out (by have := hend.out; omega))
        have okN : FrOk ((fm0 0).setN (1 + (j : Int))).f := by
          have h0 := fr0_ok 0 (by omega)
          exact { h0 with n := ⟨by show 0 ≤ 1 + (j : Int); omega, by show 1 + (j : Int) ≤ _; omega⟩ }
        have FOK := Lib.hid (show FrOk ((fm0 0).setN (1 + (j : Int))).f ∧ True from ⟨okN, trivial⟩)
        have SM := Lib.hid (show ((fm0 0).setN (1 + (j : Int))).sm from ⟨Nat.zero_le _, Nat.zero_le _, Nat.zero_le _⟩)
        have FRS := Lib.hid (show ((fm0 0).setN (1 + (j : Int))).fresh fb from ⟨(fun x hx => by cases hx), (fun x hx => by cases hx), (fun x hx => by cases hx)⟩)
        have hok := Lib.hid (show ((fm0 0).setN (1 + (j : Int))).ok wr from ⟨FOK.out.1, Sl.nil _ _, Sl.nil _ _, Rs.nil _⟩)
        go_wp2_with (with_reducible refine stop_ldf ?_)
        refine Stop.out ?_
        refine wpList_loadF rfl rfl ((fm0 0).setN (1 + (j : Int))) rfl rfl hf.out ?_
        go_wp2_with (fail)
        refine (may_any ((fm0 0).setN (1 + (j : Int))) _ hok.out (by have := SM.out.d; omega) SM.out.c (by have := SM.out.a; omega)).mono ?_
        cases hm : mayF ((fm0 0).setN (1 + (j : Int))).f with
        | false =>
          have HT2 := Lib.hid (show RS = none from HT1.out.trans (finR_no hm))
          clear hm
          rintro e w8 ⟨rfl, b8⟩
          go_wp2_with (fail)
          refine (must_false _).mono ?_
          rintro e w9 ⟨he, rfl⟩
          rw [failE] at he
          subst he
          go_wp2_with (fail)
          exact ⟨rfl, hon.out.trans (only_of_below b8 _), (fun x hx => by rw [HT2.out] at hx; cases hx), (fun _ => rfl)⟩
        | true =>
          have HT2 := Lib.hid (show RS = some (((fm0 0).setN (1 + (j : Int))).f, (L1.drop j)) from HT1.out.trans (finR_may hm))
          clear hm
          rintro e w8 ⟨rfl, b8⟩
          have B8 := Lib.hid b8
          clear b8
          go_wp2_with (fail)
          refine (must_true _).mono ?_
          rintro e w9 ⟨rfl, rfl⟩
          have HF8 := Lib.hid (FB.below hf.out B8.out)
          have HZ8 := Lib.hid (FB.below hzb.out B8.out)
          go_wp2_with (with_reducible refine stop_ldf ?_)
          refine Stop.out ?_
          refine wpList_loadF rfl rfl ((fm0 0).setN (1 + (j : Int))) rfl rfl HF8.out ?_
          go_wp2_with (with_reducible refine stop_stf ?_)
          refine Stop.out ?_
          refine wpList_storeF rfl rfl ((fm0 0).setN (1 + (j : Int))) (fm0 0) rfl rfl rfl rfl HZ8.out ?_
          intro wy hby' oy
          go_wp2_with (fail)
          refine bodyPost_ret (results_cell_row rfl _ _ _ _ _ _ _ rfl hby' Try.underlying36 rfl (by rw [FM.size _ rfl]; exact fr_size)) rfl ?_
          refine ⟨(hon.out.trans (only_of_below B8.out _)).trans' oy (fun z hz hs => by omega), ?_, (fun h => by rw [HT2.out] at h; cases h)⟩
          rw [HT2.out]
          intro x hx
          cases hx
          have hne8 : ∀ z : Nat, z ≤ rb → ¬ z = w.heap.size := fun z hz h => by omega
          have FR := FRS.out
          refine Lib.hid ⟨_, rfl, rfl, ⟨hok.out.fr, (hok.out.below B8.out).d.only oy (fun x hx _ h => by have := FR.1 x hx; omega), (hok.out.below B8.out).c.only oy (fun x hx _ h => by have := FR.2.1 x hx; omega), (hok.out.below B8.out).a.only oy (fun x hx _ h => by have := FR.2.2 x hx; omega)⟩, ⟨fun x hx => by have := FR.1 x hx; omega, fun x hx => by have := FR.2.1 x hx; omega, fun x hx => by have := FR.2.2 x hx; omega⟩, SM.out, (hr.out.below B8.out).only oy hne8⟩

    · have e1 : decide (1 + (j : Int) < 65536) = false := decide_eq_false c1
      have HT1 := Lib.hid (OUT.out (by have := hz.out; omega))
      have okN : FrOk ((fm0 0).setN (1 + (j : Int))).f := by
        have h0 := fr0_ok 0 (by omega)
        exact { h0 with n := ⟨by show 0 ≤ 1 + (j : Int); omega, by show 1 + (j : Int) ≤ _; omega⟩ }
      have FOK := Lib.hid (show FrOk ((fm0 0).setN (1 + (j : Int))).f ∧ True from ⟨okN, trivial⟩)
      have SM := Lib.hid (show ((fm0 0).setN (1 + (j : Int))).sm from ⟨Nat.zero_le _, Nat.zero_le _, Nat.zero_le _⟩)
      have FRS := Lib.hid (show ((fm0 0).setN (1 + (j : Int))).fresh fb from ⟨(fun x hx => by cases hx), (fun x hx => by cases hx), (fun x hx => by cases hx)⟩)
      have hok := Lib.hid (show ((fm0 0).setN (1 + (j : Int))).ok wr from ⟨FOK.out.1, Sl.nil _ _, Sl.nil _ _, Rs.nil _⟩)
      go_wp2_with (with_reducible refine stop_ldf ?_)
      refine Stop.out ?_
      refine wpList_loadF rfl rfl ((fm0 0).setN (1 + (j : Int))) rfl rfl hf.out ?_
      go_wp2_with (fail)
      refine (may_any ((fm0 0).setN (1 + (j : Int))) _ hok.out (by have := SM.out.d; omega) SM.out.c (by have := SM.out.a; omega)).mono ?_
      cases hm : mayF ((fm0 0).setN (1 + (j : Int))).f with
      | false =>
        have HT2 := Lib.hid (show RS = none from HT1.out.trans (finR_no hm))
        clear hm
        rintro e w8 ⟨rfl, b8⟩
        go_wp2_with (fail)
        refine (must_false _).mono ?_
        rintro e w9 ⟨he, rfl⟩
        rw [failE] at he
        subst he
        go_wp2_with (fail)
        exact ⟨rfl, hon.out.trans (only_of_below b8 _), (fun x hx => by rw [HT2.out] at hx; cases hx), (fun _ => rfl)⟩
      | true =>
        have HT2 := Lib.hid (show RS = some (((fm0 0).setN (1 + (j : Int))).f, (L1.drop j)) from HT1.out.trans (finR_may hm))
        clear hm
        rintro e w8 ⟨rfl, b8⟩
        have B8 := Lib.hid b8
        clear b8
        go_wp2_with (fail)
        refine (must_true _).mono ?_
        rintro e w9 ⟨rfl, rfl⟩
        have HF8 := Lib.hid (FB.below hf.out B8.out)
        have HZ8 := Lib.hid (FB.below hzb.out B8.out)
        go_wp2_with (with_reducible refine stop_ldf ?_)
        refine Stop.out ?_
        refine wpList_loadF rfl rfl ((fm0 0).setN (1 + (j : Int))) rfl rfl HF8.out ?_
        go_wp2_with (with_reducible refine stop_stf ?_)
        refine Stop.out ?_
        refine wpList_storeF rfl rfl ((fm0 0).setN (1 + (j : Int))) (fm0 0) rfl rfl rfl rfl HZ8.out ?_
        intro wy hby' oy
        go_wp2_with (fail)
        refine bodyPost_ret (results_cell_row rfl _ _ _ _ _ _ _ rfl hby' Try.underlying36 rfl (by rw [FM.size _ rfl]; exact fr_size)) rfl ?_
        refine ⟨(hon.out.trans (only_of_below B8.out _)).trans' oy (fun z hz hs => by omega), ?_, (fun h => by rw [HT2.out] at h; cases h)⟩
        rw [HT2.out]
        intro x hx
        cases hx
        have hne8 : ∀ z : Nat, z ≤ rb → ¬ z = w.heap.size := fun z hz h => by omega
        have FR := FRS.out
        refine Lib.hid ⟨_, rfl, rfl, ⟨hok.out.fr, (hok.out.below B8.out).d.only oy (fun x hx _ h => by have := FR.1 x hx; omega), (hok.out.below B8.out).c.only oy (fun x hx _ h => by have := FR.2.1 x hx; omega), (hok.out.below B8.out).a.only oy (fun x hx _ h => by have := FR.2.2 x hx; omega)⟩, ⟨fun x hx => by have := FR.1 x hx; omega, fun x hx => by have := FR.2.1 x hx; omega, fun x hx => by have := FR.2.2 x hx; omega⟩, SM.out, (hr.out.below B8.out).only oy hne8⟩


end Frm
end Go.Proofs.Ytcpjehgoeibbeaa

/- The reader: a frame (written by gen_frr4.py). -/
namespace Go.Proofs.Ytcpjehgoeibbeaa
open Go.RowKit
set_option linter.unusedVariables false
namespace Frm
open Var

theorem u8_size : (Try.prog.info? 5).map (·.size) = some 1 := by kernel_rfl
theorem readK_24 : readK 24 = rb tk fun i => rb tk fun m => rb (someB 1) fun c => rb (someB (c.getD 0 0)) fun d => rb (someB 16) fun t => rp { fr0 24 with id := i, max := m, cid := d, tok := t } := rfl
theorem someB_len {n : Int} {L : List Int} {x : List Int × List Int} (h0 : 0 ≤ n) (h : someB n L = some x) : (x.1.length : Int) = n := by
  unfold someB at h
  split at h
  · cases h; simp; omega
  · cases h
theorem someB_byte {n : Int} {L : List Int} {x : List Int × List Int} (hL : ∀ y ∈ L, Byte y) (h : someB n L = some x) : ∀ y ∈ x.1, Byte y := by
  unfold someB at h
  split at h
  · cases h; intro y hy; exact hL y (List.mem_of_mem_take hy)
  · cases h
theorem FB.cidS {w : World} {b : Nat} {p : FM} (h : FB w b p) (a : Option Addr) (c m : Nat) (L : List Int) (hm : m = L.length) : FB (w.setCell ⟨b, 8, none⟩ (.slice a m c)) b (p.setCid a c L) := by rw [hm]; exact h.cid a c L
set_option maxHeartbeats 8000000 in
set_option maxRecDepth 100000 in
theorem rframe_24 (rb : Nat) (L L1 : List Int) (w : World) (h : RdB w rb L) (hl : L.length ≤ 1000000) (hk : tk L = some (24, L1)) (hsz : (L.length : Int) - L1.length = sizeF 24) :
    Calls Try.prog 25 #[.pointer (some ⟨rb, 0, none⟩)] w fun e w' => Only (· = rb) w w' ∧ (∀ x, readF L = some x → Hid (RF w' rb w.heap.size x.1 x.2 e)) ∧ (readF L = none → e = failE) := by
  have HR := Lib.hid h
  have hby := h.byte
  have lrb := h.lt
  obtain ⟨A, cap, m, rb1, rm, rs, rx⟩ := h
  have r0 := Blk.cell rb1 0 _ rfl
  have RM := Lib.hid rm
  have hmb : m ≤ 1000000 := by omega
  have HK := Lib.hid hk
  clear rb1 rm rs rx
  have hle1 := tk_le hk
  dsimp only at hle1
  have vk := tk_bnd hby hk
  dsimp only at vk
  have HL1 := Lib.hid (show L1.length ≤ 1000000 by omega)
  have HBY1 := Lib.hid (show ∀ x ∈ L1, Byte x from (tk_gives L _ L1 hk hby).1)
  have HSZ := Lib.hid hsz
  obtain ⟨RS, hRS⟩ : ∃ RS, readF L = RS := ⟨_, rfl⟩
  have HGO := Lib.hid (show RS = finR (readK 24 L1) by rw [← hRS]; exact readF_go hk hsz)
  rw [hRS]
  clear hRS hk hsz hle1
  go_enter Try.func25, Try.ntmps25
  go_wp2_with (fail)
  have kb0 := (Below.refl w.heap.size w).alloc (Nat.le_refl _) (.cells (fm0 0).vals 36)
  refine (rn_any rb L _ (HR.out.below kb0)).mono ?_
  rintro e w2 ⟨o2, hy2, hn2⟩
  obtain ⟨rfl, hr2⟩ := hy2 _ HK.out
  have HR2 : Hid (RdB w2 rb L1) := hr2
  have HZ2 := Lib.hid (show FB w2 w.heap.size (fm0 0) from o2.blk (fm0_at rfl) (fun h => by have h2 : w.heap.size = rb := h; omega))
  have OO2 := Lib.hid ((only_of_below kb0 (· = rb)).trans o2)
  have lz2 : w.heap.size < w2.heap.size := by have := o2.size; simp at this; omega
  obtain ⟨A2, cap2, m2, rb2, rm2, rs2, rx2⟩ := HR2.out
  have r2 := Blk.cell rb2 0 _ rfl
  have lrb2 : rb < w2.heap.size := by omega
  have hmb2 : m2 ≤ 1000000 := by have := HL1.out; omega
  have hsz2 : (m : Int) - m2 = sizeF 24 ∨ ¬ (m : Int) - m2 = sizeF 24 := Decidable.em _
  have hsm := size_le 24
  have hsm0 : 0 ≤ sizeF 24 := by omega
  have HSM := Lib.hid (show ((m : Int) - m2 = sizeF 24) ↔ ((L.length : Int) - L1.length = sizeF 24) by rw [RM.out, rm2])
  clear hy2 hn2 o2 kb0 rb2 rm2 rs2 rx2 hr2 hsz2
  obtain ⟨sz, hszv⟩ : ∃ s : Nat, sizeF 24 = s := ⟨_, rfl⟩
  have HSV := Lib.hid hszv
  clear hsm hsm0
  rw [hszv] at HSM
  have hq : ((m : Int) - m2 == (sz : Int)) = true := by simp only [beq_iff_eq]; rw [HSM.out, ← HSV.out]; exact HSZ.out
  clear hszv
  go_wp2_with (fail)
  refine rg_start 11 ?_
  refine rg_below fun KK hx hne hC hbel => ?_
  have k0 := fun z : Wd KK => (hx z _ 0 _ lrb2).trans r2
  clear hx
  refine rg_quiet 3 [0,1,2,3,4,5,6,7] hC ?_
  simp only [pickD, List.map_cons, List.map_nil, List.getD_cons_zero, List.getD_cons_succ]; repeat (go_big_quiet_step (fail))
  refine wpQuiet_nil ?_
  refine rg_act 8 ?_
  go_wp2_with (fail)
  refine (size_any 24 _ vk.1 (by omega)).mono ?_
  rintro e w3 ⟨rfl, rfl⟩
  rw [HSV.out]
  go_wp2_with (fail)
  refine ⟨hbel _ (Below.refl _ _), ?_⟩
  refine rg_quiet 1 [9] (hbel _ (Below.refl _ _)) ?_
  simp only [pickD, List.map_cons, List.map_nil, List.getD_cons_zero, List.getD_cons_succ]; repeat (go_big_quiet_step (fail))
  refine wpQuiet_nil ?_
  refine rg_cut 10 ?_
  go_wp2_with (fail)
  refine (must_true _).mono ?_
  rintro e w4 ⟨rfl, rfl⟩
  clear hbel hC hne k0
  go_wp2_with (fail)
  refine rg_end0 ?_
  go_wp2_with (with_reducible refine stop_stf ?_)
  refine Stop.out ?_
  refine wpList_storeF rfl rfl (fm0 24) (fm0 0) rfl rfl rfl rfl (fm0_at rfl) ?_
  intro w5 hb5 o5
  replace hb5 : FB w5 w2.heap.size (fm0 24) := hb5
  replace o5 : Only (· = w2.heap.size) (w2.drew.alloc (.cells (fm0 0).vals 36)) w5 := o5
  have bd : Below w2.heap.size w2 (w2.drew.alloc (.cells (fm0 0).vals 36)) := ((Below.refl _ w2).drew).alloc (Nat.le_refl _) _
  have b25 : Below w2.heap.size w2 w5 := below_onto bd o5 bd.size (by intro z hz h; omega)
  have HF5 := Lib.hid hb5
  have HZ5 := Lib.hid (FB.below HZ2.out b25)
  have HR5 := Lib.hid (HR2.out.below b25)
  have OO5 := Lib.hid (OO2.out.trans (only_of_below b25 (· = rb)))
  have hne : w2.heap.size ≠ rb := by omega
  have hnz : w.heap.size ≠ rb := by omega
  have lfb : w.heap.size < w2.heap.size := by omega
  have lrf : rb < w2.heap.size := by omega
  have HLF := Lib.hid (show w2.heap.size < w5.heap.size from Blk.lt hb5)
  clear r0 r2 lrb2 lz2 hq hb5 o5 bd b25
  generalize w2.heap.size = fb at *
  go_wp2_with (fail)
  have hby10 := HR5.out.byte
  refine (rn_any rb L1 _ HR5.out).mono ?_
  rintro e w10 ⟨o10, hy10, hn10⟩
  have HY10 := Lib.hid hy10
  have HN10 := Lib.hid hn10
  have O10 := Lib.hid o10
  clear hy10 hn10 o10
  cases h10 : tk L1 with
  | none =>
    have he := HN10.out h10
    rw [failE] at he
    subst he
    have HT := Lib.hid (show RS = none from HGO.out.trans (finR_none (by rw [readK_24]; exact rb_none h10)))
    clear h10
    go_wp2_with (fail)
    exact ⟨rfl, OO5.out.trans O10.out, (fun x hx => by rw [HT.out] at hx; cases hx), (fun _ => rfl)⟩
  | some x =>
    obtain ⟨v10, L10⟩ := x
    obtain ⟨rfl, hr10⟩ := HY10.out _ h10
    have HR10 : Hid (RdB w10 rb L10) := hr10
    have H10 := Lib.hid h10
    have vb10 := tk_bnd hby10 h10
    have ll10 := tk_le h10
    dsimp only at vb10 ll10
    have HL10 := Lib.hid (show L10.length ≤ 1000000 by have := HL1.out; omega)
    clear h10 hby10 HY10 HN10 hr10 ll10
    have FF10 := Lib.hid (FB.only HF5.out O10.out hne)
    have ZZ10 := Lib.hid (FB.only HZ5.out O10.out hnz)
    have OO10 := Lib.hid (OO5.out.trans O10.out)
    go_wp2_with (fail)
    have hby11 := HR10.out.byte
    refine (rn_any rb L10 _ HR10.out).mono ?_
    rintro e w11 ⟨o11, hy11, hn11⟩
    have HY11 := Lib.hid hy11
    have HN11 := Lib.hid hn11
    have O11 := Lib.hid o11
    clear hy11 hn11 o11
    cases h11 : tk L10 with
    | none =>
      have he := HN11.out h11
      rw [failE] at he
      subst he
      have HT := Lib.hid (show RS = none from HGO.out.trans (finR_none (by rw [readK_24]; rw [rb_go H10.out]; exact rb_none h11)))
      clear h11
      go_wp2_with (fail)
      exact ⟨rfl, OO10.out.trans O11.out, (fun x hx => by rw [HT.out] at hx; cases hx), (fun _ => rfl)⟩
    | some x =>
      obtain ⟨v11, L11⟩ := x
      obtain ⟨rfl, hr11⟩ := HY11.out _ h11
      have HR11 : Hid (RdB w11 rb L11) := hr11
      have H11 := Lib.hid h11
      have vb11 := tk_bnd hby11 h11
      have ll11 := tk_le h11
      dsimp only at vb11 ll11
      have HL11 := Lib.hid (show L11.length ≤ 1000000 by have := HL10.out; omega)
      clear h11 hby11 HY11 HN11 hr11 ll11
      have FF11 := Lib.hid (FB.only FF10.out O11.out hne)
      have ZZ11 := Lib.hid (FB.only ZZ10.out O11.out hnz)
      have OO11 := Lib.hid (OO10.out.trans O11.out)
      have cc11 := FB.fc FF11.out rfl
      have p111 := cc11.c1
      have g111 := cc11.free 1
      have p113 := cc11.c3
      have g113 := cc11.free 3
      clear cc11
      go_wp2_with (fail)
      have onl11 := Lib.hid (((Only.refl (· = fb) w11).set 1 (.int .u64 v10)).set 3 (.int .u64 v11))
      have FS11 := Lib.hid ((FF11.out.id v10).max v11)
      have RS11 := Lib.hid (HR11.out.only onl11.out (fun z hz => by omega))
      have ZS11 := Lib.hid (FB.only ZZ11.out onl11.out (by omega))
      have OS11 := Lib.hid (OO11.out.trans' onl11.out (fun z hz hs => by omega))
      refine (rsome_any rb L11 1 _ RS11.out (by omega) (by omega) HL11.out).mono ?_
      rintro e w12 ⟨o12, hy12, hn12⟩
      have HY12 := Lib.hid hy12
      have HN12 := Lib.hid hn12
      have O12 := Lib.hid o12
      clear hy12 hn12 o12
      cases h12 : someB 1 L11 with
      | none =>
        have he := HN12.out h12
        rw [failE] at he
        subst he
        have HT := Lib.hid (show RS = none from HGO.out.trans (finR_none (by rw [readK_24]; rw [rb_go H10.out]; rw [rb_go H11.out]; exact rb_none h12)))
        clear h12
        go_wp2_with (fail)
        exact ⟨rfl, OS11.out.trans O12.out, (fun x hx => by rw [HT.out] at hx; cases hx), (fun _ => rfl)⟩
      | some x =>
        obtain ⟨cl, L12⟩ := x
        obtain ⟨a12, c12, m12, rfl, M12, B12, hr12⟩ := HY12.out _ h12
        have HR12 : Hid (RdB w12 rb L12) := hr12
        replace M12 : Hid (m12 = cl.length) := M12
        have HB12 : Hid (OwB w12 w11.heap.size a12 c12 cl) := Lib.hid ⟨B12.out.1.base_le (by first | exact Nat.le_refl _ | simp), B12.out.2⟩
        have H12 := Lib.hid h12
        have HLV12 := Lib.hid (show cl.length ≤ 1000000 ∧ L12.length ≤ 1000000 by have := HL11.out; have h5 := someB_le h12; dsimp only at h5; omega)
        have LEN12 := Lib.hid (show (cl.length : Int) = 1 from someB_len (by omega) h12)
        have BYT12 := Lib.hid (show ∀ y ∈ cl, Byte y from someB_byte (RS11.out).byte h12)
        clear h12 HY12 HN12 hr12 B12
        have FF12 := Lib.hid (FB.only FS11.out O12.out hne)
        have ZZ12 := Lib.hid (FB.only ZS11.out O12.out hnz)
        have OO12 := Lib.hid (OS11.out.trans O12.out)
        obtain ⟨cv, hcv⟩ : ∃ cv, cl = [cv] := by
          have := LEN12.out
          match cl, this with
          | [x], _ => exact ⟨x, rfl⟩
          | [], h => simp at h
          | _ :: _ :: _, h => simp at h; omega
        subst hcv
        have hm12 : m12 = 1 := M12.out
        obtain ⟨g12, ha12, _, _, hc12, _⟩ := own_cell (L := [cv]) HB12.out.1 (i := 0) (by simp)
        subst hm12 ha12
        have hc12 : w12.cell? ⟨g12, 0, none⟩ = some (.int .u8 cv) := hc12
        have hcvb : 0 ≤ cv ∧ cv ≤ 255 := BYT12.out cv (by simp)
        have LCV := Lib.hid (show ([cv] : List Int).getD 0 0 = cv from rfl)
        go_wp2_with (fail)
        refine (rsome_any rb L12 cv _ HR12.out hcvb.1 (by omega) HLV12.out.2).mono ?_
        rintro e w13 ⟨o13, hy13, hn13⟩
        have HY13 := Lib.hid hy13
        have HN13 := Lib.hid hn13
        have O13 := Lib.hid o13
        clear hy13 hn13 o13
        cases h13 : someB cv L12 with
        | none =>
          have he := HN13.out h13
          rw [failE] at he
          subst he
          have HT := Lib.hid (show RS = none from HGO.out.trans (finR_none (by rw [readK_24]; rw [rb_go H10.out]; rw [rb_go H11.out]; rw [rb_go H12.out]; rw [LCV.out]; exact rb_none h13)))
          clear h13
          go_wp2_with (fail)
          exact ⟨rfl, OO12.out.trans O13.out, (fun x hx => by rw [HT.out] at hx; cases hx), (fun _ => rfl)⟩
        | some x =>
          obtain ⟨d, L13⟩ := x
          obtain ⟨a13, c13, m13, rfl, M13, B13, hr13⟩ := HY13.out _ h13
          have HR13 : Hid (RdB w13 rb L13) := hr13
          replace M13 : Hid (m13 = d.length) := M13
          have HB13 : Hid (OwB w13 w12.heap.size a13 c13 d) := Lib.hid ⟨B13.out.1.base_le (by first | exact Nat.le_refl _ | simp), B13.out.2⟩
          have H13 := Lib.hid h13
          have HLV13 := Lib.hid (show d.length ≤ 1000000 ∧ L13.length ≤ 1000000 by have := HLV12.out.2; have h5 := someB_le h13; dsimp only at h5; omega)
          have LEN13 := Lib.hid (show (d.length : Int) = cv from someB_len hcvb.1 h13)
          have BYT13 := Lib.hid (show ∀ y ∈ d, Byte y from someB_byte (HR12.out).byte h13)
          clear h13 HY13 HN13 hr13 B13
          have FF13 := Lib.hid (FB.only FF12.out O13.out hne)
          have ZZ13 := Lib.hid (FB.only ZZ12.out O13.out hnz)
          have OO13 := Lib.hid (OO12.out.trans O13.out)
          have SZ13 := Lib.hid (show fb < w12.heap.size from Blk.lt FF12.out)
          have FAR13 := Lib.hid (show ∀ x, a13 = some x → fb < x.block from fun x hx => by have h1 := HB13.out.far x hx; have h3 := SZ13.out; omega)
          have cc13 := FB.fc FF13.out rfl
          have p138 := cc13.c8
          have g138 := cc13.free 8
          clear cc13
          go_wp2_with (fail)
          have onl13 := Lib.hid ((Only.refl (· = fb) w13).set 8 (.slice a13 m13 c13))
          have FS13 := Lib.hid (FF13.out.cidS a13 c13 m13 d M13.out)
          have RS13 := Lib.hid (HR13.out.only onl13.out (fun z hz => by omega))
          have ZS13 := Lib.hid (FB.only ZZ13.out onl13.out (by omega))
          have OS13 := Lib.hid (OO13.out.trans' onl13.out (fun z hz hs => by omega))
          have CS13 := Lib.hid (show Sl .u8 (w13.setCell ⟨fb, 8, none⟩ (.slice a13 m13 c13)) a13 c13 d from HB13.out.sl.only onl13.out (fun x hx _ h => by have := FAR13.out x hx; omega))
          have hfW : fb < (w13.setCell ⟨fb, 8, none⟩ (.slice a13 m13 c13)).heap.size := Blk.lt FS13.out
          obtain ⟨w14, hw14⟩ : ∃ w14, w13.setCell ⟨fb, 8, none⟩ (.slice a13 m13 c13) = w14 := ⟨_, rfl⟩
          rw [hw14] at FS13 RS13 ZS13 OS13 CS13 hfW ⊢
          clear hw14 onl13
          refine rg_start 5 ?_
          refine rg_besides (fun b => b = rb) fun KK hx hnK hC hbes => ?_
          clear hx
          refine rg_quiet 2 [0,1,2] hC ?_
          simp only [pickD, List.map_cons, List.map_nil, List.getD_cons_zero, List.getD_cons_succ]; repeat (go_big_quiet_step (fail))
          refine wpQuiet_nil ?_
          refine rg_act 3 ?_
          go_wp2_with (fail)
          have DR := (Below.refl w14.heap.size w14).drew
          have RS14 := Lib.hid (RdB.below RS13.out DR)
          have FS14 := Lib.hid (FB.below FS13.out DR)
          have ZS14 := Lib.hid (FB.below ZS13.out DR)
          have OS14 := Lib.hid (OS13.out.trans (only_of_below DR _))
          have CS14 := Lib.hid (CS13.out.below DR)
          have hfD : fb < w14.drew.heap.size := hfW
          have HB14 := Lib.hid (show ∀ w', Only (· = rb) w14.drew w' → Cls KK w' from fun w' ho => hbes w' (fun k hk hs => ho.block k hk hs))
          obtain ⟨w15, hw15⟩ : ∃ w15, w14.drew = w15 := ⟨_, rfl⟩
          rw [hw15] at RS14 FS14 ZS14 OS14 CS14 hfD HB14 ⊢
          clear DR hbes hw15
          refine (rsome_any rb L13 16 _ RS14.out (by omega) (by omega) HLV13.out.2).mono ?_
          rintro e w16 ⟨o16, hy16, hn16⟩
          have HY16 := Lib.hid hy16
          have HN16 := Lib.hid hn16
          have O16 := Lib.hid o16
          clear hy16 hn16 o16
          cases h16 : someB 16 L13 with
          | none =>
            have he := HN16.out h16
            rw [failE] at he
            subst he
            have HT := Lib.hid (show RS = none from HGO.out.trans (finR_none (by rw [readK_24]; rw [rb_go H10.out]; rw [rb_go H11.out]; rw [rb_go H12.out]; rw [LCV.out]; rw [rb_go H13.out]; exact rb_none h16)))
            clear h16
            go_wp2_with (fail)
            exact ⟨rfl, OS14.out.trans O16.out, (fun x hx => by rw [HT.out] at hx; cases hx), (fun _ => rfl)⟩
          | some x =>
            obtain ⟨tv, L16⟩ := x
            obtain ⟨a16, c16, m16, rfl, M16, B16, hr16⟩ := HY16.out _ h16
            have HR16 : Hid (RdB w16 rb L16) := hr16
            replace M16 : Hid (m16 = tv.length) := M16
            have HB16 : Hid (OwB w16 w15.heap.size a16 c16 tv) := Lib.hid ⟨B16.out.1.base_le (by first | exact Nat.le_refl _ | simp), B16.out.2⟩
            have H16 := Lib.hid h16
            have HLV16 := Lib.hid (show tv.length ≤ 1000000 ∧ L16.length ≤ 1000000 by have := HLV13.out.2; have h5 := someB_le h16; dsimp only at h5; omega)
            have LEN16 := Lib.hid (show (tv.length : Int) = 16 from someB_len (by omega) h16)
            have BYT16 := Lib.hid (show ∀ y ∈ tv, Byte y from someB_byte (RS14.out).byte h16)
            clear h16 HY16 HN16 hr16 B16
            have FF16 := Lib.hid (FB.only FS14.out O16.out hne)
            have ZZ16 := Lib.hid (FB.only ZS14.out O16.out hnz)
            have OO16 := Lib.hid (OS14.out.trans O16.out)
            have hlt16 : tv.length = 16 := by have := LEN16.out; omega
            have hm16 : m16 = 16 := M16.out.trans hlt16
            subst hm16
            obtain ⟨g16, ha16, hg16, _, _⟩ := HB16.out.1.at_ (i := 0) (by simp [hlt16])
            subst ha16
            have FAR16 := Lib.hid (show fb < g16 from Nat.lt_of_lt_of_le hfD hg16)
            have hC16 := HB14.out w16 O16.out
            have CS16 := Lib.hid (CS14.out.only O16.out (fun x hx _ h => by have := FAR13.out x hx; omega))
            go_wp2_with (fail)
            refine ⟨hC16, ?_⟩
            refine rg_cut 4 ?_
            go_wp2_with (fail)
            have hcp := run_copy_row (P := Try.prog) w16 23 23 3 5 fb 9 16 16 ⟨g16, 0, none⟩ 16 c16 ((((fm0 24).setId v10).setMax v11).setCid a13 c13 d).vals 36 (tv.map (Value.int .u8)) Try.underlying23 u8_size FF16.out (by simp [hlt16]) (fun j v hv => by
              have hj : j < tv.length := by rcases Nat.lt_or_ge j tv.length with h | h; exact h; rw [List.getElem?_eq_none (by simpa using h)] at hv; cases hv
              obtain ⟨g', e', _, _, hc', _⟩ := own_cell (L := tv) HB16.out.1 hj
              cases e'
              rw [addr_add, Nat.zero_add, hc']
              rw [← hv]
              simp [List.getD_eq_getElem?_getD, hj]) (by rw [FM.size _ rfl]; simp [hlt16]) (by intro v hv; obtain ⟨n, _, rfl⟩ := List.mem_map.1 hv; rfl)
            rw [hcp]
            have hst := setRow_heap w16 fb ((((fm0 24).setId v10).setMax v11).setCid a13 c13 d).vals (((((fm0 24).setId v10).setMax v11).setCid a13 c13 d).vals.toList.take 9 ++ tv.map (Value.int .u8) ++ ((((fm0 24).setId v10).setMax v11).setCid a13 c13 d).vals.toList.drop (9 + (tv.map (Value.int .u8)).length)).toArray 36 (0, 0) FF16.out
            have oD : Only (· = fb) w16 (w16.setRow fb (((((fm0 24).setId v10).setMax v11).setCid a13 c13 d).vals.toList.take 9 ++ tv.map (Value.int .u8) ++ ((((fm0 24).setId v10).setMax v11).setCid a13 c13 d).vals.toList.drop (9 + (tv.map (Value.int .u8)).length)).toArray) := ⟨rfl, rfl, rfl, by simp [World.setRow], fun k hk hs => setRow_other _ _ _ _ hs⟩
            obtain ⟨w17, hw17⟩ : ∃ w17, w16.setRow fb (((((fm0 24).setId v10).setMax v11).setCid a13 c13 d).vals.toList.take 9 ++ tv.map (Value.int .u8) ++ ((((fm0 24).setId v10).setMax v11).setCid a13 c13 d).vals.toList.drop (9 + (tv.map (Value.int .u8)).length)).toArray = w17 := ⟨_, rfl⟩
            rw [hw17] at hst oD ⊢
            have FS17 := Lib.hid (FB.stTok (p := ((((fm0 24).setId v10).setMax v11).setCid a13 c13 d)) rfl tv hlt16 hst)
            have RS17 := Lib.hid (HR16.out.only oD (fun z hz => by omega))
            have ZS17 := Lib.hid (FB.only ZZ16.out oD (by omega))
            have OS17 := Lib.hid (OO16.out.trans' oD (fun z hz hs => by omega))
            have CS17 := Lib.hid (CS16.out.only oD (fun x hx _ h => by have := FAR13.out x hx; omega))
            have HT16 := Lib.hid hlt16
            clear hst oD hw17 hcp hC hnK hC16 hlt16
            go_wp2_with (fail)
            refine rg_end0 ?_
            have HF := Lib.hid (show readK 24 L1 = some ((((((fm0 24).setId v10).setMax v11).setCid a13 c13 d).setTok tv).f, L16) by rw [readK_24]; rw [rb_go H10.out]; rw [rb_go H11.out]; rw [rb_go H12.out]; rw [LCV.out]; rw [rb_go H13.out]; rw [rb_go H16.out]; rfl)
            have FRS := Lib.hid (show (((((fm0 24).setId v10).setMax v11).setCid a13 c13 d).setTok tv).fresh fb from ⟨(fun x hx => by cases hx), fun x hx => Nat.le_of_lt (FAR13.out x hx), (fun x hx => by cases hx)⟩)
            have FOK := Lib.hid (show FrOk (((((fm0 24).setId v10).setMax v11).setCid a13 c13 d).setTok tv).f ∧ (((((fm0 24).setId v10).setMax v11).setCid a13 c13 d).setTok tv).f.data.length ≤ 1000000 ∧ (((((fm0 24).setId v10).setMax v11).setCid a13 c13 d).setTok tv).f.acks.length ≤ 1000001 by
              obtain ⟨_, n, hn, res⟩ := readK_gives 24 (by omega) L1 (((((fm0 24).setId v10).setMax v11).setCid a13 c13 d).setTok tv).f L16 HF.out HBY1.out
              have h1 := HL1.out
              have h2 := res.data
              have h3 := res.acks
              exact ⟨res.ok, by omega, by omega⟩)
            have SM := Lib.hid (show (((((fm0 24).setId v10).setMax v11).setCid a13 c13 d).setTok tv).sm from ⟨FOK.out.2.1, by show d.length ≤ _; have := HLV13.out.1; omega, Nat.zero_le _⟩)
            have hok := Lib.hid (show (((((fm0 24).setId v10).setMax v11).setCid a13 c13 d).setTok tv).ok w17 from ⟨FOK.out.1, Sl.nil _ _, CS17.out, Rs.nil _⟩)
            have HT1 := Lib.hid (show RS = finR (some ((((((fm0 24).setId v10).setMax v11).setCid a13 c13 d).setTok tv).f, L16)) from HGO.out.trans (congrArg finR HF.out))
            go_wp2_with (with_reducible refine stop_ldf ?_)
            refine Stop.out ?_
            refine wpList_loadF rfl rfl (((((fm0 24).setId v10).setMax v11).setCid a13 c13 d).setTok tv) HT16.out rfl FS17.out ?_
            go_wp2_with (fail)
            refine (may_any (((((fm0 24).setId v10).setMax v11).setCid a13 c13 d).setTok tv) _ hok.out (by have := SM.out.d; omega) SM.out.c (by have := SM.out.a; omega)).mono ?_
            cases hm : mayF (((((fm0 24).setId v10).setMax v11).setCid a13 c13 d).setTok tv).f with
            | false =>
              have HT2 := Lib.hid (show RS = none from HT1.out.trans (finR_no hm))
              clear hm
              rintro e w8 ⟨rfl, b8⟩
              go_wp2_with (fail)
              refine (must_false _).mono ?_
              rintro e w9 ⟨he, rfl⟩
              rw [failE] at he
              subst he
              go_wp2_with (fail)
              exact ⟨rfl, OS17.out.trans (only_of_below b8 _), (fun x hx => by rw [HT2.out] at hx; cases hx), (fun _ => rfl)⟩
            | true =>
              have HT2 := Lib.hid (show RS = some ((((((fm0 24).setId v10).setMax v11).setCid a13 c13 d).setTok tv).f, L16) from HT1.out.trans (finR_may hm))
              clear hm
              rintro e w8 ⟨rfl, b8⟩
              have B8 := Lib.hid b8
              clear b8
              go_wp2_with (fail)
              refine (must_true _).mono ?_
              rintro e w9 ⟨rfl, rfl⟩
              have HF8 := Lib.hid (FB.below FS17.out B8.out)
              have HZ8 := Lib.hid (FB.below ZS17.out B8.out)
              go_wp2_with (with_reducible refine stop_ldf ?_)
              refine Stop.out ?_
              refine wpList_loadF rfl rfl (((((fm0 24).setId v10).setMax v11).setCid a13 c13 d).setTok tv) HT16.out rfl HF8.out ?_
              go_wp2_with (with_reducible refine stop_stf ?_)
              refine Stop.out ?_
              refine wpList_storeF rfl rfl (((((fm0 24).setId v10).setMax v11).setCid a13 c13 d).setTok tv) (fm0 0) HT16.out rfl rfl rfl HZ8.out ?_
              intro wy hby' oy
              go_wp2_with (fail)
              refine bodyPost_ret (results_cell_row rfl _ _ _ _ _ _ _ rfl hby' Try.underlying36 rfl (by rw [FM.size _ HT16.out]; exact fr_size)) rfl ?_
              refine ⟨(OS17.out.trans (only_of_below B8.out _)).trans' oy (fun z hz hs => by omega), ?_, (fun h => by rw [HT2.out] at h; cases h)⟩
              rw [HT2.out]
              intro x hx
              cases hx
              have hne8 : ∀ z : Nat, z ≤ rb → ¬ z = w.heap.size := fun z hz h => by omega
              have FR := FRS.out
              refine Lib.hid ⟨_, rfl, rfl, ⟨hok.out.fr, (hok.out.below B8.out).d.only oy (fun x hx _ h => by have := FR.1 x hx; omega), (hok.out.below B8.out).c.only oy (fun x hx _ h => by have := FR.2.1 x hx; omega), (hok.out.below B8.out).a.only oy (fun x hx _ h => by have := FR.2.2 x hx; omega)⟩, ⟨fun x hx => by have := FR.1 x hx; omega, fun x hx => by have := FR.2.1 x hx; omega, fun x hx => by have := FR.2.2 x hx; omega⟩, SM.out, (RS17.out.below B8.out).only oy hne8⟩

end Frm
end Go.Proofs.Ytcpjehgoeibbeaa

/- The reader's frame. -/
namespace Go.Proofs.Ytcpjehgoeibbeaa
open Go.RowKit
set_option linter.unusedVariables false
namespace Frm
open Var
theorem rframe_any (rb : Nat) (L : List Int) (w : World) (h : RdB w rb L) (hl : L.length ≤ 1000000) :
    Calls Try.prog 25 #[.pointer (some ⟨rb, 0, none⟩)] w fun e w' => Only (· = rb) w w' ∧ (∀ x, readF L = some x → Hid (RF w' rb w.heap.size x.1 x.2 e)) ∧ (readF L = none → e = failE) := by
  cases hk : tk L with
  | none => exact rframe_x1 rb L [] 0 w h hl hk
  | some x =>
    obtain ⟨k, L1⟩ := x
    have hb := tk_bnd h.byte hk
    dsimp only at hb
    by_cases hsz : (L.length : Int) - L1.length = sizeF k
    case neg => exact rframe_x2 rb L L1 k w h hl hk hsz
    by_cases h30 : 30 < k
    · exact rframe_x3 rb L L1 k w h hl hk hsz h30
    by_cases n0 : k = 0
    · subst n0; exact rframe_0 rb L L1 w h hl hk hsz
    by_cases n1 : k = 1
    · subst n1; exact rframe_1 rb L L1 w h hl hk hsz
    by_cases n2 : k = 2
    · subst n2; exact rframe_2 rb L L1 w h hl hk hsz
    by_cases n3 : k = 3
    · subst n3; exact rframe_3 rb L L1 w h hl hk hsz
    by_cases n4 : k = 4
    · subst n4; exact rframe_4 rb L L1 w h hl hk hsz
    by_cases n5 : k = 5
    · subst n5; exact rframe_5 rb L L1 w h hl hk hsz
    by_cases n6 : k = 6
    · subst n6; exact rframe_6 rb L L1 w h hl hk hsz
    by_cases n7 : k = 7
    · subst n7; exact rframe_7 rb L L1 w h hl hk hsz
    by_cases n8 : k = 8
    · subst n8; exact rframe_8 rb L L1 w h hl hk hsz
    by_cases n9 : k = 9
    · subst n9; exact rframe_9 rb L L1 w h hl hk hsz
    by_cases n10 : k = 10
    · subst n10; exact rframe_10 rb L L1 w h hl hk hsz
    by_cases n11 : k = 11
    · subst n11; exact rframe_11 rb L L1 w h hl hk hsz
    by_cases n12 : k = 12
    · subst n12; exact rframe_12 rb L L1 w h hl hk hsz
    by_cases n13 : k = 13
    · subst n13; exact rframe_13 rb L L1 w h hl hk hsz
    by_cases n14 : k = 14
    · subst n14; exact rframe_14 rb L L1 w h hl hk hsz
    by_cases n15 : k = 15
    · subst n15; exact rframe_15 rb L L1 w h hl hk hsz
    by_cases n16 : k = 16
    · subst n16; exact rframe_16 rb L L1 w h hl hk hsz
    by_cases n17 : k = 17
    · subst n17; exact rframe_17 rb L L1 w h hl hk hsz
    by_cases n18 : k = 18
    · subst n18; exact rframe_18 rb L L1 w h hl hk hsz
    by_cases n19 : k = 19
    · subst n19; exact rframe_19 rb L L1 w h hl hk hsz
    by_cases n20 : k = 20
    · subst n20; exact rframe_20 rb L L1 w h hl hk hsz
    by_cases n21 : k = 21
    · subst n21; exact rframe_21 rb L L1 w h hl hk hsz
    by_cases n22 : k = 22
    · subst n22; exact rframe_22 rb L L1 w h hl hk hsz
    by_cases n23 : k = 23
    · subst n23; exact rframe_23 rb L L1 w h hl hk hsz
    by_cases n24 : k = 24
    · subst n24; exact rframe_24 rb L L1 w h hl hk hsz
    by_cases n25 : k = 25
    · subst n25; exact rframe_25 rb L L1 w h hl hk hsz
    by_cases n26 : k = 26
    · subst n26; exact rframe_26 rb L L1 w h hl hk hsz
    by_cases n27 : k = 27
    · subst n27; exact rframe_27 rb L L1 w h hl hk hsz
    by_cases n28 : k = 28
    · subst n28; exact rframe_28 rb L L1 w h hl hk hsz
    by_cases n29 : k = 29
    · subst n29; exact rframe_29 rb L L1 w h hl hk hsz
    by_cases n30 : k = 30
    · subst n30; exact rframe_30 rb L L1 w h hl hk hsz
    omega
end Frm
end Go.Proofs.Ytcpjehgoeibbeaa
