/- The reader: a frame, what it yields (written by gen_frr4.py). -/
import Derived.Test.YtcpjehgoeibbeaaFrMd
import Derived.Test.YtcpjehgoeibbeaaFrMh
namespace Go.Proofs.Ytcpjehgoeibbeaa
open Go.RowKit
set_option linter.unusedVariables false
namespace Frm
open Var

/-- What a frame that was read is, and what is left. -/
def RF (w' : World) (rb B : Nat) (f : Fr) (L : List Int) (e : Ending) : Prop := ∃ q : FM, q.f = f ∧ e = .returned (.agg q.vals) ∧ q.ok w' ∧ q.fresh B ∧ q.sm ∧ RdB w' rb L
def finR (o : Option (Fr × List Int)) : Option (Fr × List Int) := match o with
  | none => none
  | some y => if mayF y.1 then some y else none
theorem readF_go {L L1 : List Int} {k : Int} (h : tk L = some (k, L1)) (hs : (L.length : Int) - L1.length = sizeF k) : readF L = finR (readK k L1) := by
  unfold readF
  rw [h]
  dsimp only
  rw [if_pos hs]
  rfl
theorem readF_none1 {L : List Int} (h : tk L = none) : readF L = none := by unfold readF; rw [h]
theorem readF_none2 {L L1 : List Int} {k : Int} (h : tk L = some (k, L1)) (hs : ¬ (L.length : Int) - L1.length = sizeF k) : readF L = none := by
  unfold readF
  rw [h]
  dsimp only
  rw [if_neg hs]
theorem finR_none {o : Option (Fr × List Int)} (h : o = none) : finR o = none := by rw [h]; rfl
theorem finR_may {f : Fr} {L : List Int} (h : mayF f = true) : finR (some (f, L)) = some (f, L) := by unfold finR; dsimp only; rw [if_pos h]
theorem finR_no {f : Fr} {L : List Int} (h : mayF f = false) : finR (some (f, L)) = none := by unfold finR; dsimp only; rw [if_neg (by rw [h]; decide)]
theorem szd_le {L : List Int} {x : List Int × List Int} (h : szd L = some x) : x.2.length ≤ L.length ∧ x.1.length ≤ L.length := by
  unfold szd at h
  cases h1 : tk L with
  | none => rw [rb_none h1] at h; cases h
  | some y =>
    rw [rb_go h1] at h
    have h2 := tk_le h1
    have h3 := someB_le h
    omega

set_option maxHeartbeats 8000000 in
set_option maxRecDepth 100000 in
theorem rframe_x1 (rb : Nat) (L L1 : List Int) (k : Int) (w : World) (h : RdB w rb L) (hl : L.length ≤ 1000000) (hk : tk L = none) :
    Calls Try.prog 25 #[.pointer (some ⟨rb, 0, none⟩)] w fun e w' => Only (· = rb) w w' ∧ (∀ x, readF L = some x → Hid (RF w' rb w.heap.size x.1 x.2 e)) ∧ (readF L = none → e = failE) := by
  have HR := Lib.hid h
  have hby := h.byte
  have lrb := h.lt
  obtain ⟨A, cap, m, rb1, rm, rs, rx⟩ := h
  have r0 := Blk.cell rb1 0 _ rfl
  have RM := Lib.hid rm
  have hmb : m ≤ 1000000 := by omega
  have HK := Lib.hid hk
  clear rb1 rm rs rx
  obtain ⟨RS, hRS⟩ : ∃ RS, readF L = RS := ⟨_, rfl⟩
  have HT := Lib.hid (show RS = none by rw [← hRS]; exact readF_none1 hk)
  rw [hRS]
  clear hRS hk
  go_enter Try.func25, Try.ntmps25
  go_wp2_with (fail)
  have kb0 := (Below.refl w.heap.size w).alloc (Nat.le_refl _) (.cells (fm0 0).vals 36)
  refine (rn_any rb L _ (HR.out.below kb0)).mono ?_
  rintro e w2 ⟨o2, hy2, hn2⟩
  have he := hn2 HK.out
  rw [failE] at he
  subst he
  have O2 := Lib.hid ((only_of_below kb0 (· = rb)).trans o2)
  clear hy2 hn2 o2 kb0
  go_wp2_with (fail)
  exact ⟨rfl, O2.out, (fun x hx => by rw [HT.out] at hx; cases hx), (fun _ => rfl)⟩

set_option maxHeartbeats 8000000 in
set_option maxRecDepth 100000 in
theorem rframe_x2 (rb : Nat) (L L1 : List Int) (k : Int) (w : World) (h : RdB w rb L) (hl : L.length ≤ 1000000) (hk : tk L = some (k, L1)) (hsz : ¬ (L.length : Int) - L1.length = sizeF k) :
    Calls Try.prog 25 #[.pointer (some ⟨rb, 0, none⟩)] w fun e w' => Only (· = rb) w w' ∧ (∀ x, readF L = some x → Hid (RF w' rb w.heap.size x.1 x.2 e)) ∧ (readF L = none → e = failE) := by
  have HR := Lib.hid h
  have hby := h.byte
  have lrb := h.lt
  obtain ⟨A, cap, m, rb1, rm, rs, rx⟩ := h
  have r0 := Blk.cell rb1 0 _ rfl
  have RM := Lib.hid rm
  have hmb : m ≤ 1000000 := by omega
  have HK := Lib.hid hk
  clear rb1 rm rs rx
  have hle1 := tk_le hk
  dsimp only at hle1
  have vk := tk_bnd hby hk
  dsimp only at vk
  have HL1 := Lib.hid (show L1.length ≤ 1000000 by omega)
  have HBY1 := Lib.hid (show ∀ x ∈ L1, Byte x from (tk_gives L _ L1 hk hby).1)
  have HSZ := Lib.hid hsz
  obtain ⟨RS, hRS⟩ : ∃ RS, readF L = RS := ⟨_, rfl⟩
  have HT := Lib.hid (show RS = none by rw [← hRS]; exact readF_none2 hk hsz)
  rw [hRS]
  clear hRS hk hsz hle1
  go_enter Try.func25, Try.ntmps25
  go_wp2_with (fail)
  have kb0 := (Below.refl w.heap.size w).alloc (Nat.le_refl _) (.cells (fm0 0).vals 36)
  refine (rn_any rb L _ (HR.out.below kb0)).mono ?_
  rintro e w2 ⟨o2, hy2, hn2⟩
  obtain ⟨rfl, hr2⟩ := hy2 _ HK.out
  have HR2 : Hid (RdB w2 rb L1) := hr2
  have HZ2 := Lib.hid (show FB w2 w.heap.size (fm0 0) from o2.blk (fm0_at rfl) (fun h => by have h2 : w.heap.size = rb := h; omega))
  have OO2 := Lib.hid ((only_of_below kb0 (· = rb)).trans o2)
  have lz2 : w.heap.size < w2.heap.size := by have := o2.size; simp at this; omega
  obtain ⟨A2, cap2, m2, rb2, rm2, rs2, rx2⟩ := HR2.out
  have r2 := Blk.cell rb2 0 _ rfl
  have lrb2 : rb < w2.heap.size := by omega
  have hmb2 : m2 ≤ 1000000 := by have := HL1.out; omega
  have hsz2 : (m : Int) - m2 = sizeF k ∨ ¬ (m : Int) - m2 = sizeF k := Decidable.em _
  have hsm := size_le k
  have hsm0 : 0 ≤ sizeF k := by omega
  have HSM := Lib.hid (show ((m : Int) - m2 = sizeF k) ↔ ((L.length : Int) - L1.length = sizeF k) by rw [RM.out, rm2])
  clear hy2 hn2 o2 kb0 rb2 rm2 rs2 rx2 hr2 hsz2
  obtain ⟨sz, hszv⟩ : ∃ s : Nat, sizeF k = s := ⟨_, rfl⟩
  have HSV := Lib.hid hszv
  clear hsm hsm0
  rw [hszv] at HSM
  have hq : ((m : Int) - m2 == (sz : Int)) = false := by simp only [beq_eq_false_iff_ne, ne_eq]; rw [HSM.out, ← HSV.out]; exact HSZ.out
  clear hszv
  go_wp2_with (fail)
  refine rg_start 11 ?_
  refine rg_below fun KK hx hne hC hbel => ?_
  have k0 := fun z : Wd KK => (hx z _ 0 _ lrb2).trans r2
  clear hx
  refine rg_quiet 3 [0,1,2,3,4,5,6,7] hC ?_
  simp only [pickD, List.map_cons, List.map_nil, List.getD_cons_zero, List.getD_cons_succ]; repeat (go_big_quiet_step (fail))
  refine wpQuiet_nil ?_
  refine rg_act 8 ?_
  go_wp2_with (fail)
  refine (size_any k _ vk.1 (by omega)).mono ?_
  rintro e w3 ⟨rfl, rfl⟩
  rw [HSV.out]
  go_wp2_with (fail)
  refine ⟨hbel _ (Below.refl _ _), ?_⟩
  refine rg_quiet 1 [9] (hbel _ (Below.refl _ _)) ?_
  simp only [pickD, List.map_cons, List.map_nil, List.getD_cons_zero, List.getD_cons_succ]; repeat (go_big_quiet_step (fail))
  refine wpQuiet_nil ?_
  refine rg_cut 10 ?_
  go_wp2_with (fail)
  refine (must_false _).mono ?_
  rintro e w4 ⟨he, rfl⟩
  rw [failE] at he
  subst he
  clear hbel hC hne k0
  go_wp2_with (fail)
  exact ⟨rfl, OO2.out.drew, (fun x hx => by rw [HT.out] at hx; cases hx), (fun _ => rfl)⟩

end Frm
end Go.Proofs.Ytcpjehgoeibbeaa
