/- Heard: the methods, walked. -/
import Derived.Test.YtidfimpchbkppaaSpW13
namespace Go.Proofs.Ytidfimpchbkppaa
open Go.RowKit
set_option linter.unusedVariables false

def u64b (x : Int) : Prop := 0 ≤ x ∧ x ≤ 18446744073709551615
/-- Block b is what is heard: these ranges, whose slice lies elsewhere, and this floor. -/
def HH (w : World) (b : Nat) (L : List Rg) (fl : Int) : Prop :=
  ∃ (a : Option Addr) (c : Nat) (x2 x3 x4 x5 : Int), Blk w b #[.slice a L.length c, .int .u64 fl, .int .u64 x2, .int .u64 x3, .int .u64 x4, .int .u64 x5] 43 ∧ Rs w a c L ∧ (∀ x, a = some x → x.block ≠ b) ∧ u64b fl ∧ u64b x2 ∧ u64b x3 ∧ u64b x4 ∧ u64b x5

set_option maxRecDepth 100000 in
set_option maxHeartbeats 1000000 in
theorem hcame_any (b : Nat) (L : List Rg) (fl pn : Int) (w : World) (h : HH w b L fl) (hp : u64b pn) :
    Calls Try.prog 35 #[.pointer (some ⟨b, 0, none⟩), .int .u64 pn] w fun e w' => Below w.heap.size w w' ∧ e = .returned (.bool (decide (pn < fl) || inB L pn)) := by
  obtain ⟨a, c, x2, x3, x4, x5, hb, hR, hne, h1, h2, h3, h4, h5⟩ := h
  have hblt := hb.lt
  have c0 := hb.cell 0 _ rfl
  have c1 := hb.cell 1 _ rfl
  have HR := Lib.hid hR
  obtain ⟨n, hn⟩ : ∃ n, L.length = n := ⟨_, rfl⟩
  rw [hn] at c0
  have HN := Lib.hid hn
  clear hb hR hn
  unfold u64b at *
  by_cases hlt : pn < fl
  · simp only [decide_eq_true hlt, Bool.true_or]
    go_enter Try.func35, Try.ntmps35
    go_wp2_with (fail)
    go_returns
    exact ⟨Below.refl _ _, rfl⟩
  · simp only [decide_eq_false hlt, Bool.false_or]
    have b1 : Below w.heap.size w (w.alloc (.cells #[.int .u64 pn] 28)) := (Below.refl _ _).alloc (Nat.le_refl _) _
    have hs1 : Sl .u64 (w.alloc (.cells #[.int .u64 pn] 28)) (some ⟨w.heap.size, 0, none⟩) 1 [pn] :=
      ⟨IntsAt.of_map (L := [pn]) (T := 28) (Blk.new w #[.int .u64 pn] 28) (by simpa using u64_wf hp.1 hp.2), (fun h => nomatch h), by simp, by simp [maxLen]⟩
    have hhas := has_any a (some ⟨w.heap.size, 0, none⟩) n 1 c 1 L [pn] _ HN.out.symm rfl (HR.out.below b1) hs1
    simp only [List.all_cons, List.all_nil, Bool.and_true] at hhas
    obtain ⟨v, hv⟩ : ∃ v, inB L pn = v := ⟨_, rfl⟩
    rw [hv] at hhas ⊢
    have HH' := Lib.hid hhas
    clear hhas hv hs1
    go_enter Try.func35, Try.ntmps35
    go_wp2_with (fail)
    refine HH'.out.mono ?_
    rintro e w1 ⟨hb1, rfl⟩
    go_wp2_with (fail)
    go_returns
    exact ⟨below_on b1 hb1 (by simp), rfl⟩

/-- Set, kept by what only makes memory. -/
theorem HH.below {w w' : World} {b : Nat} {L : List Rg} {fl : Int} (h : HH w b L fl) (hb : Below w.heap.size w w') : HH w' b L fl := by
  obtain ⟨a, c, x2, x3, x4, x5, h0, hR, r⟩ := h
  exact ⟨a, c, x2, x3, x4, x5, h0.below hb, hR.below hb, r⟩
theorem onlyb_below {b : Nat} {w w' : World} (h : Below w.heap.size w w') : Only (· = b) w w' := only_of_below h _

set_option maxRecDepth 100000 in
set_option maxHeartbeats 2000000 in
theorem hforget_any (b : Nat) (L : List Rg) (fl pn : Int) (w : World) (h : HH w b L fl) (hp : u64b pn) (hl : L.length ≤ 1000) :
    Calls Try.prog 33 #[.pointer (some ⟨b, 0, none⟩), .int .u64 pn] w fun e w' => e = .returned (.tuple #[]) ∧ Only (· = b) w w' ∧ ∃ M, HH w' b M (max fl pn) ∧ IsNf (fun n => (inB L n && !inB [(0, max fl pn)] n) = true) M ∧ M.length ≤ 2 * (L.length + 1) := by
  obtain ⟨a, c, x2, x3, x4, x5, hb, hR, hne, h1, h2, h3, h4, h5⟩ := h
  have hblt := hb.lt
  have c0 := hb.cell 0 _ rfl
  have c1 := hb.cell 1 _ rfl
  have f0 := hb.free 0
  have f1 := hb.free 1
  have HB := Lib.hid hb
  have HR := Lib.hid hR
  have HNE := Lib.hid hne
  obtain ⟨n, hn⟩ : ∃ n, L.length = n := ⟨_, rfl⟩
  rw [hn] at c0 HB
  have HN := Lib.hid hn
  clear hb hR hn hne
  unfold u64b at *
  obtain ⟨m, hm⟩ : ∃ m, max fl pn = m := ⟨_, rfl⟩
  have hmb : 0 ≤ m ∧ m ≤ 18446744073709551615 := by omega
  rw [hm]
  have HM := Lib.hid hm
  clear hm
  go_enter Try.func33, Try.ntmps33
  go_wp2_with (fail)
  simp only [HM.out]
  have o1 : Only (· = b) w (w.setCell ⟨b, 1, none⟩ (.int .u64 m)) := (Only.refl _ _).set 1 _
  have hb1 : Blk (w.setCell ⟨b, 1, none⟩ (.int .u64 m)) b #[.slice a n c, .int .u64 m, .int .u64 x2, .int .u64 x3, .int .u64 x4, .int .u64 x5] 43 := (HB.out.set 1 (.int .u64 m)).congr (by simp)
  have hr1 : Rs (w.setCell ⟨b, 1, none⟩ (.int .u64 m)) a c L := HR.out.only o1 (fun x hx _ => HNE.out x hx)
  obtain ⟨w1, hw1⟩ : ∃ w1, w.setCell ⟨b, 1, none⟩ (.int .u64 m) = w1 := ⟨_, rfl⟩
  rw [hw1] at o1 hb1 hr1 ⊢
  have d0 := hb1.cell 0 _ rfl
  have d1 := hb1.cell 1 _ rfl
  have hlt1 := hb1.lt
  have HB1 := Lib.hid hb1
  have HR1 := Lib.hid hr1
  have HO1 := Lib.hid o1
  clear hb1 hr1 o1 hw1 c0 c1 f0 f1 HB HR
  refine rg_start 18 ?_
  refine rg_below fun p hx hne hC hbel => ?_
  have k0 : ∀ z : Wd p, z.w.cell? ⟨b, 0, none⟩ = some (.slice a n c) := fun z => (hx z _ _ _ hlt1).trans d0
  have k1 : ∀ z : Wd p, z.w.cell? ⟨b, 1, none⟩ = some (.int .u64 m) := fun z => (hx z _ _ _ hlt1).trans d1
  refine rg_quiet 6 [0,1,2,3,4,5,6,7,8,9,10,11] hC ?_
  simp only [pickD, List.map_cons, List.map_nil, List.getD_cons_zero, List.getD_cons_succ]; repeat (go_big_quiet_step (fail))
  refine wpQuiet_nil ?_
  refine rg_act 12 ?_
  go_wp2
  refine ⟨hbel _ (by repeat first | exact ⟨rfl, rfl, rfl, Nat.le_refl _, fun _ _ => rfl⟩ | apply Below.drew | refine Below.alloc ?_ (by simp) _), ?_⟩
  have b2 : Below w1.heap.size w1 (w1.alloc (.cells #[.int .u64 0, .int .u64 m] 31)) := (Below.refl _ _).alloc (Nat.le_refl _) _
  have hs1 : Rs (w1.alloc (.cells #[.int .u64 0, .int .u64 m] 31)) (some ⟨w1.heap.size, 0, none⟩) 1 [(0, m)] := Rs.of (by simp) (fun i hi => by
    have hcell := Blk.new w1 #[.int .u64 0, .int .u64 m] 31
    match i, hi with
    | 0, _ => exact hcell.cell 0 _ rfl
    | 1, _ => exact hcell.cell 1 _ rfl
    | i + 2, hi => exact absurd (show i + 2 < 2 from hi) (by omega)) (fun s hs => by rw [List.mem_singleton.1 hs]; simp only; omega) (by simp) (by simp [maxLen])
  have hrr := (HR1.out.below b2).below (Below.refl _ _).drew
  have hss := hs1.below (Below.refl _ _).drew
  have HRR := Lib.hid hrr
  have HSS := Lib.hid hss
  clear hrr hss hs1
  refine rg_act 13 ?_
  go_wp2_with (fail)
  refine (cut_any a (some ⟨w1.heap.size, 0, none⟩) n 1 c 1 L [(0, m)] _ HN.out.symm rfl HRR.out HSS.out (by have := HN.out; omega) (by simp)).mono ?_
  rintro e w2 ⟨hb2, a2, c2, M, rfl, ho2, hM2, hn2, hl2⟩
  have b3 : Below w1.heap.size w1 w2 := below_on b2.drew hb2 (by simp)
  have hne2 : ∀ x, a2 = some x → x.block ≠ b := fun x hx => by have := (ho2.block hx).1; simp at this; omega
  have HR2 := Lib.hid (ho2.rs hM2).2
  have HNE2 := Lib.hid hne2
  have HB2 := Lib.hid (HB1.out.below b3)
  have HN2 := Lib.hid hn2
  have HL2 := Lib.hid hl2
  have hC2 : Cls p w2 := hbel _ ⟨b3.os, b3.tape, b3.output, b3.size, b3.block⟩
  obtain ⟨n2, hn2'⟩ : ∃ n, M.length = n := ⟨_, rfl⟩
  have HNN := Lib.hid hn2'
  rw [hn2']
  have e0 := HB2.out.cell 0 _ rfl
  have g0 := HB2.out.free 0
  clear ho2 hM2 hn2 hl2 hb2 hne2 hn2' HRR HSS
  go_wp2_with (fail)
  refine ⟨hC2, ?_⟩
  refine rg_quiet 1 [14,15,16] hC2 ?_
  simp only [pickD, List.map_cons, List.map_nil, List.getD_cons_zero, List.getD_cons_succ]; repeat (go_big_quiet_step (fail))
  refine wpQuiet_nil ?_
  refine rg_cut 17 ?_
  clear k0 k1 hx hne hC hbel hC2
  go_wp2
  refine rg_end0 ?_
  go_wp2_with (fail)
  go_returns
  refine ⟨rfl, ?_, M, ⟨a2, c2, x2, x3, x4, x5, ?_, ?_, HNE2.out, hmb, h2, h3, h4, h5⟩, HN2.out, ?_⟩
  · exact (HO1.out.trans ((onlyb_below b3).set 0 _))
  · rw [HNN.out]
    exact (HB2.out.set 0 (.slice a2 n2 c2)).congr (by simp)
  · exact HR2.out.only ((Only.refl _ _).set 0 _) (fun x hx _ => HNE2.out x hx)
  · have := HL2.out; have := HN.out; simp at *; omega
end Go.Proofs.Ytidfimpchbkppaa
