/- Heard: Ack, Heavy, walked. -/
import Derived.Test.YtidfimpchbkppaaHd1
namespace Go.Proofs.Ytidfimpchbkppaa
open Go.RowKit
set_option linter.unusedVariables false

/-- Where the last 32 of a list begin. -/
def from32 (n : Nat) : Nat := n - 32
theorem run_cutK {a : Option Addr} {n cap : Nat} (k : Nat) (h1 : k ≤ n) (h2 : n ≤ cap) (w : World) : (Instr.sliceAt 22 (.slice a n cap) (some (.int .i64 k)) none none).run Try.prog w = .ok (.slice (if cap = k then a else a.map (·.add (k * 2))) (n - k) (cap - k)) w := by
  obtain ⟨ht, hz⟩ := (rg_et).elem
  rw [run_sliceAt_slice (h := ht), run_slice_l (ht := ht) (h0 := by omega) (h1 := by omega), hz]
  simp [Result.andThen, sliced]
theorem flat_drop : ∀ (L : List Rg) (k i : Nat), (flat (L.drop k)).getD i 0 = (flat L).getD (k * 2 + i) 0
  | [], k, i => by simp [flat]
  | r :: L, 0, i => by simp
  | r :: L, k + 1, i => by
    rw [List.drop_succ_cons, flat_drop L k i, flat_cons, show (k + 1) * 2 + i = (k * 2 + i) + 1 + 1 by omega]
    simp
theorem Rs.dropK {w : World} {a : Option Addr} {cap : Nat} {L : List Rg} (h : Rs w a cap L) (k : Nat) (hk : k ≤ L.length) : Rs w (if cap = k then a else a.map (·.add (k * 2))) (cap - k) (L.drop k) := by
  have hle := h.le
  refine ⟨fun i hi => ?_, fun ha => ?_, by simp; omega, Nat.le_trans (Nat.sub_le _ _) h.max⟩
  · rw [flat_length] at hi
    simp at hi
    obtain ⟨b, off, ha, hb, hc, hw⟩ := h.ints (k * 2 + i) (by rw [flat_length]; omega)
    have hne : cap ≠ k := by omega
    rw [if_neg hne]
    subst ha
    rw [flat_drop]
    exact ⟨b, off + k * 2, by simp [addr_add], hb, by rw [show off + k * 2 + i = off + (k * 2 + i) by omega]; exact hc, hw⟩
  · have : a = none := by
      split at ha
      · exact ha
      · exact Option.map_eq_none_iff.1 ha
    rw [h.nul this]; simp
theorem neat_drop {L : List Rg} {b : Int} (h : NeatFrom b L) (k : Nat) (hb : -1 ≤ b) : NeatFrom (-1) (L.drop k) := by
  have h1 := (neatFrom_append (L.take k) b (L.drop k)).1 (by rw [List.take_append_drop]; exact h)
  exact neatFrom_mono (by have := neatFrom_le_end h1.1; omega) h1.2

/-- A frame of this kind, these ranges and this delay, and nothing more. -/
def frameV (k : Int) (s : Value) (d : Int) : Array Value := #[.int .u64 k, .int .u64 0, .int .u64 0, .int .u64 0, .int .u64 0, .int .u64 0, .bool false, .slice none 0 0, .slice none 0 0,
  .int .u8 0, .int .u8 0, .int .u8 0, .int .u8 0, .int .u8 0, .int .u8 0, .int .u8 0, .int .u8 0, .int .u8 0, .int .u8 0, .int .u8 0, .int .u8 0, .int .u8 0, .int .u8 0, .int .u8 0, .int .u8 0,
  s, .int .u64 d, .int .u64 0, .int .u64 0, .int .u64 0]
theorem frame_size : (Try.prog.info? 51).map (·.size) = some 30 := by kernel_rfl
section
variable {P : Program} {ops : Array Oper} {rest : List Oper} {o : Oper} {a : Act} {w : World} {Q : Exit → Act → World → Prop}
theorem stop_storef {d : Option Tmp} {x y : Operand} {ty : TypeId} {pos : String} {aft : Array Edge} {g : Option (Nat × Bool)}
    (h : Stop (wpList P ops Q (⟨d, .store 51 x y, ty, pos, aft, g⟩ :: rest) a w)) : wpList P ops Q (⟨d, .store 51 x y, ty, pos, aft, g⟩ :: rest) a w := h
theorem wpList_storef (hgd : o.guard = none) {x y : Operand} (ho : o.op = .store 51 x y) {b : Nat} (k d k' d' : Int) (an : Option Addr) (nn cn : Nat) (s' : Value) (hx : a.eval x = .pointer (some ⟨b, 0, none⟩)) (hy : a.eval y = .agg (frameV k (.slice an nn cn) d)) (hb : Blk w b (frameV k' s' d') 51)
    (hi : (P.info? 51).map (·.size) = some 30)
    (h : ∀ w', Blk w' b (frameV k (.slice an nn cn) d) 51 → Only (· = b) w w' → wpList P ops Q rest (a.put o.dst undef) w') : wpList P ops Q (o :: rest) a w :=
  wpList_store_row hgd _ x y ho b _ hx hy _ _ hb hi rfl (by simp [frameV, Value.oneCell']) (h _ (setRow_heap w b _ _ _ _ hb) ⟨rfl, rfl, rfl, by simp [World.setRow], fun k hk hs => setRow_other _ _ _ _ hs⟩)
end
theorem results_cf {P : Program} {fn : Func} {t u : Tmp} {T : TypeId} (h : fn.results = #[.cell t T, .tmp u]) (tmps : Array Value) (w : World) {b : Nat} {cs : Array Value} (ht : tmps.getD t undef = .pointer (some ⟨b, 0, none⟩)) (hl : (loadVar T ⟨b, 0, none⟩).run P w = .ok (.agg cs) w) :
    (results fn tmps).run P w = .ok (.tuple #[.agg cs, tmps.getD u undef]) w := by
  have ht' : tmps[t]?.getD undef = .pointer (some ⟨b, 0, none⟩) := by simpa using ht
  simp [results, h, ht', asAddr, Sem.run_bind, Sem.run_pure, Result.andThen, hl]

set_option maxRecDepth 100000 in
set_option maxHeartbeats 2000000 in
theorem hack_any (b : Nat) (L : List Rg) (fl now : Int) (w : World) (h : HH w b L fl) (hp : u64b now) (hl : L.length ≤ 1000) :
    Calls Try.prog 32 #[.pointer (some ⟨b, 0, none⟩), .int .u64 now] w fun e w' => Only (· = b) w w' ∧ HH w' b L fl ∧ ∃ (k d : Int) (is : Bool) (a' : Option Addr) (c' : Nat) (K : List Rg), e = .returned (.tuple #[.agg (frameV k (.slice a' K.length c') d), .bool is]) ∧ Rs w' a' c' K ∧ K.length ≤ 32 ∧ (K = [] ∨ K = L.drop (L.length - 32)) := by
  obtain ⟨a, c, x2, x3, x4, x5, hb, hR, hne, h1, h2, h3, h4, h5⟩ := h
  have hblt := hb.lt
  have c0 := hb.cell 0 _ rfl
  have c3 := hb.cell 3 _ rfl
  have c4 := hb.cell 4 _ rfl
  have c5 := hb.cell 5 _ rfl
  have f4 := hb.free 4
  have f5 := hb.free 5
  have hcl := hR.le
  have hdk := hR.dropK (L.length - 32) (by omega)
  have HB := Lib.hid hb
  have HR := Lib.hid hR
  have HNE := Lib.hid hne
  obtain ⟨n, hn⟩ : ∃ n, L.length = n := ⟨_, rfl⟩
  rw [hn] at c0 HB hcl hl hdk ⊢
  have HN := Lib.hid hn
  have HDK := Lib.hid hdk
  clear hb hR hn hne hdk
  unfold u64b at *
  have hne1 : ¬ b = w.heap.size := by omega
  have HAL : ∀ x, a = some x → 0 < L.length → x.block = w.heap.size → False := fun x hx h0 he => by have := HR.out.lt x hx h0; omega
  have hz : Blk (w.alloc (.cells (frameV 0 (.slice none 0 0) 0) 51)) w.heap.size (frameV 0 (.slice none 0 0) 0) 51 := Blk.new w _ _
  have HZ := Lib.hid hz
  clear hz
  by_cases hn0 : n = 0
  · subst hn0
    go_enter Try.func32, Try.ntmps32
    go_wp2_with (with_reducible refine stop_storef ?_)
    refine Stop.out ?_
    refine wpList_storef rfl rfl 0 0 0 0 none 0 0 (.slice none 0 0) rfl rfl HZ.out frame_size ?_
    intro w2 hb2 o2
    have b2 : Below w.heap.size w w2 := below_onto ((Below.refl _ _).alloc (Nat.le_refl _) _) o2 (by simp) (by intro z hz h; omega)
    have HB2 := Lib.hid hb2
    clear hb2 o2
    go_wp2_with (fail)
    refine bodyPost_ret (results_cf rfl _ _ rfl (run_loadVar_row (P := Try.prog) _ w.heap.size 51 51 (frameV 0 (.slice none 0 0) 0) (0, 0) _ HB2.out Try.underlying51 rfl frame_size)) rfl ?_
    refine ⟨onlyb_below b2, ⟨a, c, x2, x3, x4, x5, by rw [HN.out]; exact HB.out.below b2, HR.out.below b2, HNE.out, h1, h2, h3, h4, h5⟩, 0, 0, false, none, 0, [], rfl, Rs.nil _, by simp, .inl rfl⟩
  · have hn1 : ((n : Int) == 0) = false := by simp; omega
    go_enter Try.func32, Try.ntmps32
    have hmax : max (0 : Int) ((n : Int) - 32) = ((n - 32 : Nat) : Int) := by omega
    obtain ⟨k, hk⟩ : ∃ k, n - 32 = k := ⟨_, rfl⟩
    have hkn : k ≤ n := by omega
    have hk2 : n - k ≤ 32 := by omega
    rw [hk] at hmax HDK
    have hcut := fun w' => run_cutK (a := a) (n := n) (cap := c) k hkn (by have := HN.out; omega) w'
    obtain ⟨ad, had⟩ : ∃ ad, (if c = k then a else a.map (·.add (k * 2))) = ad := ⟨_, rfl⟩
    rw [had] at HDK
    simp only [had] at hcut
    have HAD := Lib.hid had
    have HKK := Lib.hid hk
    have hNEd : ∀ x, ad = some x → x.block ≠ b := fun x hx => by
      rw [← HAD.out] at hx
      split at hx
      · exact HNE.out x hx
      · obtain ⟨y, hy1, hy2⟩ := Option.map_eq_some_iff.1 hx
        have := HNE.out y hy1
        subst hy2
        unfold Addr.add
        split <;> exact this
    have HNEd := Lib.hid hNEd
    clear had hk hNEd
    go_wp2_with (fail)
    obtain ⟨wS, hwS⟩ : ∃ z, (w.setCell ⟨b, 5, none⟩ (.int .u64 0)).setCell ⟨b, 4, none⟩ (.int .u64 0) = z := ⟨_, rfl⟩
    have hsz : wS.heap.size = w.heap.size := by rw [← hwS]; simp [World.setCell]
    have hbS : Blk wS b #[.slice a n c, .int .u64 fl, .int .u64 x2, .int .u64 x3, .int .u64 0, .int .u64 0] 43 := by rw [← hwS]; exact ((HB.out.set 5 (.int .u64 0)).set 4 (.int .u64 0)).congr (by simp)
    have hoS : Only (· = b) w wS := by rw [← hwS]; exact ((Only.refl _ _).set 5 _).set 4 _
    have hzS : Blk (wS.alloc (.cells (frameV 0 (.slice none 0 0) 0) 51)) wS.heap.size (frameV 0 (.slice none 0 0) 0) 51 := Blk.new wS _ _
    have hrS : Rs wS ad (c - k) (L.drop k) := HDK.out.only hoS (fun x hx _ => HNEd.out x hx)
    rw [hwS]
    obtain ⟨wF, hwF⟩ : ∃ z, wS.alloc (.cells (frameV 0 (.slice none 0 0) 0) 51) = z := ⟨_, rfl⟩
    have hbF : Below wS.heap.size wS wF := by rw [← hwF]; exact (Below.refl _ _).alloc (Nat.le_refl _) _
    have hlF : wF.heap.size = w.heap.size + 1 := by rw [← hwF, ← hsz]; simp
    rw [hwF] at hzS
    rw [hsz] at hzS
    unfold frameV at hwF
    rw [hwF]
    have hB1 := hbS.below hbF
    have hR1 := hrS.below hbF
    have d0 := hB1.cell 0 _ rfl
    have d3 := hB1.cell 3 _ rfl
    have hbl := hB1.lt
    have HB1 := Lib.hid hB1
    have HR1 := Lib.hid hR1
    have HZ1 := Lib.hid hzS
    have HO1 := Lib.hid (hoS.trans (onlyb_below (b := b) hbF))
    have HRa : Hid (Rs wF a c L) := Lib.hid ((HR.out.only hoS (fun x hx _ => HNE.out x hx)).below hbF)
    clear hwS hwF hbS hoS hzS hrS hbF hB1 hR1 c0 c3 c4 c5 f4 f5 HB HR HZ hsz
    refine rg_start 32 ?_
    refine rg_below fun p hx hne hC hbel => ?_
    have k0 : ∀ z : Wd p, z.w.cell? ⟨b, 0, none⟩ = some (.slice a n c) := fun z => (hx z _ _ _ hbl).trans d0
    have k3 : ∀ z : Wd p, z.w.cell? ⟨b, 3, none⟩ = some (.int .u64 x3) := fun z => (hx z _ _ _ hbl).trans d3
    refine rg_quiet 4 [0, 1, 2, 3, 4, 5, 6, 7, 8, 9, 10, 11, 12, 13, 15, 16, 17, 18, 19, 20, 21, 22, 23, 24, 25, 26, 27, 28] hC ?_
    simp only [pickD, List.map_cons, List.map_nil, List.getD_cons_zero, List.getD_cons_succ]; repeat (go_big_quiet_step (fail))
    refine wpQuiet_nil ?_
    refine rg_act 14 ?_
    go_wp2_with (fail)
    have hln : (L.drop k).length = n - k := by rw [List.length_drop, HN.out]
    refine (clone_any ad (n - k) (c - k) (L.drop k) _ hln.symm (HR1.out.below (Below.refl _ _).drew) (by rw [hln]; omega)).mono ?_
    rintro e w4 ⟨hb4, a4, c4, rfl, ho4⟩
    have b4 : Below wF.heap.size wF w4 := below_on ((Below.refl _ _).drew) hb4 (Nat.le_refl _)
    have hb0 : Bnd (L.drop k) := fun r hr => HR1.out.bnd r hr
    have HR4 := Lib.hid (OwnS.rs ho4 hb0).2
    have HA4 : Hid (∀ x, a4 = some x → x.block ≠ w.heap.size) := Lib.hid (fun x hx => by have := (ho4.block hx).1; have := hlF; simp only [World.drew] at *; omega)
    have HB4 := Lib.hid (HB1.out.below b4)
    have HZ4 := Lib.hid (HZ1.out.below b4)
    have HL4 := Lib.hid (HRa.out.below b4)
    have HO4 : Hid (Only (· = b) w w4) := Lib.hid (HO1.out.trans (onlyb_below b4))
    have HLN := Lib.hid hln
    have hC4 : Cls p w4 := hbel _ ⟨b4.os, b4.tape, b4.output, b4.size, b4.block⟩
    rw [hln]
    clear hb4 ho4 b4 hb0 hln HB1 HR1 HZ1 HRa HO1
    go_wp2_with (fail)
    refine ⟨hC4, ?_⟩
    refine rg_quiet 2 [29] hC4 ?_
    simp only [pickD, List.map_cons, List.map_nil, List.getD_cons_zero, List.getD_cons_succ]; repeat (go_big_quiet_step (fail))
    refine wpQuiet_nil ?_
    refine rg_cut 30 ?_
    refine wpList_storef rfl rfl 2 _ 0 0 a4 (n - k) c4 (.slice none 0 0) rfl rfl HZ4.out frame_size ?_
    intro w5 hb5 o5
    have HB5 := Lib.hid (o5.blk HB4.out (by omega))
    have HZ5 := Lib.hid hb5
    have HR5 := Lib.hid (HR4.out.only o5 (fun x hx _ => HA4.out x hx))
    have HL5 : Hid (Rs w5 a c L) := Lib.hid (HL4.out.only o5 (fun x hx h0 => by
      have h9 := HDK.out
      have := HL4.out.lt x hx h0
      exact fun h => HAL x hx h0 h))
    have HO5 : Hid (Only (· = b) w w5) := Lib.hid ⟨o5.os.trans HO4.out.os, o5.tape.trans HO4.out.tape, o5.output.trans HO4.out.output, Nat.le_trans HO4.out.size o5.size, fun j hj hs => (o5.block j (by have := HO4.out.size; omega) (by omega)).trans (HO4.out.block j hj hs)⟩
    clear hb5 o5 k0 k3 hx hne hC hbel hC4
    go_wp2_with (fail)
    refine rg_same fun p hx hne hC => ?_
    refine rg_quiet 0 [31] hC ?_
    simp only [pickD, List.map_cons, List.map_nil, List.getD_cons_zero, List.getD_cons_succ]; repeat (go_big_quiet_step (fail))
    refine wpQuiet_nil ?_
    refine rg_end ?_
    go_wp2_with (fail)
    refine bodyPost_ret (results_cf rfl _ _ rfl (run_loadVar_row (P := Try.prog) _ w.heap.size 51 51 _ (0, 0) _ (show Blk w5.drew.drew w.heap.size _ _ from HZ5.out) Try.underlying51 rfl frame_size)) rfl ?_
    exact ⟨HO5.out, ⟨a, c, x2, x3, 0, 0, by rw [HN.out]; exact HB5.out, HL5.out, HNE.out, h1, h2, h3, by unfold u64b; omega, by unfold u64b; omega⟩, 2, _, true, a4, c4, L.drop k, by rw [HLN.out]; rfl, HR5.out, by rw [HLN.out]; omega, .inr (by rw [HKK.out])⟩

/-! What came, in plain Lean. -/
theorem nf_nil11 {M : List Rg} (h : IsNf (fun _ => False) M) : M = [] := h.unique ⟨trivial, fun n => by simp [memR_nil]⟩
structure HI (L : List Rg) (fl : Int) (C : List Rg) : Prop where
  nl : NeatFrom (-1) L
  nc : NeatFrom (-1) C
  len : L.length ≤ 64
  sub : ∀ n, inB L n = true → inB C n = true
  cov : ∀ n, inB C n = true → n < fl ∨ inB L n = true
  low : ∀ n, inB L n = true → fl ≤ n
theorem HI.start : HI [] 0 [] := ⟨trivial, trivial, by simp, fun n h => h, fun n h => by simp [inB] at h, fun n h => by simp [inB] at h⟩
theorem inB_one (pn n : Int) : inB [(pn, pn + 1)] n = decide (n = pn) := by
  rw [Bool.eq_iff_iff]
  simp [inB]
  omega
theorem inB_app (P Q : List Rg) (n : Int) : inB (P ++ Q) n = (inB P n || inB Q n) := by
  rw [Bool.eq_iff_iff, inB_iff, memR_append, Bool.or_eq_true, inB_iff, inB_iff]
theorem HI.fresh {L C : List Rg} {fl pn : Int} (h : HI L fl C) (hv : (decide (pn < fl) || inB L pn) = false) : inB C pn = false := by
  simp only [Bool.or_eq_false_iff, decide_eq_false_iff_not] at hv
  cases hc : inB C pn with
  | false => rfl
  | true =>
    rcases h.cov pn hc with h1 | h1
    · exact absurd h1 hv.1
    · rw [hv.2] at h1; cases h1
theorem HI.add {L L' C C' M : List Rg} {fl fl' pn : Int} (h : HI L fl C) (hv : (decide (pn < fl) || inB L pn) = false) (hM : IsNf (MemR (L ++ [(pn, pn + 1)])) M) (hC : IsNf (MemR (C ++ [(pn, pn + 1)])) C') (hl : M.length ≤ 65)
    (hor : (M.length ≤ 64 ∧ L' = M ∧ fl' = fl) ∨ (64 < M.length ∧ L' = M.drop 1 ∧ fl' = (M.getD 1 default).1)) : HI L' fl' C' := by
  simp only [Bool.or_eq_false_iff, decide_eq_false_iff_not] at hv
  have eM : ∀ n, inB M n = (inB L n || decide (n = pn)) := fun n => by rw [← inB_one, ← inB_app]; exact inB_congr hM.mem n
  have eC : ∀ n, inB C' n = (inB C n || decide (n = pn)) := fun n => by rw [← inB_one, ← inB_app]; exact inB_congr hC.mem n
  rcases hor with ⟨h1, rfl, rfl⟩ | ⟨h1, rfl, rfl⟩
  · refine ⟨hM.neat, hC.neat, h1, fun n hn => ?_, fun n hn => ?_, fun n hn => ?_⟩
    · rw [eM, Bool.or_eq_true] at hn
      rw [eC, Bool.or_eq_true]
      exact hn.imp (h.sub n) id
    · rw [eC, Bool.or_eq_true] at hn
      rw [eM, Bool.or_eq_true]
      rcases hn with hn | hn
      · exact (h.cov n hn).imp id .inl
      · exact .inr (.inr hn)
    · rw [eM, Bool.or_eq_true] at hn
      rcases hn with hn | hn
      · exact h.low n hn
      · simp at hn; omega
  · match M, hM, h1, eM, hl with
    | [], _, h1, _, _ => simp at h1
    | [r], _, h1, _, _ => simp at h1
    | r :: s :: M, hM, h1, eM, hl =>
      obtain ⟨a1, a2, a3, a4, a5⟩ := hM.neat
      simp only [List.drop_succ_cons, List.drop_zero, List.getD_cons_succ, List.getD_cons_zero]
      have hlow : ∀ n, inB (s :: M) n = true → s.1 ≤ n := fun n hn => by
        rcases (memR_cons _ _ _).1 ((inB_iff _ _).1 hn) with h2 | h2
        · exact h2.1
        · have := neatFrom_low a5 h2; omega
      have eR : ∀ n, inB (r :: s :: M) n = true ↔ (r.1 ≤ n ∧ n < r.2) ∨ inB (s :: M) n = true := fun n => by rw [inB_iff, memR_cons, inB_iff]
      refine ⟨⟨by omega, a4, a5⟩, hC.neat, by simp at hl ⊢; omega, fun n hn => ?_, fun n hn => ?_, hlow⟩
      · have := (eR n).2 (.inr hn)
        rw [eM, Bool.or_eq_true] at this
        rw [eC, Bool.or_eq_true]
        exact this.imp (h.sub n) id
      · rw [eC, Bool.or_eq_true] at hn
        have h3 : n < fl ∨ inB (r :: s :: M) n = true := by
          rcases hn with hn | hn
          · rcases h.cov n hn with h4 | h4
            · exact .inl h4
            · right; rw [eM, Bool.or_eq_true]; exact .inl h4
          · right; rw [eM, Bool.or_eq_true]; exact .inr hn
        rcases h3 with h3 | h3
        · have h5 : inB (r :: s :: M) s.1 = true := (eR _).2 (.inr (by rw [inB_iff, memR_cons]; exact .inl ⟨Int.le_refl _, a4⟩))
          rw [eM, Bool.or_eq_true] at h5
          left
          rcases h5 with h5 | h5
          · have := h.low _ h5; omega
          · simp at h5; omega
        · rcases (eR n).1 h3 with h4 | h4
          · exact .inl (by omega)
          · exact .inr h4
theorem HI.forget {L C M : List Rg} {fl pn : Int} (h : HI L fl C) (hM : IsNf (fun n => (inB L n && !inB [(0, max fl pn)] n) = true) M) (hb : Bnd C) (hl : M.length ≤ 64) : HI M (max fl pn) C := by
  have eM : ∀ n, inB M n = true ↔ inB L n = true ∧ ¬ (0 ≤ n ∧ n < max fl pn) := fun n => by
    have e1 : inB [(0, max fl pn)] n = (decide (0 ≤ n) && decide (n < max fl pn)) := by simp [inB]
    rw [inB_iff, hM.mem n, e1]
    obtain ⟨m, hm⟩ : ∃ m, max fl pn = m := ⟨_, rfl⟩
    rw [hm]
    cases inB L n <;> by_cases g1 : 0 ≤ n <;> by_cases g2 : n < m <;> simp [g1, g2]
  refine ⟨hM.neat, h.nc, hl, fun n hn => h.sub n ((eM n).1 hn).1, fun n hn => ?_, fun n hn => ?_⟩
  · by_cases h1 : n < max fl pn
    · exact .inl h1
    · right
      rw [eM]
      refine ⟨?_, fun h2 => h1 h2.2⟩
      rcases h.cov n hn with h3 | h3
      · omega
      · exact h3
  · have h1 := (eM n).1 hn
    have := (hb.mem ((inB_iff _ _).1 (h.sub n h1.1))).1
    omega
/-- What is cut from a neat list, of numbers below a bound, has as few ranges. -/
theorem cut_low_len : ∀ {L M : List Rg} {b : Int} (x : Int), NeatFrom b L → -1 ≤ b → NeatFrom (-1) M → (∀ n, inB M n = true ↔ inB L n = true ∧ ¬ (0 ≤ n ∧ n < x)) → M.length ≤ L.length
  | [], M, b, x, _, _, hM, hm => by
    have : M = [] := nf_nil11 ⟨hM, fun n => by rw [← inB_iff, hm]; simp [inB]⟩
    rw [this]; simp
  | r :: L, M, b, x, h, hb, hM, hm => by
    obtain ⟨h1, h2, h3⟩ := h
    by_cases hx : r.2 ≤ x
    · have := cut_low_len x h3 (by omega) hM (fun n => by
        rw [hm, inB_iff, inB_iff, memR_cons]
        constructor
        · rintro ⟨h4 | h4, h5⟩
          · omega
          · exact ⟨h4, h5⟩
        · rintro ⟨h4, h5⟩
          exact ⟨.inr h4, h5⟩)
      simp; omega
    · have e : M = (max r.1 x, r.2) :: L := by
        refine neat_unique hM (b := -1) ⟨by omega, by simp only; omega, h3⟩ fun n => ?_
        rw [← inB_iff, hm, inB_iff, memR_cons, memR_cons]
        simp only
        constructor
        · rintro ⟨h4 | h4, h5⟩
          · exact .inl (by omega)
          · exact .inr h4
        · rintro (h4 | h4)
          · exact ⟨.inl (by omega), by omega⟩
          · have := neatFrom_low h3 h4
            exact ⟨.inr h4, by omega⟩
      rw [e]; simp
end Go.Proofs.Ytidfimpchbkppaa
