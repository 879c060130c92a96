/- Heard: Add, walked. -/
import Derived.Test.YtidfimpchbkppaaHd1
namespace Go.Proofs.Ytidfimpchbkppaa
open Go.RowKit
set_option linter.unusedVariables false

/-- What Add makes of it. -/
def Added (w' : World) (b : Nat) (L : List Rg) (fl pn : Int) : Prop :=
  ∃ M L' fl', HH w' b L' fl' ∧ IsNf (MemR (L ++ [(pn, pn + 1)])) M ∧ M.length ≤ L.length + 1 ∧ ((M.length ≤ 64 ∧ L' = M ∧ fl' = fl) ∨ (64 < M.length ∧ L' = M.drop 1 ∧ fl' = (M.getD 1 default).1))
theorem run_cut1 {a : Option Addr} {n cap : Nat} (h1 : 1 < n) (h2 : n ≤ cap) (w : World) : (Instr.sliceAt 22 (.slice a n cap) (some (.int .i64 1)) none none).run Try.prog w = .ok (.slice (a.map (·.add 2)) (n - 1) (cap - 1)) w := by
  obtain ⟨ht, hz⟩ := (rg_et).elem
  rw [run_sliceAt_slice (h := ht), show (Value.int .i64 1) = .int .i64 ((1 : Nat) : Int) from rfl, run_slice_l (ht := ht) (h0 := by omega) (h1 := by omega), hz]
  simp [Result.andThen, sliced, show cap ≠ 1 by omega]
theorem Rs.drop1 {w : World} {a : Option Addr} {cap : Nat} {L : List Rg} (h : Rs w a cap L) (h1 : 1 < L.length) : Rs w (a.map (·.add 2)) (cap - 1) (L.drop 1) := by
  have hle := h.le
  refine ⟨fun i hi => ?_, fun ha => ?_, by simp; omega, Nat.le_trans (Nat.sub_le _ _) h.max⟩
  · rw [flat_length] at hi
    simp at hi
    obtain ⟨b, off, ha, hb, hc, hw⟩ := h.ints (i + 2) (by rw [flat_length]; omega)
    have e : (flat (L.drop 1)).getD i 0 = (flat L).getD (i + 2) 0 := by
      cases L with
      | nil => simp at h1
      | cons r l => simp [flat]
    subst ha
    refine ⟨b, off + 2, by simp [addr_add], hb, ?_, ?_⟩
    · rw [e, show off + 2 + i = off + (i + 2) by omega]; exact hc
    · rw [e]; exact hw
  · have : a = none := Option.map_eq_none_iff.1 ha
    rw [h.nul this]

/-- The end of Add, at whatever numbers. -/
theorem added_of {w : World} {b : Nat} {L M L' : List Rg} {fl fl' pn : Int} {a : Option Addr} {n c : Nat} {X2 X3 D Y : Int} (hb : Blk w b #[.slice a n c, .int .u64 fl', .int .u64 X2, .int .u64 X3, .int .u64 D, .int .u64 Y] 43)
    (hn : L'.length = n) (hR : Rs w a c L') (hne : ∀ x, a = some x → x.block ≠ b) (hfl : u64b fl') (h2 : u64b X2) (h3 : u64b X3) (h4 : u64b D) (h5 : u64b Y)
    (hnf : IsNf (MemR (L ++ [(pn, pn + 1)])) M) (hl : M.length ≤ L.length + 1) (hor : (M.length ≤ 64 ∧ L' = M ∧ fl' = fl) ∨ (64 < M.length ∧ L' = M.drop 1 ∧ fl' = (M.getD 1 default).1)) : Added w b L fl pn := by
  subst hn
  exact ⟨M, L', fl', ⟨a, c, X2, X3, D, Y, hb, hR, hne, hfl, h2, h3, h4, h5⟩, hnf, hl, hor⟩

set_option maxRecDepth 100000 in
set_option maxHeartbeats 8000000 in
theorem hadd_any (b : Nat) (L : List Rg) (fl pn : Int) (wants : Bool) (now delay : Int) (w : World) (h : HH w b L fl) (hp : 0 ≤ pn ∧ pn ≤ 4611686018427387903) (hnow : u64b now) (hdel : u64b delay) (hl : L.length ≤ 64) :
    Calls Try.prog 30 #[.pointer (some ⟨b, 0, none⟩), .int .u64 pn, .bool wants, .int .u64 now, .int .u64 delay] w fun e w' => Only (· = b) w w' ∧
      ((decide (pn < fl) || inB L pn) = true → e = .returned (.bool false) ∧ HH w' b L fl) ∧ ((decide (pn < fl) || inB L pn) = false → e = .returned (.bool true) ∧ Added w' b L fl pn) := by
  have hc := hcame_any b L fl pn w h (by unfold u64b; omega)
  have HH0 := Lib.hid h
  obtain ⟨v, hv⟩ : ∃ v, (decide (pn < fl) || inB L pn) = v := ⟨_, rfl⟩
  rw [hv] at hc ⊢
  have HC := Lib.hid hc
  clear hc hv h
  unfold u64b at hnow hdel
  cases v with
  | true =>
    go_enter Try.func30, Try.ntmps30
    go_wp2_with (fail)
    refine HC.out.mono ?_
    rintro e w1 ⟨hb1, rfl⟩
    go_wp2_with (fail)
    go_returns
    exact ⟨onlyb_below hb1, fun _ => ⟨rfl, HH0.out.below hb1⟩, fun h => by cases h⟩
  | false =>
    go_enter Try.func30, Try.ntmps30
    go_wp2_with (fail)
    refine HC.out.mono ?_
    rintro e w1 ⟨hb1, rfl⟩
    have hh1 := HH0.out.below hb1
    have HO1 := Lib.hid (onlyb_below (b := b) hb1)
    obtain ⟨a, c, x2, x3, x4, x5, hb, hR, hne, g1, g2, g3, g4, g5⟩ := hh1
    clear hb1 HC HH0
    have hblt := hb.lt
    have c0 := hb.cell 0 _ rfl
    have c1 := hb.cell 1 _ rfl
    have c2 := hb.cell 2 _ rfl
    have c3 := hb.cell 3 _ rfl
    have f0 := hb.free 0
    have f1 := hb.free 1
    have f2 := hb.free 2
    have f3 := hb.free 3
    have HB := Lib.hid hb
    have HR := Lib.hid hR
    have HNE := Lib.hid hne
    obtain ⟨n, hn⟩ : ∃ n, L.length = n := ⟨_, rfl⟩
    rw [hn] at c0 HB hl
    have HN := Lib.hid hn
    clear hb hR hn hne
    unfold u64b at *
    obtain ⟨y5, hy5⟩ : ∃ y, IntKind.u64.wrap (x5 + 1) = y := ⟨_, rfl⟩
    have by5 : 0 ≤ y5 ∧ y5 ≤ 18446744073709551615 := by rw [← hy5, IntKind.wrap_u64]; omega
    obtain ⟨yd, hyd⟩ : ∃ y, IntKind.u64.wrap (now + delay) = y := ⟨_, rfl⟩
    have byd : 0 ≤ yd ∧ yd ≤ 18446744073709551615 := by rw [← hyd, IntKind.wrap_u64]; omega
    by_cases hn0 : n = 0
    · subst hn0
      by_cases hf0 : fl = 0
      · subst hf0
        go_wp2_with (fail)
        obtain ⟨wS, hwS⟩ : ∃ z, (w1.setCell ⟨b, 2, none⟩ (.int .u64 pn)).setCell ⟨b, 3, none⟩ (.int .u64 now) = z := ⟨_, rfl⟩
        have hsz : wS.heap.size = w1.heap.size := by rw [← hwS]; simp [World.setCell]
        have hbS : Blk wS b #[.slice a 0 c, .int .u64 0, .int .u64 pn, .int .u64 now, .int .u64 x4, .int .u64 x5] 43 := by rw [← hwS]; exact ((HB.out.set 2 (.int .u64 pn)).set 3 (.int .u64 now)).congr (by simp)
        have hoS : Only (· = b) w1 wS := by rw [← hwS]; exact ((Only.refl _ _).set 2 _).set 3 _
        rw [hwS]
        rw [← hsz]
        clear hwS
        have hrS : Rs wS a c L := HR.out.only hoS (fun x hx _ => HNE.out x hx)
        have bA : Below wS.heap.size wS (wS.alloc (.cells #[.int .u64 pn, .int .u64 (pn + 1)] 31)) := (Below.refl _ _).alloc (Nat.le_refl _) _
        have hs1 : Rs (wS.alloc (.cells #[.int .u64 pn, .int .u64 (pn + 1)] 31)) (some ⟨wS.heap.size, 0, none⟩) 1 [(pn, pn + 1)] := Rs.of (by simp) (fun i hi => by
          have hcell := Blk.new wS #[.int .u64 pn, .int .u64 (pn + 1)] 31
          match i, hi with
          | 0, _ => exact hcell.cell 0 _ rfl
          | 1, _ => exact hcell.cell 1 _ rfl
          | i + 2, hi => exact absurd (show i + 2 < 2 from hi) (by omega)) (fun s hs => by rw [List.mem_singleton.1 hs]; simp only; omega) (by simp) (by simp [maxLen])
        refine (add_any a (some ⟨wS.heap.size, 0, none⟩) 0 1 c 1 L [(pn, pn + 1)] _ HN.out.symm rfl (hrS.below bA) hs1 (by have := HN.out; omega) (by simp)).mono ?_
        rintro e w3 ⟨hb3, a3, cp3, M, rfl, ho3, hM3, hnf, hlM⟩
        have b3 : Below wS.heap.size wS w3 := below_on bA hb3 (by simp)
        have hbt := hbS.lt
        have HNE3 : Hid (∀ x, a3 = some x → x.block ≠ b) := Lib.hid (fun x hx => by have := (ho3.block hx).1; simp at this; omega)
        have hR3 := (ho3.rs hM3).2
        have hat := fun (h1 : 1 < M.length) => hR3.at_ h1
        have hMb := fun (h1 : 1 < M.length) => hM3.getD h1
        have hdr := fun (h1 : 1 < M.length) => hR3.drop1 h1
        have hcl := hR3.le
        have HR3 := Lib.hid hR3
        have HB3 := Lib.hid (hbS.below b3)
        have HO3 : Hid (Only (· = b) w w3) := Lib.hid ((HO1.out.trans hoS).trans (onlyb_below b3))
        have HNF := Lib.hid hnf
        have HLM : Hid (M.length ≤ L.length + 1) := Lib.hid (by simpa using hlM)
        have e0 := HB3.out.cell 0 _ rfl
        have e1 := HB3.out.cell 1 _ rfl
        have e4 := HB3.out.cell 4 _ rfl
        have e5 := HB3.out.cell 5 _ rfl
        have q0 := HB3.out.free 0
        have q1 := HB3.out.free 1
        have q4 := HB3.out.free 4
        have q5 := HB3.out.free 5
        obtain ⟨n3, hn3⟩ : ∃ n, M.length = n := ⟨_, rfl⟩
        rw [hn3] at hat hMb hdr hcl ⊢
        have HN3 := Lib.hid hn3
        have hn3b : n3 ≤ 65 := by have := HLM.out; have := HN.out; omega
        clear hb3 ho3 hM3 hnf hlM hn3 b3 hs1 hrS hbS hoS bA c0 c1 c2 c3 f0 f1 f2 f3 HB HR HNE hR3
        by_cases ht : 64 < n3
        · obtain ⟨g, off, hga, hgl, t1, t2⟩ := hat (by omega)
          have hgb : ¬ g = b := HNE3.out ⟨g, off, none⟩ hga
          have hMb1 := hMb (by omega)
          have hdr1 := hdr (by omega)
          have hcut := fun w' => run_cut1 (a := a3) (n := n3) (cap := cp3) (by omega) (by have := HN3.out; omega) w'
          obtain ⟨f, hf⟩ : ∃ f, (M.getD 1 default).1 = f := ⟨_, rfl⟩
          rw [hf] at t1 hMb1
          have HF := Lib.hid hf
          have HD := Lib.hid hdr1
          obtain ⟨ad, had⟩ : ∃ ad, a3.map (·.add 2) = ad := ⟨_, rfl⟩
          rw [had] at HD
          simp only [had] at hcut
          have HAD := Lib.hid had
          have HNEd : Hid (∀ x, ad = some x → x.block ≠ b) := Lib.hid (fun x hx => by
            rw [← HAD.out, hga] at hx
            simp only [Option.map_some, Option.some.injEq, addr_add] at hx
            rw [← hx]; exact hgb)
          clear hat hMb hdr hf had hdr1
          subst hga
          go_wp2_with (fail)
          have hbX : Blk ((w3.setCell ⟨b, 0, none⟩ (.slice (some ⟨g, off, none⟩) n3 cp3)).setCell ⟨b, 1, none⟩ (.int .u64 f)) b #[.slice (some ⟨g, off, none⟩) n3 cp3, .int .u64 f, .int .u64 pn, .int .u64 now, .int .u64 x4, .int .u64 x5] 43 := ((HB3.out.set 0 (.slice (some ⟨g, off, none⟩) n3 cp3)).set 1 (.int .u64 f)).congr (by simp)
          have hoX : Only (· = b) w3 ((w3.setCell ⟨b, 0, none⟩ (.slice (some ⟨g, off, none⟩) n3 cp3)).setCell ⟨b, 1, none⟩ (.int .u64 f)) := ((Only.refl _ _).set 0 _).set 1 _
          obtain ⟨wX, hwX⟩ : ∃ z, (w3.setCell ⟨b, 0, none⟩ (.slice (some ⟨g, off, none⟩) n3 cp3)).setCell ⟨b, 1, none⟩ (.int .u64 f) = z := ⟨_, rfl⟩
          rw [hwX] at hbX hoX ⊢
          clear hwX e0 e1 e4 e5 q0 q1 q4 q5 t1 t2 hcut
          have hln : (M.drop 1).length = n3 - 1 := by rw [List.length_drop, HN3.out]
          refine (clone_any ad (n3 - 1) (cp3 - 1) (M.drop 1) wX hln.symm (HD.out.only hoX (fun x hx _ => HNEd.out x hx)) (by rw [hln]; omega)).mono ?_
          rintro e w4 ⟨hb4, a4, c4, rfl, ho4⟩
          rw [hln] at ho4 ⊢
          have HNE4 : Hid (∀ x, a4 = some x → x.block ≠ b) := Lib.hid (fun x hx => by have := (ho4.block hx).1; have := hbX.lt; omega)
          have HB4 := Lib.hid (hbX.below hb4)
          have HR4 : Hid (Rs w4 a4 c4 (M.drop 1)) := Lib.hid (by
            have hb : Bnd (M.drop 1) := fun r hr => HR3.out.bnd r (List.mem_of_mem_drop hr)
            exact (OwnS.rs ho4 hb).2)
          have HO4 : Hid (Only (· = b) w w4) := Lib.hid ((HO3.out.trans hoX).trans (onlyb_below hb4))
          have HLN := Lib.hid hln
          have e0 := HB4.out.cell 0 _ rfl
          have e4 := HB4.out.cell 4 _ rfl
          have e5 := HB4.out.cell 5 _ rfl
          have q0 := HB4.out.free 0
          have q4 := HB4.out.free 4
          have q5 := HB4.out.free 5
          clear hb4 ho4 hbX hoX hln HB3 HR3 HD HNE3 HAD HNEd
          cases wants with
          | false =>
            go_wp2_with (fail)
            all_goals (go_returns; exact ⟨(HO4.out.set 0 _), (fun h => nomatch h), fun _ => ⟨rfl, added_of (X2 := pn) (X3 := now) (D := x4) (Y := x5) ((HB4.out.set 0 (.slice a4 (n3 - 1) c4)).congr (by simp)) HLN.out (HR4.out.only ((Only.refl _ _).set 0 _) (fun x hx _ => HNE4.out x hx)) HNE4.out (by unfold u64b; omega) (by unfold u64b; omega) (by unfold u64b; omega) (by unfold u64b; omega) (by unfold u64b; omega) HNF.out HLM.out (.inr ⟨by rw [HN3.out]; omega, rfl, HF.out.symm⟩)⟩⟩)
          | true =>
            by_cases hc2 : 2 ≤ y5
            · have hc3 : decide (2 ≤ y5) = true := by simpa using hc2
              go_wp2_with (fail)
              (go_returns; exact ⟨(((HO4.out.set 0 _).set 5 _).set 4 _), (fun h => nomatch h), fun _ => ⟨rfl, added_of (X2 := pn) (X3 := now) (D := max now 1) (Y := y5) ((((HB4.out.set 0 (.slice a4 (n3 - 1) c4)).set 5 (.int .u64 y5)).set 4 (.int .u64 (max now 1))).congr (by simp)) HLN.out (HR4.out.only ((((Only.refl _ _).set 0 _).set 5 _).set 4 _) (fun x hx _ => HNE4.out x hx)) HNE4.out (by unfold u64b; omega) (by unfold u64b; omega) (by unfold u64b; omega) (by unfold u64b; omega) (by unfold u64b; omega) HNF.out HLM.out (.inr ⟨by rw [HN3.out]; omega, rfl, HF.out.symm⟩)⟩⟩)
            · have hc3 : decide (2 ≤ y5) = false := by simpa using hc2
              by_cases hd0 : delay = 0
              · subst hd0
                go_wp2_with (fail)
                (go_returns; exact ⟨(((HO4.out.set 0 _).set 5 _).set 4 _), (fun h => nomatch h), fun _ => ⟨rfl, added_of (X2 := pn) (X3 := now) (D := max now 1) (Y := y5) ((((HB4.out.set 0 (.slice a4 (n3 - 1) c4)).set 5 (.int .u64 y5)).set 4 (.int .u64 (max now 1))).congr (by simp)) HLN.out (HR4.out.only ((((Only.refl _ _).set 0 _).set 5 _).set 4 _) (fun x hx _ => HNE4.out x hx)) HNE4.out (by unfold u64b; omega) (by unfold u64b; omega) (by unfold u64b; omega) (by unfold u64b; omega) (by unfold u64b; omega) HNF.out HLM.out (.inr ⟨by rw [HN3.out]; omega, rfl, HF.out.symm⟩)⟩⟩)
              · have hd1 : (delay == 0) = false := by simpa using hd0
                go_wp2_with (fail)
                · (go_returns; exact ⟨(((HO4.out.set 0 _).set 5 _).set 4 _), (fun h => nomatch h), fun _ => ⟨rfl, added_of (X2 := pn) (X3 := now) (D := max yd 1) (Y := y5) ((((HB4.out.set 0 (.slice a4 (n3 - 1) c4)).set 5 (.int .u64 y5)).set 4 (.int .u64 (max yd 1))).congr (by simp)) HLN.out (HR4.out.only ((((Only.refl _ _).set 0 _).set 5 _).set 4 _) (fun x hx _ => HNE4.out x hx)) HNE4.out (by unfold u64b; omega) (by unfold u64b; omega) (by unfold u64b; omega) (by unfold u64b; omega) (by unfold u64b; omega) HNF.out HLM.out (.inr ⟨by rw [HN3.out]; omega, rfl, HF.out.symm⟩)⟩⟩)
                · (go_returns; exact ⟨((HO4.out.set 0 _).set 5 _), (fun h => nomatch h), fun _ => ⟨rfl, added_of (X2 := pn) (X3 := now) (D := x4) (Y := y5) (((HB4.out.set 0 (.slice a4 (n3 - 1) c4)).set 5 (.int .u64 y5)).congr (by simp)) HLN.out (HR4.out.only (((Only.refl _ _).set 0 _).set 5 _) (fun x hx _ => HNE4.out x hx)) HNE4.out (by unfold u64b; omega) (by unfold u64b; omega) (by unfold u64b; omega) (by unfold u64b; omega) (by unfold u64b; omega) HNF.out HLM.out (.inr ⟨by rw [HN3.out]; omega, rfl, HF.out.symm⟩)⟩⟩)
        · clear hat hMb hdr
          cases wants with
          | false =>
            go_wp2_with (fail)
            all_goals (go_returns; exact ⟨(HO3.out.set 0 _), (fun h => nomatch h), fun _ => ⟨rfl, added_of (X2 := pn) (X3 := now) (D := x4) (Y := x5) ((HB3.out.set 0 (.slice a3 n3 cp3)).congr (by simp)) HN3.out (HR3.out.only ((Only.refl _ _).set 0 _) (fun x hx _ => HNE3.out x hx)) HNE3.out (by unfold u64b; omega) (by unfold u64b; omega) (by unfold u64b; omega) (by unfold u64b; omega) (by unfold u64b; omega) HNF.out HLM.out (.inl ⟨by rw [HN3.out]; omega, rfl, rfl⟩)⟩⟩)
          | true =>
            by_cases hc2 : 2 ≤ y5
            · have hc3 : decide (2 ≤ y5) = true := by simpa using hc2
              go_wp2_with (fail)
              (go_returns; exact ⟨(((HO3.out.set 0 _).set 5 _).set 4 _), (fun h => nomatch h), fun _ => ⟨rfl, added_of (X2 := pn) (X3 := now) (D := max now 1) (Y := y5) ((((HB3.out.set 0 (.slice a3 n3 cp3)).set 5 (.int .u64 y5)).set 4 (.int .u64 (max now 1))).congr (by simp)) HN3.out (HR3.out.only ((((Only.refl _ _).set 0 _).set 5 _).set 4 _) (fun x hx _ => HNE3.out x hx)) HNE3.out (by unfold u64b; omega) (by unfold u64b; omega) (by unfold u64b; omega) (by unfold u64b; omega) (by unfold u64b; omega) HNF.out HLM.out (.inl ⟨by rw [HN3.out]; omega, rfl, rfl⟩)⟩⟩)
            · have hc3 : decide (2 ≤ y5) = false := by simpa using hc2
              by_cases hd0 : delay = 0
              · subst hd0
                go_wp2_with (fail)
                (go_returns; exact ⟨(((HO3.out.set 0 _).set 5 _).set 4 _), (fun h => nomatch h), fun _ => ⟨rfl, added_of (X2 := pn) (X3 := now) (D := max now 1) (Y := y5) ((((HB3.out.set 0 (.slice a3 n3 cp3)).set 5 (.int .u64 y5)).set 4 (.int .u64 (max now 1))).congr (by simp)) HN3.out (HR3.out.only ((((Only.refl _ _).set 0 _).set 5 _).set 4 _) (fun x hx _ => HNE3.out x hx)) HNE3.out (by unfold u64b; omega) (by unfold u64b; omega) (by unfold u64b; omega) (by unfold u64b; omega) (by unfold u64b; omega) HNF.out HLM.out (.inl ⟨by rw [HN3.out]; omega, rfl, rfl⟩)⟩⟩)
              · have hd1 : (delay == 0) = false := by simpa using hd0
                go_wp2_with (fail)
                · (go_returns; exact ⟨(((HO3.out.set 0 _).set 5 _).set 4 _), (fun h => nomatch h), fun _ => ⟨rfl, added_of (X2 := pn) (X3 := now) (D := max yd 1) (Y := y5) ((((HB3.out.set 0 (.slice a3 n3 cp3)).set 5 (.int .u64 y5)).set 4 (.int .u64 (max yd 1))).congr (by simp)) HN3.out (HR3.out.only ((((Only.refl _ _).set 0 _).set 5 _).set 4 _) (fun x hx _ => HNE3.out x hx)) HNE3.out (by unfold u64b; omega) (by unfold u64b; omega) (by unfold u64b; omega) (by unfold u64b; omega) (by unfold u64b; omega) HNF.out HLM.out (.inl ⟨by rw [HN3.out]; omega, rfl, rfl⟩)⟩⟩)
                · (go_returns; exact ⟨((HO3.out.set 0 _).set 5 _), (fun h => nomatch h), fun _ => ⟨rfl, added_of (X2 := pn) (X3 := now) (D := x4) (Y := y5) (((HB3.out.set 0 (.slice a3 n3 cp3)).set 5 (.int .u64 y5)).congr (by simp)) HN3.out (HR3.out.only (((Only.refl _ _).set 0 _).set 5 _) (fun x hx _ => HNE3.out x hx)) HNE3.out (by unfold u64b; omega) (by unfold u64b; omega) (by unfold u64b; omega) (by unfold u64b; omega) (by unfold u64b; omega) HNF.out HLM.out (.inl ⟨by rw [HN3.out]; omega, rfl, rfl⟩)⟩⟩)
      · have hf1 : (fl == 0) = false := by simpa using hf0
        go_wp2_with (fail)
        · skip
          obtain ⟨wS, hwS⟩ : ∃ z, (w1.setCell ⟨b, 2, none⟩ (.int .u64 pn)).setCell ⟨b, 3, none⟩ (.int .u64 now) = z := ⟨_, rfl⟩
          have hsz : wS.heap.size = w1.heap.size := by rw [← hwS]; simp [World.setCell]
          have hbS : Blk wS b #[.slice a 0 c, .int .u64 fl, .int .u64 pn, .int .u64 now, .int .u64 x4, .int .u64 x5] 43 := by rw [← hwS]; exact ((HB.out.set 2 (.int .u64 pn)).set 3 (.int .u64 now)).congr (by simp)
          have hoS : Only (· = b) w1 wS := by rw [← hwS]; exact ((Only.refl _ _).set 2 _).set 3 _
          rw [hwS]
          rw [← hsz]
          clear hwS
          have hrS : Rs wS a c L := HR.out.only hoS (fun x hx _ => HNE.out x hx)
          have bA : Below wS.heap.size wS (wS.alloc (.cells #[.int .u64 pn, .int .u64 (pn + 1)] 31)) := (Below.refl _ _).alloc (Nat.le_refl _) _
          have hs1 : Rs (wS.alloc (.cells #[.int .u64 pn, .int .u64 (pn + 1)] 31)) (some ⟨wS.heap.size, 0, none⟩) 1 [(pn, pn + 1)] := Rs.of (by simp) (fun i hi => by
            have hcell := Blk.new wS #[.int .u64 pn, .int .u64 (pn + 1)] 31
            match i, hi with
            | 0, _ => exact hcell.cell 0 _ rfl
            | 1, _ => exact hcell.cell 1 _ rfl
            | i + 2, hi => exact absurd (show i + 2 < 2 from hi) (by omega)) (fun s hs => by rw [List.mem_singleton.1 hs]; simp only; omega) (by simp) (by simp [maxLen])
          refine (add_any a (some ⟨wS.heap.size, 0, none⟩) 0 1 c 1 L [(pn, pn + 1)] _ HN.out.symm rfl (hrS.below bA) hs1 (by have := HN.out; omega) (by simp)).mono ?_
          rintro e w3 ⟨hb3, a3, cp3, M, rfl, ho3, hM3, hnf, hlM⟩
          have b3 : Below wS.heap.size wS w3 := below_on bA hb3 (by simp)
          have hbt := hbS.lt
          have HNE3 : Hid (∀ x, a3 = some x → x.block ≠ b) := Lib.hid (fun x hx => by have := (ho3.block hx).1; simp at this; omega)
          have hR3 := (ho3.rs hM3).2
          have hat := fun (h1 : 1 < M.length) => hR3.at_ h1
          have hMb := fun (h1 : 1 < M.length) => hM3.getD h1
          have hdr := fun (h1 : 1 < M.length) => hR3.drop1 h1
          have hcl := hR3.le
          have HR3 := Lib.hid hR3
          have HB3 := Lib.hid (hbS.below b3)
          have HO3 : Hid (Only (· = b) w w3) := Lib.hid ((HO1.out.trans hoS).trans (onlyb_below b3))
          have HNF := Lib.hid hnf
          have HLM : Hid (M.length ≤ L.length + 1) := Lib.hid (by simpa using hlM)
          have e0 := HB3.out.cell 0 _ rfl
          have e1 := HB3.out.cell 1 _ rfl
          have e4 := HB3.out.cell 4 _ rfl
          have e5 := HB3.out.cell 5 _ rfl
          have q0 := HB3.out.free 0
          have q1 := HB3.out.free 1
          have q4 := HB3.out.free 4
          have q5 := HB3.out.free 5
          obtain ⟨n3, hn3⟩ : ∃ n, M.length = n := ⟨_, rfl⟩
          rw [hn3] at hat hMb hdr hcl ⊢
          have HN3 := Lib.hid hn3
          have hn3b : n3 ≤ 65 := by have := HLM.out; have := HN.out; omega
          clear hb3 ho3 hM3 hnf hlM hn3 b3 hs1 hrS hbS hoS bA c0 c1 c2 c3 f0 f1 f2 f3 HB HR HNE hR3
          by_cases ht : 64 < n3
          · obtain ⟨g, off, hga, hgl, t1, t2⟩ := hat (by omega)
            have hgb : ¬ g = b := HNE3.out ⟨g, off, none⟩ hga
            have hMb1 := hMb (by omega)
            have hdr1 := hdr (by omega)
            have hcut := fun w' => run_cut1 (a := a3) (n := n3) (cap := cp3) (by omega) (by have := HN3.out; omega) w'
            obtain ⟨f, hf⟩ : ∃ f, (M.getD 1 default).1 = f := ⟨_, rfl⟩
            rw [hf] at t1 hMb1
            have HF := Lib.hid hf
            have HD := Lib.hid hdr1
            obtain ⟨ad, had⟩ : ∃ ad, a3.map (·.add 2) = ad := ⟨_, rfl⟩
            rw [had] at HD
            simp only [had] at hcut
            have HAD := Lib.hid had
            have HNEd : Hid (∀ x, ad = some x → x.block ≠ b) := Lib.hid (fun x hx => by
              rw [← HAD.out, hga] at hx
              simp only [Option.map_some, Option.some.injEq, addr_add] at hx
              rw [← hx]; exact hgb)
            clear hat hMb hdr hf had hdr1
            subst hga
            go_wp2_with (fail)
            have hbX : Blk ((w3.setCell ⟨b, 0, none⟩ (.slice (some ⟨g, off, none⟩) n3 cp3)).setCell ⟨b, 1, none⟩ (.int .u64 f)) b #[.slice (some ⟨g, off, none⟩) n3 cp3, .int .u64 f, .int .u64 pn, .int .u64 now, .int .u64 x4, .int .u64 x5] 43 := ((HB3.out.set 0 (.slice (some ⟨g, off, none⟩) n3 cp3)).set 1 (.int .u64 f)).congr (by simp)
            have hoX : Only (· = b) w3 ((w3.setCell ⟨b, 0, none⟩ (.slice (some ⟨g, off, none⟩) n3 cp3)).setCell ⟨b, 1, none⟩ (.int .u64 f)) := ((Only.refl _ _).set 0 _).set 1 _
            obtain ⟨wX, hwX⟩ : ∃ z, (w3.setCell ⟨b, 0, none⟩ (.slice (some ⟨g, off, none⟩) n3 cp3)).setCell ⟨b, 1, none⟩ (.int .u64 f) = z := ⟨_, rfl⟩
            rw [hwX] at hbX hoX ⊢
            clear hwX e0 e1 e4 e5 q0 q1 q4 q5 t1 t2 hcut
            have hln : (M.drop 1).length = n3 - 1 := by rw [List.length_drop, HN3.out]
            refine (clone_any ad (n3 - 1) (cp3 - 1) (M.drop 1) wX hln.symm (HD.out.only hoX (fun x hx _ => HNEd.out x hx)) (by rw [hln]; omega)).mono ?_
            rintro e w4 ⟨hb4, a4, c4, rfl, ho4⟩
            rw [hln] at ho4 ⊢
            have HNE4 : Hid (∀ x, a4 = some x → x.block ≠ b) := Lib.hid (fun x hx => by have := (ho4.block hx).1; have := hbX.lt; omega)
            have HB4 := Lib.hid (hbX.below hb4)
            have HR4 : Hid (Rs w4 a4 c4 (M.drop 1)) := Lib.hid (by
              have hb : Bnd (M.drop 1) := fun r hr => HR3.out.bnd r (List.mem_of_mem_drop hr)
              exact (OwnS.rs ho4 hb).2)
            have HO4 : Hid (Only (· = b) w w4) := Lib.hid ((HO3.out.trans hoX).trans (onlyb_below hb4))
            have HLN := Lib.hid hln
            have e0 := HB4.out.cell 0 _ rfl
            have e4 := HB4.out.cell 4 _ rfl
            have e5 := HB4.out.cell 5 _ rfl
            have q0 := HB4.out.free 0
            have q4 := HB4.out.free 4
            have q5 := HB4.out.free 5
            clear hb4 ho4 hbX hoX hln HB3 HR3 HD HNE3 HAD HNEd
            cases wants with
            | false =>
              go_wp2_with (fail)
              all_goals (go_returns; exact ⟨(HO4.out.set 0 _), (fun h => nomatch h), fun _ => ⟨rfl, added_of (X2 := pn) (X3 := now) (D := x4) (Y := x5) ((HB4.out.set 0 (.slice a4 (n3 - 1) c4)).congr (by simp)) HLN.out (HR4.out.only ((Only.refl _ _).set 0 _) (fun x hx _ => HNE4.out x hx)) HNE4.out (by unfold u64b; omega) (by unfold u64b; omega) (by unfold u64b; omega) (by unfold u64b; omega) (by unfold u64b; omega) HNF.out HLM.out (.inr ⟨by rw [HN3.out]; omega, rfl, HF.out.symm⟩)⟩⟩)
            | true =>
              by_cases hc2 : 2 ≤ y5
              · have hc3 : decide (2 ≤ y5) = true := by simpa using hc2
                go_wp2_with (fail)
                (go_returns; exact ⟨(((HO4.out.set 0 _).set 5 _).set 4 _), (fun h => nomatch h), fun _ => ⟨rfl, added_of (X2 := pn) (X3 := now) (D := max now 1) (Y := y5) ((((HB4.out.set 0 (.slice a4 (n3 - 1) c4)).set 5 (.int .u64 y5)).set 4 (.int .u64 (max now 1))).congr (by simp)) HLN.out (HR4.out.only ((((Only.refl _ _).set 0 _).set 5 _).set 4 _) (fun x hx _ => HNE4.out x hx)) HNE4.out (by unfold u64b; omega) (by unfold u64b; omega) (by unfold u64b; omega) (by unfold u64b; omega) (by unfold u64b; omega) HNF.out HLM.out (.inr ⟨by rw [HN3.out]; omega, rfl, HF.out.symm⟩)⟩⟩)
              · have hc3 : decide (2 ≤ y5) = false := by simpa using hc2
                by_cases hd0 : delay = 0
                · subst hd0
                  go_wp2_with (fail)
                  (go_returns; exact ⟨(((HO4.out.set 0 _).set 5 _).set 4 _), (fun h => nomatch h), fun _ => ⟨rfl, added_of (X2 := pn) (X3 := now) (D := max now 1) (Y := y5) ((((HB4.out.set 0 (.slice a4 (n3 - 1) c4)).set 5 (.int .u64 y5)).set 4 (.int .u64 (max now 1))).congr (by simp)) HLN.out (HR4.out.only ((((Only.refl _ _).set 0 _).set 5 _).set 4 _) (fun x hx _ => HNE4.out x hx)) HNE4.out (by unfold u64b; omega) (by unfold u64b; omega) (by unfold u64b; omega) (by unfold u64b; omega) (by unfold u64b; omega) HNF.out HLM.out (.inr ⟨by rw [HN3.out]; omega, rfl, HF.out.symm⟩)⟩⟩)
                · have hd1 : (delay == 0) = false := by simpa using hd0
                  go_wp2_with (fail)
                  · (go_returns; exact ⟨(((HO4.out.set 0 _).set 5 _).set 4 _), (fun h => nomatch h), fun _ => ⟨rfl, added_of (X2 := pn) (X3 := now) (D := max now 1) (Y := y5) ((((HB4.out.set 0 (.slice a4 (n3 - 1) c4)).set 5 (.int .u64 y5)).set 4 (.int .u64 (max now 1))).congr (by simp)) HLN.out (HR4.out.only ((((Only.refl _ _).set 0 _).set 5 _).set 4 _) (fun x hx _ => HNE4.out x hx)) HNE4.out (by unfold u64b; omega) (by unfold u64b; omega) (by unfold u64b; omega) (by unfold u64b; omega) (by unfold u64b; omega) HNF.out HLM.out (.inr ⟨by rw [HN3.out]; omega, rfl, HF.out.symm⟩)⟩⟩)
                  · (go_returns; exact ⟨(((HO4.out.set 0 _).set 5 _).set 4 _), (fun h => nomatch h), fun _ => ⟨rfl, added_of (X2 := pn) (X3 := now) (D := max yd 1) (Y := y5) ((((HB4.out.set 0 (.slice a4 (n3 - 1) c4)).set 5 (.int .u64 y5)).set 4 (.int .u64 (max yd 1))).congr (by simp)) HLN.out (HR4.out.only ((((Only.refl _ _).set 0 _).set 5 _).set 4 _) (fun x hx _ => HNE4.out x hx)) HNE4.out (by unfold u64b; omega) (by unfold u64b; omega) (by unfold u64b; omega) (by unfold u64b; omega) (by unfold u64b; omega) HNF.out HLM.out (.inr ⟨by rw [HN3.out]; omega, rfl, HF.out.symm⟩)⟩⟩)
                  · (go_returns; exact ⟨((HO4.out.set 0 _).set 5 _), (fun h => nomatch h), fun _ => ⟨rfl, added_of (X2 := pn) (X3 := now) (D := x4) (Y := y5) (((HB4.out.set 0 (.slice a4 (n3 - 1) c4)).set 5 (.int .u64 y5)).congr (by simp)) HLN.out (HR4.out.only (((Only.refl _ _).set 0 _).set 5 _) (fun x hx _ => HNE4.out x hx)) HNE4.out (by unfold u64b; omega) (by unfold u64b; omega) (by unfold u64b; omega) (by unfold u64b; omega) (by unfold u64b; omega) HNF.out HLM.out (.inr ⟨by rw [HN3.out]; omega, rfl, HF.out.symm⟩)⟩⟩)
          · clear hat hMb hdr
            cases wants with
            | false =>
              go_wp2_with (fail)
              all_goals (go_returns; exact ⟨(HO3.out.set 0 _), (fun h => nomatch h), fun _ => ⟨rfl, added_of (X2 := pn) (X3 := now) (D := x4) (Y := x5) ((HB3.out.set 0 (.slice a3 n3 cp3)).congr (by simp)) HN3.out (HR3.out.only ((Only.refl _ _).set 0 _) (fun x hx _ => HNE3.out x hx)) HNE3.out (by unfold u64b; omega) (by unfold u64b; omega) (by unfold u64b; omega) (by unfold u64b; omega) (by unfold u64b; omega) HNF.out HLM.out (.inl ⟨by rw [HN3.out]; omega, rfl, rfl⟩)⟩⟩)
            | true =>
              by_cases hc2 : 2 ≤ y5
              · have hc3 : decide (2 ≤ y5) = true := by simpa using hc2
                go_wp2_with (fail)
                (go_returns; exact ⟨(((HO3.out.set 0 _).set 5 _).set 4 _), (fun h => nomatch h), fun _ => ⟨rfl, added_of (X2 := pn) (X3 := now) (D := max now 1) (Y := y5) ((((HB3.out.set 0 (.slice a3 n3 cp3)).set 5 (.int .u64 y5)).set 4 (.int .u64 (max now 1))).congr (by simp)) HN3.out (HR3.out.only ((((Only.refl _ _).set 0 _).set 5 _).set 4 _) (fun x hx _ => HNE3.out x hx)) HNE3.out (by unfold u64b; omega) (by unfold u64b; omega) (by unfold u64b; omega) (by unfold u64b; omega) (by unfold u64b; omega) HNF.out HLM.out (.inl ⟨by rw [HN3.out]; omega, rfl, rfl⟩)⟩⟩)
              · have hc3 : decide (2 ≤ y5) = false := by simpa using hc2
                by_cases hd0 : delay = 0
                · subst hd0
                  go_wp2_with (fail)
                  (go_returns; exact ⟨(((HO3.out.set 0 _).set 5 _).set 4 _), (fun h => nomatch h), fun _ => ⟨rfl, added_of (X2 := pn) (X3 := now) (D := max now 1) (Y := y5) ((((HB3.out.set 0 (.slice a3 n3 cp3)).set 5 (.int .u64 y5)).set 4 (.int .u64 (max now 1))).congr (by simp)) HN3.out (HR3.out.only ((((Only.refl _ _).set 0 _).set 5 _).set 4 _) (fun x hx _ => HNE3.out x hx)) HNE3.out (by unfold u64b; omega) (by unfold u64b; omega) (by unfold u64b; omega) (by unfold u64b; omega) (by unfold u64b; omega) HNF.out HLM.out (.inl ⟨by rw [HN3.out]; omega, rfl, rfl⟩)⟩⟩)
                · have hd1 : (delay == 0) = false := by simpa using hd0
                  go_wp2_with (fail)
                  · (go_returns; exact ⟨(((HO3.out.set 0 _).set 5 _).set 4 _), (fun h => nomatch h), fun _ => ⟨rfl, added_of (X2 := pn) (X3 := now) (D := max now 1) (Y := y5) ((((HB3.out.set 0 (.slice a3 n3 cp3)).set 5 (.int .u64 y5)).set 4 (.int .u64 (max now 1))).congr (by simp)) HN3.out (HR3.out.only ((((Only.refl _ _).set 0 _).set 5 _).set 4 _) (fun x hx _ => HNE3.out x hx)) HNE3.out (by unfold u64b; omega) (by unfold u64b; omega) (by unfold u64b; omega) (by unfold u64b; omega) (by unfold u64b; omega) HNF.out HLM.out (.inl ⟨by rw [HN3.out]; omega, rfl, rfl⟩)⟩⟩)
                  · (go_returns; exact ⟨(((HO3.out.set 0 _).set 5 _).set 4 _), (fun h => nomatch h), fun _ => ⟨rfl, added_of (X2 := pn) (X3 := now) (D := max yd 1) (Y := y5) ((((HB3.out.set 0 (.slice a3 n3 cp3)).set 5 (.int .u64 y5)).set 4 (.int .u64 (max yd 1))).congr (by simp)) HN3.out (HR3.out.only ((((Only.refl _ _).set 0 _).set 5 _).set 4 _) (fun x hx _ => HNE3.out x hx)) HNE3.out (by unfold u64b; omega) (by unfold u64b; omega) (by unfold u64b; omega) (by unfold u64b; omega) (by unfold u64b; omega) HNF.out HLM.out (.inl ⟨by rw [HN3.out]; omega, rfl, rfl⟩)⟩⟩)
                  · (go_returns; exact ⟨((HO3.out.set 0 _).set 5 _), (fun h => nomatch h), fun _ => ⟨rfl, added_of (X2 := pn) (X3 := now) (D := x4) (Y := y5) (((HB3.out.set 0 (.slice a3 n3 cp3)).set 5 (.int .u64 y5)).congr (by simp)) HN3.out (HR3.out.only (((Only.refl _ _).set 0 _).set 5 _) (fun x hx _ => HNE3.out x hx)) HNE3.out (by unfold u64b; omega) (by unfold u64b; omega) (by unfold u64b; omega) (by unfold u64b; omega) (by unfold u64b; omega) HNF.out HLM.out (.inl ⟨by rw [HN3.out]; omega, rfl, rfl⟩)⟩⟩)
        · skip
          obtain ⟨wS, hwS⟩ : ∃ z, w1 = z := ⟨_, rfl⟩
          have hbS : Blk wS b #[.slice a 0 c, .int .u64 fl, .int .u64 x2, .int .u64 x3, .int .u64 x4, .int .u64 x5] 43 := by rw [← hwS]; exact HB.out
          have hoS : Only (· = b) w1 wS := by rw [← hwS]; exact Only.refl _ _
          rw [hwS]
          have hsz : True := trivial
          have hrS : Rs wS a c L := HR.out.only hoS (fun x hx _ => HNE.out x hx)
          have bA : Below wS.heap.size wS (wS.alloc (.cells #[.int .u64 pn, .int .u64 (pn + 1)] 31)) := (Below.refl _ _).alloc (Nat.le_refl _) _
          have hs1 : Rs (wS.alloc (.cells #[.int .u64 pn, .int .u64 (pn + 1)] 31)) (some ⟨wS.heap.size, 0, none⟩) 1 [(pn, pn + 1)] := Rs.of (by simp) (fun i hi => by
            have hcell := Blk.new wS #[.int .u64 pn, .int .u64 (pn + 1)] 31
            match i, hi with
            | 0, _ => exact hcell.cell 0 _ rfl
            | 1, _ => exact hcell.cell 1 _ rfl
            | i + 2, hi => exact absurd (show i + 2 < 2 from hi) (by omega)) (fun s hs => by rw [List.mem_singleton.1 hs]; simp only; omega) (by simp) (by simp [maxLen])
          refine (add_any a (some ⟨wS.heap.size, 0, none⟩) 0 1 c 1 L [(pn, pn + 1)] _ HN.out.symm rfl (hrS.below bA) hs1 (by have := HN.out; omega) (by simp)).mono ?_
          rintro e w3 ⟨hb3, a3, cp3, M, rfl, ho3, hM3, hnf, hlM⟩
          have b3 : Below wS.heap.size wS w3 := below_on bA hb3 (by simp)
          have hbt := hbS.lt
          have HNE3 : Hid (∀ x, a3 = some x → x.block ≠ b) := Lib.hid (fun x hx => by have := (ho3.block hx).1; simp at this; omega)
          have hR3 := (ho3.rs hM3).2
          have hat := fun (h1 : 1 < M.length) => hR3.at_ h1
          have hMb := fun (h1 : 1 < M.length) => hM3.getD h1
          have hdr := fun (h1 : 1 < M.length) => hR3.drop1 h1
          have hcl := hR3.le
          have HR3 := Lib.hid hR3
          have HB3 := Lib.hid (hbS.below b3)
          have HO3 : Hid (Only (· = b) w w3) := Lib.hid ((HO1.out.trans hoS).trans (onlyb_below b3))
          have HNF := Lib.hid hnf
          have HLM : Hid (M.length ≤ L.length + 1) := Lib.hid (by simpa using hlM)
          have e0 := HB3.out.cell 0 _ rfl
          have e1 := HB3.out.cell 1 _ rfl
          have e4 := HB3.out.cell 4 _ rfl
          have e5 := HB3.out.cell 5 _ rfl
          have q0 := HB3.out.free 0
          have q1 := HB3.out.free 1
          have q4 := HB3.out.free 4
          have q5 := HB3.out.free 5
          obtain ⟨n3, hn3⟩ : ∃ n, M.length = n := ⟨_, rfl⟩
          rw [hn3] at hat hMb hdr hcl ⊢
          have HN3 := Lib.hid hn3
          have hn3b : n3 ≤ 65 := by have := HLM.out; have := HN.out; omega
          clear hb3 ho3 hM3 hnf hlM hn3 b3 hs1 hrS hbS hoS bA c0 c1 c2 c3 f0 f1 f2 f3 HB HR HNE hR3
          by_cases ht : 64 < n3
          · obtain ⟨g, off, hga, hgl, t1, t2⟩ := hat (by omega)
            have hgb : ¬ g = b := HNE3.out ⟨g, off, none⟩ hga
            have hMb1 := hMb (by omega)
            have hdr1 := hdr (by omega)
            have hcut := fun w' => run_cut1 (a := a3) (n := n3) (cap := cp3) (by omega) (by have := HN3.out; omega) w'
            obtain ⟨f, hf⟩ : ∃ f, (M.getD 1 default).1 = f := ⟨_, rfl⟩
            rw [hf] at t1 hMb1
            have HF := Lib.hid hf
            have HD := Lib.hid hdr1
            obtain ⟨ad, had⟩ : ∃ ad, a3.map (·.add 2) = ad := ⟨_, rfl⟩
            rw [had] at HD
            simp only [had] at hcut
            have HAD := Lib.hid had
            have HNEd : Hid (∀ x, ad = some x → x.block ≠ b) := Lib.hid (fun x hx => by
              rw [← HAD.out, hga] at hx
              simp only [Option.map_some, Option.some.injEq, addr_add] at hx
              rw [← hx]; exact hgb)
            clear hat hMb hdr hf had hdr1
            subst hga
            go_wp2_with (fail)
            have hbX : Blk ((w3.setCell ⟨b, 0, none⟩ (.slice (some ⟨g, off, none⟩) n3 cp3)).setCell ⟨b, 1, none⟩ (.int .u64 f)) b #[.slice (some ⟨g, off, none⟩) n3 cp3, .int .u64 f, .int .u64 x2, .int .u64 x3, .int .u64 x4, .int .u64 x5] 43 := ((HB3.out.set 0 (.slice (some ⟨g, off, none⟩) n3 cp3)).set 1 (.int .u64 f)).congr (by simp)
            have hoX : Only (· = b) w3 ((w3.setCell ⟨b, 0, none⟩ (.slice (some ⟨g, off, none⟩) n3 cp3)).setCell ⟨b, 1, none⟩ (.int .u64 f)) := ((Only.refl _ _).set 0 _).set 1 _
            obtain ⟨wX, hwX⟩ : ∃ z, (w3.setCell ⟨b, 0, none⟩ (.slice (some ⟨g, off, none⟩) n3 cp3)).setCell ⟨b, 1, none⟩ (.int .u64 f) = z := ⟨_, rfl⟩
            rw [hwX] at hbX hoX ⊢
            clear hwX e0 e1 e4 e5 q0 q1 q4 q5 t1 t2 hcut
            have hln : (M.drop 1).length = n3 - 1 := by rw [List.length_drop, HN3.out]
            refine (clone_any ad (n3 - 1) (cp3 - 1) (M.drop 1) wX hln.symm (HD.out.only hoX (fun x hx _ => HNEd.out x hx)) (by rw [hln]; omega)).mono ?_
            rintro e w4 ⟨hb4, a4, c4, rfl, ho4⟩
            rw [hln] at ho4 ⊢
            have HNE4 : Hid (∀ x, a4 = some x → x.block ≠ b) := Lib.hid (fun x hx => by have := (ho4.block hx).1; have := hbX.lt; omega)
            have HB4 := Lib.hid (hbX.below hb4)
            have HR4 : Hid (Rs w4 a4 c4 (M.drop 1)) := Lib.hid (by
              have hb : Bnd (M.drop 1) := fun r hr => HR3.out.bnd r (List.mem_of_mem_drop hr)
              exact (OwnS.rs ho4 hb).2)
            have HO4 : Hid (Only (· = b) w w4) := Lib.hid ((HO3.out.trans hoX).trans (onlyb_below hb4))
            have HLN := Lib.hid hln
            have e0 := HB4.out.cell 0 _ rfl
            have e4 := HB4.out.cell 4 _ rfl
            have e5 := HB4.out.cell 5 _ rfl
            have q0 := HB4.out.free 0
            have q4 := HB4.out.free 4
            have q5 := HB4.out.free 5
            clear hb4 ho4 hbX hoX hln HB3 HR3 HD HNE3 HAD HNEd
            cases wants with
            | false =>
              go_wp2_with (fail)
              all_goals (go_returns; exact ⟨(HO4.out.set 0 _), (fun h => nomatch h), fun _ => ⟨rfl, added_of (X2 := x2) (X3 := x3) (D := x4) (Y := x5) ((HB4.out.set 0 (.slice a4 (n3 - 1) c4)).congr (by simp)) HLN.out (HR4.out.only ((Only.refl _ _).set 0 _) (fun x hx _ => HNE4.out x hx)) HNE4.out (by unfold u64b; omega) (by unfold u64b; omega) (by unfold u64b; omega) (by unfold u64b; omega) (by unfold u64b; omega) HNF.out HLM.out (.inr ⟨by rw [HN3.out]; omega, rfl, HF.out.symm⟩)⟩⟩)
            | true =>
              by_cases hc2 : 2 ≤ y5
              · have hc3 : decide (2 ≤ y5) = true := by simpa using hc2
                go_wp2_with (fail)
                (go_returns; exact ⟨(((HO4.out.set 0 _).set 5 _).set 4 _), (fun h => nomatch h), fun _ => ⟨rfl, added_of (X2 := x2) (X3 := x3) (D := max now 1) (Y := y5) ((((HB4.out.set 0 (.slice a4 (n3 - 1) c4)).set 5 (.int .u64 y5)).set 4 (.int .u64 (max now 1))).congr (by simp)) HLN.out (HR4.out.only ((((Only.refl _ _).set 0 _).set 5 _).set 4 _) (fun x hx _ => HNE4.out x hx)) HNE4.out (by unfold u64b; omega) (by unfold u64b; omega) (by unfold u64b; omega) (by unfold u64b; omega) (by unfold u64b; omega) HNF.out HLM.out (.inr ⟨by rw [HN3.out]; omega, rfl, HF.out.symm⟩)⟩⟩)
              · have hc3 : decide (2 ≤ y5) = false := by simpa using hc2
                by_cases hd0 : delay = 0
                · subst hd0
                  go_wp2_with (fail)
                  (go_returns; exact ⟨(((HO4.out.set 0 _).set 5 _).set 4 _), (fun h => nomatch h), fun _ => ⟨rfl, added_of (X2 := x2) (X3 := x3) (D := max now 1) (Y := y5) ((((HB4.out.set 0 (.slice a4 (n3 - 1) c4)).set 5 (.int .u64 y5)).set 4 (.int .u64 (max now 1))).congr (by simp)) HLN.out (HR4.out.only ((((Only.refl _ _).set 0 _).set 5 _).set 4 _) (fun x hx _ => HNE4.out x hx)) HNE4.out (by unfold u64b; omega) (by unfold u64b; omega) (by unfold u64b; omega) (by unfold u64b; omega) (by unfold u64b; omega) HNF.out HLM.out (.inr ⟨by rw [HN3.out]; omega, rfl, HF.out.symm⟩)⟩⟩)
                · have hd1 : (delay == 0) = false := by simpa using hd0
                  go_wp2_with (fail)
                  · (go_returns; exact ⟨(((HO4.out.set 0 _).set 5 _).set 4 _), (fun h => nomatch h), fun _ => ⟨rfl, added_of (X2 := x2) (X3 := x3) (D := max now 1) (Y := y5) ((((HB4.out.set 0 (.slice a4 (n3 - 1) c4)).set 5 (.int .u64 y5)).set 4 (.int .u64 (max now 1))).congr (by simp)) HLN.out (HR4.out.only ((((Only.refl _ _).set 0 _).set 5 _).set 4 _) (fun x hx _ => HNE4.out x hx)) HNE4.out (by unfold u64b; omega) (by unfold u64b; omega) (by unfold u64b; omega) (by unfold u64b; omega) (by unfold u64b; omega) HNF.out HLM.out (.inr ⟨by rw [HN3.out]; omega, rfl, HF.out.symm⟩)⟩⟩)
                  · (go_returns; exact ⟨(((HO4.out.set 0 _).set 5 _).set 4 _), (fun h => nomatch h), fun _ => ⟨rfl, added_of (X2 := x2) (X3 := x3) (D := max yd 1) (Y := y5) ((((HB4.out.set 0 (.slice a4 (n3 - 1) c4)).set 5 (.int .u64 y5)).set 4 (.int .u64 (max yd 1))).congr (by simp)) HLN.out (HR4.out.only ((((Only.refl _ _).set 0 _).set 5 _).set 4 _) (fun x hx _ => HNE4.out x hx)) HNE4.out (by unfold u64b; omega) (by unfold u64b; omega) (by unfold u64b; omega) (by unfold u64b; omega) (by unfold u64b; omega) HNF.out HLM.out (.inr ⟨by rw [HN3.out]; omega, rfl, HF.out.symm⟩)⟩⟩)
                  · (go_returns; exact ⟨((HO4.out.set 0 _).set 5 _), (fun h => nomatch h), fun _ => ⟨rfl, added_of (X2 := x2) (X3 := x3) (D := x4) (Y := y5) (((HB4.out.set 0 (.slice a4 (n3 - 1) c4)).set 5 (.int .u64 y5)).congr (by simp)) HLN.out (HR4.out.only (((Only.refl _ _).set 0 _).set 5 _) (fun x hx _ => HNE4.out x hx)) HNE4.out (by unfold u64b; omega) (by unfold u64b; omega) (by unfold u64b; omega) (by unfold u64b; omega) (by unfold u64b; omega) HNF.out HLM.out (.inr ⟨by rw [HN3.out]; omega, rfl, HF.out.symm⟩)⟩⟩)
          · clear hat hMb hdr
            cases wants with
            | false =>
              go_wp2_with (fail)
              all_goals (go_returns; exact ⟨(HO3.out.set 0 _), (fun h => nomatch h), fun _ => ⟨rfl, added_of (X2 := x2) (X3 := x3) (D := x4) (Y := x5) ((HB3.out.set 0 (.slice a3 n3 cp3)).congr (by simp)) HN3.out (HR3.out.only ((Only.refl _ _).set 0 _) (fun x hx _ => HNE3.out x hx)) HNE3.out (by unfold u64b; omega) (by unfold u64b; omega) (by unfold u64b; omega) (by unfold u64b; omega) (by unfold u64b; omega) HNF.out HLM.out (.inl ⟨by rw [HN3.out]; omega, rfl, rfl⟩)⟩⟩)
            | true =>
              by_cases hc2 : 2 ≤ y5
              · have hc3 : decide (2 ≤ y5) = true := by simpa using hc2
                go_wp2_with (fail)
                (go_returns; exact ⟨(((HO3.out.set 0 _).set 5 _).set 4 _), (fun h => nomatch h), fun _ => ⟨rfl, added_of (X2 := x2) (X3 := x3) (D := max now 1) (Y := y5) ((((HB3.out.set 0 (.slice a3 n3 cp3)).set 5 (.int .u64 y5)).set 4 (.int .u64 (max now 1))).congr (by simp)) HN3.out (HR3.out.only ((((Only.refl _ _).set 0 _).set 5 _).set 4 _) (fun x hx _ => HNE3.out x hx)) HNE3.out (by unfold u64b; omega) (by unfold u64b; omega) (by unfold u64b; omega) (by unfold u64b; omega) (by unfold u64b; omega) HNF.out HLM.out (.inl ⟨by rw [HN3.out]; omega, rfl, rfl⟩)⟩⟩)
              · have hc3 : decide (2 ≤ y5) = false := by simpa using hc2
                by_cases hd0 : delay = 0
                · subst hd0
                  go_wp2_with (fail)
                  (go_returns; exact ⟨(((HO3.out.set 0 _).set 5 _).set 4 _), (fun h => nomatch h), fun _ => ⟨rfl, added_of (X2 := x2) (X3 := x3) (D := max now 1) (Y := y5) ((((HB3.out.set 0 (.slice a3 n3 cp3)).set 5 (.int .u64 y5)).set 4 (.int .u64 (max now 1))).congr (by simp)) HN3.out (HR3.out.only ((((Only.refl _ _).set 0 _).set 5 _).set 4 _) (fun x hx _ => HNE3.out x hx)) HNE3.out (by unfold u64b; omega) (by unfold u64b; omega) (by unfold u64b; omega) (by unfold u64b; omega) (by unfold u64b; omega) HNF.out HLM.out (.inl ⟨by rw [HN3.out]; omega, rfl, rfl⟩)⟩⟩)
                · have hd1 : (delay == 0) = false := by simpa using hd0
                  go_wp2_with (fail)
                  · (go_returns; exact ⟨(((HO3.out.set 0 _).set 5 _).set 4 _), (fun h => nomatch h), fun _ => ⟨rfl, added_of (X2 := x2) (X3 := x3) (D := max now 1) (Y := y5) ((((HB3.out.set 0 (.slice a3 n3 cp3)).set 5 (.int .u64 y5)).set 4 (.int .u64 (max now 1))).congr (by simp)) HN3.out (HR3.out.only ((((Only.refl _ _).set 0 _).set 5 _).set 4 _) (fun x hx _ => HNE3.out x hx)) HNE3.out (by unfold u64b; omega) (by unfold u64b; omega) (by unfold u64b; omega) (by unfold u64b; omega) (by unfold u64b; omega) HNF.out HLM.out (.inl ⟨by rw [HN3.out]; omega, rfl, rfl⟩)⟩⟩)
                  · (go_returns; exact ⟨(((HO3.out.set 0 _).set 5 _).set 4 _), (fun h => nomatch h), fun _ => ⟨rfl, added_of (X2 := x2) (X3 := x3) (D := max yd 1) (Y := y5) ((((HB3.out.set 0 (.slice a3 n3 cp3)).set 5 (.int .u64 y5)).set 4 (.int .u64 (max yd 1))).congr (by simp)) HN3.out (HR3.out.only ((((Only.refl _ _).set 0 _).set 5 _).set 4 _) (fun x hx _ => HNE3.out x hx)) HNE3.out (by unfold u64b; omega) (by unfold u64b; omega) (by unfold u64b; omega) (by unfold u64b; omega) (by unfold u64b; omega) HNF.out HLM.out (.inl ⟨by rw [HN3.out]; omega, rfl, rfl⟩)⟩⟩)
                  · (go_returns; exact ⟨((HO3.out.set 0 _).set 5 _), (fun h => nomatch h), fun _ => ⟨rfl, added_of (X2 := x2) (X3 := x3) (D := x4) (Y := y5) (((HB3.out.set 0 (.slice a3 n3 cp3)).set 5 (.int .u64 y5)).congr (by simp)) HN3.out (HR3.out.only (((Only.refl _ _).set 0 _).set 5 _) (fun x hx _ => HNE3.out x hx)) HNE3.out (by unfold u64b; omega) (by unfold u64b; omega) (by unfold u64b; omega) (by unfold u64b; omega) (by unfold u64b; omega) HNF.out HLM.out (.inl ⟨by rw [HN3.out]; omega, rfl, rfl⟩)⟩⟩)
    · have hn1 : ((n : Int) == 0) = false := by simp; omega
      go_wp2_with (fail)
      · skip
        obtain ⟨wS, hwS⟩ : ∃ z, (w1.setCell ⟨b, 2, none⟩ (.int .u64 pn)).setCell ⟨b, 3, none⟩ (.int .u64 now) = z := ⟨_, rfl⟩
        have hsz : wS.heap.size = w1.heap.size := by rw [← hwS]; simp [World.setCell]
        have hbS : Blk wS b #[.slice a n c, .int .u64 fl, .int .u64 pn, .int .u64 now, .int .u64 x4, .int .u64 x5] 43 := by rw [← hwS]; exact ((HB.out.set 2 (.int .u64 pn)).set 3 (.int .u64 now)).congr (by simp)
        have hoS : Only (· = b) w1 wS := by rw [← hwS]; exact ((Only.refl _ _).set 2 _).set 3 _
        rw [hwS]
        rw [← hsz]
        clear hwS
        have hrS : Rs wS a c L := HR.out.only hoS (fun x hx _ => HNE.out x hx)
        have bA : Below wS.heap.size wS (wS.alloc (.cells #[.int .u64 pn, .int .u64 (pn + 1)] 31)) := (Below.refl _ _).alloc (Nat.le_refl _) _
        have hs1 : Rs (wS.alloc (.cells #[.int .u64 pn, .int .u64 (pn + 1)] 31)) (some ⟨wS.heap.size, 0, none⟩) 1 [(pn, pn + 1)] := Rs.of (by simp) (fun i hi => by
          have hcell := Blk.new wS #[.int .u64 pn, .int .u64 (pn + 1)] 31
          match i, hi with
          | 0, _ => exact hcell.cell 0 _ rfl
          | 1, _ => exact hcell.cell 1 _ rfl
          | i + 2, hi => exact absurd (show i + 2 < 2 from hi) (by omega)) (fun s hs => by rw [List.mem_singleton.1 hs]; simp only; omega) (by simp) (by simp [maxLen])
        refine (add_any a (some ⟨wS.heap.size, 0, none⟩) n 1 c 1 L [(pn, pn + 1)] _ HN.out.symm rfl (hrS.below bA) hs1 (by have := HN.out; omega) (by simp)).mono ?_
        rintro e w3 ⟨hb3, a3, cp3, M, rfl, ho3, hM3, hnf, hlM⟩
        have b3 : Below wS.heap.size wS w3 := below_on bA hb3 (by simp)
        have hbt := hbS.lt
        have HNE3 : Hid (∀ x, a3 = some x → x.block ≠ b) := Lib.hid (fun x hx => by have := (ho3.block hx).1; simp at this; omega)
        have hR3 := (ho3.rs hM3).2
        have hat := fun (h1 : 1 < M.length) => hR3.at_ h1
        have hMb := fun (h1 : 1 < M.length) => hM3.getD h1
        have hdr := fun (h1 : 1 < M.length) => hR3.drop1 h1
        have hcl := hR3.le
        have HR3 := Lib.hid hR3
        have HB3 := Lib.hid (hbS.below b3)
        have HO3 : Hid (Only (· = b) w w3) := Lib.hid ((HO1.out.trans hoS).trans (onlyb_below b3))
        have HNF := Lib.hid hnf
        have HLM : Hid (M.length ≤ L.length + 1) := Lib.hid (by simpa using hlM)
        have e0 := HB3.out.cell 0 _ rfl
        have e1 := HB3.out.cell 1 _ rfl
        have e4 := HB3.out.cell 4 _ rfl
        have e5 := HB3.out.cell 5 _ rfl
        have q0 := HB3.out.free 0
        have q1 := HB3.out.free 1
        have q4 := HB3.out.free 4
        have q5 := HB3.out.free 5
        obtain ⟨n3, hn3⟩ : ∃ n, M.length = n := ⟨_, rfl⟩
        rw [hn3] at hat hMb hdr hcl ⊢
        have HN3 := Lib.hid hn3
        have hn3b : n3 ≤ 65 := by have := HLM.out; have := HN.out; omega
        clear hb3 ho3 hM3 hnf hlM hn3 b3 hs1 hrS hbS hoS bA c0 c1 c2 c3 f0 f1 f2 f3 HB HR HNE hR3
        by_cases ht : 64 < n3
        · obtain ⟨g, off, hga, hgl, t1, t2⟩ := hat (by omega)
          have hgb : ¬ g = b := HNE3.out ⟨g, off, none⟩ hga
          have hMb1 := hMb (by omega)
          have hdr1 := hdr (by omega)
          have hcut := fun w' => run_cut1 (a := a3) (n := n3) (cap := cp3) (by omega) (by have := HN3.out; omega) w'
          obtain ⟨f, hf⟩ : ∃ f, (M.getD 1 default).1 = f := ⟨_, rfl⟩
          rw [hf] at t1 hMb1
          have HF := Lib.hid hf
          have HD := Lib.hid hdr1
          obtain ⟨ad, had⟩ : ∃ ad, a3.map (·.add 2) = ad := ⟨_, rfl⟩
          rw [had] at HD
          simp only [had] at hcut
          have HAD := Lib.hid had
          have HNEd : Hid (∀ x, ad = some x → x.block ≠ b) := Lib.hid (fun x hx => by
            rw [← HAD.out, hga] at hx
            simp only [Option.map_some, Option.some.injEq, addr_add] at hx
            rw [← hx]; exact hgb)
          clear hat hMb hdr hf had hdr1
          subst hga
          go_wp2_with (fail)
          have hbX : Blk ((w3.setCell ⟨b, 0, none⟩ (.slice (some ⟨g, off, none⟩) n3 cp3)).setCell ⟨b, 1, none⟩ (.int .u64 f)) b #[.slice (some ⟨g, off, none⟩) n3 cp3, .int .u64 f, .int .u64 pn, .int .u64 now, .int .u64 x4, .int .u64 x5] 43 := ((HB3.out.set 0 (.slice (some ⟨g, off, none⟩) n3 cp3)).set 1 (.int .u64 f)).congr (by simp)
          have hoX : Only (· = b) w3 ((w3.setCell ⟨b, 0, none⟩ (.slice (some ⟨g, off, none⟩) n3 cp3)).setCell ⟨b, 1, none⟩ (.int .u64 f)) := ((Only.refl _ _).set 0 _).set 1 _
          obtain ⟨wX, hwX⟩ : ∃ z, (w3.setCell ⟨b, 0, none⟩ (.slice (some ⟨g, off, none⟩) n3 cp3)).setCell ⟨b, 1, none⟩ (.int .u64 f) = z := ⟨_, rfl⟩
          rw [hwX] at hbX hoX ⊢
          clear hwX e0 e1 e4 e5 q0 q1 q4 q5 t1 t2 hcut
          have hln : (M.drop 1).length = n3 - 1 := by rw [List.length_drop, HN3.out]
          refine (clone_any ad (n3 - 1) (cp3 - 1) (M.drop 1) wX hln.symm (HD.out.only hoX (fun x hx _ => HNEd.out x hx)) (by rw [hln]; omega)).mono ?_
          rintro e w4 ⟨hb4, a4, c4, rfl, ho4⟩
          rw [hln] at ho4 ⊢
          have HNE4 : Hid (∀ x, a4 = some x → x.block ≠ b) := Lib.hid (fun x hx => by have := (ho4.block hx).1; have := hbX.lt; omega)
          have HB4 := Lib.hid (hbX.below hb4)
          have HR4 : Hid (Rs w4 a4 c4 (M.drop 1)) := Lib.hid (by
            have hb : Bnd (M.drop 1) := fun r hr => HR3.out.bnd r (List.mem_of_mem_drop hr)
            exact (OwnS.rs ho4 hb).2)
          have HO4 : Hid (Only (· = b) w w4) := Lib.hid ((HO3.out.trans hoX).trans (onlyb_below hb4))
          have HLN := Lib.hid hln
          have e0 := HB4.out.cell 0 _ rfl
          have e4 := HB4.out.cell 4 _ rfl
          have e5 := HB4.out.cell 5 _ rfl
          have q0 := HB4.out.free 0
          have q4 := HB4.out.free 4
          have q5 := HB4.out.free 5
          clear hb4 ho4 hbX hoX hln HB3 HR3 HD HNE3 HAD HNEd
          cases wants with
          | false =>
            go_wp2_with (fail)
            all_goals (go_returns; exact ⟨(HO4.out.set 0 _), (fun h => nomatch h), fun _ => ⟨rfl, added_of (X2 := pn) (X3 := now) (D := x4) (Y := x5) ((HB4.out.set 0 (.slice a4 (n3 - 1) c4)).congr (by simp)) HLN.out (HR4.out.only ((Only.refl _ _).set 0 _) (fun x hx _ => HNE4.out x hx)) HNE4.out (by unfold u64b; omega) (by unfold u64b; omega) (by unfold u64b; omega) (by unfold u64b; omega) (by unfold u64b; omega) HNF.out HLM.out (.inr ⟨by rw [HN3.out]; omega, rfl, HF.out.symm⟩)⟩⟩)
          | true =>
            by_cases hc2 : 2 ≤ y5
            · have hc3 : decide (2 ≤ y5) = true := by simpa using hc2
              go_wp2_with (fail)
              (go_returns; exact ⟨(((HO4.out.set 0 _).set 5 _).set 4 _), (fun h => nomatch h), fun _ => ⟨rfl, added_of (X2 := pn) (X3 := now) (D := max now 1) (Y := y5) ((((HB4.out.set 0 (.slice a4 (n3 - 1) c4)).set 5 (.int .u64 y5)).set 4 (.int .u64 (max now 1))).congr (by simp)) HLN.out (HR4.out.only ((((Only.refl _ _).set 0 _).set 5 _).set 4 _) (fun x hx _ => HNE4.out x hx)) HNE4.out (by unfold u64b; omega) (by unfold u64b; omega) (by unfold u64b; omega) (by unfold u64b; omega) (by unfold u64b; omega) HNF.out HLM.out (.inr ⟨by rw [HN3.out]; omega, rfl, HF.out.symm⟩)⟩⟩)
            · have hc3 : decide (2 ≤ y5) = false := by simpa using hc2
              by_cases hd0 : delay = 0
              · subst hd0
                go_wp2_with (fail)
                (go_returns; exact ⟨(((HO4.out.set 0 _).set 5 _).set 4 _), (fun h => nomatch h), fun _ => ⟨rfl, added_of (X2 := pn) (X3 := now) (D := max now 1) (Y := y5) ((((HB4.out.set 0 (.slice a4 (n3 - 1) c4)).set 5 (.int .u64 y5)).set 4 (.int .u64 (max now 1))).congr (by simp)) HLN.out (HR4.out.only ((((Only.refl _ _).set 0 _).set 5 _).set 4 _) (fun x hx _ => HNE4.out x hx)) HNE4.out (by unfold u64b; omega) (by unfold u64b; omega) (by unfold u64b; omega) (by unfold u64b; omega) (by unfold u64b; omega) HNF.out HLM.out (.inr ⟨by rw [HN3.out]; omega, rfl, HF.out.symm⟩)⟩⟩)
              · have hd1 : (delay == 0) = false := by simpa using hd0
                go_wp2_with (fail)
                · (go_returns; exact ⟨(((HO4.out.set 0 _).set 5 _).set 4 _), (fun h => nomatch h), fun _ => ⟨rfl, added_of (X2 := pn) (X3 := now) (D := max now 1) (Y := y5) ((((HB4.out.set 0 (.slice a4 (n3 - 1) c4)).set 5 (.int .u64 y5)).set 4 (.int .u64 (max now 1))).congr (by simp)) HLN.out (HR4.out.only ((((Only.refl _ _).set 0 _).set 5 _).set 4 _) (fun x hx _ => HNE4.out x hx)) HNE4.out (by unfold u64b; omega) (by unfold u64b; omega) (by unfold u64b; omega) (by unfold u64b; omega) (by unfold u64b; omega) HNF.out HLM.out (.inr ⟨by rw [HN3.out]; omega, rfl, HF.out.symm⟩)⟩⟩)
                · (go_returns; exact ⟨(((HO4.out.set 0 _).set 5 _).set 4 _), (fun h => nomatch h), fun _ => ⟨rfl, added_of (X2 := pn) (X3 := now) (D := max yd 1) (Y := y5) ((((HB4.out.set 0 (.slice a4 (n3 - 1) c4)).set 5 (.int .u64 y5)).set 4 (.int .u64 (max yd 1))).congr (by simp)) HLN.out (HR4.out.only ((((Only.refl _ _).set 0 _).set 5 _).set 4 _) (fun x hx _ => HNE4.out x hx)) HNE4.out (by unfold u64b; omega) (by unfold u64b; omega) (by unfold u64b; omega) (by unfold u64b; omega) (by unfold u64b; omega) HNF.out HLM.out (.inr ⟨by rw [HN3.out]; omega, rfl, HF.out.symm⟩)⟩⟩)
                · (go_returns; exact ⟨((HO4.out.set 0 _).set 5 _), (fun h => nomatch h), fun _ => ⟨rfl, added_of (X2 := pn) (X3 := now) (D := x4) (Y := y5) (((HB4.out.set 0 (.slice a4 (n3 - 1) c4)).set 5 (.int .u64 y5)).congr (by simp)) HLN.out (HR4.out.only (((Only.refl _ _).set 0 _).set 5 _) (fun x hx _ => HNE4.out x hx)) HNE4.out (by unfold u64b; omega) (by unfold u64b; omega) (by unfold u64b; omega) (by unfold u64b; omega) (by unfold u64b; omega) HNF.out HLM.out (.inr ⟨by rw [HN3.out]; omega, rfl, HF.out.symm⟩)⟩⟩)
        · clear hat hMb hdr
          cases wants with
          | false =>
            go_wp2_with (fail)
            all_goals (go_returns; exact ⟨(HO3.out.set 0 _), (fun h => nomatch h), fun _ => ⟨rfl, added_of (X2 := pn) (X3 := now) (D := x4) (Y := x5) ((HB3.out.set 0 (.slice a3 n3 cp3)).congr (by simp)) HN3.out (HR3.out.only ((Only.refl _ _).set 0 _) (fun x hx _ => HNE3.out x hx)) HNE3.out (by unfold u64b; omega) (by unfold u64b; omega) (by unfold u64b; omega) (by unfold u64b; omega) (by unfold u64b; omega) HNF.out HLM.out (.inl ⟨by rw [HN3.out]; omega, rfl, rfl⟩)⟩⟩)
          | true =>
            by_cases hc2 : 2 ≤ y5
            · have hc3 : decide (2 ≤ y5) = true := by simpa using hc2
              go_wp2_with (fail)
              (go_returns; exact ⟨(((HO3.out.set 0 _).set 5 _).set 4 _), (fun h => nomatch h), fun _ => ⟨rfl, added_of (X2 := pn) (X3 := now) (D := max now 1) (Y := y5) ((((HB3.out.set 0 (.slice a3 n3 cp3)).set 5 (.int .u64 y5)).set 4 (.int .u64 (max now 1))).congr (by simp)) HN3.out (HR3.out.only ((((Only.refl _ _).set 0 _).set 5 _).set 4 _) (fun x hx _ => HNE3.out x hx)) HNE3.out (by unfold u64b; omega) (by unfold u64b; omega) (by unfold u64b; omega) (by unfold u64b; omega) (by unfold u64b; omega) HNF.out HLM.out (.inl ⟨by rw [HN3.out]; omega, rfl, rfl⟩)⟩⟩)
            · have hc3 : decide (2 ≤ y5) = false := by simpa using hc2
              by_cases hd0 : delay = 0
              · subst hd0
                go_wp2_with (fail)
                (go_returns; exact ⟨(((HO3.out.set 0 _).set 5 _).set 4 _), (fun h => nomatch h), fun _ => ⟨rfl, added_of (X2 := pn) (X3 := now) (D := max now 1) (Y := y5) ((((HB3.out.set 0 (.slice a3 n3 cp3)).set 5 (.int .u64 y5)).set 4 (.int .u64 (max now 1))).congr (by simp)) HN3.out (HR3.out.only ((((Only.refl _ _).set 0 _).set 5 _).set 4 _) (fun x hx _ => HNE3.out x hx)) HNE3.out (by unfold u64b; omega) (by unfold u64b; omega) (by unfold u64b; omega) (by unfold u64b; omega) (by unfold u64b; omega) HNF.out HLM.out (.inl ⟨by rw [HN3.out]; omega, rfl, rfl⟩)⟩⟩)
              · have hd1 : (delay == 0) = false := by simpa using hd0
                go_wp2_with (fail)
                · (go_returns; exact ⟨(((HO3.out.set 0 _).set 5 _).set 4 _), (fun h => nomatch h), fun _ => ⟨rfl, added_of (X2 := pn) (X3 := now) (D := max now 1) (Y := y5) ((((HB3.out.set 0 (.slice a3 n3 cp3)).set 5 (.int .u64 y5)).set 4 (.int .u64 (max now 1))).congr (by simp)) HN3.out (HR3.out.only ((((Only.refl _ _).set 0 _).set 5 _).set 4 _) (fun x hx _ => HNE3.out x hx)) HNE3.out (by unfold u64b; omega) (by unfold u64b; omega) (by unfold u64b; omega) (by unfold u64b; omega) (by unfold u64b; omega) HNF.out HLM.out (.inl ⟨by rw [HN3.out]; omega, rfl, rfl⟩)⟩⟩)
                · (go_returns; exact ⟨(((HO3.out.set 0 _).set 5 _).set 4 _), (fun h => nomatch h), fun _ => ⟨rfl, added_of (X2 := pn) (X3 := now) (D := max yd 1) (Y := y5) ((((HB3.out.set 0 (.slice a3 n3 cp3)).set 5 (.int .u64 y5)).set 4 (.int .u64 (max yd 1))).congr (by simp)) HN3.out (HR3.out.only ((((Only.refl _ _).set 0 _).set 5 _).set 4 _) (fun x hx _ => HNE3.out x hx)) HNE3.out (by unfold u64b; omega) (by unfold u64b; omega) (by unfold u64b; omega) (by unfold u64b; omega) (by unfold u64b; omega) HNF.out HLM.out (.inl ⟨by rw [HN3.out]; omega, rfl, rfl⟩)⟩⟩)
                · (go_returns; exact ⟨((HO3.out.set 0 _).set 5 _), (fun h => nomatch h), fun _ => ⟨rfl, added_of (X2 := pn) (X3 := now) (D := x4) (Y := y5) (((HB3.out.set 0 (.slice a3 n3 cp3)).set 5 (.int .u64 y5)).congr (by simp)) HN3.out (HR3.out.only (((Only.refl _ _).set 0 _).set 5 _) (fun x hx _ => HNE3.out x hx)) HNE3.out (by unfold u64b; omega) (by unfold u64b; omega) (by unfold u64b; omega) (by unfold u64b; omega) (by unfold u64b; omega) HNF.out HLM.out (.inl ⟨by rw [HN3.out]; omega, rfl, rfl⟩)⟩⟩)
      · skip
        obtain ⟨wS, hwS⟩ : ∃ z, w1 = z := ⟨_, rfl⟩
        have hbS : Blk wS b #[.slice a n c, .int .u64 fl, .int .u64 x2, .int .u64 x3, .int .u64 x4, .int .u64 x5] 43 := by rw [← hwS]; exact HB.out
        have hoS : Only (· = b) w1 wS := by rw [← hwS]; exact Only.refl _ _
        rw [hwS]
        have hsz : True := trivial
        have hrS : Rs wS a c L := HR.out.only hoS (fun x hx _ => HNE.out x hx)
        have bA : Below wS.heap.size wS (wS.alloc (.cells #[.int .u64 pn, .int .u64 (pn + 1)] 31)) := (Below.refl _ _).alloc (Nat.le_refl _) _
        have hs1 : Rs (wS.alloc (.cells #[.int .u64 pn, .int .u64 (pn + 1)] 31)) (some ⟨wS.heap.size, 0, none⟩) 1 [(pn, pn + 1)] := Rs.of (by simp) (fun i hi => by
          have hcell := Blk.new wS #[.int .u64 pn, .int .u64 (pn + 1)] 31
          match i, hi with
          | 0, _ => exact hcell.cell 0 _ rfl
          | 1, _ => exact hcell.cell 1 _ rfl
          | i + 2, hi => exact absurd (show i + 2 < 2 from hi) (by omega)) (fun s hs => by rw [List.mem_singleton.1 hs]; simp only; omega) (by simp) (by simp [maxLen])
        refine (add_any a (some ⟨wS.heap.size, 0, none⟩) n 1 c 1 L [(pn, pn + 1)] _ HN.out.symm rfl (hrS.below bA) hs1 (by have := HN.out; omega) (by simp)).mono ?_
        rintro e w3 ⟨hb3, a3, cp3, M, rfl, ho3, hM3, hnf, hlM⟩
        have b3 : Below wS.heap.size wS w3 := below_on bA hb3 (by simp)
        have hbt := hbS.lt
        have HNE3 : Hid (∀ x, a3 = some x → x.block ≠ b) := Lib.hid (fun x hx => by have := (ho3.block hx).1; simp at this; omega)
        have hR3 := (ho3.rs hM3).2
        have hat := fun (h1 : 1 < M.length) => hR3.at_ h1
        have hMb := fun (h1 : 1 < M.length) => hM3.getD h1
        have hdr := fun (h1 : 1 < M.length) => hR3.drop1 h1
        have hcl := hR3.le
        have HR3 := Lib.hid hR3
        have HB3 := Lib.hid (hbS.below b3)
        have HO3 : Hid (Only (· = b) w w3) := Lib.hid ((HO1.out.trans hoS).trans (onlyb_below b3))
        have HNF := Lib.hid hnf
        have HLM : Hid (M.length ≤ L.length + 1) := Lib.hid (by simpa using hlM)
        have e0 := HB3.out.cell 0 _ rfl
        have e1 := HB3.out.cell 1 _ rfl
        have e4 := HB3.out.cell 4 _ rfl
        have e5 := HB3.out.cell 5 _ rfl
        have q0 := HB3.out.free 0
        have q1 := HB3.out.free 1
        have q4 := HB3.out.free 4
        have q5 := HB3.out.free 5
        obtain ⟨n3, hn3⟩ : ∃ n, M.length = n := ⟨_, rfl⟩
        rw [hn3] at hat hMb hdr hcl ⊢
        have HN3 := Lib.hid hn3
        have hn3b : n3 ≤ 65 := by have := HLM.out; have := HN.out; omega
        clear hb3 ho3 hM3 hnf hlM hn3 b3 hs1 hrS hbS hoS bA c0 c1 c2 c3 f0 f1 f2 f3 HB HR HNE hR3
        by_cases ht : 64 < n3
        · obtain ⟨g, off, hga, hgl, t1, t2⟩ := hat (by omega)
          have hgb : ¬ g = b := HNE3.out ⟨g, off, none⟩ hga
          have hMb1 := hMb (by omega)
          have hdr1 := hdr (by omega)
          have hcut := fun w' => run_cut1 (a := a3) (n := n3) (cap := cp3) (by omega) (by have := HN3.out; omega) w'
          obtain ⟨f, hf⟩ : ∃ f, (M.getD 1 default).1 = f := ⟨_, rfl⟩
          rw [hf] at t1 hMb1
          have HF := Lib.hid hf
          have HD := Lib.hid hdr1
          obtain ⟨ad, had⟩ : ∃ ad, a3.map (·.add 2) = ad := ⟨_, rfl⟩
          rw [had] at HD
          simp only [had] at hcut
          have HAD := Lib.hid had
          have HNEd : Hid (∀ x, ad = some x → x.block ≠ b) := Lib.hid (fun x hx => by
            rw [← HAD.out, hga] at hx
            simp only [Option.map_some, Option.some.injEq, addr_add] at hx
            rw [← hx]; exact hgb)
          clear hat hMb hdr hf had hdr1
          subst hga
          go_wp2_with (fail)
          have hbX : Blk ((w3.setCell ⟨b, 0, none⟩ (.slice (some ⟨g, off, none⟩) n3 cp3)).setCell ⟨b, 1, none⟩ (.int .u64 f)) b #[.slice (some ⟨g, off, none⟩) n3 cp3, .int .u64 f, .int .u64 x2, .int .u64 x3, .int .u64 x4, .int .u64 x5] 43 := ((HB3.out.set 0 (.slice (some ⟨g, off, none⟩) n3 cp3)).set 1 (.int .u64 f)).congr (by simp)
          have hoX : Only (· = b) w3 ((w3.setCell ⟨b, 0, none⟩ (.slice (some ⟨g, off, none⟩) n3 cp3)).setCell ⟨b, 1, none⟩ (.int .u64 f)) := ((Only.refl _ _).set 0 _).set 1 _
          obtain ⟨wX, hwX⟩ : ∃ z, (w3.setCell ⟨b, 0, none⟩ (.slice (some ⟨g, off, none⟩) n3 cp3)).setCell ⟨b, 1, none⟩ (.int .u64 f) = z := ⟨_, rfl⟩
          rw [hwX] at hbX hoX ⊢
          clear hwX e0 e1 e4 e5 q0 q1 q4 q5 t1 t2 hcut
          have hln : (M.drop 1).length = n3 - 1 := by rw [List.length_drop, HN3.out]
          refine (clone_any ad (n3 - 1) (cp3 - 1) (M.drop 1) wX hln.symm (HD.out.only hoX (fun x hx _ => HNEd.out x hx)) (by rw [hln]; omega)).mono ?_
          rintro e w4 ⟨hb4, a4, c4, rfl, ho4⟩
          rw [hln] at ho4 ⊢
          have HNE4 : Hid (∀ x, a4 = some x → x.block ≠ b) := Lib.hid (fun x hx => by have := (ho4.block hx).1; have := hbX.lt; omega)
          have HB4 := Lib.hid (hbX.below hb4)
          have HR4 : Hid (Rs w4 a4 c4 (M.drop 1)) := Lib.hid (by
            have hb : Bnd (M.drop 1) := fun r hr => HR3.out.bnd r (List.mem_of_mem_drop hr)
            exact (OwnS.rs ho4 hb).2)
          have HO4 : Hid (Only (· = b) w w4) := Lib.hid ((HO3.out.trans hoX).trans (onlyb_below hb4))
          have HLN := Lib.hid hln
          have e0 := HB4.out.cell 0 _ rfl
          have e4 := HB4.out.cell 4 _ rfl
          have e5 := HB4.out.cell 5 _ rfl
          have q0 := HB4.out.free 0
          have q4 := HB4.out.free 4
          have q5 := HB4.out.free 5
          clear hb4 ho4 hbX hoX hln HB3 HR3 HD HNE3 HAD HNEd
          cases wants with
          | false =>
            go_wp2_with (fail)
            all_goals (go_returns; exact ⟨(HO4.out.set 0 _), (fun h => nomatch h), fun _ => ⟨rfl, added_of (X2 := x2) (X3 := x3) (D := x4) (Y := x5) ((HB4.out.set 0 (.slice a4 (n3 - 1) c4)).congr (by simp)) HLN.out (HR4.out.only ((Only.refl _ _).set 0 _) (fun x hx _ => HNE4.out x hx)) HNE4.out (by unfold u64b; omega) (by unfold u64b; omega) (by unfold u64b; omega) (by unfold u64b; omega) (by unfold u64b; omega) HNF.out HLM.out (.inr ⟨by rw [HN3.out]; omega, rfl, HF.out.symm⟩)⟩⟩)
          | true =>
            by_cases hc2 : 2 ≤ y5
            · have hc3 : decide (2 ≤ y5) = true := by simpa using hc2
              go_wp2_with (fail)
              (go_returns; exact ⟨(((HO4.out.set 0 _).set 5 _).set 4 _), (fun h => nomatch h), fun _ => ⟨rfl, added_of (X2 := x2) (X3 := x3) (D := max now 1) (Y := y5) ((((HB4.out.set 0 (.slice a4 (n3 - 1) c4)).set 5 (.int .u64 y5)).set 4 (.int .u64 (max now 1))).congr (by simp)) HLN.out (HR4.out.only ((((Only.refl _ _).set 0 _).set 5 _).set 4 _) (fun x hx _ => HNE4.out x hx)) HNE4.out (by unfold u64b; omega) (by unfold u64b; omega) (by unfold u64b; omega) (by unfold u64b; omega) (by unfold u64b; omega) HNF.out HLM.out (.inr ⟨by rw [HN3.out]; omega, rfl, HF.out.symm⟩)⟩⟩)
            · have hc3 : decide (2 ≤ y5) = false := by simpa using hc2
              by_cases hd0 : delay = 0
              · subst hd0
                go_wp2_with (fail)
                (go_returns; exact ⟨(((HO4.out.set 0 _).set 5 _).set 4 _), (fun h => nomatch h), fun _ => ⟨rfl, added_of (X2 := x2) (X3 := x3) (D := max now 1) (Y := y5) ((((HB4.out.set 0 (.slice a4 (n3 - 1) c4)).set 5 (.int .u64 y5)).set 4 (.int .u64 (max now 1))).congr (by simp)) HLN.out (HR4.out.only ((((Only.refl _ _).set 0 _).set 5 _).set 4 _) (fun x hx _ => HNE4.out x hx)) HNE4.out (by unfold u64b; omega) (by unfold u64b; omega) (by unfold u64b; omega) (by unfold u64b; omega) (by unfold u64b; omega) HNF.out HLM.out (.inr ⟨by rw [HN3.out]; omega, rfl, HF.out.symm⟩)⟩⟩)
              · have hd1 : (delay == 0) = false := by simpa using hd0
                go_wp2_with (fail)
                · (go_returns; exact ⟨(((HO4.out.set 0 _).set 5 _).set 4 _), (fun h => nomatch h), fun _ => ⟨rfl, added_of (X2 := x2) (X3 := x3) (D := max now 1) (Y := y5) ((((HB4.out.set 0 (.slice a4 (n3 - 1) c4)).set 5 (.int .u64 y5)).set 4 (.int .u64 (max now 1))).congr (by simp)) HLN.out (HR4.out.only ((((Only.refl _ _).set 0 _).set 5 _).set 4 _) (fun x hx _ => HNE4.out x hx)) HNE4.out (by unfold u64b; omega) (by unfold u64b; omega) (by unfold u64b; omega) (by unfold u64b; omega) (by unfold u64b; omega) HNF.out HLM.out (.inr ⟨by rw [HN3.out]; omega, rfl, HF.out.symm⟩)⟩⟩)
                · (go_returns; exact ⟨(((HO4.out.set 0 _).set 5 _).set 4 _), (fun h => nomatch h), fun _ => ⟨rfl, added_of (X2 := x2) (X3 := x3) (D := max yd 1) (Y := y5) ((((HB4.out.set 0 (.slice a4 (n3 - 1) c4)).set 5 (.int .u64 y5)).set 4 (.int .u64 (max yd 1))).congr (by simp)) HLN.out (HR4.out.only ((((Only.refl _ _).set 0 _).set 5 _).set 4 _) (fun x hx _ => HNE4.out x hx)) HNE4.out (by unfold u64b; omega) (by unfold u64b; omega) (by unfold u64b; omega) (by unfold u64b; omega) (by unfold u64b; omega) HNF.out HLM.out (.inr ⟨by rw [HN3.out]; omega, rfl, HF.out.symm⟩)⟩⟩)
                · (go_returns; exact ⟨((HO4.out.set 0 _).set 5 _), (fun h => nomatch h), fun _ => ⟨rfl, added_of (X2 := x2) (X3 := x3) (D := x4) (Y := y5) (((HB4.out.set 0 (.slice a4 (n3 - 1) c4)).set 5 (.int .u64 y5)).congr (by simp)) HLN.out (HR4.out.only (((Only.refl _ _).set 0 _).set 5 _) (fun x hx _ => HNE4.out x hx)) HNE4.out (by unfold u64b; omega) (by unfold u64b; omega) (by unfold u64b; omega) (by unfold u64b; omega) (by unfold u64b; omega) HNF.out HLM.out (.inr ⟨by rw [HN3.out]; omega, rfl, HF.out.symm⟩)⟩⟩)
        · clear hat hMb hdr
          cases wants with
          | false =>
            go_wp2_with (fail)
            all_goals (go_returns; exact ⟨(HO3.out.set 0 _), (fun h => nomatch h), fun _ => ⟨rfl, added_of (X2 := x2) (X3 := x3) (D := x4) (Y := x5) ((HB3.out.set 0 (.slice a3 n3 cp3)).congr (by simp)) HN3.out (HR3.out.only ((Only.refl _ _).set 0 _) (fun x hx _ => HNE3.out x hx)) HNE3.out (by unfold u64b; omega) (by unfold u64b; omega) (by unfold u64b; omega) (by unfold u64b; omega) (by unfold u64b; omega) HNF.out HLM.out (.inl ⟨by rw [HN3.out]; omega, rfl, rfl⟩)⟩⟩)
          | true =>
            by_cases hc2 : 2 ≤ y5
            · have hc3 : decide (2 ≤ y5) = true := by simpa using hc2
              go_wp2_with (fail)
              (go_returns; exact ⟨(((HO3.out.set 0 _).set 5 _).set 4 _), (fun h => nomatch h), fun _ => ⟨rfl, added_of (X2 := x2) (X3 := x3) (D := max now 1) (Y := y5) ((((HB3.out.set 0 (.slice a3 n3 cp3)).set 5 (.int .u64 y5)).set 4 (.int .u64 (max now 1))).congr (by simp)) HN3.out (HR3.out.only ((((Only.refl _ _).set 0 _).set 5 _).set 4 _) (fun x hx _ => HNE3.out x hx)) HNE3.out (by unfold u64b; omega) (by unfold u64b; omega) (by unfold u64b; omega) (by unfold u64b; omega) (by unfold u64b; omega) HNF.out HLM.out (.inl ⟨by rw [HN3.out]; omega, rfl, rfl⟩)⟩⟩)
            · have hc3 : decide (2 ≤ y5) = false := by simpa using hc2
              by_cases hd0 : delay = 0
              · subst hd0
                go_wp2_with (fail)
                (go_returns; exact ⟨(((HO3.out.set 0 _).set 5 _).set 4 _), (fun h => nomatch h), fun _ => ⟨rfl, added_of (X2 := x2) (X3 := x3) (D := max now 1) (Y := y5) ((((HB3.out.set 0 (.slice a3 n3 cp3)).set 5 (.int .u64 y5)).set 4 (.int .u64 (max now 1))).congr (by simp)) HN3.out (HR3.out.only ((((Only.refl _ _).set 0 _).set 5 _).set 4 _) (fun x hx _ => HNE3.out x hx)) HNE3.out (by unfold u64b; omega) (by unfold u64b; omega) (by unfold u64b; omega) (by unfold u64b; omega) (by unfold u64b; omega) HNF.out HLM.out (.inl ⟨by rw [HN3.out]; omega, rfl, rfl⟩)⟩⟩)
              · have hd1 : (delay == 0) = false := by simpa using hd0
                go_wp2_with (fail)
                · (go_returns; exact ⟨(((HO3.out.set 0 _).set 5 _).set 4 _), (fun h => nomatch h), fun _ => ⟨rfl, added_of (X2 := x2) (X3 := x3) (D := max now 1) (Y := y5) ((((HB3.out.set 0 (.slice a3 n3 cp3)).set 5 (.int .u64 y5)).set 4 (.int .u64 (max now 1))).congr (by simp)) HN3.out (HR3.out.only ((((Only.refl _ _).set 0 _).set 5 _).set 4 _) (fun x hx _ => HNE3.out x hx)) HNE3.out (by unfold u64b; omega) (by unfold u64b; omega) (by unfold u64b; omega) (by unfold u64b; omega) (by unfold u64b; omega) HNF.out HLM.out (.inl ⟨by rw [HN3.out]; omega, rfl, rfl⟩)⟩⟩)
                · (go_returns; exact ⟨(((HO3.out.set 0 _).set 5 _).set 4 _), (fun h => nomatch h), fun _ => ⟨rfl, added_of (X2 := x2) (X3 := x3) (D := max yd 1) (Y := y5) ((((HB3.out.set 0 (.slice a3 n3 cp3)).set 5 (.int .u64 y5)).set 4 (.int .u64 (max yd 1))).congr (by simp)) HN3.out (HR3.out.only ((((Only.refl _ _).set 0 _).set 5 _).set 4 _) (fun x hx _ => HNE3.out x hx)) HNE3.out (by unfold u64b; omega) (by unfold u64b; omega) (by unfold u64b; omega) (by unfold u64b; omega) (by unfold u64b; omega) HNF.out HLM.out (.inl ⟨by rw [HN3.out]; omega, rfl, rfl⟩)⟩⟩)
                · (go_returns; exact ⟨((HO3.out.set 0 _).set 5 _), (fun h => nomatch h), fun _ => ⟨rfl, added_of (X2 := x2) (X3 := x3) (D := x4) (Y := y5) (((HB3.out.set 0 (.slice a3 n3 cp3)).set 5 (.int .u64 y5)).congr (by simp)) HN3.out (HR3.out.only (((Only.refl _ _).set 0 _).set 5 _) (fun x hx _ => HNE3.out x hx)) HNE3.out (by unfold u64b; omega) (by unfold u64b; omega) (by unfold u64b; omega) (by unfold u64b; omega) (by unfold u64b; omega) HNF.out HLM.out (.inl ⟨by rw [HN3.out]; omega, rfl, rfl⟩)⟩⟩)
end Go.Proofs.Ytidfimpchbkppaa
