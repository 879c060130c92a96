/- Layer 4: Append. -/
import Derived.Test.YtjeolfnmheofeaaPar4
namespace Go.Proofs.Ytjeolfnmheofeaa
open Go.RowKit
set_option linter.unusedVariables false
namespace Par
open Var (Byte enc encs enc_length enc_bytes size_le wf_byte bytes_et Fits append_any rshort_any)

theorem OutAt.below {w w' : World} {base q : Nat} {X : List Int} (h : OutAt w base q X) (hb : Below w.heap.size w w') (hq : q < w.heap.size) : OutAt w' base q X := by
  obtain ⟨⟨oa, oc, h1, h2, h3⟩, h4⟩ := h
  exact ⟨⟨oa, oc, h1.below hb, h2.below hb, h3⟩, h4⟩
/-- What is told of a parameter. -/
def item (p : PV) (k : Nat) : List Int :=
  if idn p k ≠ 0 then pb k (enc (idn p k)) else if k = 0 ∧ p.O ≠ [] then pb 0 p.O else if k = 15 ∧ p.C ≠ [] then pb 15 p.C else if k = 2 ∧ p.has = true then pb 2 p.tok else []
def itemsTo (p : PV) (k : Nat) : List Int := (List.range k).flatMap (item p)
def paramB (p : PV) : List Int := itemsTo p 16
theorem itemsTo_succ (p : PV) (k : Nat) : itemsTo p (k + 1) = itemsTo p k ++ item p k := by
  unfold itemsTo
  rw [List.range_succ, List.flatMap_append]
  simp
theorem idn_fits {p : PV} (h : mayF p = true) (k : Nat) (hk : k < 16) : idn p k ≤ 4611686018427387903 := by
  unfold mayF at h
  rw [Bool.and_eq_true, List.all_eq_true] at h
  have h1 := h.1 k (by simpa using hk)
  unfold okId at h1
  by_cases h0 : idn p k = 0
  · omega
  · simp only [h0, decide_false, Bool.false_or] at h1
    rcases may_cases k (idn p k) with ⟨_, hs⟩ | ⟨_, hs⟩ | ⟨_, _, hs⟩ | ⟨_, _, hs⟩ | ⟨_, _, _, _, hs⟩ <;> rw [hs] at h1 <;> simp at h1 <;> omega
theorem mayF_lens {p : PV} (h : mayF p = true) : p.O.length ≤ 20 ∧ p.C.length ≤ 20 := by
  unfold mayF at h
  simp only [Bool.and_eq_true, decide_eq_true_eq] at h
  exact ⟨h.2.1.1, h.2.1.2⟩
theorem item_len {p : PV} {w : World} (hp : p.ok w) (h : mayF p = true) (k : Nat) : (item p k).length ≤ 40 := by
  obtain ⟨h1, h2⟩ := mayF_lens h
  have a1 := pb_len k (enc (idn p k))
  have a2 := enc_length (idn p k) (idn_range hp k).1
  have a3 := size_le (idn p k)
  have a4 := pb_len 0 p.O
  have a5 := pb_len 15 p.C
  have a6 := pb_len 2 p.tok
  have a7 : p.tok.length = 16 := rfl
  unfold item
  repeat' split
  all_goals (try simp only [List.length_nil]) <;> omega
theorem itemsTo_len {p : PV} {w : World} (hp : p.ok w) (h : mayF p = true) (k : Nat) : (itemsTo p k).length ≤ 40 * k := by
  induction k with
  | zero => simp [itemsTo]
  | succ k ih => rw [itemsTo_succ, List.length_append]; have := item_len hp h k; omega
theorem item_bytes {p : PV} {w : World} (hp : p.ok w) (k : Nat) (hk : k ≤ 63) : ∀ x ∈ item p k, Byte x := by
  unfold item
  repeat' split
  · exact pb_bytes _ _ (by omega) (by omega) (fun x hx => enc_bytes _ (idn_range hp k).1 x hx)
  · exact pb_bytes _ _ (by omega) (by omega) (Var.sl_byte hp.o)
  · exact pb_bytes _ _ (by omega) (by omega) (Var.sl_byte hp.c)
  · exact pb_bytes _ _ (by omega) (by omega) hp.t
  · simp
theorem tok_sl {p : PV} {w : World} (hp : p.ok w) {b : Nat} {T : TypeId} (hb : Blk w b p.vals T) : Sl .u8 w (some ⟨b, 12, none⟩) 16 p.tok := by
  refine ⟨fun i hi => ?_, by simp, by simp [PV.tok], by simp [maxLen]⟩
  have hi' : i < 16 := hi
  refine ⟨b, 12, rfl, hb.lt, hb.cell (12 + i) _ (by have := p.at_tok i hi'; simpa [PV.vals] using this), ?_⟩
  have hm : p.tok.getD i 0 ∈ p.tok := by rw [List.getD_eq_getElem?_getD, List.getElem?_eq_getElem hi]; exact List.getElem_mem hi
  exact wf_byte (hp.t _ hm)

set_option maxHeartbeats 8000000 in
set_option maxRecDepth 100000 in
theorem pappend_any (a : Option Addr) (n cap : Nat) (B : List Int) (p : PV) (w : World) (hn : n = B.length) (hsz : B.length ≤ 1048576) (hB : Sl .u8 w a cap B) (hp : p.ok w) :
    Calls Try.prog 22 #[.slice a n cap, .agg p.vals] w fun e w' => Below w.heap.size w w' ∧
      (mayF p = true → ∃ a' cap', e = .returned (.tuple #[.slice a' (B ++ paramB p).length cap', .int .i64 0]) ∧ OwnS w' w.heap.size 5 1 a' (B ++ paramB p).length cap' ((B ++ paramB p).map (Value.int .u8)))
      ∧ (mayF p = false → e = .returned (.tuple #[.slice none 0 0, .int .i64 2])) := by
  subst hn
  have HB := Lib.hid hB
  have HP := Lib.hid hp
  have HBB := Lib.hid (Var.sl_byte hB)
  clear hB hp
  go_enter Try.func22, Try.ntmps22
  have hb0 := Blk.new w p.vals 46
  have kb : Below w.heap.size w (w.alloc (.cells p.vals 46)) := (Below.refl _ _).alloc (Nat.le_refl _) _
  have zz : (w.alloc (.cells p.vals 46)).heap.size = w.heap.size + 1 := by simp
  go_wp2_with (with_reducible refine stop_ldp ?_)
  refine Stop.out ?_
  refine wpList_loadAll Try.underlying46 params_size rfl rfl rfl hb0 rfl ?_
  have HP1 := Lib.hid (HP.out.below kb)
  have HB0 := Lib.hid hb0
  clear hb0
  generalize w.alloc (.cells p.vals 46) = w1 at *
  go_wp2_with (fail)
  refine (pmay_any p _ HP1.out).mono ?_
  rintro e w2 ⟨rfl, hb2⟩
  have k2 := below_on kb hb2 kb.size
  have z2 := k2.size
  have HP2 := Lib.hid (HP.out.below k2)
  have HBP2 := Lib.hid (HB0.out.below hb2)
  have hz2 := hb2.size
  clear HB0 HP1
  cases hm : mayF p with
  | false =>
    have HM := Lib.hid hm
    clear hm
    go_wp2_with (fail)
    go_returns
    exact ⟨k2, fun h => (by rw [HM.out] at h; cases h), fun _ => rfl⟩
  | true =>
    have HM := Lib.hid hm
    have hitl := Lib.hid (fun k => itemsTo_len HP.out hm k)
    have hlens := mayF_lens hm
    clear hm
    go_wp2_with (at_builtin; refine Stop.mk ?_)
    refine Stop.out ?_
    refine wpList_app bytes_et rfl rfl rfl rfl (OwnS.nil w2 w2.heap.size _ _) (HB.out.below k2).src (by unfold maxLen; omega) (by omega) (Nat.le_refl _) ?_
    intro a3 cap3 w3 ho3 hon3 hat3
    simp only [Nat.zero_add, List.nil_append] at ho3 ⊢
    have hb3 : Below w2.heap.size w2 w3 := below_of_only hon3 (Nat.le_refl _) (by rintro k _ ⟨y, hy, _⟩; cases hy)
    have k3 := below_on k2 hb3 z2
    have z3 := k3.size
    have hz3 := hb3.size
    have HBP3 := Lib.hid (HBP2.out.below hb3)
    have HO3 := Lib.hid (ho3.base_le (base' := w.heap.size) z2)
    clear ho3 hon3 hat3
    go_wp2_with (fail)
    go_loopw [8, 9, 10, 11, 12] (fun i _ _ _ _ wr => ∃ k : Nat, i = .int .u64 k ∧ k ≤ 16 ∧ Hid (OutAt wr w.heap.size w3.heap.size (B ++ itemsTo p k)) ∧ Hid (Blk wr w.heap.size p.vals 46) ∧ Below w.heap.size w wr ∧ w3.heap.size < wr.heap.size) (fun i _ _ _ _ _ => 16 - (intOf i).toNat)
    case atStart =>
      refine ⟨0, rfl, by omega, Lib.hid ⟨⟨a3, cap3, ?_, ?_, fun y hy h => ?_⟩, ?_⟩, Lib.hid ?_, ?_, ?_⟩
      · exact Blk.congr (Blk.new w3 #[.slice a3 B.length cap3] 22) (by simp [itemsTo])
      · have t : OwnS (w3.alloc (.cells #[.slice a3 B.length cap3] 22)) w.heap.size 5 1 a3 B.length cap3 (B.map (Value.int .u8)) := HO3.out.below ((Below.refl _ _).alloc (Nat.le_refl _) _)
        simpa [itemsTo] using t
      · have := (HO3.out.block hy).2.1; omega
      · simpa [itemsTo] using HBB.out
      · exact HBP3.out.alloc _
      · exact k3.alloc z3 _
      · simp
    case round =>
      obtain ⟨k, rfl, hk, hout, hblk, kr, hq⟩ := hrel
      by_cases hlt : k < 16
      · have hsl := slot_cases k
        have hit := Lib.hid (itemsTo_succ p k)
        have hXl := hitl.out k
        have hXl2 : (B ++ itemsTo p k).length ≤ B.length + 640 := by simp; omega
        have hfit := idn_fits HM.out k hlt
        have hnn := (idn_range HP.out k).1
        have zr := kr.size
        by_cases hs : slotF k = 0
        · skip
          have hptr : ptrAt w.heap.size (slotF k) = none := by simp [ptrAt, hs]
          have HPTR := Lib.hid hptr
          have hid0 : idn p k = 0 := by simp [idn, hs]
          clear hptr hsl hs
          by_cases hk0 : k = 0
          · subst hk0
            have hcl := hblk.out.cell 0 (.slice p.oa p.O.length p.oc) rfl
            have hsv := (HP.out.below kr).o
            have hln : p.O.length ≤ 9223372036854775807 := by have := hsv.len; unfold maxLen at this; omega
            by_cases hL : p.O = []
            · have hi := Lib.hid (show item p 0 = [] by unfold item; rw [if_neg (by simpa using hid0)]; simp [hL])
              have hL0 : p.O.length = 0 := by rw [hL]; rfl
              clear hsv hL
              go_wp2_with (fail)
              refine (number_any _ _ _).mono ?_
              rw [show ptrAt w.heap.size (slotF 0) = none from HPTR.out]
              rintro e w5 ⟨rfl, rfl⟩
              go_wp2_with (fail)
              refine (cid_any _ _ _).mono ?_
              rw [if_pos rfl]
              rintro e w5 ⟨rfl, rfl⟩
              go_wp2_with (fail)
              exact ⟨⟨1, by go_num, by omega, Lib.hid (by rw [hit.out, hi.out, List.append_nil]; exact hout.out), hblk, kr, hq⟩, by simp [intOf]⟩
            · have hL0 : 0 < p.O.length := List.length_pos_iff.2 hL
              have hi := Lib.hid (show item p 0 = pb 0 p.O by unfold item; rw [if_neg (by simpa using hid0)]; simp [hL])
              have haq : ∀ y, p.oa = some y → y.block ≠ w3.heap.size := fun y hy h => by have := HP.out.o.ints.lt y hy hL0; omega
              have HSV := Lib.hid hsv
              have HAQ := Lib.hid haq
              clear hsv hL haq
              go_wp2_with (fail)
              refine (number_any _ _ _).mono ?_
              rw [show ptrAt w.heap.size (slotF 0) = none from HPTR.out]
              rintro e w5 ⟨rfl, rfl⟩
              go_wp2_with (fail)
              refine (cid_any _ _ _).mono ?_
              rw [if_pos rfl]
              rintro e w5 ⟨rfl, rfl⟩
              go_wp2_with (fail)
              refine (put_any 0 p.oa _ p.oc p.O (B ++ itemsTo p 0) w.heap.size w3.heap.size wr rfl (by omega) (by omega) (by omega) HSV.out hout.out zr hq HAQ.out).mono ?_
              rintro e w7 ⟨rfl, hout7, on7⟩
              have kr7 : Below w.heap.size w w7 := below_onto kr on7 zr (by intro z hz h; omega)
              have hblk7 := on7.blk hblk.out (by omega)
              have zq7 := on7.size
              have HOUT7 := Lib.hid hout7
              have HBLK7 := Lib.hid hblk7
              clear hout7 hblk7
              go_wp2_with (fail)
              exact ⟨⟨1, by go_num, by omega, Lib.hid (by rw [hit.out, hi.out, ← List.append_assoc]; exact HOUT7.out), HBLK7, kr7, by omega⟩, by simp [intOf]⟩
          · by_cases hk15 : k = 15
            · subst hk15
              have hcl := hblk.out.cell 1 (.slice p.ca p.C.length p.cc) rfl
              have hsv := (HP.out.below kr).c
              have hln : p.C.length ≤ 9223372036854775807 := by have := hsv.len; unfold maxLen at this; omega
              by_cases hL : p.C = []
              · have hi := Lib.hid (show item p 15 = [] by unfold item; rw [if_neg (by simpa using hid0)]; simp [hL])
                have hL0 : p.C.length = 0 := by rw [hL]; rfl
                clear hsv hL
                go_wp2_with (fail)
                refine (number_any _ _ _).mono ?_
                rw [show ptrAt w.heap.size (slotF 15) = none from HPTR.out]
                rintro e w5 ⟨rfl, rfl⟩
                go_wp2_with (fail)
                refine (cid_any _ _ _).mono ?_
                rw [if_neg (by omega), if_pos rfl]
                rintro e w5 ⟨rfl, rfl⟩
                go_wp2_with (fail)
                exact ⟨⟨16, by go_num, by omega, Lib.hid (by rw [hit.out, hi.out, List.append_nil]; exact hout.out), hblk, kr, hq⟩, by simp [intOf]⟩
              · have hL0 : 0 < p.C.length := List.length_pos_iff.2 hL
                have hi := Lib.hid (show item p 15 = pb 15 p.C by unfold item; rw [if_neg (by simpa using hid0)]; simp [hL])
                have haq : ∀ y, p.ca = some y → y.block ≠ w3.heap.size := fun y hy h => by have := HP.out.c.ints.lt y hy hL0; omega
                have HSV := Lib.hid hsv
                have HAQ := Lib.hid haq
                clear hsv hL haq
                go_wp2_with (fail)
                refine (number_any _ _ _).mono ?_
                rw [show ptrAt w.heap.size (slotF 15) = none from HPTR.out]
                rintro e w5 ⟨rfl, rfl⟩
                go_wp2_with (fail)
                refine (cid_any _ _ _).mono ?_
                rw [if_neg (by omega), if_pos rfl]
                rintro e w5 ⟨rfl, rfl⟩
                go_wp2_with (fail)
                refine (put_any 15 p.ca _ p.cc p.C (B ++ itemsTo p 15) w.heap.size w3.heap.size wr rfl (by omega) (by omega) (by omega) HSV.out hout.out zr hq HAQ.out).mono ?_
                rintro e w7 ⟨rfl, hout7, on7⟩
                have kr7 : Below w.heap.size w w7 := below_onto kr on7 zr (by intro z hz h; omega)
                have hblk7 := on7.blk hblk.out (by omega)
                have zq7 := on7.size
                have HOUT7 := Lib.hid hout7
                have HBLK7 := Lib.hid hblk7
                clear hout7 hblk7
                go_wp2_with (fail)
                exact ⟨⟨16, by go_num, by omega, Lib.hid (by rw [hit.out, hi.out, ← List.append_assoc]; exact HOUT7.out), HBLK7, kr7, by omega⟩, by simp [intOf]⟩
            · by_cases hk2 : k = 2
              · subst hk2
                have hch := hblk.out.cell 11 (.bool p.has) rfl
                cases hh : p.has with
                | false =>
                  have hi := Lib.hid (show item p 2 = [] by unfold item; rw [if_neg (by simpa using hid0)]; simp [hh])
                  rw [hh] at hch
                  clear hh
                  go_wp2_with (fail)
                  refine (number_any _ _ _).mono ?_
                  rw [show ptrAt w.heap.size (slotF 2) = none from HPTR.out]
                  rintro e w5 ⟨rfl, rfl⟩
                  go_wp2_with (fail)
                  refine (cid_any _ _ _).mono ?_
                  rw [if_neg (by omega), if_neg (by omega)]
                  rintro e w5 ⟨rfl, rfl⟩
                  go_wp2_with (fail)
                  exact ⟨⟨3, by go_num, by omega, Lib.hid (by rw [hit.out, hi.out, List.append_nil]; exact hout.out), hblk, kr, hq⟩, by simp [intOf]⟩
                | true =>
                  have hi := Lib.hid (show item p 2 = pb 2 p.tok by unfold item; rw [if_neg (by simpa using hid0)]; simp [hh])
                  rw [hh] at hch
                  have hst := Lib.hid (tok_sl (HP.out.below kr) hblk.out)
                  clear hh
                  go_wp2_with (fail)
                  refine (number_any _ _ _).mono ?_
                  rw [show ptrAt w.heap.size (slotF 2) = none from HPTR.out]
                  rintro e w5 ⟨rfl, rfl⟩
                  go_wp2_with (fail)
                  refine (cid_any _ _ _).mono ?_
                  rw [if_neg (by omega), if_neg (by omega)]
                  rintro e w5 ⟨rfl, rfl⟩
                  go_wp2_with (fail)
                  refine (put_any 2 (some ⟨w.heap.size, 12, none⟩) _ 16 p.tok (B ++ itemsTo p 2) w.heap.size w3.heap.size wr rfl (by omega) (by omega) (by have : p.tok.length = 16 := rfl; omega) hst.out hout.out zr hq (by intro y hy h; cases hy; simp at h; omega)).mono ?_
                  rintro e w7 ⟨rfl, hout7, on7⟩
                  have kr7 : Below w.heap.size w w7 := below_onto kr on7 zr (by intro z hz h; omega)
                  have hblk7 := on7.blk hblk.out (by omega)
                  have zq7 := on7.size
                  have HOUT7 := Lib.hid hout7
                  have HBLK7 := Lib.hid hblk7
                  clear hout7 hblk7
                  go_wp2_with (fail)
                  exact ⟨⟨3, by go_num, by omega, Lib.hid (by rw [hit.out, hi.out, ← List.append_assoc]; exact HOUT7.out), HBLK7, kr7, by omega⟩, by simp [intOf]⟩
              · have hne : (k : Int) ≠ 0 ∧ (k : Int) ≠ 15 ∧ (k : Int) ≠ 2 := by omega
                have hi := Lib.hid (show item p k = [] by unfold item; rw [if_neg (by simpa using hid0), if_neg (fun h => hk0 h.1), if_neg (fun h => hk15 h.1), if_neg (fun h => hk2 h.1)])
                go_wp2_with (fail)
                refine (number_any _ _ _).mono ?_
                rw [HPTR.out]
                rintro e w5 ⟨rfl, rfl⟩
                go_wp2_with (fail)
                refine (cid_any _ _ _).mono ?_
                rw [if_neg hne.1, if_neg hne.2.1]
                rintro e w5 ⟨rfl, rfl⟩
                go_wp2_with (fail)
                exact ⟨⟨k + 1, by go_num, by omega, Lib.hid (by rw [hit.out, hi.out, List.append_nil]; exact hout.out), hblk, kr, hq⟩, by simp [intOf]; omega⟩
        · have hne : (k : Int) ≠ 0 ∧ (k : Int) ≠ 15 ∧ (k : Int) ≠ 2 := by omega
          have hn10 : 2 ≤ slotF k ∧ slotF k ≤ 10 := by have := slot_le k; omega
          have hcell := hblk.out.cell (slotF k) (.int .u64 (p.num (slotF k))) (by have := p.at_num (slotF k) (by omega) (by omega); simpa [PV.vals] using this)
          have hid : idn p k = p.num (slotF k) := by simp [idn, hs]
          rw [← hid] at hcell
          have hptr : ptrAt w.heap.size (slotF k) = some ⟨w.heap.size, slotF k, none⟩ := by simp [ptrAt, hs]
          have hv0 : Hid (∀ h : idn p k = 0, item p k = []) := Lib.hid (fun h => by
            have e1 : ¬ (k = 0 ∧ p.O ≠ []) := fun h => by omega
            have e2 : ¬ (k = 15 ∧ p.C ≠ []) := fun h => by omega
            have e3 : ¬ (k = 2 ∧ p.has = true) := fun h => by omega
            unfold item
            rw [if_neg (by simpa using h), if_neg e1, if_neg e2, if_neg e3])
          have hv1 : Hid (∀ h : idn p k ≠ 0, item p k = pb k (enc (idn p k))) := Lib.hid (fun h => by unfold item; rw [if_pos h])
          obtain ⟨sl, hsle⟩ : ∃ sl, sl = slotF k := ⟨_, rfl⟩
          rw [← hsle] at hcell hn10 hptr
          have HPTR : Hid (ptrAt w.heap.size (slotF k) = some ⟨w.heap.size, sl, none⟩) := Lib.hid (by rw [← hsle]; exact hptr)
          clear hid hptr hs hsl hsle
          generalize idn p k = v at *
          go_wp2_with (fail)
          refine (number_any _ k _).mono ?_
          rw [HPTR.out]
          rintro e w5 ⟨rfl, rfl⟩
          by_cases hv : v = 0
          · have hi := Lib.hid (hv0.out hv)
            subst hv
            go_wp2_with (fail)
            refine (cid_any _ k _).mono ?_
            rw [if_neg hne.1, if_neg hne.2.1]
            rintro e w5 ⟨rfl, rfl⟩
            go_wp2_with (fail)
            exact ⟨⟨k + 1, by go_num, by omega, Lib.hid (by rw [hit.out, hi.out, List.append_nil]; exact hout.out), hblk, kr, hq⟩, by simp [intOf]; omega⟩
          · have hi := Lib.hid (hv1.out hv)
            have hel : (enc v).length ≤ 8 := by rw [enc_length v hnn]; exact size_le v
            have hwv : ∀ m ∈ [v], (Lit.int .u64 m).wf = true := by intro m hm; simp at hm; subst hm; exact WalkArith.wf_u64 (by omega)
            have HWV := Lib.hid hwv
            clear hwv
            go_wp2_with (fail)
            refine (append_any none 0 0 [] _ 1 1 [v] _ rfl rfl (by simp) (Sl.nil _ _) (Var.sl_new .u64 wr _ [v] _ rfl HWV.out (by simp [maxLen]))).mono ?_
            rintro e w6 ⟨hb6, h6, _⟩
            obtain ⟨a6, cap6, rfl, ho6⟩ := h6 (by simp [Fits]; omega)
            have hev : [] ++ encs [v] = enc v := by simp [encs]
            rw [hev] at ho6 ⊢
            have hs6 := (ho6.sl (L := enc v) (fun x hx => wf_byte (enc_bytes v hnn x hx))).2
            have hal : Below wr.heap.size wr w6 := below_on ((Below.refl _ _).alloc (Nat.le_refl _) _) hb6 (by simp)
            have kr6 := below_on kr hal kr.size
            have hout6 := hout.out.below hal (by omega)
            have hblk6 := hblk.out.below hal
            have zq6 := hal.size
            have hbk6 : ∀ y, a6 = some y → y.block ≠ w3.heap.size := fun y hy h => by have := (ho6.block hy).1; simp at this; omega
            have HS6 := Lib.hid hs6
            have HO6 := Lib.hid hout6
            have HK6 := Lib.hid hbk6
            clear ho6 hs6 hout6 hbk6 h6 hb6 hev hcell
            go_wp2_with (fail)
            refine (put_any k a6 _ cap6 (enc v) (B ++ itemsTo p k) w.heap.size w3.heap.size w6 rfl (by omega) (by omega) (by omega) HS6.out HO6.out kr6.size (by omega) HK6.out).mono ?_
            rintro e w7 ⟨rfl, hout7, on7⟩
            have kr7 : Below w.heap.size w w7 := below_onto kr6 on7 kr6.size (by intro z hz h; omega)
            have hblk7 := on7.blk hblk6 (by omega)
            have zq7 := on7.size
            have HOUT7 := Lib.hid hout7
            have HBLK7 := Lib.hid hblk7
            clear hout7 hblk7
            go_wp2_with (fail)
            refine (cid_any _ k _).mono ?_
            rw [if_neg hne.1, if_neg hne.2.1]
            rintro e w5 ⟨rfl, rfl⟩
            go_wp2_with (fail)
            exact ⟨⟨k + 1, by go_num, by omega, Lib.hid (by rw [hit.out, hi.out, ← List.append_assoc]; exact HOUT7.out), HBLK7, kr7, by omega⟩, by simp [intOf]; omega⟩
      · have hek := Lib.hid (show k = 16 by omega)
        obtain ⟨⟨oa, oc, hbq, ho, hoq⟩, hXb⟩ := hout.out
        have hcq := hbq.cell 0 (.slice oa (B ++ itemsTo p k).length oc) rfl
        have hfq := hbq.free 0
        have HO := Lib.hid ho
        clear hbq ho hoq hXb
        go_wp2_with (fail)
        go_returns
        refine ⟨kr, fun _ => ?_, fun h => (by rw [HM.out] at h; cases h)⟩
        have ho := HO.out
        rw [hek.out] at ho
        exact ⟨oa, oc, by rw [hek.out, List.length_append]; rfl, ho⟩

end Par
end Go.Proofs.Ytjeolfnmheofeaa
