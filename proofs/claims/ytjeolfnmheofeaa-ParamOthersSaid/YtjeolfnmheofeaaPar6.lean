/- Layer 4: the document's bytes. -/
import Derived.Test.YtjeolfnmheofeaaPar5
namespace Go.Proofs.Ytjeolfnmheofeaa
open Go.RowKit
set_option linter.unusedVariables false
namespace Par
open Var (Byte enc encs enc_length enc_bytes size_le wf_byte bytes_et Fits append_any rshort_any)

/-- 'out' of the document's Bytes: a slice of the call's own. -/
structure Got (w : World) (base : Nat) (a : Option Addr) (n cap : Nat) (X : List Int) : Prop where
  own : OwnS w base 5 1 a n cap (X.map (Value.int .u8))
  len : n = X.length
theorem Got.below {w w' : World} {base : Nat} {a : Option Addr} {n cap : Nat} {X : List Int} (h : Got w base a n cap X) (hb : Below w.heap.size w w') : Got w' base a n cap X := ⟨h.own.below hb, h.len⟩

set_option maxHeartbeats 8000000 in
set_option maxRecDepth 100000 in
theorem rparam_any (p : PV) (w : World) (hp : p.ok w) (hm : mayF p = true) :
    Calls Try.prog 25 #[.agg p.vals] w fun e w' => Below w.heap.size w w' ∧ ∃ a' cap', e = .returned (.slice a' (paramB p).length cap') ∧ OwnS w' w.heap.size 5 1 a' (paramB p).length cap' ((paramB p).map (Value.int .u8)) := by
  have HP := Lib.hid hp
  have HM := Lib.hid hm
  have hitl := Lib.hid (fun k => itemsTo_len hp hm k)
  have hlens := mayF_lens hm
  clear hp hm
  go_enter Try.func25, Try.ntmps25
  have hb0 := Blk.new w p.vals 46
  have kb : Below w.heap.size w (w.alloc (.cells p.vals 46)) := (Below.refl _ _).alloc (Nat.le_refl _) _
  have zz : (w.alloc (.cells p.vals 46)).heap.size = w.heap.size + 1 := by simp
  go_wp2_with (with_reducible refine stop_ldp ?_)
  refine Stop.out ?_
  refine wpList_loadAll Try.underlying46 params_size rfl rfl rfl hb0 rfl ?_
  have HP1 := Lib.hid (HP.out.below kb)
  have HB0 := Lib.hid hb0
  clear hb0
  generalize w.alloc (.cells p.vals 46) = w1 at *
  go_wp2_with (fail)
  refine (numbers_any p _ HP1.out).mono ?_
  rintro e w2 ⟨g, rfl, hS, kb2⟩
  have HB2 := Lib.hid (HB0.out.below kb2)
  have k2 := below_on kb kb2 kb.size
  have z2 := k2.size
  have hz2 := kb2.size
  have HS := Lib.hid hS
  clear hS HB0 kb2 HP1
  have hc0 := HB2.out.cell 0 (.slice p.oa p.O.length p.oc) rfl
  have hso := (HP.out.below k2).o
  have hit1 := Lib.hid (show itemsTo p 1 = item p 0 by rw [itemsTo_succ]; simp [itemsTo])
  by_cases hO : p.O = []
  · have hO0 : p.O.length = 0 := by rw [hO]; rfl
    have hi := Lib.hid (show item p 0 = [] by unfold item; rw [if_neg (by simp [idn, slotF])]; simp [hO])
    clear hO hso
    go_wp2_with (fail)
    go_loopw [3, 5, 6, 7] (fun o i _ _ wr => ∃ (k : Nat) (a' : Option Addr) (n' cap' : Nat), i = .int .i64 k ∧ 1 ≤ k ∧ k ≤ 15 ∧ o = .slice a' n' cap' ∧ Hid (Got wr w2.heap.size a' n' cap' (itemsTo p k)) ∧ Below w2.heap.size w2 wr) (fun _ i _ _ _ => 15 - (intOf i).toNat)
    case atStart => exact ⟨1, none, 0, 0, rfl, by omega, by omega, rfl, Lib.hid (by rw [hit1.out, hi.out]; exact ⟨OwnS.nil _ _ _ _, rfl⟩), Below.refl _ _⟩
    case round =>
      obtain ⟨k, a', n', cap', rfl, hk1, hk, rfl, hgot, kr⟩ := hrel
      have hgl := Lib.hid hgot.out.len
      have hXl := hitl.out k
      have hnb : n' ≤ 600 := by rw [hgl.out]; omega
      have zr := kr.size
      have HBr := Lib.hid (HB2.out.below kr)
      by_cases hlt : k < 15
      · obtain ⟨b1, off, h0, hb1, hcell, hwf⟩ := (HS.out.below kr).ints k (by simp [numsL]; omega)
        cases h0
        rw [numsL_at p k (by omega), Nat.zero_add] at hcell
        have hnn := idn_range HP.out k
        have hit := Lib.hid (itemsTo_succ p k)
        have hv1 : Hid (∀ h : idn p k ≠ 0, item p k = pb k (enc (idn p k))) := Lib.hid (fun h => by unfold item; rw [if_pos h])
        have hv0 : Hid (idn p k = 0 → ¬ (k = 2 ∧ p.has = true) → item p k = []) := Lib.hid (fun h h2 => by
          unfold item
          rw [if_neg (by simpa using h), if_neg (fun h => by omega), if_neg (fun h => by omega), if_neg h2])
        have hi2 : k = 2 → idn p k = 0 := fun h => by subst h; rfl
        have hch := HBr.out.cell 11 (.bool p.has) rfl
        have hi2 := Lib.hid hi2
        clear hwf
        by_cases hv : idn p k = 0
        · by_cases hk2 : k = 2 ∧ p.has = true
          · obtain ⟨rfl, hh⟩ := hk2
            have hi := Lib.hid (show item p 2 = pb 2 p.tok by unfold item; rw [if_neg (by simpa using hv)]; simp [hh])
            rw [hv] at hcell
            rw [hh] at hch
            clear hh hv
            generalize wr = w0 at *
            go_wp2_with (fail)
            go_loopw [6, 7] (fun t i w' => ∃ (j : Nat) (a5 : Option Addr) (n5 cap5 : Nat), i = .int .i64 j ∧ j ≤ 16 ∧ t = .slice a5 n5 cap5 ∧ Hid (Got w' w0.heap.size a5 n5 cap5 (p.tok.take j)) ∧ Below w0.heap.size w0 w') (fun _ i _ => 16 - (intOf i).toNat)
            case atStart => exact ⟨0, none, 0, 0, rfl, by omega, rfl, Lib.hid ⟨OwnS.nil _ _ _ _, rfl⟩, Below.refl _ _⟩
            case round =>
              obtain ⟨j, a5, n5, cap5, rfl, hj, rfl, hg5, k5⟩ := hrel
              have htl : p.tok.length = 16 := rfl
              have z5 := k5.size
              have hn5 : n5 ≤ 16 := by rw [hg5.out.len, List.length_take]; omega
              by_cases hjl : j < 16
              · have hct := (HBr.out.below k5).cell (12 + j) (.int .u8 (p.tok.getD j 0)) (by have := p.at_tok j hjl; simpa [PV.vals] using this)
                have hst : Hid (p.tok.take (j + 1) = p.tok.take j ++ [p.tok.getD j 0]) := Lib.hid (by
                  rw [List.take_succ_eq_append_getElem (by omega)]
                  simp [List.getD_eq_getElem?_getD, hjl, htl])
                generalize p.tok.getD j 0 = x at *
                go_wp2_with (at_builtin; refine Stop.mk ?_)
                refine Stop.out ?_
                refine wpList_app bytes_et rfl rfl rfl rfl (hg5.out.own.below ((Below.refl _ _).alloc (Nat.le_refl _) _)) (SrcAt.one _ _ _ rfl) (by unfold maxLen; omega) (by omega) (by simp; omega) ?_
                intro a6 cap6 w6 ho6 hon6 hat6
                have k6 : Below w0.heap.size w0 w6 := below_onto (k5.alloc z5 _) hon6 (by simp; omega) (by rintro z hz ⟨y, hy, rfl⟩; have := (hg5.out.own.block hy).1; omega)
                have hg6 : Hid (Got w6 w0.heap.size a6 (n5 + 1) cap6 (p.tok.take (j + 1))) := Lib.hid ⟨by rw [hst.out, List.map_append]; exact ho6, by rw [hst.out, List.length_append, hg5.out.len]; rfl⟩
                clear ho6 hon6 hat6 hct
                go_wp2_with (fail)
                exact ⟨⟨j + 1, a6, n5 + 1, cap6, by go_num, by omega, rfl, hg6, k6⟩, by simp [intOf]; omega⟩
              · have hj16 : j = 16 := by omega
                have hg6 := hg5.out
                rw [hj16, List.take_of_length_le (by omega)] at hg6
                have hs6 := Lib.hid (hg6.own.sl (L := p.tok) (fun x hx => wf_byte (HP.out.t x hx))).2
                have hn6 := Lib.hid (show n5 = p.tok.length from hg6.len)
                have hgot5 := Lib.hid (hgot.out.below k5)
                have kr5 := below_on kr k5 zr
                clear hg6 hg5 hgot
                go_wp2_with (fail)
                refine (one_any 2 a5 n5 cap5 p.tok _ hn6.out (by omega) (by omega) (by omega) hs6.out).mono ?_
                rintro e w7 ⟨a7, cap7, rfl, ho7, hb7⟩
                have hs7 := Lib.hid (ho7.sl (L := pb 2 p.tok) (fun x hx => wf_byte (pb_bytes 2 p.tok (by omega) (by omega) HP.out.t x hx))).2
                have hgot7 := Lib.hid (hgot5.out.below hb7)
                have kr7 := below_on kr5 hb7 kr5.size
                have hpl := pb_len 2 p.tok
                clear ho7
                go_wp2_with (at_builtin; refine Stop.mk ?_)
                refine Stop.out ?_
                refine wpList_app bytes_et rfl rfl rfl rfl hgot7.out.own hs7.out.src (by unfold maxLen; omega) (by omega) kr7.size ?_
                intro a9 cap9 w9 ho9 hon9 hat9
                have k9 : Below w2.heap.size w2 w9 := below_onto kr7 hon9 kr7.size (by rintro z hz ⟨y, hy, rfl⟩; have := (hgot7.out.own.block hy).1; omega)
                have hg9 : Hid (Got w9 w2.heap.size a9 (n' + (pb 2 p.tok).length) cap9 (itemsTo p (3))) := Lib.hid ⟨by rw [hit.out, hi.out, List.map_append]; exact ho9, by rw [hit.out, hi.out, List.length_append, hgl.out]⟩
                clear ho9 hon9 hat9
                go_wp2_with (fail)
                exact ⟨⟨3, a9, _, cap9, by go_num, by omega, by omega, rfl, hg9, k9⟩, by simp [intOf]⟩
          · have hi := Lib.hid (hv0.out hv hk2)
            rw [hv] at hcell
            by_cases h2 : k = 2
            · have hh : p.has = false := by
                cases h : p.has with
                | false => rfl
                | true => exact absurd ⟨h2, h⟩ hk2
              subst h2
              rw [hh] at hch
              clear hh hk2 hv
              go_wp2_with (fail)
              exact ⟨⟨3, a', n', cap', by go_num, by omega, by omega, rfl, Lib.hid (by rw [hit.out, hi.out, List.append_nil]; exact hgot.out), kr⟩, by simp [intOf]⟩
            · clear hk2 hv
              go_wp2_with (fail)
              exact ⟨⟨k + 1, a', n', cap', by go_num, by omega, by omega, rfl, Lib.hid (by rw [hit.out, hi.out, List.append_nil]; exact hgot.out), kr⟩, by simp [intOf]; omega⟩
        · have hi := Lib.hid (hv1.out hv)
          have hk2 : k ≠ 2 := fun h => hv (hi2.out h)
          have hfit := idn_fits HM.out k (by omega)
          have hel : (enc (idn p k)).length ≤ 8 := by rw [enc_length _ hnn.1]; exact size_le _
          clear hv1 hv0
          generalize idn p k = v at *
          go_wp2_with (fail)
          refine (rshort_any v _ hnn.1 hnn.2).mono ?_
          rintro e w5 ⟨a5, cap5, rfl, ho5, hb5⟩
          have hs5 := Lib.hid (ho5.sl (L := enc v) (fun x hx => wf_byte (enc_bytes v hnn.1 x hx))).2
          have hgot5 := Lib.hid (hgot.out.below hb5)
          have kr5 := below_on kr hb5 zr
          clear ho5 hcell
          go_wp2_with (fail)
          refine (one_any k a5 _ cap5 (enc v) _ rfl (by omega) (by omega) (by omega) hs5.out).mono ?_
          rintro e w7 ⟨a7, cap7, rfl, ho7, hb7⟩
          have hs7 := Lib.hid (ho7.sl (L := pb k (enc v)) (fun x hx => wf_byte (pb_bytes k (enc v) (by omega) (by omega) (fun y hy => enc_bytes v hnn.1 y hy) x hx))).2
          have hgot7 := Lib.hid (hgot5.out.below hb7)
          have kr7 := below_on kr5 hb7 kr5.size
          have hpl := pb_len k (enc v)
          clear ho7
          go_wp2_with (at_builtin; refine Stop.mk ?_)
          refine Stop.out ?_
          refine wpList_app bytes_et rfl rfl rfl rfl hgot7.out.own hs7.out.src (by unfold maxLen; omega) (by omega) kr7.size ?_
          intro a9 cap9 w9 ho9 hon9 hat9
          have k9 : Below w2.heap.size w2 w9 := below_onto kr7 hon9 kr7.size (by rintro z hz ⟨y, hy, rfl⟩; have := (hgot7.out.own.block hy).1; omega)
          have hg9 : Hid (Got w9 w2.heap.size a9 (n' + (pb k (enc v)).length) cap9 (itemsTo p (k + 1))) := Lib.hid ⟨by rw [hit.out, hi.out, List.map_append]; exact ho9, by rw [hit.out, hi.out, List.length_append, hgl.out]⟩
          clear ho9 hon9 hat9
          go_wp2_with (fail)
          exact ⟨⟨k + 1, a9, _, cap9, by go_num, by omega, by omega, rfl, hg9, k9⟩, by simp [intOf]; omega⟩
      · have hek : k = 15 := by omega
        subst hek
        have hc1 := HBr.out.cell 1 (.slice p.ca p.C.length p.cc) rfl
        have hsc := (HP.out.below (below_on k2 kr z2)).c
        have hw := below_on k2 kr z2
        have hit := Lib.hid (show paramB p = itemsTo p 15 ++ item p 15 from itemsTo_succ p 15)
        by_cases hC : p.C = []
        · have hC0 : p.C.length = 0 := by rw [hC]; rfl
          have hi := Lib.hid (show item p 15 = [] by unfold item; rw [if_neg (by simp [idn, slotF])]; simp [hC])
          clear hC hsc
          go_wp2_with (fail)
          go_returns
          refine ⟨hw, a', cap', ?_, ?_⟩
          · rw [hit.out, hi.out, List.append_nil, ← hgl.out]; rfl
          · rw [hit.out, hi.out, List.append_nil, ← hgl.out]; exact hgot.out.own.base_le z2
        · have hC0 : 0 < p.C.length := List.length_pos_iff.2 hC
          have hi := Lib.hid (show item p 15 = pb 15 p.C by unfold item; rw [if_neg (by simp [idn, slotF])]; simp [hC])
          have hcm := hsc.len
          unfold maxLen at hcm
          have HSC := Lib.hid hsc
          clear hC hsc
          go_wp2_with (fail)
          refine (one_any 15 p.ca _ p.cc p.C _ rfl (by omega) (by omega) (by omega) HSC.out).mono ?_
          rintro e w7 ⟨a7, cap7, rfl, ho7, hb7⟩
          have hs7 := Lib.hid (ho7.sl (L := pb 15 p.C) (fun x hx => wf_byte (pb_bytes 15 p.C (by omega) (by omega) (Var.sl_byte HP.out.c) x hx))).2
          have hgot7 := Lib.hid (hgot.out.below hb7)
          have kr7 := below_on kr hb7 zr
          have hpl := pb_len 15 p.C
          clear ho7
          go_wp2_with (at_builtin; refine Stop.mk ?_)
          refine Stop.out ?_
          refine wpList_app bytes_et rfl rfl rfl rfl hgot7.out.own hs7.out.src (by unfold maxLen; omega) (by omega) kr7.size ?_
          intro a9 cap9 w9 ho9 hon9 hat9
          have k9 : Below w2.heap.size w2 w9 := below_onto kr7 hon9 kr7.size (by rintro z hz ⟨y, hy, rfl⟩; have := (hgot7.out.own.block hy).1; omega)
          have HO9 := Lib.hid ho9
          clear ho9 hon9 hat9
          go_wp2_with (fail)
          go_returns
          have hle : n' + (pb 15 p.C).length = (paramB p).length := by rw [hit.out, hi.out, List.length_append, hgl.out]
          refine ⟨below_on k2 k9 z2, a9, cap9, by rw [← hle]; rfl, ?_⟩
          have ho9 := HO9.out
          rw [hle, ← List.map_append, ← hi.out, ← hit.out] at ho9
          exact ho9.base_le z2
  · have hO0 : 0 < p.O.length := List.length_pos_iff.2 hO
    have hi := Lib.hid (show item p 0 = pb 0 p.O by unfold item; rw [if_neg (by simp [idn, slotF])]; simp [hO])
    have hom := hso.len
    unfold maxLen at hom
    have HSO := Lib.hid hso
    clear hO hso
    go_wp2_with (fail)
    refine (one_any 0 p.oa _ p.oc p.O _ rfl (by omega) (by omega) (by omega) HSO.out).mono ?_
    rintro e w7 ⟨a7, cap7, rfl, ho7, hb7⟩
    have hs7 := Lib.hid (ho7.sl (L := pb 0 p.O) (fun x hx => wf_byte (pb_bytes 0 p.O (by omega) (by omega) (Var.sl_byte HP.out.o) x hx))).2
    have hpl := pb_len 0 p.O
    have hz7 := hb7.size
    clear ho7
    go_wp2_with (at_builtin; refine Stop.mk ?_)
    refine Stop.out ?_
    refine wpList_app bytes_et rfl rfl rfl rfl (OwnS.nil w7 w2.heap.size _ _) hs7.out.src (by unfold maxLen; omega) (by omega) hz7 ?_
    intro a9 cap9 w9 ho9 hon9 hat9
    simp only [Nat.zero_add, List.nil_append] at ho9 ⊢
    have k9 : Below w2.heap.size w2 w9 := below_onto hb7 hon9 hz7 (by rintro z hz ⟨y, hy, _⟩; cases hy)
    have hg9 : Hid (Got w9 w2.heap.size a9 (pb 0 p.O).length cap9 (itemsTo p 1)) := Lib.hid (by rw [hit1.out, hi.out]; exact ⟨ho9, rfl⟩)
    clear ho9 hon9 hat9
    go_wp2_with (fail)
    go_loopw [3, 5, 6, 7] (fun o i _ _ wr => ∃ (k : Nat) (a' : Option Addr) (n' cap' : Nat), i = .int .i64 k ∧ 1 ≤ k ∧ k ≤ 15 ∧ o = .slice a' n' cap' ∧ Hid (Got wr w2.heap.size a' n' cap' (itemsTo p k)) ∧ Below w2.heap.size w2 wr) (fun _ i _ _ _ => 15 - (intOf i).toNat)
    case atStart => exact ⟨1, a9, _, cap9, rfl, by omega, by omega, rfl, hg9, k9⟩
    case round =>
      obtain ⟨k, a', n', cap', rfl, hk1, hk, rfl, hgot, kr⟩ := hrel
      have hgl := Lib.hid hgot.out.len
      have hXl := hitl.out k
      have hnb : n' ≤ 600 := by rw [hgl.out]; omega
      have zr := kr.size
      have HBr := Lib.hid (HB2.out.below kr)
      by_cases hlt : k < 15
      · obtain ⟨b1, off, h0, hb1, hcell, hwf⟩ := (HS.out.below kr).ints k (by simp [numsL]; omega)
        cases h0
        rw [numsL_at p k (by omega), Nat.zero_add] at hcell
        have hnn := idn_range HP.out k
        have hit := Lib.hid (itemsTo_succ p k)
        have hv1 : Hid (∀ h : idn p k ≠ 0, item p k = pb k (enc (idn p k))) := Lib.hid (fun h => by unfold item; rw [if_pos h])
        have hv0 : Hid (idn p k = 0 → ¬ (k = 2 ∧ p.has = true) → item p k = []) := Lib.hid (fun h h2 => by
          unfold item
          rw [if_neg (by simpa using h), if_neg (fun h => by omega), if_neg (fun h => by omega), if_neg h2])
        have hi2 : k = 2 → idn p k = 0 := fun h => by subst h; rfl
        have hch := HBr.out.cell 11 (.bool p.has) rfl
        have hi2 := Lib.hid hi2
        clear hwf
        by_cases hv : idn p k = 0
        · by_cases hk2 : k = 2 ∧ p.has = true
          · obtain ⟨rfl, hh⟩ := hk2
            have hi := Lib.hid (show item p 2 = pb 2 p.tok by unfold item; rw [if_neg (by simpa using hv)]; simp [hh])
            rw [hv] at hcell
            rw [hh] at hch
            clear hh hv
            generalize wr = w0 at *
            go_wp2_with (fail)
            go_loopw [6, 7] (fun t i w' => ∃ (j : Nat) (a5 : Option Addr) (n5 cap5 : Nat), i = .int .i64 j ∧ j ≤ 16 ∧ t = .slice a5 n5 cap5 ∧ Hid (Got w' w0.heap.size a5 n5 cap5 (p.tok.take j)) ∧ Below w0.heap.size w0 w') (fun _ i _ => 16 - (intOf i).toNat)
            case atStart => exact ⟨0, none, 0, 0, rfl, by omega, rfl, Lib.hid ⟨OwnS.nil _ _ _ _, rfl⟩, Below.refl _ _⟩
            case round =>
              obtain ⟨j, a5, n5, cap5, rfl, hj, rfl, hg5, k5⟩ := hrel
              have htl : p.tok.length = 16 := rfl
              have z5 := k5.size
              have hn5 : n5 ≤ 16 := by rw [hg5.out.len, List.length_take]; omega
              by_cases hjl : j < 16
              · have hct := (HBr.out.below k5).cell (12 + j) (.int .u8 (p.tok.getD j 0)) (by have := p.at_tok j hjl; simpa [PV.vals] using this)
                have hst : Hid (p.tok.take (j + 1) = p.tok.take j ++ [p.tok.getD j 0]) := Lib.hid (by
                  rw [List.take_succ_eq_append_getElem (by omega)]
                  simp [List.getD_eq_getElem?_getD, hjl, htl])
                generalize p.tok.getD j 0 = x at *
                go_wp2_with (at_builtin; refine Stop.mk ?_)
                refine Stop.out ?_
                refine wpList_app bytes_et rfl rfl rfl rfl (hg5.out.own.below ((Below.refl _ _).alloc (Nat.le_refl _) _)) (SrcAt.one _ _ _ rfl) (by unfold maxLen; omega) (by omega) (by simp; omega) ?_
                intro a6 cap6 w6 ho6 hon6 hat6
                have k6 : Below w0.heap.size w0 w6 := below_onto (k5.alloc z5 _) hon6 (by simp; omega) (by rintro z hz ⟨y, hy, rfl⟩; have := (hg5.out.own.block hy).1; omega)
                have hg6 : Hid (Got w6 w0.heap.size a6 (n5 + 1) cap6 (p.tok.take (j + 1))) := Lib.hid ⟨by rw [hst.out, List.map_append]; exact ho6, by rw [hst.out, List.length_append, hg5.out.len]; rfl⟩
                clear ho6 hon6 hat6 hct
                go_wp2_with (fail)
                exact ⟨⟨j + 1, a6, n5 + 1, cap6, by go_num, by omega, rfl, hg6, k6⟩, by simp [intOf]; omega⟩
              · have hj16 : j = 16 := by omega
                have hg6 := hg5.out
                rw [hj16, List.take_of_length_le (by omega)] at hg6
                have hs6 := Lib.hid (hg6.own.sl (L := p.tok) (fun x hx => wf_byte (HP.out.t x hx))).2
                have hn6 := Lib.hid (show n5 = p.tok.length from hg6.len)
                have hgot5 := Lib.hid (hgot.out.below k5)
                have kr5 := below_on kr k5 zr
                clear hg6 hg5 hgot
                go_wp2_with (fail)
                refine (one_any 2 a5 n5 cap5 p.tok _ hn6.out (by omega) (by omega) (by omega) hs6.out).mono ?_
                rintro e w7 ⟨a7, cap7, rfl, ho7, hb7⟩
                have hs7 := Lib.hid (ho7.sl (L := pb 2 p.tok) (fun x hx => wf_byte (pb_bytes 2 p.tok (by omega) (by omega) HP.out.t x hx))).2
                have hgot7 := Lib.hid (hgot5.out.below hb7)
                have kr7 := below_on kr5 hb7 kr5.size
                have hpl := pb_len 2 p.tok
                clear ho7
                go_wp2_with (at_builtin; refine Stop.mk ?_)
                refine Stop.out ?_
                refine wpList_app bytes_et rfl rfl rfl rfl hgot7.out.own hs7.out.src (by unfold maxLen; omega) (by omega) kr7.size ?_
                intro a9 cap9 w9 ho9 hon9 hat9
                have k9 : Below w2.heap.size w2 w9 := below_onto kr7 hon9 kr7.size (by rintro z hz ⟨y, hy, rfl⟩; have := (hgot7.out.own.block hy).1; omega)
                have hg9 : Hid (Got w9 w2.heap.size a9 (n' + (pb 2 p.tok).length) cap9 (itemsTo p (3))) := Lib.hid ⟨by rw [hit.out, hi.out, List.map_append]; exact ho9, by rw [hit.out, hi.out, List.length_append, hgl.out]⟩
                clear ho9 hon9 hat9
                go_wp2_with (fail)
                exact ⟨⟨3, a9, _, cap9, by go_num, by omega, by omega, rfl, hg9, k9⟩, by simp [intOf]⟩
          · have hi := Lib.hid (hv0.out hv hk2)
            rw [hv] at hcell
            by_cases h2 : k = 2
            · have hh : p.has = false := by
                cases h : p.has with
                | false => rfl
                | true => exact absurd ⟨h2, h⟩ hk2
              subst h2
              rw [hh] at hch
              clear hh hk2 hv
              go_wp2_with (fail)
              exact ⟨⟨3, a', n', cap', by go_num, by omega, by omega, rfl, Lib.hid (by rw [hit.out, hi.out, List.append_nil]; exact hgot.out), kr⟩, by simp [intOf]⟩
            · clear hk2 hv
              go_wp2_with (fail)
              exact ⟨⟨k + 1, a', n', cap', by go_num, by omega, by omega, rfl, Lib.hid (by rw [hit.out, hi.out, List.append_nil]; exact hgot.out), kr⟩, by simp [intOf]; omega⟩
        · have hi := Lib.hid (hv1.out hv)
          have hk2 : k ≠ 2 := fun h => hv (hi2.out h)
          have hfit := idn_fits HM.out k (by omega)
          have hel : (enc (idn p k)).length ≤ 8 := by rw [enc_length _ hnn.1]; exact size_le _
          clear hv1 hv0
          generalize idn p k = v at *
          go_wp2_with (fail)
          refine (rshort_any v _ hnn.1 hnn.2).mono ?_
          rintro e w5 ⟨a5, cap5, rfl, ho5, hb5⟩
          have hs5 := Lib.hid (ho5.sl (L := enc v) (fun x hx => wf_byte (enc_bytes v hnn.1 x hx))).2
          have hgot5 := Lib.hid (hgot.out.below hb5)
          have kr5 := below_on kr hb5 zr
          clear ho5 hcell
          go_wp2_with (fail)
          refine (one_any k a5 _ cap5 (enc v) _ rfl (by omega) (by omega) (by omega) hs5.out).mono ?_
          rintro e w7 ⟨a7, cap7, rfl, ho7, hb7⟩
          have hs7 := Lib.hid (ho7.sl (L := pb k (enc v)) (fun x hx => wf_byte (pb_bytes k (enc v) (by omega) (by omega) (fun y hy => enc_bytes v hnn.1 y hy) x hx))).2
          have hgot7 := Lib.hid (hgot5.out.below hb7)
          have kr7 := below_on kr5 hb7 kr5.size
          have hpl := pb_len k (enc v)
          clear ho7
          go_wp2_with (at_builtin; refine Stop.mk ?_)
          refine Stop.out ?_
          refine wpList_app bytes_et rfl rfl rfl rfl hgot7.out.own hs7.out.src (by unfold maxLen; omega) (by omega) kr7.size ?_
          intro a9 cap9 w9 ho9 hon9 hat9
          have k9 : Below w2.heap.size w2 w9 := below_onto kr7 hon9 kr7.size (by rintro z hz ⟨y, hy, rfl⟩; have := (hgot7.out.own.block hy).1; omega)
          have hg9 : Hid (Got w9 w2.heap.size a9 (n' + (pb k (enc v)).length) cap9 (itemsTo p (k + 1))) := Lib.hid ⟨by rw [hit.out, hi.out, List.map_append]; exact ho9, by rw [hit.out, hi.out, List.length_append, hgl.out]⟩
          clear ho9 hon9 hat9
          go_wp2_with (fail)
          exact ⟨⟨k + 1, a9, _, cap9, by go_num, by omega, by omega, rfl, hg9, k9⟩, by simp [intOf]; omega⟩
      · have hek : k = 15 := by omega
        subst hek
        have hc1 := HBr.out.cell 1 (.slice p.ca p.C.length p.cc) rfl
        have hsc := (HP.out.below (below_on k2 kr z2)).c
        have hw := below_on k2 kr z2
        have hit := Lib.hid (show paramB p = itemsTo p 15 ++ item p 15 from itemsTo_succ p 15)
        by_cases hC : p.C = []
        · have hC0 : p.C.length = 0 := by rw [hC]; rfl
          have hi := Lib.hid (show item p 15 = [] by unfold item; rw [if_neg (by simp [idn, slotF])]; simp [hC])
          clear hC hsc
          go_wp2_with (fail)
          go_returns
          refine ⟨hw, a', cap', ?_, ?_⟩
          · rw [hit.out, hi.out, List.append_nil, ← hgl.out]; rfl
          · rw [hit.out, hi.out, List.append_nil, ← hgl.out]; exact hgot.out.own.base_le z2
        · have hC0 : 0 < p.C.length := List.length_pos_iff.2 hC
          have hi := Lib.hid (show item p 15 = pb 15 p.C by unfold item; rw [if_neg (by simp [idn, slotF])]; simp [hC])
          have hcm := hsc.len
          unfold maxLen at hcm
          have HSC := Lib.hid hsc
          clear hC hsc
          go_wp2_with (fail)
          refine (one_any 15 p.ca _ p.cc p.C _ rfl (by omega) (by omega) (by omega) HSC.out).mono ?_
          rintro e w7 ⟨a7, cap7, rfl, ho7, hb7⟩
          have hs7 := Lib.hid (ho7.sl (L := pb 15 p.C) (fun x hx => wf_byte (pb_bytes 15 p.C (by omega) (by omega) (Var.sl_byte HP.out.c) x hx))).2
          have hgot7 := Lib.hid (hgot.out.below hb7)
          have kr7 := below_on kr hb7 zr
          have hpl := pb_len 15 p.C
          clear ho7
          go_wp2_with (at_builtin; refine Stop.mk ?_)
          refine Stop.out ?_
          refine wpList_app bytes_et rfl rfl rfl rfl hgot7.out.own hs7.out.src (by unfold maxLen; omega) (by omega) kr7.size ?_
          intro a9 cap9 w9 ho9 hon9 hat9
          have k9 : Below w2.heap.size w2 w9 := below_onto kr7 hon9 kr7.size (by rintro z hz ⟨y, hy, rfl⟩; have := (hgot7.out.own.block hy).1; omega)
          have HO9 := Lib.hid ho9
          clear ho9 hon9 hat9
          go_wp2_with (fail)
          go_returns
          have hle : n' + (pb 15 p.C).length = (paramB p).length := by rw [hit.out, hi.out, List.length_append, hgl.out]
          refine ⟨below_on k2 k9 z2, a9, cap9, by rw [← hle]; rfl, ?_⟩
          have ho9 := HO9.out
          rw [hle, ← List.map_append, ← hi.out, ← hit.out] at ho9
          exact ho9.base_le z2

end Par
end Go.Proofs.Ytjeolfnmheofeaa
