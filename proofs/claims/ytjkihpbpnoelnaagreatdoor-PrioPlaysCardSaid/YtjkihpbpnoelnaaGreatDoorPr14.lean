/- Parse, at texts whose parts are known. -/
import Derived.Test.YtjkihpbpnoelnaaGreatDoorPr12
import Derived.Test.YtjkihpbpnoelnaaGreatDoorPr13
import Derived.Test.YtjkihpbpnoelnaaGreatDoorPr6
namespace Go.Proofs.YtjkihpbpnoelnaaGreatDoor
open Go.RowKit
set_option linter.unusedVariables false
attribute [local go_sem] Oper.semAt_some
set_option maxRecDepth 100000 in
theorem splitseq_any (s : List UInt8) (w : World) : Calls Tryz.prog 24 #[.string (tx s), .string (tx [44])] w fun e w' => Below w.heap.size w w' ∧ e = .returned (.func (.func 61) #[] #[.pointer (some ⟨w.heap.size + 1, 0, none⟩), .pointer (some ⟨w.heap.size, 0, none⟩), .pointer (some ⟨w.heap.size + 2, 0, none⟩)]) ∧ ItAt w' (w.heap.size + 1) w.heap.size (w.heap.size + 2) s ∧ w'.heap.size = w.heap.size + 3 := by
  have h2 : Calls Tryz.prog 43 #[.string (tx s), .string (tx [44]), .int .i64 0] w fun e w' => Below w.heap.size w w' ∧ e = .returned (.func (.func 61) #[] #[.pointer (some ⟨w.heap.size + 1, 0, none⟩), .pointer (some ⟨w.heap.size, 0, none⟩), .pointer (some ⟨w.heap.size + 2, 0, none⟩)]) ∧ ItAt w' (w.heap.size + 1) w.heap.size (w.heap.size + 2) s ∧ w'.heap.size = w.heap.size + 3 := by
    go_enter Tryz.func43, Tryz.ntmps43
    go_wp2_with (fail)
    go_returns
    refine ⟨(((Below.refl _ _).alloc (Nat.le_refl _) _).alloc (by simp) _).alloc (by simp; omega) _, rfl, ⟨?_, ?_, ?_⟩, by simp⟩
    · have := (Blk.new (w.alloc (.cells #[.string (tx s)] 9)) #[.string (tx [44])] 9).alloc (.cells #[.int .i64 0] 3)
      simpa using this
    · exact (((Blk.new w #[.string (tx s)] 9).alloc _).alloc _)
    · have := (Blk.new ((w.alloc (.cells #[.string (tx s)] 9)).alloc (.cells #[.string (tx [44])] 9)) #[.int .i64 0] 3)
      simpa using this
  have H2 := Lib.hid h2
  clear h2
  go_enter Tryz.func24, Tryz.ntmps24
  go_wp2_with (fail)
  refine H2.out.mono ?_
  rintro e w1 ⟨hb, rfl, hI, hs⟩
  have HI := Lib.hid hI
  have HS := Lib.hid hs
  have HB := Lib.hid hb
  clear hI hs hb
  go_wp2_with (fail)
  go_returns
  exact ⟨HB.out, rfl, HI.out, HS.out⟩
set_option maxRecDepth 100000 in
set_option maxHeartbeats 4000000 in
theorem parse_any (s s' : List UInt8) (hne : s' ≠ []) (ps : List (List UInt8)) (st : List (List UInt8) → Int × Bool) (okF : List UInt8 → Bool) (hj : jn ps = s) (hps : 0 < ps.length) (hlen : s.length ≤ 1000) (hst : st [] = (3, false))
    (htrim : ∀ W, Calls Tryz.prog 23 #[.string (tx s), .string (tx [32])] W fun e W' => e = .returned (.string (tx s')) ∧ Below W.heap.size W W')
    (hIx : ∀ k, k < ps.length → IxOk (ps.drop k))
    (hpart : ∀ pre x r, ps = pre ++ x :: r → ∀ b W, Blk W b #[.int .u8 (st pre).1, .bool (st pre).2] 26 → Calls Tryz.prog 25 #[.pointer (some ⟨b, 0, none⟩), .string (tx x)] W fun e W' => PartPost b (st (pre ++ [x])).1 (st (pre ++ [x])).2 (okF x) W e W') (w : World) :
    Calls Tryz.prog 9 #[.string (tx s)] w fun e w' => Below w.heap.size w w' ∧ (ps.all okF = true → e = .returned (.tuple #[.agg #[.int .u8 (st ps).1, .bool (st ps).2], .int .i64 0])) ∧ (ps.all okF = false → e = .returned (.tuple #[.agg #[.int .u8 0, .bool false], .int .i64 2])) := by
  refine (callsIn_wide (n := 10)).1 ?_
  have HT := Lib.hid htrim
  have HIX := Lib.hid hIx
  have HPART := Lib.hid hpart
  have HST := Lib.hid hst
  have HJ := Lib.hid hj
  have HNE := Lib.hid hne
  clear htrim hIx hpart hst hj hne
  refine callsIn_of_wp_marks Tryz.func9 rfl trivial ?_ rfl
  simp only [Tryz.ntmps9, List.size_toArray, List.length_cons, List.length_nil, Nat.reduceAdd, Nat.reduceSub, Array.replicate_succ, Array.replicate_zero, List.push_toArray, List.append_toArray, List.nil_append, List.cons_append]
  gi_wp2_with (fail)
  refine ⟨trivial, ?_⟩
  have hB0 : Below w.heap.size w ((w.alloc (.cells #[.int .u8 0, .bool false] 26)).alloc (.cells #[.int .i64 0] 22)) := ((Below.refl _ w).alloc (Nat.le_refl _) _).alloc (by simp) _
  have hRB0 : Blk ((w.alloc (.cells #[.int .u8 0, .bool false] 26)).alloc (.cells #[.int .i64 0] 22)) w.heap.size #[.int .u8 0, .bool false] 26 := (Blk.new w _ _).alloc _
  have hEB0 : Blk ((w.alloc (.cells #[.int .u8 0, .bool false] 26)).alloc (.cells #[.int .i64 0] 22)) (w.heap.size + 1) #[.int .i64 0] 22 := by
    have := Blk.new (w.alloc (.cells #[.int .u8 0, .bool false] 26)) #[.int .i64 0] 22
    simpa using this
  have hsz0 : ((w.alloc (.cells #[.int .u8 0, .bool false] 26)).alloc (.cells #[.int .i64 0] 22)).heap.size = w.heap.size + 2 := by simp
  obtain ⟨W0, hW0⟩ : ∃ W0, (w.alloc (.cells #[.int .u8 0, .bool false] 26)).alloc (.cells #[.int .i64 0] 22) = W0 := ⟨_, rfl⟩
  rw [hW0] at hB0 hRB0 hEB0 hsz0 ⊢
  clear hW0
  refine (callsIn_wide.2 (default_any W0)).mono ?_
  rintro e w1 ⟨hb1, rfl⟩
  have hR1 := hRB0.below hb1
  have hE1 := hEB0.below hb1
  have hB1 := below_on hB0 hb1 hB0.size
  have hs1 : w.heap.size + 2 ≤ w1.heap.size := by have := hb1.size; omega
  have HR1 := Lib.hid hR1
  have HE1 := Lib.hid hE1
  have HB1 := Lib.hid hB1
  clear hR1 hE1 hB1 hb1 hRB0 hEB0 hB0
  gi_wp2_with (fail)
  refine ⟨trivial, ?_⟩
  have hP2 := Blk.new w1 #[.int .u8 3, .bool false] 26
  have hR2 := HR1.out.alloc (.cells #[.int .u8 3, .bool false] 26)
  have hE2 := HE1.out.alloc (.cells #[.int .u8 3, .bool false] 26)
  have hB2 := HB1.out.alloc HB1.out.size (.cells #[.int .u8 3, .bool false] 26)
  obtain ⟨pB, hpB⟩ : ∃ k, w1.heap.size = k := ⟨_, rfl⟩
  have hs2 : (w1.alloc (.cells #[.int .u8 3, .bool false] 26)).heap.size = pB + 1 := by simp [hpB]
  rw [hpB] at hP2 hs1 ⊢
  obtain ⟨W2, hW2⟩ : ∃ W2, w1.alloc (.cells #[.int .u8 3, .bool false] 26) = W2 := ⟨_, rfl⟩
  rw [hW2] at hP2 hR2 hE2 hB2 hs2 ⊢
  clear hW2
  refine (callsIn_wide.2 (HT.out W2)).mono ?_
  rintro e w3 ⟨rfl, hb3⟩
  have hq1 : s'.isEmpty = false := by
    cases h : s'.isEmpty with
    | false => rfl
    | true => exact absurd (List.isEmpty_iff.1 h) HNE.out
  have hP3 := hP2.below hb3
  have hR3 := hR2.below hb3
  have hE3 := hE2.below hb3
  have hB3 := below_on hB2 hb3 hB2.size
  have hs3 : pB + 1 ≤ w3.heap.size := by have := hb3.size; omega
  have HP3 := Lib.hid hP3
  have HR3 := Lib.hid hR3
  have HE3 := Lib.hid hE3
  have HB3 := Lib.hid hB3
  clear hP2 hR2 hE2 hB2 hP3 hR3 hE3 hB3 hb3 HR1 HE1 HB1
  gi_wp2_with (fail)
  refine ⟨trivial, ?_⟩
  refine (callsIn_wide.2 (splitseq_any s w3)).mono ?_
  rintro e w4 ⟨hb4, rfl, hI4, hs4⟩
  obtain ⟨q, hq⟩ : ∃ q, w3.heap.size = q := ⟨_, rfl⟩
  have hP4 := HP3.out.below hb4
  have hR4 := HR3.out.below hb4
  have hE4 := HE3.out.below hb4
  have hB4 := below_on HB3.out hb4 HB3.out.size
  rw [hq] at hI4 hs4 hs3 ⊢
  have HP4 := Lib.hid hP4
  have HR4 := Lib.hid hR4
  have HE4 := Lib.hid hE4
  have HB4 := Lib.hid hB4
  have HI4 := Lib.hid hI4
  clear hP4 hR4 hE4 hB4 hb4 hI4 HP3 HR3 HE3 HB3 hq1
  gi_wp2_with (fail)
  have hq3 : q + 3 = w4.heap.size := hs4.symm
  refine wpIn_rangeFunc_M (n := 10) rfl (by decide) (gf := 61) (lb := #[.pointer (some ⟨q + 1, 0, none⟩), .pointer (some ⟨q, 0, none⟩), .pointer (some ⟨q + 2, 0, none⟩)]) rfl trivial (enters_of Tryz.func61 (by kernel_rfl) rfl)
    (split1_in 9 (by decide) (q + 1) q (q + 2) ⟨by omega, by omega⟩ ps hps (by rw [HJ.out]; exact hlen) HIX.out) (fun k hk => by omega) (fun W hW => by rw [HJ.out]; exact HI4.out.below hW) (fun _ => rfl)
    (fun pre W => (∀ x ∈ pre, okF x = true) ∧ Blk W pB #[.int .u8 (st pre).1, .bool (st pre).2] 26 ∧ Blk W w.heap.size #[.int .u8 0, .bool false] 26 ∧ Blk W (w.heap.size + 1) #[.int .i64 0] 22 ∧ Below w.heap.size w W)
    (fun c pre W => c = .ret ∧ (∃ x ∈ ps, okF x = false) ∧ Blk W w.heap.size #[.int .u8 0, .bool false] 26 ∧ Blk W (w.heap.size + 1) #[.int .i64 2] 22 ∧ Below w.heap.size w W)
    (fun pre A B hi ho => ⟨hi.1, ho.blk hi.2.1 (by omega), ho.blk hi.2.2.1 (by omega), ho.blk hi.2.2.2.1 (by omega), below_onto hi.2.2.2.2 ho hi.2.2.2.2.size (fun k hk => by omega)⟩)
    (fun c pre A B hi ho => ⟨hi.1, hi.2.1, ho.blk hi.2.2.1 (by omega), ho.blk hi.2.2.2.1 (by omega), below_onto hi.2.2.2.2 ho hi.2.2.2.2.size (fun k hk => by omega)⟩)
    ⟨fun x hx => (by cases hx), by rw [HST.out]; exact HP4.out, HR4.out, HE4.out, HB4.out⟩
    (fun x => { tmps := #[.string (tx s), undef, .pointer (some ⟨w.heap.size, 0, none⟩), .pointer (some ⟨w.heap.size + 1, 0, none⟩), .pointer (some ⟨pB, 0, none⟩), .string (tx x), .agg #[.int .u8 3, .bool false], .string (tx s), .string (tx s'), .bool false, undef, .string (tx s), .func (.func 61) #[] #[.pointer (some ⟨q + 1, 0, none⟩), .pointer (some ⟨q, 0, none⟩), .pointer (some ⟨q + 2, 0, none⟩)], .string (tx x), undef, undef, undef, undef, undef], defers := [] })
    ?assign ?body ?done ?stop
  case assign =>
    intro l x W K hK
    gi_wp2
    exact hK
  case body =>
    rintro l pre x r W hxs ⟨hok, hP, hR, hE, hB⟩ hsz
    have hpp := HPART.out pre x r hxs pB W hP
    obtain ⟨v, hv⟩ : ∃ v, okF x = v := ⟨_, rfl⟩
    rw [hv] at hpp
    have HPP := Lib.hid hpp
    have HV := Lib.hid hv
    have HXS := Lib.hid hxs
    have HOK := Lib.hid hok
    have HR := Lib.hid hR
    have HE := Lib.hid hE
    have HB := Lib.hid hB
    clear hpp hv hxs hok hP hR hE hB
    gi_wp2_with (fail)
    refine ⟨trivial, ?_⟩
    refine (CallsIn.inRound l (callsIn_wide.2 HPP.out)).mono ?_
    rintro e w5 ⟨ho, rfl, hP5⟩
    have hR5 := ho.blk HR.out (by omega)
    have hE5 := ho.blk HE.out (by omega)
    have f0 := hR5.free 0
    have f1 := hR5.free 1
    have d0 := hR5.cell 0 _ rfl
    have d1 := hR5.cell 1 _ rfl
    have g0 := hE5.free 0
    have e0 := hE5.cell 0 _ rfl
    have hB5 := below_onto HB.out ho HB.out.size (fun k hk => by omega)
    have hS5 : Only (fun k => (k < w4.heap.size ∧ ¬(k = q + 1 ∨ k = q ∨ k = q + 2)) ∨ w4.heap.size + 2 ≤ k) W w5 := ho.mono fun k _ h => .inl (by omega)
    have HO5 := Lib.hid hS5
    have HR5 := Lib.hid hR5
    have HE5 := Lib.hid hE5
    have HB5 := Lib.hid hB5
    have HP5 := Lib.hid hP5
    clear ho hR5 hE5 hB5 hP5 hS5
    cases v with
    | true =>
      gi_wp2_with (fail)
      refine ⟨HO5.out, fun y hy => ?_, HP5.out, HR5.out, HE5.out, HB5.out⟩
      rcases List.mem_append.1 hy with h | h
      · exact HOK.out y h
      · rw [List.mem_singleton] at h
        subst h; exact HV.out
    | false =>
      gi_wp2_with (fail)
      refine ⟨((HO5.out.setCell (p := ⟨w.heap.size, 0, none⟩) (.inl (.inl (by show w.heap.size < w4.heap.size ∧ ¬(w.heap.size = q + 1 ∨ w.heap.size = q ∨ w.heap.size = q + 2); omega))) _).setCell (p := ⟨w.heap.size, 1, none⟩) (.inl (.inl (by show w.heap.size < w4.heap.size ∧ ¬(w.heap.size = q + 1 ∨ w.heap.size = q ∨ w.heap.size = q + 2); omega))) _).setCell (p := ⟨w.heap.size + 1, 0, none⟩) (.inl (.inl (by show w.heap.size + 1 < w4.heap.size ∧ ¬(w.heap.size + 1 = q + 1 ∨ w.heap.size + 1 = q ∨ w.heap.size + 1 = q + 2); omega))) _, rfl, ⟨x, by rw [HXS.out]; simp, HV.out⟩, ?_, ?_, ?_⟩
      · exact (((HR5.out.set 0 _).set 1 _).setOther _ _ (by show w.heap.size ≠ w.heap.size + 1; omega)).congr rfl
      · exact (((HE5.out.setOther _ _ (by show w.heap.size + 1 ≠ w.heap.size; omega)).setOther _ _ (by show w.heap.size + 1 ≠ w.heap.size; omega)).set 0 _).congr rfl
      · exact (((HB5.out.setCell (p := ⟨w.heap.size, 0, none⟩) (Nat.le_refl _) _).setCell (p := ⟨w.heap.size, 1, none⟩) (Nat.le_refl _) _).setCell (p := ⟨w.heap.size + 1, 0, none⟩) (by show w.heap.size ≤ w.heap.size + 1; omega) _)
  case done =>
    rintro D W hD ⟨hok, hP, hR, hE, hB⟩ hK
    have p0 := hP.cell 0 _ rfl
    have p1 := hP.cell 1 _ rfl
    have f0 := hR.free 0
    have f1 := hR.free 1
    have g0 := hE.free 0
    have d0 := hR.cell 0 _ rfl
    have d1 := hR.cell 1 _ rfl
    have e0 := hE.cell 0 _ rfl
    have lr := hR.lt
    have le := hE.lt
    have lp := hP.lt
    have HR := Lib.hid hR
    have HE := Lib.hid hE
    have HB := Lib.hid hB
    have HOK := Lib.hid hok
    clear hR hE hB hP hok
    gi_wp2_with (fail)
    refine ⟨by simp, .inl ⟨_, _, rfl, run_takeDeferred (by
      rw [Below.heap_setCell _ _ _ _ (by show D ≠ w.heap.size + 1; omega), Below.heap_setCell _ _ _ _ (by show D ≠ w.heap.size; omega), Below.heap_setCell _ _ _ _ (by show D ≠ w.heap.size; omega)]
      exact hK), ?_⟩⟩
    have hR5 := ((HR.out.set 0 (.int .u8 (st ps).1)).set 1 (.bool (st ps).2)).setOther ⟨w.heap.size + 1, 0, none⟩ (.int .i64 0) (by show w.heap.size ≠ w.heap.size + 1; omega)
    have hE5 := ((HE.out.setOther ⟨w.heap.size, 0, none⟩ (.int .u8 (st ps).1) (by show w.heap.size + 1 ≠ w.heap.size; omega)).setOther ⟨w.heap.size, 1, none⟩ (.bool (st ps).2) (by show w.heap.size + 1 ≠ w.heap.size; omega)).set 0 (.int .i64 0)
    have hB5 := ((HB.out.setCell (p := ⟨w.heap.size, 0, none⟩) (Nat.le_refl _) (.int .u8 (st ps).1)).setCell (p := ⟨w.heap.size, 1, none⟩) (Nat.le_refl _) (.bool (st ps).2)).setCell (p := ⟨w.heap.size + 1, 0, none⟩) (by show w.heap.size ≤ w.heap.size + 1; omega) (.int .i64 0)
    obtain ⟨W5, hW5⟩ : ∃ W5, ((W.setCell ⟨w.heap.size, 0, none⟩ (.int .u8 (st ps).1)).setCell ⟨w.heap.size, 1, none⟩ (.bool (st ps).2)).setCell ⟨w.heap.size + 1, 0, none⟩ (.int .i64 0) = W5 := ⟨_, rfl⟩
    rw [hW5] at hR5 hE5 hB5 ⊢
    have ho := only_putObj W5 D (.deferred none)
    have hR6 : Blk _ _ _ _ := ho.blk hR5 (by omega)
    have hE6 : Blk _ _ _ _ := ho.blk hE5 (by omega)
    have hB6 := below_onto hB5 ho hB5.size (fun k hk => by have := HB.out.size; omega)
    have r0 := hR6.cell 0 _ rfl
    have r1 := hR6.cell 1 _ rfl
    have x0 := hE6.cell 0 _ rfl
    refine ⟨.tuple #[.agg #[.int .u8 (st ps).1, .bool (st ps).2], .int .i64 0], by simp [results, Tryz.results9, go_sem, r0, r1, x0], hB6, fun _ => rfl, fun h => ?_⟩
    rw [List.all_eq_true.2 HOK.out] at h
    cases h
  case stop =>
    rintro D c pre W hD ⟨rfl, hok, hR, hE, hB⟩ hK
    have HR := Lib.hid hR
    have HE := Lib.hid hE
    have HB := Lib.hid hB
    have HOK := Lib.hid hok
    clear hR hE hB hok
    gi_wp2_with (fail)
    refine ⟨by simp, .inl ⟨_, _, rfl, run_takeDeferred hK, ?_⟩⟩
    have ho := only_putObj W D (.deferred none)
    have hR6 : Blk _ _ _ _ := ho.blk HR.out (by omega)
    have hE6 : Blk _ _ _ _ := ho.blk HE.out (by omega)
    have hB6 := below_onto HB.out ho HB.out.size (fun k hk => by have := HB4.out.size; omega)
    have r0 := hR6.cell 0 _ rfl
    have r1 := hR6.cell 1 _ rfl
    have x0 := hE6.cell 0 _ rfl
    refine ⟨.tuple #[.agg #[.int .u8 0, .bool false], .int .i64 2], by simp [results, Tryz.results9, go_sem, r0, r1, x0], hB6, fun h => ?_, fun _ => rfl⟩
    obtain ⟨x, hx, hxo⟩ := HOK.out
    have := List.all_eq_true.1 h x hx
    rw [hxo] at this
    cases this
end Go.Proofs.YtjkihpbpnoelnaaGreatDoor
