/- InOrder: the law walked. -/
import Derived.Test.YticnjdlapioppaaSo19
import Derived.Test.YticnjdlapioppaaRf14
import Derived.Test.YticnjdlapioppaaArgs
import Derived.Test.YticnjdlapioppaaArgSl
import Derived.OpenShut
namespace Go.Proofs.Yticnjdlapioppaa
open Go.RowKit
set_option linter.unusedVariables false

theorem io_mixed : Try.prog.follows .mixedOrders = true := by kernel_rfl
theorem io_goes : Rf.runs Try.prog 26 100000 = true := by kernel_rfl
theorem ioworks_any (w : World) : Calls Try.prog 26 #[] w fun e w' => e = .returned (.bool true) ∧ Below w.heap.size w w' := Rf.runs_true io_mixed io_goes w

theorem RS.rebase {T : List Int} {h base base' : Nat} {va : Option Addr} {vc byv : Nat} {s : ISt} {L : List Pc} {gc : Nat} {w : World} (r : RS T h base va vc byv s L none gc w) (h1 : base ≤ base') (h2 : base' ≤ w.heap.size) : RS T h base' va vc byv s L none gc w := by
  have hg : OwnS w base' 5 1 none s.rd gc (bytesV (T.take s.rd)) := by
    have h3 := r.got
    have h4 := h3.none_of rfl
    have h5 := h3.length
    rw [h4.1] at h5 h3 ⊢
    rw [h4.2]
    simp [bytesV] at h5
    have : bytesV (T.take 0) = [] := by simp [bytesV]
    rw [this]
    exact OwnS.nil _ _ _ _
  exact ⟨r.inm, hg, r.xb, r.xy, r.xi, r.xg, r.xe, r.txt, r.vq, by have := r.lo; omega, h2, r.by8⟩
/-- Which blocks the law writes. -/
def KS (h7 h : Nat) (b : Nat) : Prop := (h ≤ b ∧ b < h + 6) ∨ h7 ≤ b
theorem KS.only {T : List Int} {h base : Nat} {va : Option Addr} {vc byv : Nat} {s : ISt} {L : List Pc} {ga : Option Addr} {gc : Nat} {w0 w w' : World} (r : RS T h base va vc byv s L ga gc w) (ho : Only (KS base h) w0 w) (hb : Only (fun b => b = h + 2 ∨ Zf (h + 4) (h + 5) ga b) w w') : Only (KS base h) w0 w' :=
  ho.trans (hb.mono fun k _ hk => by
    unfold KS
    rcases hk with hk | hk | hk | ⟨y, hy, hk⟩
    · omega
    · omega
    · omega
    · have := (r.got.block hy).1; omega)
theorem RS.after {T : List Int} {h base : Nat} {va : Option Addr} {vc byv off len : Nat} {fl : Bool} {s : ISt} {L : List Pc} {ga : Option Addr} {gc : Nat} {w w' : World} {e : Ending} (r : RS T h base va vc byv s L ga gc w) (hp : PutP T (h + 2) (Zz h ga) s L off len fl w w' e) :
    (∃ v : Int, e = .returned (.tuple #[.int .u64 v, .int .i64 0])) ∧ Only (· = h + 2) w w' ∧ ∃ s' L', RS T h base va vc byv s' L' ga gc w' ∧ (((s.hf = true ∧ s.rd + s.bn = T.length) ∨ (fl = true ∧ off = 0 ∧ len = T.length)) → s'.hf = true ∧ s'.rd + s'.bn = T.length) := by
  obtain ⟨h1, h2, s', L', h3, h4, h5, h6, h7, h8, h9⟩ := hp
  refine ⟨h2, h1, s', L', r.put h1 h3 h4 h5, fun hc => ⟨?_, ?_⟩⟩
  · exact hc.elim (fun h => h7 h.1) (fun h => h6 h.1)
  · cases hfr : s.fr with
    | true =>
      have := (r.inm.frr hfr).1
      have := h3.le
      omega
    | false =>
      refine h3.full fun x hx => ?_
      rcases hc with hc | hc
      · exact h8 hfr x (.inl (by omega))
      · exact h9 hfr x (by omega) (by omega)
theorem LoopI.read {T : List Int} {h base : Nat} {va : Option Addr} {vc byv : Nat} {s : ISt} {L : List Pc} {ga : Option Addr} {gc : Nat} {w w' : World} {e : Ending} {done : Prop} (hd : done → s.hf = true ∧ s.rd + s.bn = T.length) (hp : ReadPost T h base va vc byv s L ga gc w w' e) : LoopI T h base va vc byv done w' := by
  obtain ⟨_, _, s', ga', gc', h1, h2, h3, _⟩ := hp
  exact ⟨s', L, ga', gc', h1, fun hdn => by rw [h2, h3]; exact hd hdn⟩
theorem undrew {w w' : World} (h : Below w.heap.size w w') : Below w.drew.heap.size w.drew w' := ⟨h.os, h.tape, h.output, h.size, h.block⟩
def LaidC (la : Option Addr) (l lc : Nat) (va : Option Addr) (n vc : Nat) (C : List Ct) (a : Act) (w : World) (a' : Act) (w' : World) : Prop :=
  ∃ v33 v35 v40 ad cc, a' = (((((((((((a.put (some 33) v33).put (some 34) (.slice la l lc)).put (some 35) v35).put (some 36) (.slice va n vc)).put (some 37) (.int .i64 n)).put (some 38) (.int .u16 n)).put (some 39) (.agg #[.int .u16 0, .int .u16 n])).put (some 40) v40).put (some 41) (.slice ad (l + 1) cc)).put (some 42) (.int .i64 ((l : Int) + 1))).put (some 43) (.int .i64 0)) ∧
    Below w.heap.size w w' ∧ OwnS w' w.heap.size 104 2 ad (l + 1) cc (cellsC (C ++ [⟨0, n⟩]))
def ist0 (n : Nat) : ISt := ⟨none, 0, 0, 0, none, 0, 0, 0, n, false, 0, false⟩
theorem law_start (va : Option Addr) (vc byv : Nat) (T : List Int) (w : World) (hT : Sl .u8 w va vc T) (hby : byv ≤ 255) (hl : T.length ≤ 3000) :
    ∀ w6, (((((w.alloc (.cells #[.slice va T.length vc] 47)).alloc (.cells #[.int .u8 byv] 5)).alloc (.cells #[.slice none 0 0, .int .u64 0, .slice none 0 0, .int .u64 0, .int .u64 T.length, .bool false, .int .u64 0, .bool false, .bool false, .int .u64 0, .bool false, .int .u64 0, .bool false] 100)).alloc (.cells #[.pointer (some ⟨w.heap.size + 2, 0, none⟩)] 98)).alloc (.cells #[.slice none 0 0] 47)).alloc (.cells #[.bool false] 4) = w6 →
      RS T w.heap.size (w.heap.size + 6) va vc byv (ist0 T.length) [] none 0 w6 ∧ Below w.heap.size w w6 ∧ w6.heap.size = w.heap.size + 6 := by
  intro w6 h6
  have b0 := Blk.new w #[.slice va T.length vc] 47
  have a1 : Below w.heap.size w (w.alloc (.cells #[.slice va T.length vc] 47)) := (Below.refl _ _).alloc (Nat.le_refl _) _
  have s1 := alloc_size w (.cells #[.slice va T.length vc] 47)
  generalize w.alloc (.cells #[.slice va T.length vc] 47) = w1 at *
  have b1 := Blk.new w1 #[.int .u8 byv] 5
  have a2 : Below w1.heap.size w1 (w1.alloc (.cells #[.int .u8 byv] 5)) := (Below.refl _ _).alloc (Nat.le_refl _) _
  have s2 := alloc_size w1 (.cells #[.int .u8 byv] 5)
  generalize w1.alloc (.cells #[.int .u8 byv] 5) = w2 at *
  have b2 := Blk.new w2 #[.slice none 0 0, .int .u64 0, .slice none 0 0, .int .u64 0, .int .u64 T.length, .bool false, .int .u64 0, .bool false, .bool false, .int .u64 0, .bool false, .int .u64 0, .bool false] 100
  have a3 : Below w2.heap.size w2 (w2.alloc (.cells #[.slice none 0 0, .int .u64 0, .slice none 0 0, .int .u64 0, .int .u64 T.length, .bool false, .int .u64 0, .bool false, .bool false, .int .u64 0, .bool false, .int .u64 0, .bool false] 100)) := (Below.refl _ _).alloc (Nat.le_refl _) _
  have s3 := alloc_size w2 (.cells #[.slice none 0 0, .int .u64 0, .slice none 0 0, .int .u64 0, .int .u64 T.length, .bool false, .int .u64 0, .bool false, .bool false, .int .u64 0, .bool false, .int .u64 0, .bool false] 100)
  generalize w2.alloc (.cells #[.slice none 0 0, .int .u64 0, .slice none 0 0, .int .u64 0, .int .u64 T.length, .bool false, .int .u64 0, .bool false, .bool false, .int .u64 0, .bool false, .int .u64 0, .bool false] 100) = w3 at *
  have b3 := Blk.new w3 #[.pointer (some ⟨w.heap.size + 2, 0, none⟩)] 98
  have a4 : Below w3.heap.size w3 (w3.alloc (.cells #[.pointer (some ⟨w.heap.size + 2, 0, none⟩)] 98)) := (Below.refl _ _).alloc (Nat.le_refl _) _
  have s4 := alloc_size w3 (.cells #[.pointer (some ⟨w.heap.size + 2, 0, none⟩)] 98)
  generalize w3.alloc (.cells #[.pointer (some ⟨w.heap.size + 2, 0, none⟩)] 98) = w4 at *
  have b4 := Blk.new w4 #[.slice none 0 0] 47
  have a5 : Below w4.heap.size w4 (w4.alloc (.cells #[.slice none 0 0] 47)) := (Below.refl _ _).alloc (Nat.le_refl _) _
  have s5 := alloc_size w4 (.cells #[.slice none 0 0] 47)
  generalize w4.alloc (.cells #[.slice none 0 0] 47) = w5 at *
  have b5 := Blk.new w5 #[.bool false] 4
  have a6 : Below w5.heap.size w5 (w5.alloc (.cells #[.bool false] 4)) := (Below.refl _ _).alloc (Nat.le_refl _) _
  have s6 := alloc_size w5 (.cells #[.bool false] 4)
  rw [h6] at b5 a6 s6
  have a56 := a6
  have a46 : Below w4.heap.size w4 w6 := below_on a5 a6 a5.size
  have a36 : Below w3.heap.size w3 w6 := below_on a4 a46 a4.size
  have a26 : Below w2.heap.size w2 w6 := below_on a3 a36 a3.size
  have a16 : Below w1.heap.size w1 w6 := below_on a2 a26 a2.size
  have a06 : Below w.heap.size w w6 := below_on a1 a16 a1.size
  rw [show w1.heap.size = w.heap.size + 1 by omega] at b1
  rw [show w2.heap.size = w.heap.size + 2 by omega] at b2
  rw [show w3.heap.size = w.heap.size + 3 by omega] at b3
  rw [show w4.heap.size = w.heap.size + 4 by omega] at b4
  rw [show w5.heap.size = w.heap.size + 5 by omega] at b5
  refine ⟨⟨⟨?_, ?_, ?_, ?_, ?_, Qs.nil _, rfl, ?_, ?_, ?_, List.Pairwise.nil, rfl, ?_, ?_, ?_⟩, OwnS.nil _ _ _ _, b0.below a16, b1.below a26, b3.below a46, b4.below a56, b5, hT.below a06, fun x hx h0 => hT.ints.lt x hx h0, Nat.le_refl _, by omega, hby⟩, a06, by omega⟩
  · unfold IB; exact b2.below a36
  · unfold IOk ist0; simp; omega
  · exact Sl.nil _ _
  · intro x hx; cases hx
  · simp [ist0]
  · intro x hx; cases hx
  · intro p hp; cases hp
  · intro p hp; cases hp
  · simp [ist0]
  · intro h9; cases h9
  · intro h9; cases h9

set_option maxRecDepth 100000 in
set_option maxHeartbeats 4000000 in
theorem order_law (va la : Option Addr) (vc lc byv : Nat) (T : List Int) (C : List Ct) (w : World) (hT : Sl .u8 w va vc T) (hC : Cts w la lc C) (hby : byv ≤ 255) :
    Calls Try.prog 6 #[.slice va T.length vc, .slice la C.length lc, .int .u8 byv] w fun e w' => e = .returned (.bool true) ∧ Below w.heap.size w w' := by
  have hTl := hT.len
  have hCl := Nat.le_trans hC.le hC.max
  unfold maxLen at hTl hCl
  have HT8 : Hid (∀ x ∈ T, (Lit.int .u8 x).wf = true) := Lib.hid hT.wf
  have HT := Lib.hid hT
  have HC := Lib.hid hC
  obtain ⟨n, hn⟩ : ∃ x, T.length = x := ⟨_, rfl⟩
  obtain ⟨l, hl⟩ : ∃ x, C.length = x := ⟨_, rfl⟩
  rw [hn] at hTl ⊢
  rw [hl] at hCl ⊢
  have HN := Lib.hid hn
  have HL := Lib.hid hl
  have l0 : w.heap.size < (w.alloc (.cells #[.slice va n vc] 47)).heap.size := by simp
  clear hT hC hn hl
  by_cases h1 : n ≤ 3000
  · by_cases h2 : l ≤ 200
    · have g1 : ¬ (n : Int) > 3000 := by omega
      have g2 : ¬ (l : Int) > 200 := by omega
      go_enter Try.func6, Try.ntmps6
      go_wp2_with (fail)
      have hw6 := law_start va vc byv T w HT.out hby (by have := HN.out; omega)
      simp only [HN.out, Nat.add_assoc, Nat.reduceAdd] at hw6 ⊢
      obtain ⟨w6, h6⟩ : ∃ w6, (((((w.alloc (.cells #[.slice va n vc] 47)).alloc (.cells #[.int .u8 byv] 5)).alloc (.cells #[.slice none 0 0, .int .u64 0, .slice none 0 0, .int .u64 0, .int .u64 n, .bool false, .int .u64 0, .bool false, .bool false, .int .u64 0, .bool false, .int .u64 0, .bool false] 100)).alloc (.cells #[.pointer (some ⟨w.heap.size + 2, 0, none⟩)] 98)).alloc (.cells #[.slice none 0 0] 47)).alloc (.cells #[.bool false] 4) = w6 := ⟨_, rfl⟩
      obtain ⟨hrs, b6, s6⟩ := hw6 w6 h6
      rw [h6]
      have HRS := Lib.hid hrs
      have B6 := Lib.hid b6
      have S6 := Lib.hid s6
      have HC6 : Hid (Cts w6 la lc C) := Lib.hid (HC.out.below b6)
      have l0 := hrs.xb.lt
      have c0 := hrs.xb.cell 0 _ rfl
      rw [HN.out] at c0
      clear hw6 h6 hrs b6 s6
      refine wp_into (LaidC la l lc va n vc C) ?_ ?_
      all_goals unfold LaidC
      all_goals simp only [Act.put, List.setIfInBounds_toArray, List.set_cons_zero, List.set_cons_succ]
      · refine rg_start 11 ?_
        refine rg_below fun p hx hne hC hbel => ?_
        have k0 : ∀ z : Wd p, z.w.cell? ⟨w.heap.size, 0, none⟩ = some (.slice va n vc) := fun z => (hx z _ _ _ l0).trans c0
        refine rg_quiet 5 [1,3,4,5,6,10] hC ?_
        simp only [pickD, List.map_cons, List.map_nil, List.getD_cons_zero, List.getD_cons_succ]; repeat (go_big_quiet_step (fail))
        refine wpQuiet_nil ?_
        refine rg_among [0, 7] ?_
        simp only [List.forall_mem_cons, List.getD_cons_zero, List.getD_cons_succ]
        refine ⟨?_, ?_, by simp⟩
        · go_wp2_with (fail)
          have be1 : Below w6.heap.size w6 ((w6.alloc (.cells #[] 104)).drew) := (Below.alloc (Below.refl _ _) (by exact Nat.le_refl _) _).drew
          have oe : OwnS ((w6.alloc (.cells #[] 104)).drew) w6.heap.size 104 2 (some ⟨w6.heap.size, 0, none⟩) 0 0 (cellsC []) := OwnS.new w6 w6.heap.size (by exact Nat.le_refl _) 104 2 0 #[] (by simp) rfl
          have se1 : w6.heap.size < ((w6.alloc (.cells #[] 104)).drew).heap.size := by show _ < (w6.alloc _).heap.size; rw [alloc_size]; omega
          generalize ((w6.alloc (.cells #[] 104)).drew) = w01 at *
          refine ⟨hbel _ (undrew be1), ?_⟩
          refine rg_among [2, 7] ?_
          simp only [List.forall_mem_cons, List.getD_cons_zero, List.getD_cons_succ]
          refine ⟨?_, ?_, by simp⟩
          · go_wp2_with (at_builtin; refine Stop.mk ?_)
            refine Stop.out ?_
            refine wpList_appE ct_et rfl rfl (base := w6.heap.size) (k := l) rfl rfl (Nat.zero_add _) oe ((HC6.out.below be1).src HL.out.symm) (by simp only [maxLen]; omega) (by omega) (by have := be1.size; omega) ?_
            intro ac cc w22 oc on2 _
            rw [show cellsC [] ++ cellsC C = cellsC C from rfl] at oc
            have be2 : Below w6.heap.size w6 w22 := below_onto be1 on2 be1.size (by rintro z hz ⟨y, hy, he⟩; have := (oe.block hy).1; omega)
            clear oe on2
            go_wp2_with (fail)
            refine ⟨hbel _ (undrew be2), ?_⟩
            refine rg_act 7 ?_
            go_wp2_with (fail)
            have be3 : Below w6.heap.size w6 ((w22.alloc (.cells #[.int .u16 0, .int .u16 n] 104))) := (Below.alloc be2 (by have := be2.size; omega) _)
            have bs3 : Below w22.heap.size w22 ((w22.alloc (.cells #[.int .u16 0, .int .u16 n] 104))) := (Below.alloc (Below.refl _ _) (Nat.le_refl _) _)
            have ss3 : w22.heap.size < ((w22.alloc (.cells #[.int .u16 0, .int .u16 n] 104))).heap.size := by show _ < (w22.alloc _).heap.size; rw [alloc_size]; omega
            have xo : Blk ((w22.alloc (.cells #[.int .u16 0, .int .u16 n] 104))) _ _ _ := (Blk.new w22 #[.int .u16 0, .int .u16 n] 104)
            replace oc := oc.below bs3
            generalize ((w22.alloc (.cells #[.int .u16 0, .int .u16 n] 104))) = w73 at *
            refine ⟨hbel _ (undrew be3), ?_⟩
            refine rg_act 8 ?_
            go_wp2_with (at_builtin; refine Stop.mk ?_)
            refine Stop.out ?_
            refine wpList_appE ct_et rfl rfl (base := w6.heap.size) (k := l + 1) rfl rfl rfl oc (SrcAt.blkC (p := ⟨0, n⟩) xo) (by simp only [maxLen]; omega) (by omega) (by have := be3.size; omega) ?_
            intro ac8 cc8 w84 oc8 on8 _
            rw [← cellsC_append] at oc8
            have be8 : Below w6.heap.size w6 w84 := below_onto be3 on8 be3.size (by rintro z hz ⟨y, hy, he⟩; have := (oc.block hy).1; omega)
            go_wp2_with (fail)
            have hC8 := hbel _ (undrew be8)
            refine ⟨hC8, ?_⟩
            refine rg_quiet 0 [9] hC8 ?_
            simp only [pickD, List.map_cons, List.map_nil, List.getD_cons_zero, List.getD_cons_succ]; repeat (go_big_quiet_step (fail))
            refine wpQuiet_nil ?_
            refine rg_end ?_
            exact ⟨_, _, _, _, _, rfl, be8, oc8⟩
          · go_wp2_with (fail)
            have be2 : Below w6.heap.size w6 ((w01.alloc (.cells #[.int .u16 0, .int .u16 n] 104))) := (Below.alloc be1 (by have := be1.size; omega) _)
            have bs2 : Below w01.heap.size w01 ((w01.alloc (.cells #[.int .u16 0, .int .u16 n] 104))) := (Below.alloc (Below.refl _ _) (Nat.le_refl _) _)
            have ss2 : w01.heap.size < ((w01.alloc (.cells #[.int .u16 0, .int .u16 n] 104))).heap.size := by show _ < (w01.alloc _).heap.size; rw [alloc_size]; omega
            have xo : Blk ((w01.alloc (.cells #[.int .u16 0, .int .u16 n] 104))) _ _ _ := (Blk.new w01 #[.int .u16 0, .int .u16 n] 104)
            replace oe := oe.below bs2
            generalize ((w01.alloc (.cells #[.int .u16 0, .int .u16 n] 104))) = w72 at *
            refine ⟨hbel _ (undrew be2), ?_⟩
            refine rg_act 2 ?_
            go_wp2_with (at_builtin; refine Stop.mk ?_)
            refine Stop.out ?_
            refine wpList_appE ct_et rfl rfl (base := w6.heap.size) (k := l) rfl rfl (Nat.zero_add _) oe ((HC6.out.below be2).src HL.out.symm) (by simp only [maxLen]; omega) (by omega) (by have := be2.size; omega) ?_
            intro ac cc w23 oc on3 _
            rw [show cellsC [] ++ cellsC C = cellsC C from rfl] at oc
            have be3 : Below w6.heap.size w6 w23 := below_onto be2 on3 be2.size (by rintro z hz ⟨y, hy, he⟩; have := (oe.block hy).1; omega)
            replace xo : Blk w23 _ _ _ := on3.blk xo (by rintro ⟨y, hy, he⟩; cases hy; simp only at he; omega)
            clear oe on3
            go_wp2_with (fail)
            refine ⟨hbel _ (undrew be3), ?_⟩
            refine rg_act 8 ?_
            go_wp2_with (at_builtin; refine Stop.mk ?_)
            refine Stop.out ?_
            refine wpList_appE ct_et rfl rfl (base := w6.heap.size) (k := l + 1) rfl rfl rfl oc (SrcAt.blkC (p := ⟨0, n⟩) xo) (by simp only [maxLen]; omega) (by omega) (by have := be3.size; omega) ?_
            intro ac8 cc8 w84 oc8 on8 _
            rw [← cellsC_append] at oc8
            have be8 : Below w6.heap.size w6 w84 := below_onto be3 on8 be3.size (by rintro z hz ⟨y, hy, he⟩; have := (oc.block hy).1; omega)
            go_wp2_with (fail)
            have hC8 := hbel _ (undrew be8)
            refine ⟨hC8, ?_⟩
            refine rg_quiet 0 [9] hC8 ?_
            simp only [pickD, List.map_cons, List.map_nil, List.getD_cons_zero, List.getD_cons_succ]; repeat (go_big_quiet_step (fail))
            refine wpQuiet_nil ?_
            refine rg_end ?_
            exact ⟨_, _, _, _, _, rfl, be8, oc8⟩
        · go_wp2_with (fail)
          have be1 : Below w6.heap.size w6 ((w6.alloc (.cells #[.int .u16 0, .int .u16 n] 104)).drew) := (Below.alloc (Below.refl _ _) (by exact Nat.le_refl _) _).drew
          have bs1 : Below w6.heap.size w6 ((w6.alloc (.cells #[.int .u16 0, .int .u16 n] 104)).drew) := (Below.alloc (Below.refl _ _) (Nat.le_refl _) _).drew
          have ss1 : w6.heap.size < ((w6.alloc (.cells #[.int .u16 0, .int .u16 n] 104)).drew).heap.size := by show _ < (w6.alloc _).heap.size; rw [alloc_size]; omega
          have xo : Blk ((w6.alloc (.cells #[.int .u16 0, .int .u16 n] 104)).drew) _ _ _ := (Blk.new w6 #[.int .u16 0, .int .u16 n] 104).drew
          generalize ((w6.alloc (.cells #[.int .u16 0, .int .u16 n] 104)).drew) = w71 at *
          refine ⟨hbel _ (undrew be1), ?_⟩
          refine rg_act 0 ?_
          go_wp2_with (fail)
          have be2 : Below w6.heap.size w6 ((w71.alloc (.cells #[] 104))) := (Below.alloc be1 (by have := be1.size; omega) _)
          have oe : OwnS ((w71.alloc (.cells #[] 104))) w6.heap.size 104 2 (some ⟨w71.heap.size, 0, none⟩) 0 0 (cellsC []) := OwnS.new w71 w6.heap.size (by have := be1.size; omega) 104 2 0 #[] (by simp) rfl
          have se2 : w71.heap.size < ((w71.alloc (.cells #[] 104))).heap.size := by show _ < (w71.alloc _).heap.size; rw [alloc_size]; omega
          have xo : Blk ((w71.alloc (.cells #[] 104))) _ _ _ := xo.alloc _
          generalize ((w71.alloc (.cells #[] 104))) = w02 at *
          refine ⟨hbel _ (undrew be2), ?_⟩
          refine rg_act 2 ?_
          go_wp2_with (at_builtin; refine Stop.mk ?_)
          refine Stop.out ?_
          refine wpList_appE ct_et rfl rfl (base := w6.heap.size) (k := l) rfl rfl (Nat.zero_add _) oe ((HC6.out.below be2).src HL.out.symm) (by simp only [maxLen]; omega) (by omega) (by have := be2.size; omega) ?_
          intro ac cc w23 oc on3 _
          rw [show cellsC [] ++ cellsC C = cellsC C from rfl] at oc
          have be3 : Below w6.heap.size w6 w23 := below_onto be2 on3 be2.size (by rintro z hz ⟨y, hy, he⟩; have := (oe.block hy).1; omega)
          replace xo : Blk w23 _ _ _ := on3.blk xo (by rintro ⟨y, hy, he⟩; cases hy; simp only at he; omega)
          clear oe on3
          go_wp2_with (fail)
          refine ⟨hbel _ (undrew be3), ?_⟩
          refine rg_act 8 ?_
          go_wp2_with (at_builtin; refine Stop.mk ?_)
          refine Stop.out ?_
          refine wpList_appE ct_et rfl rfl (base := w6.heap.size) (k := l + 1) rfl rfl rfl oc (SrcAt.blkC (p := ⟨0, n⟩) xo) (by simp only [maxLen]; omega) (by omega) (by have := be3.size; omega) ?_
          intro ac8 cc8 w84 oc8 on8 _
          rw [← cellsC_append] at oc8
          have be8 : Below w6.heap.size w6 w84 := below_onto be3 on8 be3.size (by rintro z hz ⟨y, hy, he⟩; have := (oc.block hy).1; omega)
          go_wp2_with (fail)
          have hC8 := hbel _ (undrew be8)
          refine ⟨hC8, ?_⟩
          refine rg_quiet 0 [9] hC8 ?_
          simp only [pickD, List.map_cons, List.map_nil, List.getD_cons_zero, List.getD_cons_succ]; repeat (go_big_quiet_step (fail))
          refine wpQuiet_nil ?_
          refine rg_end ?_
          exact ⟨_, _, _, _, _, rfl, be8, oc8⟩
      · rintro a' w7 ⟨v33, v35, v40, ad, cc, rfl, hb7, ho7⟩
        have hcts := ho7.cts (L := C ++ [⟨0, n⟩]) (fun p hp => by
          rcases List.mem_append.1 hp with hp | hp
          · exact HC.out.ok p hp
          · rw [List.mem_singleton.1 hp]; simp; omega)
        have hadb : ∀ x, ad = some x → w.heap.size + 6 ≤ x.block ∧ x.block < w7.heap.size := fun x hx => ⟨by have := (ho7.block hx).1; have := S6.out; omega, (ho7.block hx).2.1⟩
        have s67 := hb7.size
        have hr7 := (HRS.out.below hb7).rebase (base' := w7.heap.size) (by have := S6.out; omega) (Nat.le_refl _)
        have HCT := Lib.hid hcts.2
        have HAD := Lib.hid hadb
        have HR7 := Lib.hid hr7
        have B7 : Hid (Below w.heap.size w w7) := Lib.hid (below_on B6.out hb7 B6.out.size)
        have S67 := Lib.hid s67
        clear hcts hadb hr7 hb7 ho7 s67 HC6
        go_wp2_with (fail)
        go_loopw [12, 13, 14, 15, 16, 43] (fun _ _ _ _ _ i wr => ∃ (k : Nat), i = .int .i64 k ∧ k ≤ l + 1 ∧ Hid (Only (KS w7.heap.size w.heap.size) w7 wr ∧ LoopI T w.heap.size w7.heap.size va vc byv (k = l + 1) wr)) (fun _ _ _ _ _ i _ => l + 1 - (intOf i).toNat)
        case atStart => exact ⟨0, rfl, by omega, Lib.hid ⟨Only.refl _ _, _, _, _, _, HR7.out, fun h9 => by omega⟩⟩
        case round =>
          obtain ⟨k, rfl, hk, hok⟩ := hrel
          by_cases hlt : k < l + 1
          · obtain ⟨onk, s, L, ga, gc, hrs, hdn⟩ := hok.out
            obtain ⟨gb, go, rfl, hgb, p, hpd, _, p0, p1, p2, p3⟩ := ((HCT.out.only onk (fun x hx _ h9 => by
              have h8 := HAD.out x hx
              rcases h9 with h9 | h9
              · omega
              · omega))).at_ (i := k) (by rw [List.length_append, HL.out]; exact hlt)
            obtain ⟨po, pn⟩ := p
            simp only at p0 p1 p2 p3
            have hki : (k : Int) < (l : Int) + 1 := by omega
            obtain ⟨fr, hfr⟩ : ∃ x, min po n = x := ⟨_, rfl⟩
            have hfri : min (po : Int) (n : Int) = (fr : Int) := by omega
            obtain ⟨to, hto⟩ : ∃ x, min (fr + pn) n = x := ⟨_, rfl⟩
            have htoi : min ((fr : Int) + (pn : Int)) (n : Int) = (to : Int) := by omega
            have HFT := Lib.hid (And.intro hfr hto)
            have hft : fr ≤ to ∧ to ≤ n := by omega
            have HRS' := Lib.hid hrs
            have HPD := Lib.hid hpd
            have l3 := hrs.xi.lt
            have l0 := hrs.xb.lt
            have i0 := hrs.xi.cell 0 _ rfl
            have b0 := hrs.xb.cell 0 _ rfl
            rw [HN.out] at b0
            clear hpd hrs hfr hto
            go_wp2_with (fail)
            have PB : Below wr.heap.size wr (wr.alloc (.cells #[.int .u16 po, .int .u16 pn] 104)) := (Below.refl _ _).alloc (Nat.le_refl _) _
            generalize wr.alloc (.cells #[.int .u16 po, .int .u16 pn] 104) = w8 at PB ⊢
            by_cases hfl : to = n
            · have hfl' : n = to := hfl.symm
              clear hfl
              subst hfl'
              have htx := HRS'.out.txt.below PB
              have hcap := htx.le
              have hcm := htx.max
              unfold maxLen at hcm
              rw [HN.out] at hcap
              have hcutS := htx.cut fr n hft.1 (by rw [HN.out]; exact hft.2)
              have hcut := fun W => run_cut_lh (P := Try.prog) u8_et (av := va) (n := n) (cap := vc) (kl := .i64) (kh := .i64) fr n hft.1 (by omega) W
              obtain ⟨sa, hsa⟩ : ∃ x, (if vc = fr then va else va.map (·.add (fr * 1))) = x := ⟨_, rfl⟩
              obtain ⟨sn, hsn⟩ : ∃ x, n - fr = x := ⟨_, rfl⟩
              obtain ⟨sc, hsc⟩ : ∃ x, vc - fr = x := ⟨_, rfl⟩
              have hsq : ∀ x, sa = some x → 0 < sn → x.block ≠ w.heap.size + 2 := fun x hx h0 => by
                obtain ⟨y, hy, hyb⟩ := Sl.cut_block (cap := vc) (a := va) fr x (by rw [hsa]; exact hx)
                have := HRS'.out.vq y hy (by rw [HN.out]; omega)
                omega
              rw [hsa, hsn, hsc] at hcut
              rw [hsa, hsc, hsn] at hcutS
              have hput := iput_any T (w.heap.size + 2) _ s L fr sn sc sa true w8.drew (HRS'.out.below PB.drew).inm (by rw [HN.out]; exact h1) HT8.out (fun b hb => Nat.lt_of_lt_of_le (HRS'.out.zlt b hb) PB.size) (hcutS.below (Below.refl _ _).drew) hsq (by rw [HN.out]; omega) (fun h9 => by first | (rw [HN.out]; omega) | cases h9)
              have HPUT := Lib.hid hput
              have HSN := Lib.hid hsn
              have PBH := Lib.hid PB
              have j3 := (PB.cell (p := ⟨w.heap.size + 3, 0, none⟩) l3).trans i0
              have j0 := (PB.cell (p := ⟨w.heap.size, 0, none⟩) l0).trans b0
              clear htx hcap hcm hcutS hsa hsn hsc hsq hput PB
              go_wp2_with (fail)
              refine rg_start 17 ?_
              refine rg_same fun p hx hne hC => ?_
              have k3 : ∀ z : Wd p, z.w.cell? ⟨w.heap.size + 3, 0, none⟩ = some (.pointer (some ⟨w.heap.size + 2, 0, none⟩)) := fun z => by rw [hx z]; exact j3
              have k0 : ∀ z : Wd p, z.w.cell? ⟨w.heap.size, 0, none⟩ = some (.slice va n vc) := fun z => by rw [hx z]; exact j0
              refine rg_quiet 6 [0,1,2,3,4,5,6,7,8,9,10] hC ?_
              simp only [pickD, List.map_cons, List.map_nil, List.getD_cons_zero, List.getD_cons_succ]; repeat (go_big_quiet_step (fail))
              refine wpQuiet_nil ?_
              refine rg_cut 11 ?_
              go_wp2_with (fail)
              refine HPUT.out.mono ?_
              rintro e w9 hP
              obtain ⟨⟨v, rfl⟩, on9, s', L', r9, hd9⟩ := (HRS'.out.below PBH.out.drew).after hP
              have ks9 : Only (KS w7.heap.size w.heap.size) w7 w9 := (onk.trans (only_of_below PBH.out.drew _)).trans (on9.mono (fun b _ hb => .inl (by omega)))
              have hlast : k = l → po = 0 ∧ pn = n := fun h9 => by
                have h8 := HPD.out
                have h7 : (C ++ [(⟨0, n⟩ : Ct)]).getD C.length default = ⟨0, n⟩ := by simp
                rw [h9, ← HL.out, h7] at h8
                obtain ⟨h3, h4⟩ := Ct.mk.inj h8
                exact ⟨h3.symm, h4.symm⟩
              have hdone : k + 1 = l + 1 → s'.hf = true ∧ s'.rd + s'.bn = T.length := fun h9 => by
                obtain ⟨h3, h4⟩ := hlast (by omega)
                have h5 := HFT.out
                have h6 := HSN.out
                have h7 := HN.out
                exact hd9 (.inr ⟨rfl, by omega, by omega⟩)
              have hread := read_any T w.heap.size w7.heap.size va vc byv s' L' ga gc w9 r9 (by rw [HN.out]; exact h1) HT8.out
              have HREAD := Lib.hid hread
              have KS9 := Lib.hid ks9
              have HD := Lib.hid hdone
              have R9 := Lib.hid r9
              clear hread ks9 hdone hlast hP on9 r9 hd9
              go_wp2_with (fail)
              refine rg_same fun p hx hne hC => ?_
              refine rg_quiet 0 [12,13,14,15,16] hC ?_
              simp only [pickD, List.map_cons, List.map_nil, List.getD_cons_zero, List.getD_cons_succ]; repeat (go_big_quiet_step (fail))
              refine wpQuiet_nil ?_
              refine rg_end ?_
              clear hx hne hC
              go_wp2_with (fail)
              refine HREAD.out.mono ?_
              rintro e w10 hR
              have he : e = .returned (.bool true) := hR.1
              subst he
              have hLI : LoopI T w.heap.size w7.heap.size va vc byv (k + 1 = l + 1) w10 := LoopI.read HD.out hR
              have ks10 : Only (KS w7.heap.size w.heap.size) w7 w10 := KS.only R9.out KS9.out hR.2.1
              have HLI := Lib.hid hLI
              have KS10 := Lib.hid ks10
              clear hR hLI ks10
              go_wp2_with (fail)
              exact ⟨⟨k + 1, by go_num, by omega, Lib.hid ⟨KS10.out, HLI.out⟩⟩, by simp [intOf]; omega⟩
            · have hfli : ((to : Int) == (n : Int)) = false := by simp; omega
              have htx := HRS'.out.txt.below PB
              have hcap := htx.le
              have hcm := htx.max
              unfold maxLen at hcm
              rw [HN.out] at hcap
              have hcutS := htx.cut fr to hft.1 (by rw [HN.out]; exact hft.2)
              have hcut := fun W => run_cut_lh (P := Try.prog) u8_et (av := va) (n := n) (cap := vc) (kl := .i64) (kh := .i64) fr to hft.1 (by omega) W
              obtain ⟨sa, hsa⟩ : ∃ x, (if vc = fr then va else va.map (·.add (fr * 1))) = x := ⟨_, rfl⟩
              obtain ⟨sn, hsn⟩ : ∃ x, to - fr = x := ⟨_, rfl⟩
              obtain ⟨sc, hsc⟩ : ∃ x, vc - fr = x := ⟨_, rfl⟩
              have hsq : ∀ x, sa = some x → 0 < sn → x.block ≠ w.heap.size + 2 := fun x hx h0 => by
                obtain ⟨y, hy, hyb⟩ := Sl.cut_block (cap := vc) (a := va) fr x (by rw [hsa]; exact hx)
                have := HRS'.out.vq y hy (by rw [HN.out]; omega)
                omega
              rw [hsa, hsn, hsc] at hcut
              rw [hsa, hsc, hsn] at hcutS
              have hput := iput_any T (w.heap.size + 2) _ s L fr sn sc sa false w8.drew (HRS'.out.below PB.drew).inm (by rw [HN.out]; exact h1) HT8.out (fun b hb => Nat.lt_of_lt_of_le (HRS'.out.zlt b hb) PB.size) (hcutS.below (Below.refl _ _).drew) hsq (by rw [HN.out]; omega) (fun h9 => by first | (rw [HN.out]; omega) | cases h9)
              have HPUT := Lib.hid hput
              have HSN := Lib.hid hsn
              have PBH := Lib.hid PB
              have j3 := (PB.cell (p := ⟨w.heap.size + 3, 0, none⟩) l3).trans i0
              have j0 := (PB.cell (p := ⟨w.heap.size, 0, none⟩) l0).trans b0
              clear htx hcap hcm hcutS hsa hsn hsc hsq hput PB
              go_wp2_with (fail)
              refine rg_start 17 ?_
              refine rg_same fun p hx hne hC => ?_
              have k3 : ∀ z : Wd p, z.w.cell? ⟨w.heap.size + 3, 0, none⟩ = some (.pointer (some ⟨w.heap.size + 2, 0, none⟩)) := fun z => by rw [hx z]; exact j3
              have k0 : ∀ z : Wd p, z.w.cell? ⟨w.heap.size, 0, none⟩ = some (.slice va n vc) := fun z => by rw [hx z]; exact j0
              refine rg_quiet 6 [0,1,2,3,4,5,6,7,8,9,10] hC ?_
              simp only [pickD, List.map_cons, List.map_nil, List.getD_cons_zero, List.getD_cons_succ]; repeat (go_big_quiet_step (fail))
              refine wpQuiet_nil ?_
              refine rg_cut 11 ?_
              go_wp2_with (fail)
              refine HPUT.out.mono ?_
              rintro e w9 hP
              obtain ⟨⟨v, rfl⟩, on9, s', L', r9, hd9⟩ := (HRS'.out.below PBH.out.drew).after hP
              have ks9 : Only (KS w7.heap.size w.heap.size) w7 w9 := (onk.trans (only_of_below PBH.out.drew _)).trans (on9.mono (fun b _ hb => .inl (by omega)))
              have hlast : k = l → po = 0 ∧ pn = n := fun h9 => by
                have h8 := HPD.out
                have h7 : (C ++ [(⟨0, n⟩ : Ct)]).getD C.length default = ⟨0, n⟩ := by simp
                rw [h9, ← HL.out, h7] at h8
                obtain ⟨h3, h4⟩ := Ct.mk.inj h8
                exact ⟨h3.symm, h4.symm⟩
              have hdone : k + 1 = l + 1 → s'.hf = true ∧ s'.rd + s'.bn = T.length := fun h9 => by
                obtain ⟨h3, h4⟩ := hlast (by omega)
                have h5 := HFT.out
                have h6 := HSN.out
                have h7 := HN.out
                omega
              have hread := read_any T w.heap.size w7.heap.size va vc byv s' L' ga gc w9 r9 (by rw [HN.out]; exact h1) HT8.out
              have HREAD := Lib.hid hread
              have KS9 := Lib.hid ks9
              have HD := Lib.hid hdone
              have R9 := Lib.hid r9
              clear hread ks9 hdone hlast hP on9 r9 hd9
              go_wp2_with (fail)
              refine rg_same fun p hx hne hC => ?_
              refine rg_quiet 0 [12,13,14,15,16] hC ?_
              simp only [pickD, List.map_cons, List.map_nil, List.getD_cons_zero, List.getD_cons_succ]; repeat (go_big_quiet_step (fail))
              refine wpQuiet_nil ?_
              refine rg_end ?_
              clear hx hne hC
              go_wp2_with (fail)
              refine HREAD.out.mono ?_
              rintro e w10 hR
              have he : e = .returned (.bool true) := hR.1
              subst he
              have hLI : LoopI T w.heap.size w7.heap.size va vc byv (k + 1 = l + 1) w10 := LoopI.read HD.out hR
              have ks10 : Only (KS w7.heap.size w.heap.size) w7 w10 := KS.only R9.out KS9.out hR.2.1
              have HLI := Lib.hid hLI
              have KS10 := Lib.hid ks10
              clear hR hLI ks10
              go_wp2_with (fail)
              exact ⟨⟨k + 1, by go_num, by omega, Lib.hid ⟨KS10.out, HLI.out⟩⟩, by simp [intOf]; omega⟩
          · have hki : ¬ (k : Int) < (l : Int) + 1 := by omega
            obtain ⟨onk, s, L, ga, gc, hrs, hdn⟩ := hok.out
            obtain ⟨hhf, hall⟩ := hdn (by omega)
            have b0 := hrs.xb.cell 0 _ rfl
            have l0 := hrs.xb.lt
            rw [HN.out] at b0
            have HE0 : Hid (∃ byv', (0 < 0 → 0 < byv') ∧ EndI T w.heap.size w7.heap.size va vc byv' 0 wr) := Lib.hid ⟨byv, fun h9 => absurd h9 (Nat.lt_irrefl 0), s, L, ga, gc, hrs, hhf, hall, .inr (Nat.zero_le _)⟩
            clear hrs hdn hhf hall hok
            go_wp2_with (fail)
            have HON := Lib.hid onk
            clear onk
            go_loopw [87] (fun i wq => ∃ (j : Nat), i = .int .i64 j ∧ j ≤ n + 2 ∧ Hid (Only (KS w7.heap.size w.heap.size) w7 wq ∧ ∃ byv', (0 < j → 0 < byv') ∧ EndI T w.heap.size w7.heap.size va vc byv' j wq)) (fun i _ => n + 2 - (intOf i).toNat)
            case atStart => exact ⟨0, rfl, by omega, Lib.hid ⟨HON.out, HE0.out⟩⟩
            case round =>
              obtain ⟨j, rfl, hj, hok⟩ := hrel
              by_cases hlj : j < n + 2
              · obtain ⟨onj, byv', hb0, s, L, ga, gc, hrs, hE⟩ := hok.out
                have hji : (j : Int) < (n : Int) + 2 := by omega
                have y0 := hrs.xy.cell 0 _ rfl
                have yf := hrs.xy.free 0
                have ly := hrs.xy.lt
                have hby' := hrs.by8
                have HRS2 := Lib.hid hrs
                have HE := Lib.hid hE
                clear hrs hE hok hb0
                by_cases hz : byv' = 0
                · subst hz
                  go_wp2_with (fail)
                  refine (read_any T w.heap.size w7.heap.size va vc 1 s L ga gc _ HRS2.out.by1 (by rw [HN.out]; exact h1) HT8.out).mono ?_
                  rintro e w10 hR
                  have he : e = .returned (.bool true) := hR.1
                  subst he
                  have hE1 : EndI T w.heap.size w7.heap.size va vc 1 (j + 1) w10 := EndI.step HE.out HRS2.out.by1 (by omega) hR
                  have ks10 : Only (KS w7.heap.size w.heap.size) w7 w10 := KS.only HRS2.out.by1 (onj.setCell (p := ⟨w.heap.size + 1, 0, none⟩) (.inl (Or.inl ⟨by simp, by simp⟩)) _) hR.2.1
                  have HE1 := Lib.hid hE1
                  have KS10 := Lib.hid ks10
                  clear hR hE1 ks10
                  go_wp2_with (fail)
                  exact ⟨⟨j + 1, by go_num, by omega, Lib.hid ⟨KS10.out, 1, fun _ => by omega, HE1.out⟩⟩, by simp [intOf]; omega⟩
                · have hzi : ((byv' : Int) == 0) = false := by simp; omega
                  go_wp2_with (fail)
                  refine (read_any T w.heap.size w7.heap.size va vc byv' s L ga gc _ HRS2.out (by rw [HN.out]; exact h1) HT8.out).mono ?_
                  rintro e w10 hR
                  have he : e = .returned (.bool true) := hR.1
                  subst he
                  have hE1 : EndI T w.heap.size w7.heap.size va vc byv' (j + 1) w10 := EndI.step HE.out HRS2.out (by omega) hR
                  have ks10 : Only (KS w7.heap.size w.heap.size) w7 w10 := KS.only HRS2.out onj hR.2.1
                  have HE1 := Lib.hid hE1
                  have KS10 := Lib.hid ks10
                  clear hR hE1 ks10
                  go_wp2_with (fail)
                  exact ⟨⟨j + 1, by go_num, by omega, Lib.hid ⟨KS10.out, byv', fun _ => by omega, HE1.out⟩⟩, by simp [intOf]; omega⟩
              · have hji : ¬ (j : Int) < (n : Int) + 2 := by omega
                obtain ⟨onj, byv', _, hE⟩ := hok.out
                obtain rfl : j = n + 2 := by omega
                rw [← HN.out] at hE
                obtain ⟨s, L, ga, gc, hrs, hfr, hrd⟩ := hE.over
                have e0 := hrs.xe.cell 0 _ rfl
                have g0 := hrs.xg.cell 0 _ rfl
                have i0 := hrs.xi.cell 0 _ rfl
                have b0 := hrs.xb.cell 0 _ rfl
                have hgs := hrs.got
                rw [hfr] at e0
                rw [hrd] at g0 hgs
                rw [List.take_length] at hgs
                have GS : Hid (Sl .u8 wr ga gc T) := Lib.hid (hgs.sl HT8.out).2
                have TS : Hid (Sl .u8 wr va vc T) := Lib.hid hrs.txt
                have HOV := Lib.hid (iover_any (w.heap.size + 2) s wr hrs.inm.blk hfr)
                have bw : Below w.heap.size w wr := below_onto B7.out onj (by have := S67.out; have := S6.out; omega) (fun z hz h9 => by
                  have := S67.out; have := S6.out
                  rcases h9 with h9 | h9
                  · omega
                  · omega)
                have BW := Lib.hid bw
                rw [HN.out] at g0 b0
                clear hok onj hE hrs hgs bw hfr hrd
                have HLT : Hid (n = T.length) := Lib.hid HN.out.symm
                go_wp2_with (with_reducible refine stop_str ?_)
                refine Stop.out ?_
                refine wpList_str Try.underlying47 Try.underlying5 Try.underlying9 rfl rfl rfl HLT.out GS.out.ints ?_
                go_wp2_with (with_reducible refine stop_str ?_)
                refine Stop.out ?_
                refine wpList_str Try.underlying47 Try.underlying5 Try.underlying9 rfl rfl rfl HLT.out TS.out.ints ?_
                refine wpList_same rfl rfl rfl rfl ?_
                go_wp2_with (fail)
                refine HOV.out.mono ?_
                rintro e w11 ⟨hb11, rfl⟩
                have B11 := Lib.hid hb11
                clear hb11
                go_wp2_with (fail)
                refine (ioworks_any _).mono ?_
                rintro e w12 ⟨rfl, hb12⟩
                have b12 := below_on (below_on BW.out B11.out BW.out.size) hb12 (Nat.le_trans BW.out.size B11.out.size)
                clear hb12
                go_wp2_with (fail)
                go_returns
                exact ⟨rfl, b12⟩
    · have g1 : ¬ (n : Int) > 3000 := by omega
      have g2 : (l : Int) > 200 := by omega
      go_enter Try.func6, Try.ntmps6
      go_wp2_with (fail)
      refine (ioworks_any _).mono ?_
      rintro e w1 ⟨rfl, hb1⟩
      go_wp2_with (fail)
      go_returns
      exact ⟨rfl, below_on (((Below.refl _ _).alloc (Nat.le_refl _) _).alloc (by simp) _) hb1 (by simp; omega)⟩
  · have g1 : (n : Int) > 3000 := by omega
    go_enter Try.func6, Try.ntmps6
    go_wp2_with (fail)
    refine (ioworks_any _).mono ?_
    rintro e w1 ⟨rfl, hb1⟩
    go_wp2_with (fail)
    go_returns
    exact ⟨rfl, below_on (((Below.refl _ _).alloc (Nat.le_refl _) _).alloc (by simp) _) hb1 (by simp; omega)⟩
section
variable {H : Type} {enc : TypeId × Value → H} {w : World} {base : Nat} {v : Value} {d : DataW H} {p : List MemPlace}
set_option maxRecDepth 100000 in
theorem open_cts (o : Value.okWide Try.prog w .any base 97 v) (h : DataW.Trod enc Try.prog w 0 (fun _ => true) true 97 v d p) : ∃ a L cap, v = .slice a L.length cap ∧ Cts w a cap L := by
  obtain ⟨a, len, cap, V, rfl, h1, h2, h3, hall⟩ := open_structslice (nf := 2) Try.underlying97 Try.underlying104 rfl (by kernel_rfl) (by kernel_rfl) (by omega) o h
  have each : ∀ i, i < len → ∃ b off, a = some ⟨b, off, none⟩ ∧ b < w.heap.size ∧ ∃ x y : Nat, x ≤ 65535 ∧ y ≤ 65535 ∧ intOf (V i 0) = x ∧ intOf (V i 1) = y ∧ w.cell? ⟨b, off + i * 2, none⟩ = some (.int .u16 x) ∧ w.cell? ⟨b, off + i * 2 + 1, none⟩ = some (.int .u16 y) := by
    intro i hi
    obtain ⟨b, off, ha, hb, hc⟩ := hall i hi
    obtain ⟨c0, n0, y0, t0⟩ := hc 0 _ rfl
    obtain ⟨c1, n1, y1, t1⟩ := hc 1 _ rfl
    obtain ⟨m0, e0, _, w0⟩ := DataW.trod_int Try.underlying35 t0
    obtain ⟨m1, e1, _, w1⟩ := DataW.trod_int Try.underlying35 t1
    simp at e0 e1
    have u0 := bounds_u16 w0
    have u1 := bounds_u16 w1
    refine ⟨b, off, ha, hb, m0.toNat, m1.toNat, by omega, by omega, ?_, ?_, ?_, ?_⟩
    · rw [e0]; simp only [intOf]; omega
    · rw [e1]; simp only [intOf]; omega
    · rw [e0] at c0; rw [show ((m0.toNat : Nat) : Int) = m0 by omega]; exact c0
    · rw [e1] at c1; rw [show ((m1.toNat : Nat) : Int) = m1 by omega]; exact c1
  have hlen : ((List.range len).map fun i => (⟨(intOf (V i 0)).toNat, (intOf (V i 1)).toNat⟩ : Ct)).length = len := by simp
  refine ⟨a, (List.range len).map fun i => (⟨(intOf (V i 0)).toNat, (intOf (V i 1)).toNat⟩ : Ct), cap, by rw [hlen], fun i hi => ?_, fun ha => (h3 ha).2, by rw [hlen]; exact h1, h2, fun c hc => ?_⟩
  · rw [hlen] at hi
    obtain ⟨b, off, ha, hb, x, y, hx, hy, ex, ey, k0, k1⟩ := each i hi
    refine ⟨b, off, ha, hb, fun j u hj => ?_⟩
    have eg : ((List.range len).map fun i => (⟨(intOf (V i 0)).toNat, (intOf (V i 1)).toNat⟩ : Ct)).getD i default = ⟨x, y⟩ := by simp [hi, ex, ey]
    rw [eg] at hj
    match j with
    | 0 => simp [encC] at hj; rw [← hj]; exact k0
    | 1 => simp [encC] at hj; rw [← hj]; exact k1
    | j + 2 => simp [encC] at hj
  · obtain ⟨i, hi, rfl⟩ := List.mem_map.1 hc
    obtain ⟨b, off, ha, hb, x, y, hx, hy, ex, ey, k0, k1⟩ := each i (List.mem_range.1 hi)
    simp only [ex, ey]
    omega
end
set_option maxRecDepth 100000 in
theorem walk_InOrder (H : Type) (enc : TypeId × Value → H) (w : World) (base : Nat) (v0 : Value) (d0 : DataW H) (p0 : List MemPlace) (v1 : Value) (d1 : DataW H) (p1 : List MemPlace) (v2 : Value) (d2 : DataW H) (p2 : List MemPlace)
    (o0 : Value.okWide Try.prog w .any base 47 v0) (h0 : DataW.Trod enc Try.prog w 0 (fun _ => true) true 47 v0 d0 p0)
    (o1 : Value.okWide Try.prog w .any base 97 v1) (h1 : DataW.Trod enc Try.prog w 0 (fun _ => true) true 97 v1 d1 p1)
    (o2 : Value.okWide Try.prog w .any base 5 v2) (h2 : DataW.Trod enc Try.prog w 0 (fun _ => true) true 5 v2 d2 p2) :
    Calls Try.prog 6 #[v0, v1, v2] w fun e w' => e = .returned (.bool true) ∧ Below w.heap.size w w' := by
  obtain ⟨a0, B, c0, rfl, hB⟩ := open_sl Try.underlying47 Try.underlying5 (by kernel_rfl) o0 h0
  obtain ⟨a1, C, c1, rfl, hC⟩ := open_cts o1 h1
  obtain ⟨x2, rfl, rfl, rfl, wx2⟩ := ChangeShapes.open_int Try.underlying5 o2 h2
  have hx2 := bounds_u8 wx2
  obtain ⟨rm, rfl⟩ : ∃ rm : Nat, x2 = rm := ⟨x2.toNat, by omega⟩
  exact order_law a0 a1 c0 c1 rm B C w hB hC (by omega)
end Go.Proofs.Yticnjdlapioppaa
