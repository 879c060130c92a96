/- In: rows of bytes: Clone, Grow, Concat of one and of two. -/
import Derived.Test.YticnjdlapioppaaSo7
namespace Go.Proofs.Yticnjdlapioppaa
open Go.RowKit
set_option linter.unusedVariables false

theorem u8_et : ET Try.prog 47 5 1 1 := et_of (by kernel_rfl)
def bytesV (L : List Int) : List Value := L.map (Value.int .u8)
theorem bytesV_append (A B : List Int) : bytesV (A ++ B) = bytesV A ++ bytesV B := by simp [bytesV]
set_option maxRecDepth 100000 in
theorem bclone_any (a : Option Addr) (n c : Nat) (L : List Int) (w : World) (hn : n = L.length) (h : Sl .u8 w a c L) (hl : L.length ≤ 1000000) :
    Calls Try.prog 48 #[.slice a n c] w fun e w' => Below w.heap.size w w' ∧ ∃ a' c', e = .returned (.slice a' n c') ∧ OwnS w' w.heap.size 5 1 a' n c' (bytesV L) := by
  have hq : ∀ (w : World) (a : Option Addr) (n c n' c' : Nat), (binOp .eql 47 (.slice a n c) (.slice none n' c')).run Try.prog w = .ok (.bool a.isNone) w := fun w a n c n' c' => Lib.run_eql_slice_nil w _ _ a n c n' c' Try.underlying47
  have hn1 : n ≤ 1000000 := by omega
  cases a with
  | none =>
    have h0 := h.nul rfl
    have hle := h.le
    have hL : L = [] := List.length_eq_zero_iff.1 (by omega)
    subst hL
    simp at hn
    subst hn h0
    clear h hl hle
    go_enter Try.func48, Try.ntmps48
    go_wp2_with (fail)
    go_returns
    exact ⟨Below.refl _ _, none, 0, rfl, OwnS.nil _ _ _ _⟩
  | some x =>
    have HS := Lib.hid h
    have HN := Lib.hid hn
    clear h hn hl
    go_enter Try.func48, Try.ntmps48
    go_wp2_with (at_builtin; refine Stop.mk ?_)
    refine Stop.out ?_
    refine wpList_app u8_et rfl rfl (base := w.heap.size) (xs := []) rfl rfl (OwnS.new w w.heap.size (Nat.le_refl _) 5 1 0 #[] (by simp [maxLen]) rfl) (by have h9 := (HS.out.below ((Below.refl _ _).alloc (Nat.le_refl _) (.cells #[] 5))).src; rw [← HN.out] at h9; exact h9) (by simp only [maxLen]; omega) (by omega) (by simp) ?_
    intro a2 c2 w2 ho2 on2 _
    have b2 : Below w.heap.size w w2 := below_onto ((Below.refl _ _).alloc (Nat.le_refl _) _) on2 (by simp) (by rintro z hz ⟨y, hy, rfl⟩; cases hy; simp at hz)
    rw [Nat.zero_add, List.nil_append] at ho2
    have HO := Lib.hid ho2
    clear ho2 on2
    simp only [Nat.zero_add]
    go_wp2_with (fail)
    go_returns
    exact ⟨b2, a2, c2, rfl, HO.out⟩

section
variable {P : Program} {t e : TypeId} {bytes : Nat}
theorem run_cut_h1 (hE : ET P t e 1 bytes) {av : Option Addr} {n cap m : Nat} {kh : IntKind} (hm : m ≤ cap) (w : World) : (Instr.sliceAt t (.slice av n cap) none (some (.int kh m)) none).run P w = .ok (.slice av m cap) w := by
  obtain ⟨ht, hz⟩ := hE.elem
  rw [run_sliceAt_slice (h := ht), run_slice_h (ht := ht) (h0 := by omega) (h2 := by omega), hz]
  have hv : sliced av 0 m cap 1 = .slice av m cap := by
    unfold sliced
    cases av with
    | none => simp
    | some y => by_cases hc : cap = 0 <;> simp [hc, Addr.add]
  simp [Result.andThen, hv]
end
set_option maxRecDepth 100000 in
/-- Grow of nothing. -/
theorem bgrow_any (n : Nat) (w : World) (hn : n ≤ 1000000) :
    Calls Try.prog 66 #[.slice none 0 0, .int .i64 n] w fun e w' => Below w.heap.size w w' ∧ ∃ a' c', e = .returned (.slice a' 0 c') ∧ OwnS w' w.heap.size 5 1 a' 0 c' [] := by
  rcases Nat.eq_zero_or_pos n with rfl | hpos
  · go_enter Try.func66, Try.ntmps66
    go_wp2_with (fail)
    go_returns
    exact ⟨Below.refl _ _, none, 0, rfl, OwnS.nil _ _ _ _⟩
  · obtain ⟨i0, z, ht, hi0, hz0, hs1, hb1, hzs, _⟩ := u8_et
    have hold : (Builtin.firstCells i0.size 0 (.slice none 0 0)).run Try.prog w.drew = .ok (#[] : Array Value) w.drew := run_firstCells_none w.drew i0.size 0 0 0
    have hrz : ∀ ty, (Builtin.append_ #[47, 3] ty #[.slice none 0 0, .int .i64 n]).run Try.prog w = .ok (.slice (some ⟨w.heap.size, 0, none⟩) n (grownCap w n 0 5)) (w.drew.alloc (.cells (#[] ++ Builtin.zeroCells z.cells n ++ Builtin.zeroCells z.cells (grownCap w n 0 5 - n)) 5)) := fun ty => by
      have h := Lib.run_append_grow_zeros w 47 3 ty 5 i0 z .i64 .i64 Try.underlying47 Try.underlying3 hi0 hz0 none 0 0 [] (by simpa using hold) n hpos (by omega) (by omega) (by omega) (by rw [hb1]; omega)
        (growslice_fits (by omega) (by rw [hb1]; omega))
      simpa using h
    have hGn : n ≤ grownCap w n 0 5 := grownCap_ge w _ _ _
    have hG63 : grownCap w n 0 5 ≤ maxLen := grownCap_le_maxLen w n 0 5 (by unfold maxLen; omega)
    obtain ⟨G, hG⟩ : ∃ G, G = grownCap w n 0 5 := ⟨_, rfl⟩
    rw [← hG] at hrz hGn hG63
    have hsize : (#[] ++ Builtin.zeroCells z.cells n ++ Builtin.zeroCells z.cells (G - n)).size = G * 1 := by
      simp only [Array.size_append, size_zeroCells, hzs]
      simp
      omega
    generalize #[] ++ Builtin.zeroCells z.cells n ++ Builtin.zeroCells z.cells (G - n) = cs at hrz hsize
    clear hold hG ht hi0 hz0 hs1 hb1 hzs
    have hposI : (n : Int) > 0 := by omega
    have HG := Lib.hid hG63
    unfold maxLen at hG63
    have hcut := fun w' => run_cut_h1 (P := Try.prog) u8_et (av := some ⟨w.heap.size, 0, none⟩) (n := n) (cap := G) (kh := .i64) (m := 0) (Nat.zero_le _) w'
    go_enter Try.func66, Try.ntmps66
    go_wp2_with (at_builtin; refine Lib.wpList_append_run _ rfl _ _ _ _ rfl _ _ rfl rfl _ _ (hrz _) ?_)
    go_returns
    refine ⟨(Below.refl _ _).drew.alloc (Nat.le_refl _) _, some ⟨w.heap.size, 0, none⟩, G, rfl, by simp, .inr ⟨w.heap.size, G, cs, rfl, Nat.le_refl _, Blk.new w.drew cs _, Nat.zero_le _, HG.out, hsize, by simp⟩⟩
set_option maxRecDepth 100000 in
set_option maxHeartbeats 1000000 in
theorem bconcat2_any (q : Nat) (a b : Option Addr) (n m cap cap' : Nat) (A B : List Int) (w : World) (hn : n = A.length) (hm : m = B.length) (hq : Blk w q #[.slice a n cap, .slice b m cap'] 47) (hA : Sl .u8 w a cap A) (hB : Sl .u8 w b cap' B) (lA : A.length ≤ 400000) (lB : B.length ≤ 400000) :
    Calls Try.prog 54 #[.slice (some ⟨q, 0, none⟩) 2 2] w fun e w' => Below w.heap.size w w' ∧ ∃ a' c', e = .returned (.slice a' (n + m) c') ∧ OwnS w' w.heap.size 5 1 a' (n + m) c' (bytesV (A ++ B)) := by
  have hqlt := hq.lt
  have c0 := hq.cell 0 _ rfl
  have c1 := hq.cell 1 _ rfl
  have hn1 : n ≤ 400000 := by omega
  have hm1 : m ≤ 400000 := by omega
  have HA : Hid (∀ W, Below w.heap.size w W → SrcAt W a n cap 1 (bytesV A)) := Lib.hid (fun W hW => by have := (hA.below hW).src; rw [← hn] at this; exact this)
  have HB : Hid (∀ W, Below w.heap.size w W → SrcAt W b m cap' 1 (bytesV B)) := Lib.hid (fun W hW => by have := (hB.below hW).src; rw [← hm] at this; exact this)
  have hgr := bgrow_any (n + m) w (by omega)
  rw [Int.natCast_add] at hgr
  have HG := Lib.hid hgr
  clear hq hA hB hgr hn hm lA lB
  go_enter Try.func54, Try.ntmps54
  go_wp2_with (fail)
  refine wp_loop_rounds 3 ?_
  rw [rounds_succ]
  go_wp2_with (fail)
  rw [rounds_succ]
  go_wp2_with (fail)
  rw [rounds_succ]
  go_wp2_with (fail)
  refine HG.out.mono ?_
  rintro e w1 ⟨hb1, a1, cc1, rfl, ho1⟩
  have d0 := (hb1.cell (p := ⟨q, 0, none⟩) hqlt).trans c0
  have d1 := (hb1.cell (p := ⟨q, 1, none⟩) hqlt).trans c1
  have HO1 := Lib.hid ho1
  have HB1 := Lib.hid hb1
  clear ho1 hb1 HG
  go_wp2_with (fail)
  refine wp_loop_rounds 3 ?_
  rw [rounds_succ]
  go_wp2_with (at_builtin; refine Stop.mk ?_)
  refine Stop.out ?_
  refine wpList_app u8_et rfl rfl (base := w.heap.size) rfl rfl HO1.out (HA.out _ HB1.out) (by simp only [maxLen]; omega) (by omega) HB1.out.size ?_
  intro a2 cc2 w2 ho2 on2 _
  rw [Nat.zero_add, List.nil_append] at ho2
  simp only [Nat.zero_add]
  have b2 : Below w.heap.size w w2 := below_onto HB1.out on2 HB1.out.size (by rintro z hz ⟨y, hy, rfl⟩; have := (HO1.out.block hy).1; omega)
  have f1 := (b2.cell (p := ⟨q, 1, none⟩) hqlt).trans c1
  have HO2 := Lib.hid ho2
  have HB2 := Lib.hid b2
  clear ho2 on2 b2
  go_wp2_with (fail)
  rw [rounds_succ]
  go_wp2_with (at_builtin; refine Stop.mk ?_)
  refine Stop.out ?_
  refine wpList_app u8_et rfl rfl (base := w.heap.size) rfl rfl HO2.out (HB.out _ HB2.out) (by simp only [maxLen]; omega) (by omega) HB2.out.size ?_
  intro a3 cc3 w3 ho3 on3 _
  have b3 : Below w.heap.size w w3 := below_onto HB2.out on3 HB2.out.size (by rintro z hz ⟨y, hy, rfl⟩; have := (HO2.out.block hy).1; omega)
  rw [← bytesV_append] at ho3
  have HO3 := Lib.hid ho3
  have HB3 := Lib.hid b3
  clear ho3 on3 b3
  go_wp2_with (fail)
  rw [rounds_succ]
  go_wp2_with (fail)
  go_returns
  exact ⟨HB3.out, a3, cc3, rfl, HO3.out⟩
end Go.Proofs.Yticnjdlapioppaa
