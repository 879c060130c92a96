/- In: rows of pieces: Clone, Grow, Concat of two. -/
import Derived.Test.YticnjdlapioppaaSo8
namespace Go.Proofs.Yticnjdlapioppaa
open Go.RowKit
set_option linter.unusedVariables false

theorem run_cut_hQ {g n cap : Nat} (m : Nat) (h2 : m ≤ cap) (w : World) : (Instr.sliceAt 69 (.slice (some ⟨g, 0, none⟩) n cap) none (some (.int .i64 m)) none).run Try.prog w = .ok (.slice (some ⟨g, 0, none⟩) m cap) w := by
  obtain ⟨ht, hz⟩ := (pc_et).elem
  rw [run_sliceAt_slice (h := ht), run_slice_h (ht := ht) (h0 := by omega) (h2 := by omega), hz]
  simp [Result.andThen, sliced, addr_add]
set_option maxRecDepth 100000 in
/-- Clone. -/
theorem qclone_any (a : Option Addr) (n cap : Nat) (L : List Pc) (w : World) (hn : n = L.length) (hR : Qs w a cap L) (hbig : L.length ≤ 1000000) :
    Calls Try.prog 55 #[.slice a n cap] w fun e w' => Below w.heap.size w w' ∧ ∃ a' c', e = .returned (.slice a' L.length c') ∧ OwnS w' w.heap.size 130 2 a' L.length c' (cellsQ L) := by
  subst hn
  have hq : ∀ (w : World) (a : Option Addr) (n c n' c' : Nat), (binOp .eql 69 (.slice a n c) (.slice none n' c')).run Try.prog w = .ok (.bool a.isNone) w := fun w a n c n' c' => Lib.run_eql_slice_nil w _ _ a n c n' c' Try.underlying69
  have HR := Lib.hid hR
  cases a with
  | none =>
    have h0 := hR.nul rfl
    have hle := hR.le
    have : L = [] := List.length_eq_zero_iff.1 (by omega)
    subst this
    clear hR
    go_enter Try.func55, Try.ntmps55
    go_wp2_with (fail)
    go_returns
    exact ⟨Below.refl _ _, none, 0, rfl, OwnS.nil _ _ _ _⟩
  | some x =>
    have hlen := hR.len
    unfold maxLen at hlen
    clear hR
    go_enter Try.func55, Try.ntmps55
    go_wp2_with (at_builtin; refine Stop.mk ?_)
    refine Stop.out ?_
    refine wpList_app pc_et rfl rfl (base := w.heap.size) (xs := []) rfl rfl (OwnS.new w w.heap.size (Nat.le_refl _) 130 2 0 #[] (by simp [maxLen]) rfl) ((HR.out.below ((Below.refl _ _).alloc (Nat.le_refl _) _)).src rfl) (by simp only [maxLen]; omega) (by omega) (by simp) ?_
    intro a2 c2 w2 ho2 on2 _
    have b2 : Below w.heap.size w w2 := below_onto ((Below.refl _ _).alloc (Nat.le_refl _) _) on2 (by simp) (by rintro z hz ⟨y, hy, rfl⟩; cases hy; simp at hz)
    rw [Nat.zero_add, List.nil_append] at ho2
    have HO := Lib.hid ho2
    clear ho2 on2
    simp only [Nat.zero_add]
    go_wp2_with (fail)
    go_returns
    exact ⟨b2, a2, c2, rfl, HO.out⟩

set_option maxRecDepth 100000 in
/-- Grow of nothing. -/
theorem qgrow_any (n : Nat) (w : World) (hn : n ≤ 1000000) :
    Calls Try.prog 69 #[.slice none 0 0, .int .i64 n] w fun e w' => Below w.heap.size w w' ∧ ∃ a' c', e = .returned (.slice a' 0 c') ∧ OwnS w' w.heap.size 130 2 a' 0 c' [] := by
  rcases Nat.eq_zero_or_pos n with rfl | hpos
  · go_enter Try.func69, Try.ntmps69
    go_wp2_with (fail)
    go_returns
    exact ⟨Below.refl _ _, none, 0, rfl, OwnS.nil _ _ _ _⟩
  · obtain ⟨i0, z, ht, hi0, hz0, hs1, hb1, hzs, _⟩ := pc_et
    have hold : (Builtin.firstCells i0.size 0 (.slice none 0 0)).run Try.prog w.drew = .ok (#[] : Array Value) w.drew := run_firstCells_none w.drew i0.size 0 0 0
    have hrz : ∀ ty, (Builtin.append_ #[69, 3] ty #[.slice none 0 0, .int .i64 n]).run Try.prog w = .ok (.slice (some ⟨w.heap.size, 0, none⟩) n (grownCap w n 0 130)) (w.drew.alloc (.cells (#[] ++ Builtin.zeroCells z.cells n ++ Builtin.zeroCells z.cells (grownCap w n 0 130 - n)) 130)) := fun ty => by
      have h := Lib.run_append_grow_zeros w 69 3 ty 130 i0 z .i64 .i64 Try.underlying69 Try.underlying3 hi0 hz0 none 0 0 [] (by simpa using hold) n hpos (by omega) (by omega) (by omega) (by rw [hb1]; omega)
        (growslice_fits (by omega) (by rw [hb1]; omega))
      simpa using h
    have hGn : n ≤ grownCap w n 0 130 := grownCap_ge w _ _ _
    have hG63 : grownCap w n 0 130 ≤ maxLen := grownCap_le_maxLen w n 0 130 (by unfold maxLen; omega)
    obtain ⟨G, hG⟩ : ∃ G, G = grownCap w n 0 130 := ⟨_, rfl⟩
    rw [← hG] at hrz hGn hG63
    have hsize : (#[] ++ Builtin.zeroCells z.cells n ++ Builtin.zeroCells z.cells (G - n)).size = G * 2 := by
      simp only [Array.size_append, size_zeroCells, hzs]
      simp
      omega
    generalize #[] ++ Builtin.zeroCells z.cells n ++ Builtin.zeroCells z.cells (G - n) = cs at hrz hsize
    clear hold hG ht hi0 hz0 hs1 hb1 hzs
    have hposI : (n : Int) > 0 := by omega
    have HG := Lib.hid hG63
    unfold maxLen at hG63
    have hcut := fun w' => run_cut_hQ (g := w.heap.size) (n := n) (cap := G) 0 (Nat.zero_le _) w'
    go_enter Try.func69, Try.ntmps69
    go_wp2_with (at_builtin; refine Lib.wpList_append_run _ rfl _ _ _ _ rfl _ _ rfl rfl _ _ (hrz _) ?_)
    go_returns
    refine ⟨(Below.refl _ _).drew.alloc (Nat.le_refl _) _, some ⟨w.heap.size, 0, none⟩, G, rfl, by simp, .inr ⟨w.heap.size, G, cs, rfl, Nat.le_refl _, Blk.new w.drew cs _, Nat.zero_le _, HG.out, hsize, by simp⟩⟩
set_option maxRecDepth 100000 in
set_option maxHeartbeats 1000000 in
theorem qconcat_any (q : Nat) (a b : Option Addr) (n m cap cap' : Nat) (A B : List Pc) (w : World) (hn : n = A.length) (hm : m = B.length) (hq : Blk w q #[.slice a n cap, .slice b m cap'] 69) (hA : Qs w a cap A) (hB : Qs w b cap' B) (lA : A.length ≤ 400000) (lB : B.length ≤ 400000) :
    Calls Try.prog 62 #[.slice (some ⟨q, 0, none⟩) 2 2] w fun e w' => Below w.heap.size w w' ∧ ∃ a' c', e = .returned (.slice a' (A ++ B).length c') ∧ OwnS w' w.heap.size 130 2 a' (A ++ B).length c' (cellsQ (A ++ B)) := by
  subst hn hm
  have hqlt := hq.lt
  have c0 := hq.cell 0 _ rfl
  have c1 := hq.cell 1 _ rfl
  have HA := Lib.hid hA
  have HB := Lib.hid hB
  have hgr := qgrow_any (A.length + B.length) w (by omega)
  rw [Int.natCast_add] at hgr
  have HG := Lib.hid hgr
  clear hq hA hB hgr
  go_enter Try.func62, Try.ntmps62
  go_wp2_with (fail)
  refine wp_loop_rounds 3 ?_
  rw [rounds_succ]
  go_wp2_with (fail)
  rw [rounds_succ]
  go_wp2_with (fail)
  rw [rounds_succ]
  go_wp2_with (fail)
  refine HG.out.mono ?_
  rintro e w1 ⟨hb1, a1, cc1, rfl, ho1⟩
  have d0 := (hb1.cell (p := ⟨q, 0, none⟩) hqlt).trans c0
  have d1 := (hb1.cell (p := ⟨q, 1, none⟩) hqlt).trans c1
  have HO1 := Lib.hid ho1
  have HB1 := Lib.hid hb1
  clear ho1 hb1 HG
  go_wp2_with (fail)
  refine wp_loop_rounds 3 ?_
  rw [rounds_succ]
  go_wp2_with (at_builtin; refine Stop.mk ?_)
  refine Stop.out ?_
  refine wpList_app pc_et rfl rfl (base := w.heap.size) rfl rfl HO1.out ((HA.out.below HB1.out).src rfl) (by simp only [maxLen]; omega) (by omega) HB1.out.size ?_
  intro a2 cc2 w2 ho2 on2 _
  rw [Nat.zero_add, List.nil_append] at ho2
  simp only [Nat.zero_add]
  have b2 : Below w.heap.size w w2 := below_onto HB1.out on2 HB1.out.size (by rintro z hz ⟨y, hy, rfl⟩; have := (HO1.out.block hy).1; omega)
  have f1 := (b2.cell (p := ⟨q, 1, none⟩) hqlt).trans c1
  have HO2 := Lib.hid ho2
  have HB2 := Lib.hid b2
  clear ho2 on2 b2
  go_wp2_with (fail)
  rw [rounds_succ]
  go_wp2_with (at_builtin; refine Stop.mk ?_)
  refine Stop.out ?_
  refine wpList_app pc_et rfl rfl (base := w.heap.size) rfl rfl HO2.out ((HB.out.below HB2.out).src rfl) (by simp only [maxLen]; omega) (by omega) HB2.out.size ?_
  intro a3 cc3 w3 ho3 on3 _
  have b3 : Below w.heap.size w w3 := below_onto HB2.out on3 HB2.out.size (by rintro z hz ⟨y, hy, rfl⟩; have := (HO2.out.block hy).1; omega)
  rw [← cellsQ_append, ← List.length_append] at ho3
  have HO3 := Lib.hid ho3
  have HB3 := Lib.hid b3
  clear ho3 on3 b3
  go_wp2_with (fail)
  rw [rounds_succ]
  go_wp2_with (fail)
  go_returns
  exact ⟨HB3.out, a3, cc3, by simp, HO3.out⟩
end Go.Proofs.Yticnjdlapioppaa
