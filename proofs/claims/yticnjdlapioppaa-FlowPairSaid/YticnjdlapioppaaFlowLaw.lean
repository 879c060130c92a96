/- FlowPair: the walk. -/
import Derived.Test.YticnjdlapioppaaFlowOne
namespace Go.Proofs.Yticnjdlapioppaa
open Go.RowKit
set_option linter.unusedVariables false
namespace Flow

theorem new_at {w : World} {n : Nat} {cs : Array Value} {T : TypeId} (h : n = w.heap.size) : Blk (w.alloc (.cells cs T)) n cs T := h ▸ Blk.new w cs T


/-- What region 4 leaves: two states of a flow, each behind a cell. -/
def Laid (win : Int) (a : Act) (w : World) : Act → World → Prop := fun a' w' =>
  ∃ (pA pB qa qb : Nat) (v1 v2 v3 v4 v5 v6 : Value), a' = ((((((((((a.put (some 35) v1).put (some 36) v2).put (some 37) v3).put (some 39) v4).put (some 40) v5).put (some 41) v6).put (some 38) (.pointer (some ⟨pA, 0, none⟩))).put (some 42) (.pointer (some ⟨pB, 0, none⟩))).put (some 8) (.pointer (some ⟨qa, 0, none⟩))).put (some 9) (.pointer (some ⟨qb, 0, none⟩)))
    ∧ pA ≠ pB ∧ qa ≠ pA ∧ qa ≠ pB ∧ qb ≠ pA ∧ qb ≠ pB ∧ qa ≠ qb ∧ w.heap.size ≤ pA ∧ w.heap.size ≤ pB ∧ w.heap.size ≤ qa ∧ w.heap.size ≤ qb
    ∧ Blk w' pA (FS.vals ⟨win, 0, 0, 0, 0, 0, 0, 0, 0, 0, 0, 0, 0⟩) 31 ∧ Blk w' pB (FS.vals ⟨0, 0, win, 0, 0, 0, 0, 0, 0, 0, 0, 0, 0⟩) 31
    ∧ Blk w' qa #[.pointer (some ⟨pA, 0, none⟩)] 26 ∧ Blk w' qb #[.pointer (some ⟨pB, 0, none⟩)] 26 ∧ Below w.heap.size w w'

structure Inv (win sm s r S : Int) : Prop where
  r0 : 0 ≤ r
  rs : r ≤ s
  ss : s ≤ sm
  ws : win ≤ sm
  sr : sm ≤ r + win
  sS : s ≤ S
structure Kept (w : World) (pA pB qa qb q7 : Nat) (win : Int) (fA fB : FS) (wr : World) : Prop where
  below : Below w.heap.size w wr
  bA : Blk wr pA fA.vals 31
  bB : Blk wr pB fB.vals 31
  ba : Blk wr qa #[.pointer (some ⟨pA, 0, none⟩)] 26
  bb : Blk wr qb #[.pointer (some ⟨pB, 0, none⟩)] 26
  b7 : Blk wr q7 #[.int .u64 win] 25
  d : pA ≠ pB ∧ qa ≠ pA ∧ qa ≠ pB ∧ qb ≠ pA ∧ qb ≠ pB ∧ q7 ≠ pA ∧ q7 ≠ pB ∧ w.heap.size ≤ pA ∧ w.heap.size ≤ pB
theorem Kept.size {w : World} {pA pB qa qb q7 : Nat} {win : Int} {fA fB : FS} {wr : World} (h : Kept w pA pB qa qb q7 win fA fB wr) : w.heap.size ≤ wr.heap.size := h.below.size
theorem Kept.quiet {w : World} {pA pB qa qb q7 : Nat} {win : Int} {fA fB : FS} {wr w2 : World} (h : Kept w pA pB qa qb q7 win fA fB wr) (k : Below wr.heap.size wr w2) : Kept w pA pB qa qb q7 win fA fB w2 :=
  ⟨below_on h.below k h.size, h.bA.below k, h.bB.below k, h.ba.below k, h.bb.below k, h.b7.below k, h.d⟩
theorem Kept.alloc {w : World} {pA pB qa qb q7 : Nat} {win : Int} {fA fB : FS} {wr : World} (h : Kept w pA pB qa qb q7 win fA fB wr) (o : Obj) : Kept w pA pB qa qb q7 win fA fB (wr.alloc o) :=
  h.quiet ((Below.refl _ _).alloc (Nat.le_refl _) o)
theorem Kept.drew {w : World} {pA pB qa qb q7 : Nat} {win : Int} {fA fB : FS} {wr : World} (h : Kept w pA pB qa qb q7 win fA fB wr) : Kept w pA pB qa qb q7 win fA fB wr.drew :=
  h.quiet (Below.refl _ _).drew
theorem Kept.turnA {w : World} {pA pB qa qb q7 : Nat} {win : Int} {fA fB fA' : FS} {wr w2 : World} (h : Kept w pA pB qa qb q7 win fA fB wr) (b : Blk w2 pA fA'.vals 31) (o : Only (· = pA) wr w2) : Kept w pA pB qa qb q7 win fA' fB w2 := by
  obtain ⟨h1, h2, h3, h4, h5, h6, d1, d2, d3, d4, d5, d6, d7, d8, d9⟩ := h
  exact ⟨below_onto h1 o h1.size (by intro k hk; omega), b, o.blk h3 (by omega), o.blk h4 d2, o.blk h5 d4, o.blk h6 d6, d1, d2, d3, d4, d5, d6, d7, d8, d9⟩
theorem Kept.turnB {w : World} {pA pB qa qb q7 : Nat} {win : Int} {fA fB fB' : FS} {wr w2 : World} (h : Kept w pA pB qa qb q7 win fA fB wr) (b : Blk w2 pB fB'.vals 31) (o : Only (· = pB) wr w2) : Kept w pA pB qa qb q7 win fA fB' w2 := by
  obtain ⟨h1, h2, h3, h4, h5, h6, d1, d2, d3, d4, d5, d6, d7, d8, d9⟩ := h
  exact ⟨below_onto h1 o h1.size (by intro k hk; omega), o.blk h2 d1, b, o.blk h4 d3, o.blk h5 d5, o.blk h6 d7, d1, d2, d3, d4, d5, d6, d7, d8, d9⟩
theorem Kept.turnAB {w : World} {pA pB qa qb q7 : Nat} {win : Int} {fA fB fA' fB' : FS} {wr w2 : World} (h : Kept w pA pB qa qb q7 win fA fB wr) (b : Blk w2 pA fA'.vals 31) (b' : Blk w2 pB fB'.vals 31) (o : Only (fun k => k = pA ∨ k = pB) wr w2) : Kept w pA pB qa qb q7 win fA' fB' w2 := by
  obtain ⟨h1, h2, h3, h4, h5, h6, d1, d2, d3, d4, d5, d6, d7, d8, d9⟩ := h
  exact ⟨below_onto h1 o h1.size (by intro k hk; omega), b, b', o.blk h4 (by omega), o.blk h5 (by omega), o.blk h6 (by omega), d1, d2, d3, d4, d5, d6, d7, d8, d9⟩
theorem Kept.ca {w : World} {pA pB qa qb q7 : Nat} {win : Int} {fA fB : FS} {wr : World} (h : Kept w pA pB qa qb q7 win fA fB wr) : wr.cell? ⟨qa, 0, none⟩ = some (.pointer (some ⟨pA, 0, none⟩)) := h.ba.cell 0 _ rfl
theorem Kept.cb {w : World} {pA pB qa qb q7 : Nat} {win : Int} {fA fB : FS} {wr : World} (h : Kept w pA pB qa qb q7 win fA fB wr) : wr.cell? ⟨qb, 0, none⟩ = some (.pointer (some ⟨pB, 0, none⟩)) := h.bb.cell 0 _ rfl
theorem Kept.grants {w : World} {pA pB qa qb q7 : Nat} {win sm s r : Int} {wr : World} (h : Kept w pA pB qa qb q7 win (fa sm s) (fb sm s r) wr) (hw : inV win) (h1 : inV sm) (h2 : inV s) (h3 : inV r) :
    Calls Try.prog 9 #[.pointer (some ⟨qb, 0, none⟩), .pointer (some ⟨q7, 0, none⟩), .pointer (some ⟨qa, 0, none⟩)] wr fun e w' =>
      e = .returned (.tuple #[]) ∧ Kept w pA pB qa qb q7 win (fa (smF sm r win) s) (fb (smF sm r win) s r) w' := by
  have d := h.d
  refine (grants_any pA pB qa qb q7 win sm s r wr hw h1 h2 h3 d.1 h.bA h.bB h.b7 h.ba h.bb d.2.2.1).mono ?_
  rintro e w1 ⟨he, b1, b2, o1⟩
  exact ⟨he, h.turnAB b1 b2 o1⟩

theorem smF_inv {win sm s r S : Int} (h : Inv win sm s r S) (hw : 0 ≤ win) (hr : r + win ≤ 4611686018427387903) (r' : Int) (h1 : r ≤ r') (h2 : r' ≤ s) (h3 : s + win ≤ 4611686018427387903) : Inv win (smF sm r' win) s r' S := by
  obtain ⟨a1, a2, a3, a4, a5, a6⟩ := h
  unfold smF raiseF
  split
  · exact ⟨by omega, h2, a3, a4, by simp only [Option.getD_none]; omega, a6⟩
  · exact ⟨by omega, h2, by simp only [Option.getD_some]; omega, by simp only [Option.getD_some]; omega, by simp only [Option.getD_some]; omega, a6⟩

theorem smF_room {win sm s : Int} (hw : 0 ≤ win) (h3 : s + win ≤ 4611686018427387903) : win / 2 ≤ smF sm s win - s := by
  unfold smF raiseF
  split
  · simp only [Option.getD_none]; omega
  · simp only [Option.getD_some]; omega

set_option maxRecDepth 100000 in
set_option maxHeartbeats 40000000 in
theorem pair_law (win : Int) (a c : Option Addr) (acap ccap : Nat) (A C : List Int) (w : World) (hw0 : 0 ≤ win) (hw1 : win ≤ 4294967295) (hA : IntsAt .u16 w a A) (hC : IntsAt .u16 w c C) (hal : A.length ≤ maxLen) (hcl : C.length ≤ maxLen) :
    Calls Try.prog 3 #[.int .u32 win, .slice a A.length acap, .slice c C.length ccap] w fun e w' => e = .returned (.bool true) ∧ Below w.heap.size w w' := by
  have hal' : A.length ≤ 9223372036854775807 := by unfold maxLen at hal; omega
  have hcl' : C.length ≤ 9223372036854775807 := by unfold maxLen at hcl; omega
  have HA := Lib.hid hA
  have HC := Lib.hid hC
  clear hA hC
  by_cases h1 : A.length ≤ 300
  · by_cases h2 : C.length ≤ 300
    · by_cases h3 : 1 ≤ win
      · by_cases h4 : win ≤ 1048576
        · go_enter Try.func3, Try.ntmps3
          go_wp2_with (fail)
          refine wp_into (Laid win) ?_ ?_
          all_goals unfold Laid
          all_goals simp only [Act.put, List.setIfInBounds_toArray, List.set_cons_zero, List.set_cons_succ]
          · refine rg_start 12 ?_
            refine rg_below fun p hx hne hC hbel => ?_
            refine rg_quiet 6 [0,1,2,4,5,6] hC ?_
            simp only [pickD, List.map_cons, List.map_nil, List.getD_cons_zero, List.getD_cons_succ]; repeat (go_big_quiet_step (fail))
            refine wpQuiet_nil ?_
            refine rg_among [3, 7, 8, 9] ?_
            simp only [List.forall_mem_cons, List.getD_cons_zero, List.getD_cons_succ]
            refine ⟨?_, ?_, ?_, ?_, by simp⟩
            · go_wp2
              refine ⟨hbel _ (by (repeat first | exact Below.refl _ _ | exact ⟨rfl, rfl, rfl, Nat.le_refl _, fun _ _ => rfl⟩ | refine Below.drew ?_ | refine Below.alloc ?_ (by (first | exact Nat.le_refl _ | (simp; done) | (simp; omega))) _ | refine Below.setCell ?_ (by (first | exact Nat.le_refl _ | (simp; done) | (simp; omega))) _)), ?_⟩
              refine rg_among [7, 8, 9] ?_
              simp only [List.forall_mem_cons, List.getD_cons_zero, List.getD_cons_succ]
              refine ⟨?_, ?_, ?_, by simp⟩
              · go_wp2
                refine ⟨hbel _ (by (repeat first | exact Below.refl _ _ | exact ⟨rfl, rfl, rfl, Nat.le_refl _, fun _ _ => rfl⟩ | refine Below.drew ?_ | refine Below.alloc ?_ (by (first | exact Nat.le_refl _ | (simp; done) | (simp; omega))) _ | refine Below.setCell ?_ (by (first | exact Nat.le_refl _ | (simp; done) | (simp; omega))) _)), ?_⟩
                refine rg_among [8, 9] ?_
                simp only [List.forall_mem_cons, List.getD_cons_zero, List.getD_cons_succ]
                refine ⟨?_, ?_, by simp⟩
                · go_wp2
                  refine ⟨hbel _ (by (repeat first | exact Below.refl _ _ | exact ⟨rfl, rfl, rfl, Nat.le_refl _, fun _ _ => rfl⟩ | refine Below.drew ?_ | refine Below.alloc ?_ (by (first | exact Nat.le_refl _ | (simp; done) | (simp; omega))) _ | refine Below.setCell ?_ (by (first | exact Nat.le_refl _ | (simp; done) | (simp; omega))) _)), ?_⟩
                  refine rg_act 9 ?_
                  go_wp2
                  refine ⟨hbel _ (by (repeat first | exact Below.refl _ _ | exact ⟨rfl, rfl, rfl, Nat.le_refl _, fun _ _ => rfl⟩ | refine Below.drew ?_ | refine Below.alloc ?_ (by (first | exact Nat.le_refl _ | (simp; done) | (simp; omega))) _ | refine Below.setCell ?_ (by (first | exact Nat.le_refl _ | (simp; done) | (simp; omega))) _)), ?_⟩
                  refine rg_act 10 ?_
                  go_wp2
                  refine ⟨hbel _ (by (repeat first | exact Below.refl _ _ | exact ⟨rfl, rfl, rfl, Nat.le_refl _, fun _ _ => rfl⟩ | refine Below.drew ?_ | refine Below.alloc ?_ (by (first | exact Nat.le_refl _ | (simp; done) | (simp; omega))) _ | refine Below.setCell ?_ (by (first | exact Nat.le_refl _ | (simp; done) | (simp; omega))) _)), ?_⟩
                  refine rg_act 11 ?_
                  go_wp2
                  refine ⟨hbel _ (by (repeat first | exact Below.refl _ _ | exact ⟨rfl, rfl, rfl, Nat.le_refl _, fun _ _ => rfl⟩ | refine Below.drew ?_ | refine Below.alloc ?_ (by (first | exact Nat.le_refl _ | (simp; done) | (simp; omega))) _ | refine Below.setCell ?_ (by (first | exact Nat.le_refl _ | (simp; done) | (simp; omega))) _)), ?_⟩
                  refine rg_end ?_
                  (exact ⟨_, _, _, _, _, _, _, _, _, _, rfl, by (first | (simp; done) | (simp; omega)), by (first | (simp; done) | (simp; omega)), by (first | (simp; done) | (simp; omega)), by (first | (simp; done) | (simp; omega)), by (first | (simp; done) | (simp; omega)), by (first | (simp; done) | (simp; omega)), by (first | (simp; done) | (simp; omega)), by (first | (simp; done) | (simp; omega)), by (first | (simp; done) | (simp; omega)), by (first | (simp; done) | (simp; omega)), by (repeat first | exact new_at (by simp; done) | refine Blk.setOther ?_ _ _ (by first | (simp; done) | (simp; omega)) | refine Blk.congr (Blk.set (cs := #[.pointer none]) ?_ 0 _) rfl | refine Blk.drew ?_ | refine Blk.alloc ?_ _), by (repeat first | exact new_at (by simp; done) | refine Blk.setOther ?_ _ _ (by first | (simp; done) | (simp; omega)) | refine Blk.congr (Blk.set (cs := #[.pointer none]) ?_ 0 _) rfl | refine Blk.drew ?_ | refine Blk.alloc ?_ _), by (repeat first | exact new_at (by simp; done) | refine Blk.setOther ?_ _ _ (by first | (simp; done) | (simp; omega)) | refine Blk.congr (Blk.set (cs := #[.pointer none]) ?_ 0 _) rfl | refine Blk.drew ?_ | refine Blk.alloc ?_ _), by (repeat first | exact new_at (by simp; done) | refine Blk.setOther ?_ _ _ (by first | (simp; done) | (simp; omega)) | refine Blk.congr (Blk.set (cs := #[.pointer none]) ?_ 0 _) rfl | refine Blk.drew ?_ | refine Blk.alloc ?_ _), by (repeat first | exact Below.refl _ _ | exact ⟨rfl, rfl, rfl, Nat.le_refl _, fun _ _ => rfl⟩ | refine Below.drew ?_ | refine Below.alloc ?_ (by (first | exact Nat.le_refl _ | (simp; done) | (simp; omega))) _ | refine Below.setCell ?_ (by (first | exact Nat.le_refl _ | (simp; done) | (simp; omega))) _)⟩)
                · go_wp2
                  refine ⟨hbel _ (by (repeat first | exact Below.refl _ _ | exact ⟨rfl, rfl, rfl, Nat.le_refl _, fun _ _ => rfl⟩ | refine Below.drew ?_ | refine Below.alloc ?_ (by (first | exact Nat.le_refl _ | (simp; done) | (simp; omega))) _ | refine Below.setCell ?_ (by (first | exact Nat.le_refl _ | (simp; done) | (simp; omega))) _)), ?_⟩
                  refine rg_act 8 ?_
                  go_wp2
                  refine ⟨hbel _ (by (repeat first | exact Below.refl _ _ | exact ⟨rfl, rfl, rfl, Nat.le_refl _, fun _ _ => rfl⟩ | refine Below.drew ?_ | refine Below.alloc ?_ (by (first | exact Nat.le_refl _ | (simp; done) | (simp; omega))) _ | refine Below.setCell ?_ (by (first | exact Nat.le_refl _ | (simp; done) | (simp; omega))) _)), ?_⟩
                  refine rg_act 10 ?_
                  go_wp2
                  refine ⟨hbel _ (by (repeat first | exact Below.refl _ _ | exact ⟨rfl, rfl, rfl, Nat.le_refl _, fun _ _ => rfl⟩ | refine Below.drew ?_ | refine Below.alloc ?_ (by (first | exact Nat.le_refl _ | (simp; done) | (simp; omega))) _ | refine Below.setCell ?_ (by (first | exact Nat.le_refl _ | (simp; done) | (simp; omega))) _)), ?_⟩
                  refine rg_act 11 ?_
                  go_wp2
                  refine ⟨hbel _ (by (repeat first | exact Below.refl _ _ | exact ⟨rfl, rfl, rfl, Nat.le_refl _, fun _ _ => rfl⟩ | refine Below.drew ?_ | refine Below.alloc ?_ (by (first | exact Nat.le_refl _ | (simp; done) | (simp; omega))) _ | refine Below.setCell ?_ (by (first | exact Nat.le_refl _ | (simp; done) | (simp; omega))) _)), ?_⟩
                  refine rg_end ?_
                  (exact ⟨_, _, _, _, _, _, _, _, _, _, rfl, by (first | (simp; done) | (simp; omega)), by (first | (simp; done) | (simp; omega)), by (first | (simp; done) | (simp; omega)), by (first | (simp; done) | (simp; omega)), by (first | (simp; done) | (simp; omega)), by (first | (simp; done) | (simp; omega)), by (first | (simp; done) | (simp; omega)), by (first | (simp; done) | (simp; omega)), by (first | (simp; done) | (simp; omega)), by (first | (simp; done) | (simp; omega)), by (repeat first | exact new_at (by simp; done) | refine Blk.setOther ?_ _ _ (by first | (simp; done) | (simp; omega)) | refine Blk.congr (Blk.set (cs := #[.pointer none]) ?_ 0 _) rfl | refine Blk.drew ?_ | refine Blk.alloc ?_ _), by (repeat first | exact new_at (by simp; done) | refine Blk.setOther ?_ _ _ (by first | (simp; done) | (simp; omega)) | refine Blk.congr (Blk.set (cs := #[.pointer none]) ?_ 0 _) rfl | refine Blk.drew ?_ | refine Blk.alloc ?_ _), by (repeat first | exact new_at (by simp; done) | refine Blk.setOther ?_ _ _ (by first | (simp; done) | (simp; omega)) | refine Blk.congr (Blk.set (cs := #[.pointer none]) ?_ 0 _) rfl | refine Blk.drew ?_ | refine Blk.alloc ?_ _), by (repeat first | exact new_at (by simp; done) | refine Blk.setOther ?_ _ _ (by first | (simp; done) | (simp; omega)) | refine Blk.congr (Blk.set (cs := #[.pointer none]) ?_ 0 _) rfl | refine Blk.drew ?_ | refine Blk.alloc ?_ _), by (repeat first | exact Below.refl _ _ | exact ⟨rfl, rfl, rfl, Nat.le_refl _, fun _ _ => rfl⟩ | refine Below.drew ?_ | refine Below.alloc ?_ (by (first | exact Nat.le_refl _ | (simp; done) | (simp; omega))) _ | refine Below.setCell ?_ (by (first | exact Nat.le_refl _ | (simp; done) | (simp; omega))) _)⟩)
              · go_wp2
                refine ⟨hbel _ (by (repeat first | exact Below.refl _ _ | exact ⟨rfl, rfl, rfl, Nat.le_refl _, fun _ _ => rfl⟩ | refine Below.drew ?_ | refine Below.alloc ?_ (by (first | exact Nat.le_refl _ | (simp; done) | (simp; omega))) _ | refine Below.setCell ?_ (by (first | exact Nat.le_refl _ | (simp; done) | (simp; omega))) _)), ?_⟩
                refine rg_among [7, 9] ?_
                simp only [List.forall_mem_cons, List.getD_cons_zero, List.getD_cons_succ]
                refine ⟨?_, ?_, by simp⟩
                · go_wp2
                  refine ⟨hbel _ (by (repeat first | exact Below.refl _ _ | exact ⟨rfl, rfl, rfl, Nat.le_refl _, fun _ _ => rfl⟩ | refine Below.drew ?_ | refine Below.alloc ?_ (by (first | exact Nat.le_refl _ | (simp; done) | (simp; omega))) _ | refine Below.setCell ?_ (by (first | exact Nat.le_refl _ | (simp; done) | (simp; omega))) _)), ?_⟩
                  refine rg_act 9 ?_
                  go_wp2
                  refine ⟨hbel _ (by (repeat first | exact Below.refl _ _ | exact ⟨rfl, rfl, rfl, Nat.le_refl _, fun _ _ => rfl⟩ | refine Below.drew ?_ | refine Below.alloc ?_ (by (first | exact Nat.le_refl _ | (simp; done) | (simp; omega))) _ | refine Below.setCell ?_ (by (first | exact Nat.le_refl _ | (simp; done) | (simp; omega))) _)), ?_⟩
                  refine rg_act 10 ?_
                  go_wp2
                  refine ⟨hbel _ (by (repeat first | exact Below.refl _ _ | exact ⟨rfl, rfl, rfl, Nat.le_refl _, fun _ _ => rfl⟩ | refine Below.drew ?_ | refine Below.alloc ?_ (by (first | exact Nat.le_refl _ | (simp; done) | (simp; omega))) _ | refine Below.setCell ?_ (by (first | exact Nat.le_refl _ | (simp; done) | (simp; omega))) _)), ?_⟩
                  refine rg_act 11 ?_
                  go_wp2
                  refine ⟨hbel _ (by (repeat first | exact Below.refl _ _ | exact ⟨rfl, rfl, rfl, Nat.le_refl _, fun _ _ => rfl⟩ | refine Below.drew ?_ | refine Below.alloc ?_ (by (first | exact Nat.le_refl _ | (simp; done) | (simp; omega))) _ | refine Below.setCell ?_ (by (first | exact Nat.le_refl _ | (simp; done) | (simp; omega))) _)), ?_⟩
                  refine rg_end ?_
                  (exact ⟨_, _, _, _, _, _, _, _, _, _, rfl, by (first | (simp; done) | (simp; omega)), by (first | (simp; done) | (simp; omega)), by (first | (simp; done) | (simp; omega)), by (first | (simp; done) | (simp; omega)), by (first | (simp; done) | (simp; omega)), by (first | (simp; done) | (simp; omega)), by (first | (simp; done) | (simp; omega)), by (first | (simp; done) | (simp; omega)), by (first | (simp; done) | (simp; omega)), by (first | (simp; done) | (simp; omega)), by (repeat first | exact new_at (by simp; done) | refine Blk.setOther ?_ _ _ (by first | (simp; done) | (simp; omega)) | refine Blk.congr (Blk.set (cs := #[.pointer none]) ?_ 0 _) rfl | refine Blk.drew ?_ | refine Blk.alloc ?_ _), by (repeat first | exact new_at (by simp; done) | refine Blk.setOther ?_ _ _ (by first | (simp; done) | (simp; omega)) | refine Blk.congr (Blk.set (cs := #[.pointer none]) ?_ 0 _) rfl | refine Blk.drew ?_ | refine Blk.alloc ?_ _), by (repeat first | exact new_at (by simp; done) | refine Blk.setOther ?_ _ _ (by first | (simp; done) | (simp; omega)) | refine Blk.congr (Blk.set (cs := #[.pointer none]) ?_ 0 _) rfl | refine Blk.drew ?_ | refine Blk.alloc ?_ _), by (repeat first | exact new_at (by simp; done) | refine Blk.setOther ?_ _ _ (by first | (simp; done) | (simp; omega)) | refine Blk.congr (Blk.set (cs := #[.pointer none]) ?_ 0 _) rfl | refine Blk.drew ?_ | refine Blk.alloc ?_ _), by (repeat first | exact Below.refl _ _ | exact ⟨rfl, rfl, rfl, Nat.le_refl _, fun _ _ => rfl⟩ | refine Below.drew ?_ | refine Below.alloc ?_ (by (first | exact Nat.le_refl _ | (simp; done) | (simp; omega))) _ | refine Below.setCell ?_ (by (first | exact Nat.le_refl _ | (simp; done) | (simp; omega))) _)⟩)
                · go_wp2
                  refine ⟨hbel _ (by (repeat first | exact Below.refl _ _ | exact ⟨rfl, rfl, rfl, Nat.le_refl _, fun _ _ => rfl⟩ | refine Below.drew ?_ | refine Below.alloc ?_ (by (first | exact Nat.le_refl _ | (simp; done) | (simp; omega))) _ | refine Below.setCell ?_ (by (first | exact Nat.le_refl _ | (simp; done) | (simp; omega))) _)), ?_⟩
                  refine rg_among [7, 10] ?_
                  simp only [List.forall_mem_cons, List.getD_cons_zero, List.getD_cons_succ]
                  refine ⟨?_, ?_, by simp⟩
                  · go_wp2
                    refine ⟨hbel _ (by (repeat first | exact Below.refl _ _ | exact ⟨rfl, rfl, rfl, Nat.le_refl _, fun _ _ => rfl⟩ | refine Below.drew ?_ | refine Below.alloc ?_ (by (first | exact Nat.le_refl _ | (simp; done) | (simp; omega))) _ | refine Below.setCell ?_ (by (first | exact Nat.le_refl _ | (simp; done) | (simp; omega))) _)), ?_⟩
                    refine rg_act 10 ?_
                    go_wp2
                    refine ⟨hbel _ (by (repeat first | exact Below.refl _ _ | exact ⟨rfl, rfl, rfl, Nat.le_refl _, fun _ _ => rfl⟩ | refine Below.drew ?_ | refine Below.alloc ?_ (by (first | exact Nat.le_refl _ | (simp; done) | (simp; omega))) _ | refine Below.setCell ?_ (by (first | exact Nat.le_refl _ | (simp; done) | (simp; omega))) _)), ?_⟩
                    refine rg_act 11 ?_
                    go_wp2
                    refine ⟨hbel _ (by (repeat first | exact Below.refl _ _ | exact ⟨rfl, rfl, rfl, Nat.le_refl _, fun _ _ => rfl⟩ | refine Below.drew ?_ | refine Below.alloc ?_ (by (first | exact Nat.le_refl _ | (simp; done) | (simp; omega))) _ | refine Below.setCell ?_ (by (first | exact Nat.le_refl _ | (simp; done) | (simp; omega))) _)), ?_⟩
                    refine rg_end ?_
                    (exact ⟨_, _, _, _, _, _, _, _, _, _, rfl, by (first | (simp; done) | (simp; omega)), by (first | (simp; done) | (simp; omega)), by (first | (simp; done) | (simp; omega)), by (first | (simp; done) | (simp; omega)), by (first | (simp; done) | (simp; omega)), by (first | (simp; done) | (simp; omega)), by (first | (simp; done) | (simp; omega)), by (first | (simp; done) | (simp; omega)), by (first | (simp; done) | (simp; omega)), by (first | (simp; done) | (simp; omega)), by (repeat first | exact new_at (by simp; done) | refine Blk.setOther ?_ _ _ (by first | (simp; done) | (simp; omega)) | refine Blk.congr (Blk.set (cs := #[.pointer none]) ?_ 0 _) rfl | refine Blk.drew ?_ | refine Blk.alloc ?_ _), by (repeat first | exact new_at (by simp; done) | refine Blk.setOther ?_ _ _ (by first | (simp; done) | (simp; omega)) | refine Blk.congr (Blk.set (cs := #[.pointer none]) ?_ 0 _) rfl | refine Blk.drew ?_ | refine Blk.alloc ?_ _), by (repeat first | exact new_at (by simp; done) | refine Blk.setOther ?_ _ _ (by first | (simp; done) | (simp; omega)) | refine Blk.congr (Blk.set (cs := #[.pointer none]) ?_ 0 _) rfl | refine Blk.drew ?_ | refine Blk.alloc ?_ _), by (repeat first | exact new_at (by simp; done) | refine Blk.setOther ?_ _ _ (by first | (simp; done) | (simp; omega)) | refine Blk.congr (Blk.set (cs := #[.pointer none]) ?_ 0 _) rfl | refine Blk.drew ?_ | refine Blk.alloc ?_ _), by (repeat first | exact Below.refl _ _ | exact ⟨rfl, rfl, rfl, Nat.le_refl _, fun _ _ => rfl⟩ | refine Below.drew ?_ | refine Below.alloc ?_ (by (first | exact Nat.le_refl _ | (simp; done) | (simp; omega))) _ | refine Below.setCell ?_ (by (first | exact Nat.le_refl _ | (simp; done) | (simp; omega))) _)⟩)
                  · go_wp2
                    refine ⟨hbel _ (by (repeat first | exact Below.refl _ _ | exact ⟨rfl, rfl, rfl, Nat.le_refl _, fun _ _ => rfl⟩ | refine Below.drew ?_ | refine Below.alloc ?_ (by (first | exact Nat.le_refl _ | (simp; done) | (simp; omega))) _ | refine Below.setCell ?_ (by (first | exact Nat.le_refl _ | (simp; done) | (simp; omega))) _)), ?_⟩
                    refine rg_act 7 ?_
                    go_wp2
                    refine ⟨hbel _ (by (repeat first | exact Below.refl _ _ | exact ⟨rfl, rfl, rfl, Nat.le_refl _, fun _ _ => rfl⟩ | refine Below.drew ?_ | refine Below.alloc ?_ (by (first | exact Nat.le_refl _ | (simp; done) | (simp; omega))) _ | refine Below.setCell ?_ (by (first | exact Nat.le_refl _ | (simp; done) | (simp; omega))) _)), ?_⟩
                    refine rg_act 11 ?_
                    go_wp2
                    refine ⟨hbel _ (by (repeat first | exact Below.refl _ _ | exact ⟨rfl, rfl, rfl, Nat.le_refl _, fun _ _ => rfl⟩ | refine Below.drew ?_ | refine Below.alloc ?_ (by (first | exact Nat.le_refl _ | (simp; done) | (simp; omega))) _ | refine Below.setCell ?_ (by (first | exact Nat.le_refl _ | (simp; done) | (simp; omega))) _)), ?_⟩
                    refine rg_end ?_
                    (exact ⟨_, _, _, _, _, _, _, _, _, _, rfl, by (first | (simp; done) | (simp; omega)), by (first | (simp; done) | (simp; omega)), by (first | (simp; done) | (simp; omega)), by (first | (simp; done) | (simp; omega)), by (first | (simp; done) | (simp; omega)), by (first | (simp; done) | (simp; omega)), by (first | (simp; done) | (simp; omega)), by (first | (simp; done) | (simp; omega)), by (first | (simp; done) | (simp; omega)), by (first | (simp; done) | (simp; omega)), by (repeat first | exact new_at (by simp; done) | refine Blk.setOther ?_ _ _ (by first | (simp; done) | (simp; omega)) | refine Blk.congr (Blk.set (cs := #[.pointer none]) ?_ 0 _) rfl | refine Blk.drew ?_ | refine Blk.alloc ?_ _), by (repeat first | exact new_at (by simp; done) | refine Blk.setOther ?_ _ _ (by first | (simp; done) | (simp; omega)) | refine Blk.congr (Blk.set (cs := #[.pointer none]) ?_ 0 _) rfl | refine Blk.drew ?_ | refine Blk.alloc ?_ _), by (repeat first | exact new_at (by simp; done) | refine Blk.setOther ?_ _ _ (by first | (simp; done) | (simp; omega)) | refine Blk.congr (Blk.set (cs := #[.pointer none]) ?_ 0 _) rfl | refine Blk.drew ?_ | refine Blk.alloc ?_ _), by (repeat first | exact new_at (by simp; done) | refine Blk.setOther ?_ _ _ (by first | (simp; done) | (simp; omega)) | refine Blk.congr (Blk.set (cs := #[.pointer none]) ?_ 0 _) rfl | refine Blk.drew ?_ | refine Blk.alloc ?_ _), by (repeat first | exact Below.refl _ _ | exact ⟨rfl, rfl, rfl, Nat.le_refl _, fun _ _ => rfl⟩ | refine Below.drew ?_ | refine Below.alloc ?_ (by (first | exact Nat.le_refl _ | (simp; done) | (simp; omega))) _ | refine Below.setCell ?_ (by (first | exact Nat.le_refl _ | (simp; done) | (simp; omega))) _)⟩)
              · go_wp2
                refine ⟨hbel _ (by (repeat first | exact Below.refl _ _ | exact ⟨rfl, rfl, rfl, Nat.le_refl _, fun _ _ => rfl⟩ | refine Below.drew ?_ | refine Below.alloc ?_ (by (first | exact Nat.le_refl _ | (simp; done) | (simp; omega))) _ | refine Below.setCell ?_ (by (first | exact Nat.le_refl _ | (simp; done) | (simp; omega))) _)), ?_⟩
                refine rg_among [7, 8] ?_
                simp only [List.forall_mem_cons, List.getD_cons_zero, List.getD_cons_succ]
                refine ⟨?_, ?_, by simp⟩
                · go_wp2
                  refine ⟨hbel _ (by (repeat first | exact Below.refl _ _ | exact ⟨rfl, rfl, rfl, Nat.le_refl _, fun _ _ => rfl⟩ | refine Below.drew ?_ | refine Below.alloc ?_ (by (first | exact Nat.le_refl _ | (simp; done) | (simp; omega))) _ | refine Below.setCell ?_ (by (first | exact Nat.le_refl _ | (simp; done) | (simp; omega))) _)), ?_⟩
                  refine rg_act 8 ?_
                  go_wp2
                  refine ⟨hbel _ (by (repeat first | exact Below.refl _ _ | exact ⟨rfl, rfl, rfl, Nat.le_refl _, fun _ _ => rfl⟩ | refine Below.drew ?_ | refine Below.alloc ?_ (by (first | exact Nat.le_refl _ | (simp; done) | (simp; omega))) _ | refine Below.setCell ?_ (by (first | exact Nat.le_refl _ | (simp; done) | (simp; omega))) _)), ?_⟩
                  refine rg_act 10 ?_
                  go_wp2
                  refine ⟨hbel _ (by (repeat first | exact Below.refl _ _ | exact ⟨rfl, rfl, rfl, Nat.le_refl _, fun _ _ => rfl⟩ | refine Below.drew ?_ | refine Below.alloc ?_ (by (first | exact Nat.le_refl _ | (simp; done) | (simp; omega))) _ | refine Below.setCell ?_ (by (first | exact Nat.le_refl _ | (simp; done) | (simp; omega))) _)), ?_⟩
                  refine rg_act 11 ?_
                  go_wp2
                  refine ⟨hbel _ (by (repeat first | exact Below.refl _ _ | exact ⟨rfl, rfl, rfl, Nat.le_refl _, fun _ _ => rfl⟩ | refine Below.drew ?_ | refine Below.alloc ?_ (by (first | exact Nat.le_refl _ | (simp; done) | (simp; omega))) _ | refine Below.setCell ?_ (by (first | exact Nat.le_refl _ | (simp; done) | (simp; omega))) _)), ?_⟩
                  refine rg_end ?_
                  (exact ⟨_, _, _, _, _, _, _, _, _, _, rfl, by (first | (simp; done) | (simp; omega)), by (first | (simp; done) | (simp; omega)), by (first | (simp; done) | (simp; omega)), by (first | (simp; done) | (simp; omega)), by (first | (simp; done) | (simp; omega)), by (first | (simp; done) | (simp; omega)), by (first | (simp; done) | (simp; omega)), by (first | (simp; done) | (simp; omega)), by (first | (simp; done) | (simp; omega)), by (first | (simp; done) | (simp; omega)), by (repeat first | exact new_at (by simp; done) | refine Blk.setOther ?_ _ _ (by first | (simp; done) | (simp; omega)) | refine Blk.congr (Blk.set (cs := #[.pointer none]) ?_ 0 _) rfl | refine Blk.drew ?_ | refine Blk.alloc ?_ _), by (repeat first | exact new_at (by simp; done) | refine Blk.setOther ?_ _ _ (by first | (simp; done) | (simp; omega)) | refine Blk.congr (Blk.set (cs := #[.pointer none]) ?_ 0 _) rfl | refine Blk.drew ?_ | refine Blk.alloc ?_ _), by (repeat first | exact new_at (by simp; done) | refine Blk.setOther ?_ _ _ (by first | (simp; done) | (simp; omega)) | refine Blk.congr (Blk.set (cs := #[.pointer none]) ?_ 0 _) rfl | refine Blk.drew ?_ | refine Blk.alloc ?_ _), by (repeat first | exact new_at (by simp; done) | refine Blk.setOther ?_ _ _ (by first | (simp; done) | (simp; omega)) | refine Blk.congr (Blk.set (cs := #[.pointer none]) ?_ 0 _) rfl | refine Blk.drew ?_ | refine Blk.alloc ?_ _), by (repeat first | exact Below.refl _ _ | exact ⟨rfl, rfl, rfl, Nat.le_refl _, fun _ _ => rfl⟩ | refine Below.drew ?_ | refine Below.alloc ?_ (by (first | exact Nat.le_refl _ | (simp; done) | (simp; omega))) _ | refine Below.setCell ?_ (by (first | exact Nat.le_refl _ | (simp; done) | (simp; omega))) _)⟩)
                · go_wp2
                  refine ⟨hbel _ (by (repeat first | exact Below.refl _ _ | exact ⟨rfl, rfl, rfl, Nat.le_refl _, fun _ _ => rfl⟩ | refine Below.drew ?_ | refine Below.alloc ?_ (by (first | exact Nat.le_refl _ | (simp; done) | (simp; omega))) _ | refine Below.setCell ?_ (by (first | exact Nat.le_refl _ | (simp; done) | (simp; omega))) _)), ?_⟩
                  refine rg_among [7, 10] ?_
                  simp only [List.forall_mem_cons, List.getD_cons_zero, List.getD_cons_succ]
                  refine ⟨?_, ?_, by simp⟩
                  · go_wp2
                    refine ⟨hbel _ (by (repeat first | exact Below.refl _ _ | exact ⟨rfl, rfl, rfl, Nat.le_refl _, fun _ _ => rfl⟩ | refine Below.drew ?_ | refine Below.alloc ?_ (by (first | exact Nat.le_refl _ | (simp; done) | (simp; omega))) _ | refine Below.setCell ?_ (by (first | exact Nat.le_refl _ | (simp; done) | (simp; omega))) _)), ?_⟩
                    refine rg_act 10 ?_
                    go_wp2
                    refine ⟨hbel _ (by (repeat first | exact Below.refl _ _ | exact ⟨rfl, rfl, rfl, Nat.le_refl _, fun _ _ => rfl⟩ | refine Below.drew ?_ | refine Below.alloc ?_ (by (first | exact Nat.le_refl _ | (simp; done) | (simp; omega))) _ | refine Below.setCell ?_ (by (first | exact Nat.le_refl _ | (simp; done) | (simp; omega))) _)), ?_⟩
                    refine rg_act 11 ?_
                    go_wp2
                    refine ⟨hbel _ (by (repeat first | exact Below.refl _ _ | exact ⟨rfl, rfl, rfl, Nat.le_refl _, fun _ _ => rfl⟩ | refine Below.drew ?_ | refine Below.alloc ?_ (by (first | exact Nat.le_refl _ | (simp; done) | (simp; omega))) _ | refine Below.setCell ?_ (by (first | exact Nat.le_refl _ | (simp; done) | (simp; omega))) _)), ?_⟩
                    refine rg_end ?_
                    (exact ⟨_, _, _, _, _, _, _, _, _, _, rfl, by (first | (simp; done) | (simp; omega)), by (first | (simp; done) | (simp; omega)), by (first | (simp; done) | (simp; omega)), by (first | (simp; done) | (simp; omega)), by (first | (simp; done) | (simp; omega)), by (first | (simp; done) | (simp; omega)), by (first | (simp; done) | (simp; omega)), by (first | (simp; done) | (simp; omega)), by (first | (simp; done) | (simp; omega)), by (first | (simp; done) | (simp; omega)), by (repeat first | exact new_at (by simp; done) | refine Blk.setOther ?_ _ _ (by first | (simp; done) | (simp; omega)) | refine Blk.congr (Blk.set (cs := #[.pointer none]) ?_ 0 _) rfl | refine Blk.drew ?_ | refine Blk.alloc ?_ _), by (repeat first | exact new_at (by simp; done) | refine Blk.setOther ?_ _ _ (by first | (simp; done) | (simp; omega)) | refine Blk.congr (Blk.set (cs := #[.pointer none]) ?_ 0 _) rfl | refine Blk.drew ?_ | refine Blk.alloc ?_ _), by (repeat first | exact new_at (by simp; done) | refine Blk.setOther ?_ _ _ (by first | (simp; done) | (simp; omega)) | refine Blk.congr (Blk.set (cs := #[.pointer none]) ?_ 0 _) rfl | refine Blk.drew ?_ | refine Blk.alloc ?_ _), by (repeat first | exact new_at (by simp; done) | refine Blk.setOther ?_ _ _ (by first | (simp; done) | (simp; omega)) | refine Blk.congr (Blk.set (cs := #[.pointer none]) ?_ 0 _) rfl | refine Blk.drew ?_ | refine Blk.alloc ?_ _), by (repeat first | exact Below.refl _ _ | exact ⟨rfl, rfl, rfl, Nat.le_refl _, fun _ _ => rfl⟩ | refine Below.drew ?_ | refine Below.alloc ?_ (by (first | exact Nat.le_refl _ | (simp; done) | (simp; omega))) _ | refine Below.setCell ?_ (by (first | exact Nat.le_refl _ | (simp; done) | (simp; omega))) _)⟩)
                  · go_wp2
                    refine ⟨hbel _ (by (repeat first | exact Below.refl _ _ | exact ⟨rfl, rfl, rfl, Nat.le_refl _, fun _ _ => rfl⟩ | refine Below.drew ?_ | refine Below.alloc ?_ (by (first | exact Nat.le_refl _ | (simp; done) | (simp; omega))) _ | refine Below.setCell ?_ (by (first | exact Nat.le_refl _ | (simp; done) | (simp; omega))) _)), ?_⟩
                    refine rg_act 7 ?_
                    go_wp2
                    refine ⟨hbel _ (by (repeat first | exact Below.refl _ _ | exact ⟨rfl, rfl, rfl, Nat.le_refl _, fun _ _ => rfl⟩ | refine Below.drew ?_ | refine Below.alloc ?_ (by (first | exact Nat.le_refl _ | (simp; done) | (simp; omega))) _ | refine Below.setCell ?_ (by (first | exact Nat.le_refl _ | (simp; done) | (simp; omega))) _)), ?_⟩
                    refine rg_act 11 ?_
                    go_wp2
                    refine ⟨hbel _ (by (repeat first | exact Below.refl _ _ | exact ⟨rfl, rfl, rfl, Nat.le_refl _, fun _ _ => rfl⟩ | refine Below.drew ?_ | refine Below.alloc ?_ (by (first | exact Nat.le_refl _ | (simp; done) | (simp; omega))) _ | refine Below.setCell ?_ (by (first | exact Nat.le_refl _ | (simp; done) | (simp; omega))) _)), ?_⟩
                    refine rg_end ?_
                    (exact ⟨_, _, _, _, _, _, _, _, _, _, rfl, by (first | (simp; done) | (simp; omega)), by (first | (simp; done) | (simp; omega)), by (first | (simp; done) | (simp; omega)), by (first | (simp; done) | (simp; omega)), by (first | (simp; done) | (simp; omega)), by (first | (simp; done) | (simp; omega)), by (first | (simp; done) | (simp; omega)), by (first | (simp; done) | (simp; omega)), by (first | (simp; done) | (simp; omega)), by (first | (simp; done) | (simp; omega)), by (repeat first | exact new_at (by simp; done) | refine Blk.setOther ?_ _ _ (by first | (simp; done) | (simp; omega)) | refine Blk.congr (Blk.set (cs := #[.pointer none]) ?_ 0 _) rfl | refine Blk.drew ?_ | refine Blk.alloc ?_ _), by (repeat first | exact new_at (by simp; done) | refine Blk.setOther ?_ _ _ (by first | (simp; done) | (simp; omega)) | refine Blk.congr (Blk.set (cs := #[.pointer none]) ?_ 0 _) rfl | refine Blk.drew ?_ | refine Blk.alloc ?_ _), by (repeat first | exact new_at (by simp; done) | refine Blk.setOther ?_ _ _ (by first | (simp; done) | (simp; omega)) | refine Blk.congr (Blk.set (cs := #[.pointer none]) ?_ 0 _) rfl | refine Blk.drew ?_ | refine Blk.alloc ?_ _), by (repeat first | exact new_at (by simp; done) | refine Blk.setOther ?_ _ _ (by first | (simp; done) | (simp; omega)) | refine Blk.congr (Blk.set (cs := #[.pointer none]) ?_ 0 _) rfl | refine Blk.drew ?_ | refine Blk.alloc ?_ _), by (repeat first | exact Below.refl _ _ | exact ⟨rfl, rfl, rfl, Nat.le_refl _, fun _ _ => rfl⟩ | refine Below.drew ?_ | refine Below.alloc ?_ (by (first | exact Nat.le_refl _ | (simp; done) | (simp; omega))) _ | refine Below.setCell ?_ (by (first | exact Nat.le_refl _ | (simp; done) | (simp; omega))) _)⟩)
            · go_wp2
              refine ⟨hbel _ (by (repeat first | exact Below.refl _ _ | exact ⟨rfl, rfl, rfl, Nat.le_refl _, fun _ _ => rfl⟩ | refine Below.drew ?_ | refine Below.alloc ?_ (by (first | exact Nat.le_refl _ | (simp; done) | (simp; omega))) _ | refine Below.setCell ?_ (by (first | exact Nat.le_refl _ | (simp; done) | (simp; omega))) _)), ?_⟩
              refine rg_among [3, 8, 9] ?_
              simp only [List.forall_mem_cons, List.getD_cons_zero, List.getD_cons_succ]
              refine ⟨?_, ?_, ?_, by simp⟩
              · go_wp2
                refine ⟨hbel _ (by (repeat first | exact Below.refl _ _ | exact ⟨rfl, rfl, rfl, Nat.le_refl _, fun _ _ => rfl⟩ | refine Below.drew ?_ | refine Below.alloc ?_ (by (first | exact Nat.le_refl _ | (simp; done) | (simp; omega))) _ | refine Below.setCell ?_ (by (first | exact Nat.le_refl _ | (simp; done) | (simp; omega))) _)), ?_⟩
                refine rg_among [8, 9] ?_
                simp only [List.forall_mem_cons, List.getD_cons_zero, List.getD_cons_succ]
                refine ⟨?_, ?_, by simp⟩
                · go_wp2
                  refine ⟨hbel _ (by (repeat first | exact Below.refl _ _ | exact ⟨rfl, rfl, rfl, Nat.le_refl _, fun _ _ => rfl⟩ | refine Below.drew ?_ | refine Below.alloc ?_ (by (first | exact Nat.le_refl _ | (simp; done) | (simp; omega))) _ | refine Below.setCell ?_ (by (first | exact Nat.le_refl _ | (simp; done) | (simp; omega))) _)), ?_⟩
                  refine rg_act 9 ?_
                  go_wp2
                  refine ⟨hbel _ (by (repeat first | exact Below.refl _ _ | exact ⟨rfl, rfl, rfl, Nat.le_refl _, fun _ _ => rfl⟩ | refine Below.drew ?_ | refine Below.alloc ?_ (by (first | exact Nat.le_refl _ | (simp; done) | (simp; omega))) _ | refine Below.setCell ?_ (by (first | exact Nat.le_refl _ | (simp; done) | (simp; omega))) _)), ?_⟩
                  refine rg_act 10 ?_
                  go_wp2
                  refine ⟨hbel _ (by (repeat first | exact Below.refl _ _ | exact ⟨rfl, rfl, rfl, Nat.le_refl _, fun _ _ => rfl⟩ | refine Below.drew ?_ | refine Below.alloc ?_ (by (first | exact Nat.le_refl _ | (simp; done) | (simp; omega))) _ | refine Below.setCell ?_ (by (first | exact Nat.le_refl _ | (simp; done) | (simp; omega))) _)), ?_⟩
                  refine rg_act 11 ?_
                  go_wp2
                  refine ⟨hbel _ (by (repeat first | exact Below.refl _ _ | exact ⟨rfl, rfl, rfl, Nat.le_refl _, fun _ _ => rfl⟩ | refine Below.drew ?_ | refine Below.alloc ?_ (by (first | exact Nat.le_refl _ | (simp; done) | (simp; omega))) _ | refine Below.setCell ?_ (by (first | exact Nat.le_refl _ | (simp; done) | (simp; omega))) _)), ?_⟩
                  refine rg_end ?_
                  (exact ⟨_, _, _, _, _, _, _, _, _, _, rfl, by (first | (simp; done) | (simp; omega)), by (first | (simp; done) | (simp; omega)), by (first | (simp; done) | (simp; omega)), by (first | (simp; done) | (simp; omega)), by (first | (simp; done) | (simp; omega)), by (first | (simp; done) | (simp; omega)), by (first | (simp; done) | (simp; omega)), by (first | (simp; done) | (simp; omega)), by (first | (simp; done) | (simp; omega)), by (first | (simp; done) | (simp; omega)), by (repeat first | exact new_at (by simp; done) | refine Blk.setOther ?_ _ _ (by first | (simp; done) | (simp; omega)) | refine Blk.congr (Blk.set (cs := #[.pointer none]) ?_ 0 _) rfl | refine Blk.drew ?_ | refine Blk.alloc ?_ _), by (repeat first | exact new_at (by simp; done) | refine Blk.setOther ?_ _ _ (by first | (simp; done) | (simp; omega)) | refine Blk.congr (Blk.set (cs := #[.pointer none]) ?_ 0 _) rfl | refine Blk.drew ?_ | refine Blk.alloc ?_ _), by (repeat first | exact new_at (by simp; done) | refine Blk.setOther ?_ _ _ (by first | (simp; done) | (simp; omega)) | refine Blk.congr (Blk.set (cs := #[.pointer none]) ?_ 0 _) rfl | refine Blk.drew ?_ | refine Blk.alloc ?_ _), by (repeat first | exact new_at (by simp; done) | refine Blk.setOther ?_ _ _ (by first | (simp; done) | (simp; omega)) | refine Blk.congr (Blk.set (cs := #[.pointer none]) ?_ 0 _) rfl | refine Blk.drew ?_ | refine Blk.alloc ?_ _), by (repeat first | exact Below.refl _ _ | exact ⟨rfl, rfl, rfl, Nat.le_refl _, fun _ _ => rfl⟩ | refine Below.drew ?_ | refine Below.alloc ?_ (by (first | exact Nat.le_refl _ | (simp; done) | (simp; omega))) _ | refine Below.setCell ?_ (by (first | exact Nat.le_refl _ | (simp; done) | (simp; omega))) _)⟩)
                · go_wp2
                  refine ⟨hbel _ (by (repeat first | exact Below.refl _ _ | exact ⟨rfl, rfl, rfl, Nat.le_refl _, fun _ _ => rfl⟩ | refine Below.drew ?_ | refine Below.alloc ?_ (by (first | exact Nat.le_refl _ | (simp; done) | (simp; omega))) _ | refine Below.setCell ?_ (by (first | exact Nat.le_refl _ | (simp; done) | (simp; omega))) _)), ?_⟩
                  refine rg_act 8 ?_
                  go_wp2
                  refine ⟨hbel _ (by (repeat first | exact Below.refl _ _ | exact ⟨rfl, rfl, rfl, Nat.le_refl _, fun _ _ => rfl⟩ | refine Below.drew ?_ | refine Below.alloc ?_ (by (first | exact Nat.le_refl _ | (simp; done) | (simp; omega))) _ | refine Below.setCell ?_ (by (first | exact Nat.le_refl _ | (simp; done) | (simp; omega))) _)), ?_⟩
                  refine rg_act 10 ?_
                  go_wp2
                  refine ⟨hbel _ (by (repeat first | exact Below.refl _ _ | exact ⟨rfl, rfl, rfl, Nat.le_refl _, fun _ _ => rfl⟩ | refine Below.drew ?_ | refine Below.alloc ?_ (by (first | exact Nat.le_refl _ | (simp; done) | (simp; omega))) _ | refine Below.setCell ?_ (by (first | exact Nat.le_refl _ | (simp; done) | (simp; omega))) _)), ?_⟩
                  refine rg_act 11 ?_
                  go_wp2
                  refine ⟨hbel _ (by (repeat first | exact Below.refl _ _ | exact ⟨rfl, rfl, rfl, Nat.le_refl _, fun _ _ => rfl⟩ | refine Below.drew ?_ | refine Below.alloc ?_ (by (first | exact Nat.le_refl _ | (simp; done) | (simp; omega))) _ | refine Below.setCell ?_ (by (first | exact Nat.le_refl _ | (simp; done) | (simp; omega))) _)), ?_⟩
                  refine rg_end ?_
                  (exact ⟨_, _, _, _, _, _, _, _, _, _, rfl, by (first | (simp; done) | (simp; omega)), by (first | (simp; done) | (simp; omega)), by (first | (simp; done) | (simp; omega)), by (first | (simp; done) | (simp; omega)), by (first | (simp; done) | (simp; omega)), by (first | (simp; done) | (simp; omega)), by (first | (simp; done) | (simp; omega)), by (first | (simp; done) | (simp; omega)), by (first | (simp; done) | (simp; omega)), by (first | (simp; done) | (simp; omega)), by (repeat first | exact new_at (by simp; done) | refine Blk.setOther ?_ _ _ (by first | (simp; done) | (simp; omega)) | refine Blk.congr (Blk.set (cs := #[.pointer none]) ?_ 0 _) rfl | refine Blk.drew ?_ | refine Blk.alloc ?_ _), by (repeat first | exact new_at (by simp; done) | refine Blk.setOther ?_ _ _ (by first | (simp; done) | (simp; omega)) | refine Blk.congr (Blk.set (cs := #[.pointer none]) ?_ 0 _) rfl | refine Blk.drew ?_ | refine Blk.alloc ?_ _), by (repeat first | exact new_at (by simp; done) | refine Blk.setOther ?_ _ _ (by first | (simp; done) | (simp; omega)) | refine Blk.congr (Blk.set (cs := #[.pointer none]) ?_ 0 _) rfl | refine Blk.drew ?_ | refine Blk.alloc ?_ _), by (repeat first | exact new_at (by simp; done) | refine Blk.setOther ?_ _ _ (by first | (simp; done) | (simp; omega)) | refine Blk.congr (Blk.set (cs := #[.pointer none]) ?_ 0 _) rfl | refine Blk.drew ?_ | refine Blk.alloc ?_ _), by (repeat first | exact Below.refl _ _ | exact ⟨rfl, rfl, rfl, Nat.le_refl _, fun _ _ => rfl⟩ | refine Below.drew ?_ | refine Below.alloc ?_ (by (first | exact Nat.le_refl _ | (simp; done) | (simp; omega))) _ | refine Below.setCell ?_ (by (first | exact Nat.le_refl _ | (simp; done) | (simp; omega))) _)⟩)
              · go_wp2
                refine ⟨hbel _ (by (repeat first | exact Below.refl _ _ | exact ⟨rfl, rfl, rfl, Nat.le_refl _, fun _ _ => rfl⟩ | refine Below.drew ?_ | refine Below.alloc ?_ (by (first | exact Nat.le_refl _ | (simp; done) | (simp; omega))) _ | refine Below.setCell ?_ (by (first | exact Nat.le_refl _ | (simp; done) | (simp; omega))) _)), ?_⟩
                refine rg_among [3, 9] ?_
                simp only [List.forall_mem_cons, List.getD_cons_zero, List.getD_cons_succ]
                refine ⟨?_, ?_, by simp⟩
                · go_wp2
                  refine ⟨hbel _ (by (repeat first | exact Below.refl _ _ | exact ⟨rfl, rfl, rfl, Nat.le_refl _, fun _ _ => rfl⟩ | refine Below.drew ?_ | refine Below.alloc ?_ (by (first | exact Nat.le_refl _ | (simp; done) | (simp; omega))) _ | refine Below.setCell ?_ (by (first | exact Nat.le_refl _ | (simp; done) | (simp; omega))) _)), ?_⟩
                  refine rg_act 9 ?_
                  go_wp2
                  refine ⟨hbel _ (by (repeat first | exact Below.refl _ _ | exact ⟨rfl, rfl, rfl, Nat.le_refl _, fun _ _ => rfl⟩ | refine Below.drew ?_ | refine Below.alloc ?_ (by (first | exact Nat.le_refl _ | (simp; done) | (simp; omega))) _ | refine Below.setCell ?_ (by (first | exact Nat.le_refl _ | (simp; done) | (simp; omega))) _)), ?_⟩
                  refine rg_act 10 ?_
                  go_wp2
                  refine ⟨hbel _ (by (repeat first | exact Below.refl _ _ | exact ⟨rfl, rfl, rfl, Nat.le_refl _, fun _ _ => rfl⟩ | refine Below.drew ?_ | refine Below.alloc ?_ (by (first | exact Nat.le_refl _ | (simp; done) | (simp; omega))) _ | refine Below.setCell ?_ (by (first | exact Nat.le_refl _ | (simp; done) | (simp; omega))) _)), ?_⟩
                  refine rg_act 11 ?_
                  go_wp2
                  refine ⟨hbel _ (by (repeat first | exact Below.refl _ _ | exact ⟨rfl, rfl, rfl, Nat.le_refl _, fun _ _ => rfl⟩ | refine Below.drew ?_ | refine Below.alloc ?_ (by (first | exact Nat.le_refl _ | (simp; done) | (simp; omega))) _ | refine Below.setCell ?_ (by (first | exact Nat.le_refl _ | (simp; done) | (simp; omega))) _)), ?_⟩
                  refine rg_end ?_
                  (exact ⟨_, _, _, _, _, _, _, _, _, _, rfl, by (first | (simp; done) | (simp; omega)), by (first | (simp; done) | (simp; omega)), by (first | (simp; done) | (simp; omega)), by (first | (simp; done) | (simp; omega)), by (first | (simp; done) | (simp; omega)), by (first | (simp; done) | (simp; omega)), by (first | (simp; done) | (simp; omega)), by (first | (simp; done) | (simp; omega)), by (first | (simp; done) | (simp; omega)), by (first | (simp; done) | (simp; omega)), by (repeat first | exact new_at (by simp; done) | refine Blk.setOther ?_ _ _ (by first | (simp; done) | (simp; omega)) | refine Blk.congr (Blk.set (cs := #[.pointer none]) ?_ 0 _) rfl | refine Blk.drew ?_ | refine Blk.alloc ?_ _), by (repeat first | exact new_at (by simp; done) | refine Blk.setOther ?_ _ _ (by first | (simp; done) | (simp; omega)) | refine Blk.congr (Blk.set (cs := #[.pointer none]) ?_ 0 _) rfl | refine Blk.drew ?_ | refine Blk.alloc ?_ _), by (repeat first | exact new_at (by simp; done) | refine Blk.setOther ?_ _ _ (by first | (simp; done) | (simp; omega)) | refine Blk.congr (Blk.set (cs := #[.pointer none]) ?_ 0 _) rfl | refine Blk.drew ?_ | refine Blk.alloc ?_ _), by (repeat first | exact new_at (by simp; done) | refine Blk.setOther ?_ _ _ (by first | (simp; done) | (simp; omega)) | refine Blk.congr (Blk.set (cs := #[.pointer none]) ?_ 0 _) rfl | refine Blk.drew ?_ | refine Blk.alloc ?_ _), by (repeat first | exact Below.refl _ _ | exact ⟨rfl, rfl, rfl, Nat.le_refl _, fun _ _ => rfl⟩ | refine Below.drew ?_ | refine Below.alloc ?_ (by (first | exact Nat.le_refl _ | (simp; done) | (simp; omega))) _ | refine Below.setCell ?_ (by (first | exact Nat.le_refl _ | (simp; done) | (simp; omega))) _)⟩)
                · go_wp2
                  refine ⟨hbel _ (by (repeat first | exact Below.refl _ _ | exact ⟨rfl, rfl, rfl, Nat.le_refl _, fun _ _ => rfl⟩ | refine Below.drew ?_ | refine Below.alloc ?_ (by (first | exact Nat.le_refl _ | (simp; done) | (simp; omega))) _ | refine Below.setCell ?_ (by (first | exact Nat.le_refl _ | (simp; done) | (simp; omega))) _)), ?_⟩
                  refine rg_act 3 ?_
                  go_wp2
                  refine ⟨hbel _ (by (repeat first | exact Below.refl _ _ | exact ⟨rfl, rfl, rfl, Nat.le_refl _, fun _ _ => rfl⟩ | refine Below.drew ?_ | refine Below.alloc ?_ (by (first | exact Nat.le_refl _ | (simp; done) | (simp; omega))) _ | refine Below.setCell ?_ (by (first | exact Nat.le_refl _ | (simp; done) | (simp; omega))) _)), ?_⟩
                  refine rg_act 10 ?_
                  go_wp2
                  refine ⟨hbel _ (by (repeat first | exact Below.refl _ _ | exact ⟨rfl, rfl, rfl, Nat.le_refl _, fun _ _ => rfl⟩ | refine Below.drew ?_ | refine Below.alloc ?_ (by (first | exact Nat.le_refl _ | (simp; done) | (simp; omega))) _ | refine Below.setCell ?_ (by (first | exact Nat.le_refl _ | (simp; done) | (simp; omega))) _)), ?_⟩
                  refine rg_act 11 ?_
                  go_wp2
                  refine ⟨hbel _ (by (repeat first | exact Below.refl _ _ | exact ⟨rfl, rfl, rfl, Nat.le_refl _, fun _ _ => rfl⟩ | refine Below.drew ?_ | refine Below.alloc ?_ (by (first | exact Nat.le_refl _ | (simp; done) | (simp; omega))) _ | refine Below.setCell ?_ (by (first | exact Nat.le_refl _ | (simp; done) | (simp; omega))) _)), ?_⟩
                  refine rg_end ?_
                  (exact ⟨_, _, _, _, _, _, _, _, _, _, rfl, by (first | (simp; done) | (simp; omega)), by (first | (simp; done) | (simp; omega)), by (first | (simp; done) | (simp; omega)), by (first | (simp; done) | (simp; omega)), by (first | (simp; done) | (simp; omega)), by (first | (simp; done) | (simp; omega)), by (first | (simp; done) | (simp; omega)), by (first | (simp; done) | (simp; omega)), by (first | (simp; done) | (simp; omega)), by (first | (simp; done) | (simp; omega)), by (repeat first | exact new_at (by simp; done) | refine Blk.setOther ?_ _ _ (by first | (simp; done) | (simp; omega)) | refine Blk.congr (Blk.set (cs := #[.pointer none]) ?_ 0 _) rfl | refine Blk.drew ?_ | refine Blk.alloc ?_ _), by (repeat first | exact new_at (by simp; done) | refine Blk.setOther ?_ _ _ (by first | (simp; done) | (simp; omega)) | refine Blk.congr (Blk.set (cs := #[.pointer none]) ?_ 0 _) rfl | refine Blk.drew ?_ | refine Blk.alloc ?_ _), by (repeat first | exact new_at (by simp; done) | refine Blk.setOther ?_ _ _ (by first | (simp; done) | (simp; omega)) | refine Blk.congr (Blk.set (cs := #[.pointer none]) ?_ 0 _) rfl | refine Blk.drew ?_ | refine Blk.alloc ?_ _), by (repeat first | exact new_at (by simp; done) | refine Blk.setOther ?_ _ _ (by first | (simp; done) | (simp; omega)) | refine Blk.congr (Blk.set (cs := #[.pointer none]) ?_ 0 _) rfl | refine Blk.drew ?_ | refine Blk.alloc ?_ _), by (repeat first | exact Below.refl _ _ | exact ⟨rfl, rfl, rfl, Nat.le_refl _, fun _ _ => rfl⟩ | refine Below.drew ?_ | refine Below.alloc ?_ (by (first | exact Nat.le_refl _ | (simp; done) | (simp; omega))) _ | refine Below.setCell ?_ (by (first | exact Nat.le_refl _ | (simp; done) | (simp; omega))) _)⟩)
              · go_wp2
                refine ⟨hbel _ (by (repeat first | exact Below.refl _ _ | exact ⟨rfl, rfl, rfl, Nat.le_refl _, fun _ _ => rfl⟩ | refine Below.drew ?_ | refine Below.alloc ?_ (by (first | exact Nat.le_refl _ | (simp; done) | (simp; omega))) _ | refine Below.setCell ?_ (by (first | exact Nat.le_refl _ | (simp; done) | (simp; omega))) _)), ?_⟩
                refine rg_among [3, 8] ?_
                simp only [List.forall_mem_cons, List.getD_cons_zero, List.getD_cons_succ]
                refine ⟨?_, ?_, by simp⟩
                · go_wp2
                  refine ⟨hbel _ (by (repeat first | exact Below.refl _ _ | exact ⟨rfl, rfl, rfl, Nat.le_refl _, fun _ _ => rfl⟩ | refine Below.drew ?_ | refine Below.alloc ?_ (by (first | exact Nat.le_refl _ | (simp; done) | (simp; omega))) _ | refine Below.setCell ?_ (by (first | exact Nat.le_refl _ | (simp; done) | (simp; omega))) _)), ?_⟩
                  refine rg_act 8 ?_
                  go_wp2
                  refine ⟨hbel _ (by (repeat first | exact Below.refl _ _ | exact ⟨rfl, rfl, rfl, Nat.le_refl _, fun _ _ => rfl⟩ | refine Below.drew ?_ | refine Below.alloc ?_ (by (first | exact Nat.le_refl _ | (simp; done) | (simp; omega))) _ | refine Below.setCell ?_ (by (first | exact Nat.le_refl _ | (simp; done) | (simp; omega))) _)), ?_⟩
                  refine rg_act 10 ?_
                  go_wp2
                  refine ⟨hbel _ (by (repeat first | exact Below.refl _ _ | exact ⟨rfl, rfl, rfl, Nat.le_refl _, fun _ _ => rfl⟩ | refine Below.drew ?_ | refine Below.alloc ?_ (by (first | exact Nat.le_refl _ | (simp; done) | (simp; omega))) _ | refine Below.setCell ?_ (by (first | exact Nat.le_refl _ | (simp; done) | (simp; omega))) _)), ?_⟩
                  refine rg_act 11 ?_
                  go_wp2
                  refine ⟨hbel _ (by (repeat first | exact Below.refl _ _ | exact ⟨rfl, rfl, rfl, Nat.le_refl _, fun _ _ => rfl⟩ | refine Below.drew ?_ | refine Below.alloc ?_ (by (first | exact Nat.le_refl _ | (simp; done) | (simp; omega))) _ | refine Below.setCell ?_ (by (first | exact Nat.le_refl _ | (simp; done) | (simp; omega))) _)), ?_⟩
                  refine rg_end ?_
                  (exact ⟨_, _, _, _, _, _, _, _, _, _, rfl, by (first | (simp; done) | (simp; omega)), by (first | (simp; done) | (simp; omega)), by (first | (simp; done) | (simp; omega)), by (first | (simp; done) | (simp; omega)), by (first | (simp; done) | (simp; omega)), by (first | (simp; done) | (simp; omega)), by (first | (simp; done) | (simp; omega)), by (first | (simp; done) | (simp; omega)), by (first | (simp; done) | (simp; omega)), by (first | (simp; done) | (simp; omega)), by (repeat first | exact new_at (by simp; done) | refine Blk.setOther ?_ _ _ (by first | (simp; done) | (simp; omega)) | refine Blk.congr (Blk.set (cs := #[.pointer none]) ?_ 0 _) rfl | refine Blk.drew ?_ | refine Blk.alloc ?_ _), by (repeat first | exact new_at (by simp; done) | refine Blk.setOther ?_ _ _ (by first | (simp; done) | (simp; omega)) | refine Blk.congr (Blk.set (cs := #[.pointer none]) ?_ 0 _) rfl | refine Blk.drew ?_ | refine Blk.alloc ?_ _), by (repeat first | exact new_at (by simp; done) | refine Blk.setOther ?_ _ _ (by first | (simp; done) | (simp; omega)) | refine Blk.congr (Blk.set (cs := #[.pointer none]) ?_ 0 _) rfl | refine Blk.drew ?_ | refine Blk.alloc ?_ _), by (repeat first | exact new_at (by simp; done) | refine Blk.setOther ?_ _ _ (by first | (simp; done) | (simp; omega)) | refine Blk.congr (Blk.set (cs := #[.pointer none]) ?_ 0 _) rfl | refine Blk.drew ?_ | refine Blk.alloc ?_ _), by (repeat first | exact Below.refl _ _ | exact ⟨rfl, rfl, rfl, Nat.le_refl _, fun _ _ => rfl⟩ | refine Below.drew ?_ | refine Below.alloc ?_ (by (first | exact Nat.le_refl _ | (simp; done) | (simp; omega))) _ | refine Below.setCell ?_ (by (first | exact Nat.le_refl _ | (simp; done) | (simp; omega))) _)⟩)
                · go_wp2
                  refine ⟨hbel _ (by (repeat first | exact Below.refl _ _ | exact ⟨rfl, rfl, rfl, Nat.le_refl _, fun _ _ => rfl⟩ | refine Below.drew ?_ | refine Below.alloc ?_ (by (first | exact Nat.le_refl _ | (simp; done) | (simp; omega))) _ | refine Below.setCell ?_ (by (first | exact Nat.le_refl _ | (simp; done) | (simp; omega))) _)), ?_⟩
                  refine rg_act 3 ?_
                  go_wp2
                  refine ⟨hbel _ (by (repeat first | exact Below.refl _ _ | exact ⟨rfl, rfl, rfl, Nat.le_refl _, fun _ _ => rfl⟩ | refine Below.drew ?_ | refine Below.alloc ?_ (by (first | exact Nat.le_refl _ | (simp; done) | (simp; omega))) _ | refine Below.setCell ?_ (by (first | exact Nat.le_refl _ | (simp; done) | (simp; omega))) _)), ?_⟩
                  refine rg_act 10 ?_
                  go_wp2
                  refine ⟨hbel _ (by (repeat first | exact Below.refl _ _ | exact ⟨rfl, rfl, rfl, Nat.le_refl _, fun _ _ => rfl⟩ | refine Below.drew ?_ | refine Below.alloc ?_ (by (first | exact Nat.le_refl _ | (simp; done) | (simp; omega))) _ | refine Below.setCell ?_ (by (first | exact Nat.le_refl _ | (simp; done) | (simp; omega))) _)), ?_⟩
                  refine rg_act 11 ?_
                  go_wp2
                  refine ⟨hbel _ (by (repeat first | exact Below.refl _ _ | exact ⟨rfl, rfl, rfl, Nat.le_refl _, fun _ _ => rfl⟩ | refine Below.drew ?_ | refine Below.alloc ?_ (by (first | exact Nat.le_refl _ | (simp; done) | (simp; omega))) _ | refine Below.setCell ?_ (by (first | exact Nat.le_refl _ | (simp; done) | (simp; omega))) _)), ?_⟩
                  refine rg_end ?_
                  (exact ⟨_, _, _, _, _, _, _, _, _, _, rfl, by (first | (simp; done) | (simp; omega)), by (first | (simp; done) | (simp; omega)), by (first | (simp; done) | (simp; omega)), by (first | (simp; done) | (simp; omega)), by (first | (simp; done) | (simp; omega)), by (first | (simp; done) | (simp; omega)), by (first | (simp; done) | (simp; omega)), by (first | (simp; done) | (simp; omega)), by (first | (simp; done) | (simp; omega)), by (first | (simp; done) | (simp; omega)), by (repeat first | exact new_at (by simp; done) | refine Blk.setOther ?_ _ _ (by first | (simp; done) | (simp; omega)) | refine Blk.congr (Blk.set (cs := #[.pointer none]) ?_ 0 _) rfl | refine Blk.drew ?_ | refine Blk.alloc ?_ _), by (repeat first | exact new_at (by simp; done) | refine Blk.setOther ?_ _ _ (by first | (simp; done) | (simp; omega)) | refine Blk.congr (Blk.set (cs := #[.pointer none]) ?_ 0 _) rfl | refine Blk.drew ?_ | refine Blk.alloc ?_ _), by (repeat first | exact new_at (by simp; done) | refine Blk.setOther ?_ _ _ (by first | (simp; done) | (simp; omega)) | refine Blk.congr (Blk.set (cs := #[.pointer none]) ?_ 0 _) rfl | refine Blk.drew ?_ | refine Blk.alloc ?_ _), by (repeat first | exact new_at (by simp; done) | refine Blk.setOther ?_ _ _ (by first | (simp; done) | (simp; omega)) | refine Blk.congr (Blk.set (cs := #[.pointer none]) ?_ 0 _) rfl | refine Blk.drew ?_ | refine Blk.alloc ?_ _), by (repeat first | exact Below.refl _ _ | exact ⟨rfl, rfl, rfl, Nat.le_refl _, fun _ _ => rfl⟩ | refine Below.drew ?_ | refine Below.alloc ?_ (by (first | exact Nat.le_refl _ | (simp; done) | (simp; omega))) _ | refine Below.setCell ?_ (by (first | exact Nat.le_refl _ | (simp; done) | (simp; omega))) _)⟩)
            · go_wp2
              refine ⟨hbel _ (by (repeat first | exact Below.refl _ _ | exact ⟨rfl, rfl, rfl, Nat.le_refl _, fun _ _ => rfl⟩ | refine Below.drew ?_ | refine Below.alloc ?_ (by (first | exact Nat.le_refl _ | (simp; done) | (simp; omega))) _ | refine Below.setCell ?_ (by (first | exact Nat.le_refl _ | (simp; done) | (simp; omega))) _)), ?_⟩
              refine rg_among [3, 7, 9] ?_
              simp only [List.forall_mem_cons, List.getD_cons_zero, List.getD_cons_succ]
              refine ⟨?_, ?_, ?_, by simp⟩
              · go_wp2
                refine ⟨hbel _ (by (repeat first | exact Below.refl _ _ | exact ⟨rfl, rfl, rfl, Nat.le_refl _, fun _ _ => rfl⟩ | refine Below.drew ?_ | refine Below.alloc ?_ (by (first | exact Nat.le_refl _ | (simp; done) | (simp; omega))) _ | refine Below.setCell ?_ (by (first | exact Nat.le_refl _ | (simp; done) | (simp; omega))) _)), ?_⟩
                refine rg_among [7, 9] ?_
                simp only [List.forall_mem_cons, List.getD_cons_zero, List.getD_cons_succ]
                refine ⟨?_, ?_, by simp⟩
                · go_wp2
                  refine ⟨hbel _ (by (repeat first | exact Below.refl _ _ | exact ⟨rfl, rfl, rfl, Nat.le_refl _, fun _ _ => rfl⟩ | refine Below.drew ?_ | refine Below.alloc ?_ (by (first | exact Nat.le_refl _ | (simp; done) | (simp; omega))) _ | refine Below.setCell ?_ (by (first | exact Nat.le_refl _ | (simp; done) | (simp; omega))) _)), ?_⟩
                  refine rg_act 9 ?_
                  go_wp2
                  refine ⟨hbel _ (by (repeat first | exact Below.refl _ _ | exact ⟨rfl, rfl, rfl, Nat.le_refl _, fun _ _ => rfl⟩ | refine Below.drew ?_ | refine Below.alloc ?_ (by (first | exact Nat.le_refl _ | (simp; done) | (simp; omega))) _ | refine Below.setCell ?_ (by (first | exact Nat.le_refl _ | (simp; done) | (simp; omega))) _)), ?_⟩
                  refine rg_act 10 ?_
                  go_wp2
                  refine ⟨hbel _ (by (repeat first | exact Below.refl _ _ | exact ⟨rfl, rfl, rfl, Nat.le_refl _, fun _ _ => rfl⟩ | refine Below.drew ?_ | refine Below.alloc ?_ (by (first | exact Nat.le_refl _ | (simp; done) | (simp; omega))) _ | refine Below.setCell ?_ (by (first | exact Nat.le_refl _ | (simp; done) | (simp; omega))) _)), ?_⟩
                  refine rg_act 11 ?_
                  go_wp2
                  refine ⟨hbel _ (by (repeat first | exact Below.refl _ _ | exact ⟨rfl, rfl, rfl, Nat.le_refl _, fun _ _ => rfl⟩ | refine Below.drew ?_ | refine Below.alloc ?_ (by (first | exact Nat.le_refl _ | (simp; done) | (simp; omega))) _ | refine Below.setCell ?_ (by (first | exact Nat.le_refl _ | (simp; done) | (simp; omega))) _)), ?_⟩
                  refine rg_end ?_
                  (exact ⟨_, _, _, _, _, _, _, _, _, _, rfl, by (first | (simp; done) | (simp; omega)), by (first | (simp; done) | (simp; omega)), by (first | (simp; done) | (simp; omega)), by (first | (simp; done) | (simp; omega)), by (first | (simp; done) | (simp; omega)), by (first | (simp; done) | (simp; omega)), by (first | (simp; done) | (simp; omega)), by (first | (simp; done) | (simp; omega)), by (first | (simp; done) | (simp; omega)), by (first | (simp; done) | (simp; omega)), by (repeat first | exact new_at (by simp; done) | refine Blk.setOther ?_ _ _ (by first | (simp; done) | (simp; omega)) | refine Blk.congr (Blk.set (cs := #[.pointer none]) ?_ 0 _) rfl | refine Blk.drew ?_ | refine Blk.alloc ?_ _), by (repeat first | exact new_at (by simp; done) | refine Blk.setOther ?_ _ _ (by first | (simp; done) | (simp; omega)) | refine Blk.congr (Blk.set (cs := #[.pointer none]) ?_ 0 _) rfl | refine Blk.drew ?_ | refine Blk.alloc ?_ _), by (repeat first | exact new_at (by simp; done) | refine Blk.setOther ?_ _ _ (by first | (simp; done) | (simp; omega)) | refine Blk.congr (Blk.set (cs := #[.pointer none]) ?_ 0 _) rfl | refine Blk.drew ?_ | refine Blk.alloc ?_ _), by (repeat first | exact new_at (by simp; done) | refine Blk.setOther ?_ _ _ (by first | (simp; done) | (simp; omega)) | refine Blk.congr (Blk.set (cs := #[.pointer none]) ?_ 0 _) rfl | refine Blk.drew ?_ | refine Blk.alloc ?_ _), by (repeat first | exact Below.refl _ _ | exact ⟨rfl, rfl, rfl, Nat.le_refl _, fun _ _ => rfl⟩ | refine Below.drew ?_ | refine Below.alloc ?_ (by (first | exact Nat.le_refl _ | (simp; done) | (simp; omega))) _ | refine Below.setCell ?_ (by (first | exact Nat.le_refl _ | (simp; done) | (simp; omega))) _)⟩)
                · go_wp2
                  refine ⟨hbel _ (by (repeat first | exact Below.refl _ _ | exact ⟨rfl, rfl, rfl, Nat.le_refl _, fun _ _ => rfl⟩ | refine Below.drew ?_ | refine Below.alloc ?_ (by (first | exact Nat.le_refl _ | (simp; done) | (simp; omega))) _ | refine Below.setCell ?_ (by (first | exact Nat.le_refl _ | (simp; done) | (simp; omega))) _)), ?_⟩
                  refine rg_among [7, 10] ?_
                  simp only [List.forall_mem_cons, List.getD_cons_zero, List.getD_cons_succ]
                  refine ⟨?_, ?_, by simp⟩
                  · go_wp2
                    refine ⟨hbel _ (by (repeat first | exact Below.refl _ _ | exact ⟨rfl, rfl, rfl, Nat.le_refl _, fun _ _ => rfl⟩ | refine Below.drew ?_ | refine Below.alloc ?_ (by (first | exact Nat.le_refl _ | (simp; done) | (simp; omega))) _ | refine Below.setCell ?_ (by (first | exact Nat.le_refl _ | (simp; done) | (simp; omega))) _)), ?_⟩
                    refine rg_act 10 ?_
                    go_wp2
                    refine ⟨hbel _ (by (repeat first | exact Below.refl _ _ | exact ⟨rfl, rfl, rfl, Nat.le_refl _, fun _ _ => rfl⟩ | refine Below.drew ?_ | refine Below.alloc ?_ (by (first | exact Nat.le_refl _ | (simp; done) | (simp; omega))) _ | refine Below.setCell ?_ (by (first | exact Nat.le_refl _ | (simp; done) | (simp; omega))) _)), ?_⟩
                    refine rg_act 11 ?_
                    go_wp2
                    refine ⟨hbel _ (by (repeat first | exact Below.refl _ _ | exact ⟨rfl, rfl, rfl, Nat.le_refl _, fun _ _ => rfl⟩ | refine Below.drew ?_ | refine Below.alloc ?_ (by (first | exact Nat.le_refl _ | (simp; done) | (simp; omega))) _ | refine Below.setCell ?_ (by (first | exact Nat.le_refl _ | (simp; done) | (simp; omega))) _)), ?_⟩
                    refine rg_end ?_
                    (exact ⟨_, _, _, _, _, _, _, _, _, _, rfl, by (first | (simp; done) | (simp; omega)), by (first | (simp; done) | (simp; omega)), by (first | (simp; done) | (simp; omega)), by (first | (simp; done) | (simp; omega)), by (first | (simp; done) | (simp; omega)), by (first | (simp; done) | (simp; omega)), by (first | (simp; done) | (simp; omega)), by (first | (simp; done) | (simp; omega)), by (first | (simp; done) | (simp; omega)), by (first | (simp; done) | (simp; omega)), by (repeat first | exact new_at (by simp; done) | refine Blk.setOther ?_ _ _ (by first | (simp; done) | (simp; omega)) | refine Blk.congr (Blk.set (cs := #[.pointer none]) ?_ 0 _) rfl | refine Blk.drew ?_ | refine Blk.alloc ?_ _), by (repeat first | exact new_at (by simp; done) | refine Blk.setOther ?_ _ _ (by first | (simp; done) | (simp; omega)) | refine Blk.congr (Blk.set (cs := #[.pointer none]) ?_ 0 _) rfl | refine Blk.drew ?_ | refine Blk.alloc ?_ _), by (repeat first | exact new_at (by simp; done) | refine Blk.setOther ?_ _ _ (by first | (simp; done) | (simp; omega)) | refine Blk.congr (Blk.set (cs := #[.pointer none]) ?_ 0 _) rfl | refine Blk.drew ?_ | refine Blk.alloc ?_ _), by (repeat first | exact new_at (by simp; done) | refine Blk.setOther ?_ _ _ (by first | (simp; done) | (simp; omega)) | refine Blk.congr (Blk.set (cs := #[.pointer none]) ?_ 0 _) rfl | refine Blk.drew ?_ | refine Blk.alloc ?_ _), by (repeat first | exact Below.refl _ _ | exact ⟨rfl, rfl, rfl, Nat.le_refl _, fun _ _ => rfl⟩ | refine Below.drew ?_ | refine Below.alloc ?_ (by (first | exact Nat.le_refl _ | (simp; done) | (simp; omega))) _ | refine Below.setCell ?_ (by (first | exact Nat.le_refl _ | (simp; done) | (simp; omega))) _)⟩)
                  · go_wp2
                    refine ⟨hbel _ (by (repeat first | exact Below.refl _ _ | exact ⟨rfl, rfl, rfl, Nat.le_refl _, fun _ _ => rfl⟩ | refine Below.drew ?_ | refine Below.alloc ?_ (by (first | exact Nat.le_refl _ | (simp; done) | (simp; omega))) _ | refine Below.setCell ?_ (by (first | exact Nat.le_refl _ | (simp; done) | (simp; omega))) _)), ?_⟩
                    refine rg_act 7 ?_
                    go_wp2
                    refine ⟨hbel _ (by (repeat first | exact Below.refl _ _ | exact ⟨rfl, rfl, rfl, Nat.le_refl _, fun _ _ => rfl⟩ | refine Below.drew ?_ | refine Below.alloc ?_ (by (first | exact Nat.le_refl _ | (simp; done) | (simp; omega))) _ | refine Below.setCell ?_ (by (first | exact Nat.le_refl _ | (simp; done) | (simp; omega))) _)), ?_⟩
                    refine rg_act 11 ?_
                    go_wp2
                    refine ⟨hbel _ (by (repeat first | exact Below.refl _ _ | exact ⟨rfl, rfl, rfl, Nat.le_refl _, fun _ _ => rfl⟩ | refine Below.drew ?_ | refine Below.alloc ?_ (by (first | exact Nat.le_refl _ | (simp; done) | (simp; omega))) _ | refine Below.setCell ?_ (by (first | exact Nat.le_refl _ | (simp; done) | (simp; omega))) _)), ?_⟩
                    refine rg_end ?_
                    (exact ⟨_, _, _, _, _, _, _, _, _, _, rfl, by (first | (simp; done) | (simp; omega)), by (first | (simp; done) | (simp; omega)), by (first | (simp; done) | (simp; omega)), by (first | (simp; done) | (simp; omega)), by (first | (simp; done) | (simp; omega)), by (first | (simp; done) | (simp; omega)), by (first | (simp; done) | (simp; omega)), by (first | (simp; done) | (simp; omega)), by (first | (simp; done) | (simp; omega)), by (first | (simp; done) | (simp; omega)), by (repeat first | exact new_at (by simp; done) | refine Blk.setOther ?_ _ _ (by first | (simp; done) | (simp; omega)) | refine Blk.congr (Blk.set (cs := #[.pointer none]) ?_ 0 _) rfl | refine Blk.drew ?_ | refine Blk.alloc ?_ _), by (repeat first | exact new_at (by simp; done) | refine Blk.setOther ?_ _ _ (by first | (simp; done) | (simp; omega)) | refine Blk.congr (Blk.set (cs := #[.pointer none]) ?_ 0 _) rfl | refine Blk.drew ?_ | refine Blk.alloc ?_ _), by (repeat first | exact new_at (by simp; done) | refine Blk.setOther ?_ _ _ (by first | (simp; done) | (simp; omega)) | refine Blk.congr (Blk.set (cs := #[.pointer none]) ?_ 0 _) rfl | refine Blk.drew ?_ | refine Blk.alloc ?_ _), by (repeat first | exact new_at (by simp; done) | refine Blk.setOther ?_ _ _ (by first | (simp; done) | (simp; omega)) | refine Blk.congr (Blk.set (cs := #[.pointer none]) ?_ 0 _) rfl | refine Blk.drew ?_ | refine Blk.alloc ?_ _), by (repeat first | exact Below.refl _ _ | exact ⟨rfl, rfl, rfl, Nat.le_refl _, fun _ _ => rfl⟩ | refine Below.drew ?_ | refine Below.alloc ?_ (by (first | exact Nat.le_refl _ | (simp; done) | (simp; omega))) _ | refine Below.setCell ?_ (by (first | exact Nat.le_refl _ | (simp; done) | (simp; omega))) _)⟩)
              · go_wp2
                refine ⟨hbel _ (by (repeat first | exact Below.refl _ _ | exact ⟨rfl, rfl, rfl, Nat.le_refl _, fun _ _ => rfl⟩ | refine Below.drew ?_ | refine Below.alloc ?_ (by (first | exact Nat.le_refl _ | (simp; done) | (simp; omega))) _ | refine Below.setCell ?_ (by (first | exact Nat.le_refl _ | (simp; done) | (simp; omega))) _)), ?_⟩
                refine rg_among [3, 9] ?_
                simp only [List.forall_mem_cons, List.getD_cons_zero, List.getD_cons_succ]
                refine ⟨?_, ?_, by simp⟩
                · go_wp2
                  refine ⟨hbel _ (by (repeat first | exact Below.refl _ _ | exact ⟨rfl, rfl, rfl, Nat.le_refl _, fun _ _ => rfl⟩ | refine Below.drew ?_ | refine Below.alloc ?_ (by (first | exact Nat.le_refl _ | (simp; done) | (simp; omega))) _ | refine Below.setCell ?_ (by (first | exact Nat.le_refl _ | (simp; done) | (simp; omega))) _)), ?_⟩
                  refine rg_act 9 ?_
                  go_wp2
                  refine ⟨hbel _ (by (repeat first | exact Below.refl _ _ | exact ⟨rfl, rfl, rfl, Nat.le_refl _, fun _ _ => rfl⟩ | refine Below.drew ?_ | refine Below.alloc ?_ (by (first | exact Nat.le_refl _ | (simp; done) | (simp; omega))) _ | refine Below.setCell ?_ (by (first | exact Nat.le_refl _ | (simp; done) | (simp; omega))) _)), ?_⟩
                  refine rg_act 10 ?_
                  go_wp2
                  refine ⟨hbel _ (by (repeat first | exact Below.refl _ _ | exact ⟨rfl, rfl, rfl, Nat.le_refl _, fun _ _ => rfl⟩ | refine Below.drew ?_ | refine Below.alloc ?_ (by (first | exact Nat.le_refl _ | (simp; done) | (simp; omega))) _ | refine Below.setCell ?_ (by (first | exact Nat.le_refl _ | (simp; done) | (simp; omega))) _)), ?_⟩
                  refine rg_act 11 ?_
                  go_wp2
                  refine ⟨hbel _ (by (repeat first | exact Below.refl _ _ | exact ⟨rfl, rfl, rfl, Nat.le_refl _, fun _ _ => rfl⟩ | refine Below.drew ?_ | refine Below.alloc ?_ (by (first | exact Nat.le_refl _ | (simp; done) | (simp; omega))) _ | refine Below.setCell ?_ (by (first | exact Nat.le_refl _ | (simp; done) | (simp; omega))) _)), ?_⟩
                  refine rg_end ?_
                  (exact ⟨_, _, _, _, _, _, _, _, _, _, rfl, by (first | (simp; done) | (simp; omega)), by (first | (simp; done) | (simp; omega)), by (first | (simp; done) | (simp; omega)), by (first | (simp; done) | (simp; omega)), by (first | (simp; done) | (simp; omega)), by (first | (simp; done) | (simp; omega)), by (first | (simp; done) | (simp; omega)), by (first | (simp; done) | (simp; omega)), by (first | (simp; done) | (simp; omega)), by (first | (simp; done) | (simp; omega)), by (repeat first | exact new_at (by simp; done) | refine Blk.setOther ?_ _ _ (by first | (simp; done) | (simp; omega)) | refine Blk.congr (Blk.set (cs := #[.pointer none]) ?_ 0 _) rfl | refine Blk.drew ?_ | refine Blk.alloc ?_ _), by (repeat first | exact new_at (by simp; done) | refine Blk.setOther ?_ _ _ (by first | (simp; done) | (simp; omega)) | refine Blk.congr (Blk.set (cs := #[.pointer none]) ?_ 0 _) rfl | refine Blk.drew ?_ | refine Blk.alloc ?_ _), by (repeat first | exact new_at (by simp; done) | refine Blk.setOther ?_ _ _ (by first | (simp; done) | (simp; omega)) | refine Blk.congr (Blk.set (cs := #[.pointer none]) ?_ 0 _) rfl | refine Blk.drew ?_ | refine Blk.alloc ?_ _), by (repeat first | exact new_at (by simp; done) | refine Blk.setOther ?_ _ _ (by first | (simp; done) | (simp; omega)) | refine Blk.congr (Blk.set (cs := #[.pointer none]) ?_ 0 _) rfl | refine Blk.drew ?_ | refine Blk.alloc ?_ _), by (repeat first | exact Below.refl _ _ | exact ⟨rfl, rfl, rfl, Nat.le_refl _, fun _ _ => rfl⟩ | refine Below.drew ?_ | refine Below.alloc ?_ (by (first | exact Nat.le_refl _ | (simp; done) | (simp; omega))) _ | refine Below.setCell ?_ (by (first | exact Nat.le_refl _ | (simp; done) | (simp; omega))) _)⟩)
                · go_wp2
                  refine ⟨hbel _ (by (repeat first | exact Below.refl _ _ | exact ⟨rfl, rfl, rfl, Nat.le_refl _, fun _ _ => rfl⟩ | refine Below.drew ?_ | refine Below.alloc ?_ (by (first | exact Nat.le_refl _ | (simp; done) | (simp; omega))) _ | refine Below.setCell ?_ (by (first | exact Nat.le_refl _ | (simp; done) | (simp; omega))) _)), ?_⟩
                  refine rg_act 3 ?_
                  go_wp2
                  refine ⟨hbel _ (by (repeat first | exact Below.refl _ _ | exact ⟨rfl, rfl, rfl, Nat.le_refl _, fun _ _ => rfl⟩ | refine Below.drew ?_ | refine Below.alloc ?_ (by (first | exact Nat.le_refl _ | (simp; done) | (simp; omega))) _ | refine Below.setCell ?_ (by (first | exact Nat.le_refl _ | (simp; done) | (simp; omega))) _)), ?_⟩
                  refine rg_act 10 ?_
                  go_wp2
                  refine ⟨hbel _ (by (repeat first | exact Below.refl _ _ | exact ⟨rfl, rfl, rfl, Nat.le_refl _, fun _ _ => rfl⟩ | refine Below.drew ?_ | refine Below.alloc ?_ (by (first | exact Nat.le_refl _ | (simp; done) | (simp; omega))) _ | refine Below.setCell ?_ (by (first | exact Nat.le_refl _ | (simp; done) | (simp; omega))) _)), ?_⟩
                  refine rg_act 11 ?_
                  go_wp2
                  refine ⟨hbel _ (by (repeat first | exact Below.refl _ _ | exact ⟨rfl, rfl, rfl, Nat.le_refl _, fun _ _ => rfl⟩ | refine Below.drew ?_ | refine Below.alloc ?_ (by (first | exact Nat.le_refl _ | (simp; done) | (simp; omega))) _ | refine Below.setCell ?_ (by (first | exact Nat.le_refl _ | (simp; done) | (simp; omega))) _)), ?_⟩
                  refine rg_end ?_
                  (exact ⟨_, _, _, _, _, _, _, _, _, _, rfl, by (first | (simp; done) | (simp; omega)), by (first | (simp; done) | (simp; omega)), by (first | (simp; done) | (simp; omega)), by (first | (simp; done) | (simp; omega)), by (first | (simp; done) | (simp; omega)), by (first | (simp; done) | (simp; omega)), by (first | (simp; done) | (simp; omega)), by (first | (simp; done) | (simp; omega)), by (first | (simp; done) | (simp; omega)), by (first | (simp; done) | (simp; omega)), by (repeat first | exact new_at (by simp; done) | refine Blk.setOther ?_ _ _ (by first | (simp; done) | (simp; omega)) | refine Blk.congr (Blk.set (cs := #[.pointer none]) ?_ 0 _) rfl | refine Blk.drew ?_ | refine Blk.alloc ?_ _), by (repeat first | exact new_at (by simp; done) | refine Blk.setOther ?_ _ _ (by first | (simp; done) | (simp; omega)) | refine Blk.congr (Blk.set (cs := #[.pointer none]) ?_ 0 _) rfl | refine Blk.drew ?_ | refine Blk.alloc ?_ _), by (repeat first | exact new_at (by simp; done) | refine Blk.setOther ?_ _ _ (by first | (simp; done) | (simp; omega)) | refine Blk.congr (Blk.set (cs := #[.pointer none]) ?_ 0 _) rfl | refine Blk.drew ?_ | refine Blk.alloc ?_ _), by (repeat first | exact new_at (by simp; done) | refine Blk.setOther ?_ _ _ (by first | (simp; done) | (simp; omega)) | refine Blk.congr (Blk.set (cs := #[.pointer none]) ?_ 0 _) rfl | refine Blk.drew ?_ | refine Blk.alloc ?_ _), by (repeat first | exact Below.refl _ _ | exact ⟨rfl, rfl, rfl, Nat.le_refl _, fun _ _ => rfl⟩ | refine Below.drew ?_ | refine Below.alloc ?_ (by (first | exact Nat.le_refl _ | (simp; done) | (simp; omega))) _ | refine Below.setCell ?_ (by (first | exact Nat.le_refl _ | (simp; done) | (simp; omega))) _)⟩)
              · go_wp2
                refine ⟨hbel _ (by (repeat first | exact Below.refl _ _ | exact ⟨rfl, rfl, rfl, Nat.le_refl _, fun _ _ => rfl⟩ | refine Below.drew ?_ | refine Below.alloc ?_ (by (first | exact Nat.le_refl _ | (simp; done) | (simp; omega))) _ | refine Below.setCell ?_ (by (first | exact Nat.le_refl _ | (simp; done) | (simp; omega))) _)), ?_⟩
                refine rg_among [3, 7] ?_
                simp only [List.forall_mem_cons, List.getD_cons_zero, List.getD_cons_succ]
                refine ⟨?_, ?_, by simp⟩
                · go_wp2
                  refine ⟨hbel _ (by (repeat first | exact Below.refl _ _ | exact ⟨rfl, rfl, rfl, Nat.le_refl _, fun _ _ => rfl⟩ | refine Below.drew ?_ | refine Below.alloc ?_ (by (first | exact Nat.le_refl _ | (simp; done) | (simp; omega))) _ | refine Below.setCell ?_ (by (first | exact Nat.le_refl _ | (simp; done) | (simp; omega))) _)), ?_⟩
                  refine rg_among [7, 10] ?_
                  simp only [List.forall_mem_cons, List.getD_cons_zero, List.getD_cons_succ]
                  refine ⟨?_, ?_, by simp⟩
                  · go_wp2
                    refine ⟨hbel _ (by (repeat first | exact Below.refl _ _ | exact ⟨rfl, rfl, rfl, Nat.le_refl _, fun _ _ => rfl⟩ | refine Below.drew ?_ | refine Below.alloc ?_ (by (first | exact Nat.le_refl _ | (simp; done) | (simp; omega))) _ | refine Below.setCell ?_ (by (first | exact Nat.le_refl _ | (simp; done) | (simp; omega))) _)), ?_⟩
                    refine rg_act 10 ?_
                    go_wp2
                    refine ⟨hbel _ (by (repeat first | exact Below.refl _ _ | exact ⟨rfl, rfl, rfl, Nat.le_refl _, fun _ _ => rfl⟩ | refine Below.drew ?_ | refine Below.alloc ?_ (by (first | exact Nat.le_refl _ | (simp; done) | (simp; omega))) _ | refine Below.setCell ?_ (by (first | exact Nat.le_refl _ | (simp; done) | (simp; omega))) _)), ?_⟩
                    refine rg_act 11 ?_
                    go_wp2
                    refine ⟨hbel _ (by (repeat first | exact Below.refl _ _ | exact ⟨rfl, rfl, rfl, Nat.le_refl _, fun _ _ => rfl⟩ | refine Below.drew ?_ | refine Below.alloc ?_ (by (first | exact Nat.le_refl _ | (simp; done) | (simp; omega))) _ | refine Below.setCell ?_ (by (first | exact Nat.le_refl _ | (simp; done) | (simp; omega))) _)), ?_⟩
                    refine rg_end ?_
                    (exact ⟨_, _, _, _, _, _, _, _, _, _, rfl, by (first | (simp; done) | (simp; omega)), by (first | (simp; done) | (simp; omega)), by (first | (simp; done) | (simp; omega)), by (first | (simp; done) | (simp; omega)), by (first | (simp; done) | (simp; omega)), by (first | (simp; done) | (simp; omega)), by (first | (simp; done) | (simp; omega)), by (first | (simp; done) | (simp; omega)), by (first | (simp; done) | (simp; omega)), by (first | (simp; done) | (simp; omega)), by (repeat first | exact new_at (by simp; done) | refine Blk.setOther ?_ _ _ (by first | (simp; done) | (simp; omega)) | refine Blk.congr (Blk.set (cs := #[.pointer none]) ?_ 0 _) rfl | refine Blk.drew ?_ | refine Blk.alloc ?_ _), by (repeat first | exact new_at (by simp; done) | refine Blk.setOther ?_ _ _ (by first | (simp; done) | (simp; omega)) | refine Blk.congr (Blk.set (cs := #[.pointer none]) ?_ 0 _) rfl | refine Blk.drew ?_ | refine Blk.alloc ?_ _), by (repeat first | exact new_at (by simp; done) | refine Blk.setOther ?_ _ _ (by first | (simp; done) | (simp; omega)) | refine Blk.congr (Blk.set (cs := #[.pointer none]) ?_ 0 _) rfl | refine Blk.drew ?_ | refine Blk.alloc ?_ _), by (repeat first | exact new_at (by simp; done) | refine Blk.setOther ?_ _ _ (by first | (simp; done) | (simp; omega)) | refine Blk.congr (Blk.set (cs := #[.pointer none]) ?_ 0 _) rfl | refine Blk.drew ?_ | refine Blk.alloc ?_ _), by (repeat first | exact Below.refl _ _ | exact ⟨rfl, rfl, rfl, Nat.le_refl _, fun _ _ => rfl⟩ | refine Below.drew ?_ | refine Below.alloc ?_ (by (first | exact Nat.le_refl _ | (simp; done) | (simp; omega))) _ | refine Below.setCell ?_ (by (first | exact Nat.le_refl _ | (simp; done) | (simp; omega))) _)⟩)
                  · go_wp2
                    refine ⟨hbel _ (by (repeat first | exact Below.refl _ _ | exact ⟨rfl, rfl, rfl, Nat.le_refl _, fun _ _ => rfl⟩ | refine Below.drew ?_ | refine Below.alloc ?_ (by (first | exact Nat.le_refl _ | (simp; done) | (simp; omega))) _ | refine Below.setCell ?_ (by (first | exact Nat.le_refl _ | (simp; done) | (simp; omega))) _)), ?_⟩
                    refine rg_act 7 ?_
                    go_wp2
                    refine ⟨hbel _ (by (repeat first | exact Below.refl _ _ | exact ⟨rfl, rfl, rfl, Nat.le_refl _, fun _ _ => rfl⟩ | refine Below.drew ?_ | refine Below.alloc ?_ (by (first | exact Nat.le_refl _ | (simp; done) | (simp; omega))) _ | refine Below.setCell ?_ (by (first | exact Nat.le_refl _ | (simp; done) | (simp; omega))) _)), ?_⟩
                    refine rg_act 11 ?_
                    go_wp2
                    refine ⟨hbel _ (by (repeat first | exact Below.refl _ _ | exact ⟨rfl, rfl, rfl, Nat.le_refl _, fun _ _ => rfl⟩ | refine Below.drew ?_ | refine Below.alloc ?_ (by (first | exact Nat.le_refl _ | (simp; done) | (simp; omega))) _ | refine Below.setCell ?_ (by (first | exact Nat.le_refl _ | (simp; done) | (simp; omega))) _)), ?_⟩
                    refine rg_end ?_
                    (exact ⟨_, _, _, _, _, _, _, _, _, _, rfl, by (first | (simp; done) | (simp; omega)), by (first | (simp; done) | (simp; omega)), by (first | (simp; done) | (simp; omega)), by (first | (simp; done) | (simp; omega)), by (first | (simp; done) | (simp; omega)), by (first | (simp; done) | (simp; omega)), by (first | (simp; done) | (simp; omega)), by (first | (simp; done) | (simp; omega)), by (first | (simp; done) | (simp; omega)), by (first | (simp; done) | (simp; omega)), by (repeat first | exact new_at (by simp; done) | refine Blk.setOther ?_ _ _ (by first | (simp; done) | (simp; omega)) | refine Blk.congr (Blk.set (cs := #[.pointer none]) ?_ 0 _) rfl | refine Blk.drew ?_ | refine Blk.alloc ?_ _), by (repeat first | exact new_at (by simp; done) | refine Blk.setOther ?_ _ _ (by first | (simp; done) | (simp; omega)) | refine Blk.congr (Blk.set (cs := #[.pointer none]) ?_ 0 _) rfl | refine Blk.drew ?_ | refine Blk.alloc ?_ _), by (repeat first | exact new_at (by simp; done) | refine Blk.setOther ?_ _ _ (by first | (simp; done) | (simp; omega)) | refine Blk.congr (Blk.set (cs := #[.pointer none]) ?_ 0 _) rfl | refine Blk.drew ?_ | refine Blk.alloc ?_ _), by (repeat first | exact new_at (by simp; done) | refine Blk.setOther ?_ _ _ (by first | (simp; done) | (simp; omega)) | refine Blk.congr (Blk.set (cs := #[.pointer none]) ?_ 0 _) rfl | refine Blk.drew ?_ | refine Blk.alloc ?_ _), by (repeat first | exact Below.refl _ _ | exact ⟨rfl, rfl, rfl, Nat.le_refl _, fun _ _ => rfl⟩ | refine Below.drew ?_ | refine Below.alloc ?_ (by (first | exact Nat.le_refl _ | (simp; done) | (simp; omega))) _ | refine Below.setCell ?_ (by (first | exact Nat.le_refl _ | (simp; done) | (simp; omega))) _)⟩)
                · go_wp2
                  refine ⟨hbel _ (by (repeat first | exact Below.refl _ _ | exact ⟨rfl, rfl, rfl, Nat.le_refl _, fun _ _ => rfl⟩ | refine Below.drew ?_ | refine Below.alloc ?_ (by (first | exact Nat.le_refl _ | (simp; done) | (simp; omega))) _ | refine Below.setCell ?_ (by (first | exact Nat.le_refl _ | (simp; done) | (simp; omega))) _)), ?_⟩
                  refine rg_act 3 ?_
                  go_wp2
                  refine ⟨hbel _ (by (repeat first | exact Below.refl _ _ | exact ⟨rfl, rfl, rfl, Nat.le_refl _, fun _ _ => rfl⟩ | refine Below.drew ?_ | refine Below.alloc ?_ (by (first | exact Nat.le_refl _ | (simp; done) | (simp; omega))) _ | refine Below.setCell ?_ (by (first | exact Nat.le_refl _ | (simp; done) | (simp; omega))) _)), ?_⟩
                  refine rg_act 10 ?_
                  go_wp2
                  refine ⟨hbel _ (by (repeat first | exact Below.refl _ _ | exact ⟨rfl, rfl, rfl, Nat.le_refl _, fun _ _ => rfl⟩ | refine Below.drew ?_ | refine Below.alloc ?_ (by (first | exact Nat.le_refl _ | (simp; done) | (simp; omega))) _ | refine Below.setCell ?_ (by (first | exact Nat.le_refl _ | (simp; done) | (simp; omega))) _)), ?_⟩
                  refine rg_act 11 ?_
                  go_wp2
                  refine ⟨hbel _ (by (repeat first | exact Below.refl _ _ | exact ⟨rfl, rfl, rfl, Nat.le_refl _, fun _ _ => rfl⟩ | refine Below.drew ?_ | refine Below.alloc ?_ (by (first | exact Nat.le_refl _ | (simp; done) | (simp; omega))) _ | refine Below.setCell ?_ (by (first | exact Nat.le_refl _ | (simp; done) | (simp; omega))) _)), ?_⟩
                  refine rg_end ?_
                  (exact ⟨_, _, _, _, _, _, _, _, _, _, rfl, by (first | (simp; done) | (simp; omega)), by (first | (simp; done) | (simp; omega)), by (first | (simp; done) | (simp; omega)), by (first | (simp; done) | (simp; omega)), by (first | (simp; done) | (simp; omega)), by (first | (simp; done) | (simp; omega)), by (first | (simp; done) | (simp; omega)), by (first | (simp; done) | (simp; omega)), by (first | (simp; done) | (simp; omega)), by (first | (simp; done) | (simp; omega)), by (repeat first | exact new_at (by simp; done) | refine Blk.setOther ?_ _ _ (by first | (simp; done) | (simp; omega)) | refine Blk.congr (Blk.set (cs := #[.pointer none]) ?_ 0 _) rfl | refine Blk.drew ?_ | refine Blk.alloc ?_ _), by (repeat first | exact new_at (by simp; done) | refine Blk.setOther ?_ _ _ (by first | (simp; done) | (simp; omega)) | refine Blk.congr (Blk.set (cs := #[.pointer none]) ?_ 0 _) rfl | refine Blk.drew ?_ | refine Blk.alloc ?_ _), by (repeat first | exact new_at (by simp; done) | refine Blk.setOther ?_ _ _ (by first | (simp; done) | (simp; omega)) | refine Blk.congr (Blk.set (cs := #[.pointer none]) ?_ 0 _) rfl | refine Blk.drew ?_ | refine Blk.alloc ?_ _), by (repeat first | exact new_at (by simp; done) | refine Blk.setOther ?_ _ _ (by first | (simp; done) | (simp; omega)) | refine Blk.congr (Blk.set (cs := #[.pointer none]) ?_ 0 _) rfl | refine Blk.drew ?_ | refine Blk.alloc ?_ _), by (repeat first | exact Below.refl _ _ | exact ⟨rfl, rfl, rfl, Nat.le_refl _, fun _ _ => rfl⟩ | refine Below.drew ?_ | refine Below.alloc ?_ (by (first | exact Nat.le_refl _ | (simp; done) | (simp; omega))) _ | refine Below.setCell ?_ (by (first | exact Nat.le_refl _ | (simp; done) | (simp; omega))) _)⟩)
            · go_wp2
              refine ⟨hbel _ (by (repeat first | exact Below.refl _ _ | exact ⟨rfl, rfl, rfl, Nat.le_refl _, fun _ _ => rfl⟩ | refine Below.drew ?_ | refine Below.alloc ?_ (by (first | exact Nat.le_refl _ | (simp; done) | (simp; omega))) _ | refine Below.setCell ?_ (by (first | exact Nat.le_refl _ | (simp; done) | (simp; omega))) _)), ?_⟩
              refine rg_among [3, 7, 8] ?_
              simp only [List.forall_mem_cons, List.getD_cons_zero, List.getD_cons_succ]
              refine ⟨?_, ?_, ?_, by simp⟩
              · go_wp2
                refine ⟨hbel _ (by (repeat first | exact Below.refl _ _ | exact ⟨rfl, rfl, rfl, Nat.le_refl _, fun _ _ => rfl⟩ | refine Below.drew ?_ | refine Below.alloc ?_ (by (first | exact Nat.le_refl _ | (simp; done) | (simp; omega))) _ | refine Below.setCell ?_ (by (first | exact Nat.le_refl _ | (simp; done) | (simp; omega))) _)), ?_⟩
                refine rg_among [7, 8] ?_
                simp only [List.forall_mem_cons, List.getD_cons_zero, List.getD_cons_succ]
                refine ⟨?_, ?_, by simp⟩
                · go_wp2
                  refine ⟨hbel _ (by (repeat first | exact Below.refl _ _ | exact ⟨rfl, rfl, rfl, Nat.le_refl _, fun _ _ => rfl⟩ | refine Below.drew ?_ | refine Below.alloc ?_ (by (first | exact Nat.le_refl _ | (simp; done) | (simp; omega))) _ | refine Below.setCell ?_ (by (first | exact Nat.le_refl _ | (simp; done) | (simp; omega))) _)), ?_⟩
                  refine rg_act 8 ?_
                  go_wp2
                  refine ⟨hbel _ (by (repeat first | exact Below.refl _ _ | exact ⟨rfl, rfl, rfl, Nat.le_refl _, fun _ _ => rfl⟩ | refine Below.drew ?_ | refine Below.alloc ?_ (by (first | exact Nat.le_refl _ | (simp; done) | (simp; omega))) _ | refine Below.setCell ?_ (by (first | exact Nat.le_refl _ | (simp; done) | (simp; omega))) _)), ?_⟩
                  refine rg_act 10 ?_
                  go_wp2
                  refine ⟨hbel _ (by (repeat first | exact Below.refl _ _ | exact ⟨rfl, rfl, rfl, Nat.le_refl _, fun _ _ => rfl⟩ | refine Below.drew ?_ | refine Below.alloc ?_ (by (first | exact Nat.le_refl _ | (simp; done) | (simp; omega))) _ | refine Below.setCell ?_ (by (first | exact Nat.le_refl _ | (simp; done) | (simp; omega))) _)), ?_⟩
                  refine rg_act 11 ?_
                  go_wp2
                  refine ⟨hbel _ (by (repeat first | exact Below.refl _ _ | exact ⟨rfl, rfl, rfl, Nat.le_refl _, fun _ _ => rfl⟩ | refine Below.drew ?_ | refine Below.alloc ?_ (by (first | exact Nat.le_refl _ | (simp; done) | (simp; omega))) _ | refine Below.setCell ?_ (by (first | exact Nat.le_refl _ | (simp; done) | (simp; omega))) _)), ?_⟩
                  refine rg_end ?_
                  (exact ⟨_, _, _, _, _, _, _, _, _, _, rfl, by (first | (simp; done) | (simp; omega)), by (first | (simp; done) | (simp; omega)), by (first | (simp; done) | (simp; omega)), by (first | (simp; done) | (simp; omega)), by (first | (simp; done) | (simp; omega)), by (first | (simp; done) | (simp; omega)), by (first | (simp; done) | (simp; omega)), by (first | (simp; done) | (simp; omega)), by (first | (simp; done) | (simp; omega)), by (first | (simp; done) | (simp; omega)), by (repeat first | exact new_at (by simp; done) | refine Blk.setOther ?_ _ _ (by first | (simp; done) | (simp; omega)) | refine Blk.congr (Blk.set (cs := #[.pointer none]) ?_ 0 _) rfl | refine Blk.drew ?_ | refine Blk.alloc ?_ _), by (repeat first | exact new_at (by simp; done) | refine Blk.setOther ?_ _ _ (by first | (simp; done) | (simp; omega)) | refine Blk.congr (Blk.set (cs := #[.pointer none]) ?_ 0 _) rfl | refine Blk.drew ?_ | refine Blk.alloc ?_ _), by (repeat first | exact new_at (by simp; done) | refine Blk.setOther ?_ _ _ (by first | (simp; done) | (simp; omega)) | refine Blk.congr (Blk.set (cs := #[.pointer none]) ?_ 0 _) rfl | refine Blk.drew ?_ | refine Blk.alloc ?_ _), by (repeat first | exact new_at (by simp; done) | refine Blk.setOther ?_ _ _ (by first | (simp; done) | (simp; omega)) | refine Blk.congr (Blk.set (cs := #[.pointer none]) ?_ 0 _) rfl | refine Blk.drew ?_ | refine Blk.alloc ?_ _), by (repeat first | exact Below.refl _ _ | exact ⟨rfl, rfl, rfl, Nat.le_refl _, fun _ _ => rfl⟩ | refine Below.drew ?_ | refine Below.alloc ?_ (by (first | exact Nat.le_refl _ | (simp; done) | (simp; omega))) _ | refine Below.setCell ?_ (by (first | exact Nat.le_refl _ | (simp; done) | (simp; omega))) _)⟩)
                · go_wp2
                  refine ⟨hbel _ (by (repeat first | exact Below.refl _ _ | exact ⟨rfl, rfl, rfl, Nat.le_refl _, fun _ _ => rfl⟩ | refine Below.drew ?_ | refine Below.alloc ?_ (by (first | exact Nat.le_refl _ | (simp; done) | (simp; omega))) _ | refine Below.setCell ?_ (by (first | exact Nat.le_refl _ | (simp; done) | (simp; omega))) _)), ?_⟩
                  refine rg_among [7, 10] ?_
                  simp only [List.forall_mem_cons, List.getD_cons_zero, List.getD_cons_succ]
                  refine ⟨?_, ?_, by simp⟩
                  · go_wp2
                    refine ⟨hbel _ (by (repeat first | exact Below.refl _ _ | exact ⟨rfl, rfl, rfl, Nat.le_refl _, fun _ _ => rfl⟩ | refine Below.drew ?_ | refine Below.alloc ?_ (by (first | exact Nat.le_refl _ | (simp; done) | (simp; omega))) _ | refine Below.setCell ?_ (by (first | exact Nat.le_refl _ | (simp; done) | (simp; omega))) _)), ?_⟩
                    refine rg_act 10 ?_
                    go_wp2
                    refine ⟨hbel _ (by (repeat first | exact Below.refl _ _ | exact ⟨rfl, rfl, rfl, Nat.le_refl _, fun _ _ => rfl⟩ | refine Below.drew ?_ | refine Below.alloc ?_ (by (first | exact Nat.le_refl _ | (simp; done) | (simp; omega))) _ | refine Below.setCell ?_ (by (first | exact Nat.le_refl _ | (simp; done) | (simp; omega))) _)), ?_⟩
                    refine rg_act 11 ?_
                    go_wp2
                    refine ⟨hbel _ (by (repeat first | exact Below.refl _ _ | exact ⟨rfl, rfl, rfl, Nat.le_refl _, fun _ _ => rfl⟩ | refine Below.drew ?_ | refine Below.alloc ?_ (by (first | exact Nat.le_refl _ | (simp; done) | (simp; omega))) _ | refine Below.setCell ?_ (by (first | exact Nat.le_refl _ | (simp; done) | (simp; omega))) _)), ?_⟩
                    refine rg_end ?_
                    (exact ⟨_, _, _, _, _, _, _, _, _, _, rfl, by (first | (simp; done) | (simp; omega)), by (first | (simp; done) | (simp; omega)), by (first | (simp; done) | (simp; omega)), by (first | (simp; done) | (simp; omega)), by (first | (simp; done) | (simp; omega)), by (first | (simp; done) | (simp; omega)), by (first | (simp; done) | (simp; omega)), by (first | (simp; done) | (simp; omega)), by (first | (simp; done) | (simp; omega)), by (first | (simp; done) | (simp; omega)), by (repeat first | exact new_at (by simp; done) | refine Blk.setOther ?_ _ _ (by first | (simp; done) | (simp; omega)) | refine Blk.congr (Blk.set (cs := #[.pointer none]) ?_ 0 _) rfl | refine Blk.drew ?_ | refine Blk.alloc ?_ _), by (repeat first | exact new_at (by simp; done) | refine Blk.setOther ?_ _ _ (by first | (simp; done) | (simp; omega)) | refine Blk.congr (Blk.set (cs := #[.pointer none]) ?_ 0 _) rfl | refine Blk.drew ?_ | refine Blk.alloc ?_ _), by (repeat first | exact new_at (by simp; done) | refine Blk.setOther ?_ _ _ (by first | (simp; done) | (simp; omega)) | refine Blk.congr (Blk.set (cs := #[.pointer none]) ?_ 0 _) rfl | refine Blk.drew ?_ | refine Blk.alloc ?_ _), by (repeat first | exact new_at (by simp; done) | refine Blk.setOther ?_ _ _ (by first | (simp; done) | (simp; omega)) | refine Blk.congr (Blk.set (cs := #[.pointer none]) ?_ 0 _) rfl | refine Blk.drew ?_ | refine Blk.alloc ?_ _), by (repeat first | exact Below.refl _ _ | exact ⟨rfl, rfl, rfl, Nat.le_refl _, fun _ _ => rfl⟩ | refine Below.drew ?_ | refine Below.alloc ?_ (by (first | exact Nat.le_refl _ | (simp; done) | (simp; omega))) _ | refine Below.setCell ?_ (by (first | exact Nat.le_refl _ | (simp; done) | (simp; omega))) _)⟩)
                  · go_wp2
                    refine ⟨hbel _ (by (repeat first | exact Below.refl _ _ | exact ⟨rfl, rfl, rfl, Nat.le_refl _, fun _ _ => rfl⟩ | refine Below.drew ?_ | refine Below.alloc ?_ (by (first | exact Nat.le_refl _ | (simp; done) | (simp; omega))) _ | refine Below.setCell ?_ (by (first | exact Nat.le_refl _ | (simp; done) | (simp; omega))) _)), ?_⟩
                    refine rg_act 7 ?_
                    go_wp2
                    refine ⟨hbel _ (by (repeat first | exact Below.refl _ _ | exact ⟨rfl, rfl, rfl, Nat.le_refl _, fun _ _ => rfl⟩ | refine Below.drew ?_ | refine Below.alloc ?_ (by (first | exact Nat.le_refl _ | (simp; done) | (simp; omega))) _ | refine Below.setCell ?_ (by (first | exact Nat.le_refl _ | (simp; done) | (simp; omega))) _)), ?_⟩
                    refine rg_act 11 ?_
                    go_wp2
                    refine ⟨hbel _ (by (repeat first | exact Below.refl _ _ | exact ⟨rfl, rfl, rfl, Nat.le_refl _, fun _ _ => rfl⟩ | refine Below.drew ?_ | refine Below.alloc ?_ (by (first | exact Nat.le_refl _ | (simp; done) | (simp; omega))) _ | refine Below.setCell ?_ (by (first | exact Nat.le_refl _ | (simp; done) | (simp; omega))) _)), ?_⟩
                    refine rg_end ?_
                    (exact ⟨_, _, _, _, _, _, _, _, _, _, rfl, by (first | (simp; done) | (simp; omega)), by (first | (simp; done) | (simp; omega)), by (first | (simp; done) | (simp; omega)), by (first | (simp; done) | (simp; omega)), by (first | (simp; done) | (simp; omega)), by (first | (simp; done) | (simp; omega)), by (first | (simp; done) | (simp; omega)), by (first | (simp; done) | (simp; omega)), by (first | (simp; done) | (simp; omega)), by (first | (simp; done) | (simp; omega)), by (repeat first | exact new_at (by simp; done) | refine Blk.setOther ?_ _ _ (by first | (simp; done) | (simp; omega)) | refine Blk.congr (Blk.set (cs := #[.pointer none]) ?_ 0 _) rfl | refine Blk.drew ?_ | refine Blk.alloc ?_ _), by (repeat first | exact new_at (by simp; done) | refine Blk.setOther ?_ _ _ (by first | (simp; done) | (simp; omega)) | refine Blk.congr (Blk.set (cs := #[.pointer none]) ?_ 0 _) rfl | refine Blk.drew ?_ | refine Blk.alloc ?_ _), by (repeat first | exact new_at (by simp; done) | refine Blk.setOther ?_ _ _ (by first | (simp; done) | (simp; omega)) | refine Blk.congr (Blk.set (cs := #[.pointer none]) ?_ 0 _) rfl | refine Blk.drew ?_ | refine Blk.alloc ?_ _), by (repeat first | exact new_at (by simp; done) | refine Blk.setOther ?_ _ _ (by first | (simp; done) | (simp; omega)) | refine Blk.congr (Blk.set (cs := #[.pointer none]) ?_ 0 _) rfl | refine Blk.drew ?_ | refine Blk.alloc ?_ _), by (repeat first | exact Below.refl _ _ | exact ⟨rfl, rfl, rfl, Nat.le_refl _, fun _ _ => rfl⟩ | refine Below.drew ?_ | refine Below.alloc ?_ (by (first | exact Nat.le_refl _ | (simp; done) | (simp; omega))) _ | refine Below.setCell ?_ (by (first | exact Nat.le_refl _ | (simp; done) | (simp; omega))) _)⟩)
              · go_wp2
                refine ⟨hbel _ (by (repeat first | exact Below.refl _ _ | exact ⟨rfl, rfl, rfl, Nat.le_refl _, fun _ _ => rfl⟩ | refine Below.drew ?_ | refine Below.alloc ?_ (by (first | exact Nat.le_refl _ | (simp; done) | (simp; omega))) _ | refine Below.setCell ?_ (by (first | exact Nat.le_refl _ | (simp; done) | (simp; omega))) _)), ?_⟩
                refine rg_among [3, 8] ?_
                simp only [List.forall_mem_cons, List.getD_cons_zero, List.getD_cons_succ]
                refine ⟨?_, ?_, by simp⟩
                · go_wp2
                  refine ⟨hbel _ (by (repeat first | exact Below.refl _ _ | exact ⟨rfl, rfl, rfl, Nat.le_refl _, fun _ _ => rfl⟩ | refine Below.drew ?_ | refine Below.alloc ?_ (by (first | exact Nat.le_refl _ | (simp; done) | (simp; omega))) _ | refine Below.setCell ?_ (by (first | exact Nat.le_refl _ | (simp; done) | (simp; omega))) _)), ?_⟩
                  refine rg_act 8 ?_
                  go_wp2
                  refine ⟨hbel _ (by (repeat first | exact Below.refl _ _ | exact ⟨rfl, rfl, rfl, Nat.le_refl _, fun _ _ => rfl⟩ | refine Below.drew ?_ | refine Below.alloc ?_ (by (first | exact Nat.le_refl _ | (simp; done) | (simp; omega))) _ | refine Below.setCell ?_ (by (first | exact Nat.le_refl _ | (simp; done) | (simp; omega))) _)), ?_⟩
                  refine rg_act 10 ?_
                  go_wp2
                  refine ⟨hbel _ (by (repeat first | exact Below.refl _ _ | exact ⟨rfl, rfl, rfl, Nat.le_refl _, fun _ _ => rfl⟩ | refine Below.drew ?_ | refine Below.alloc ?_ (by (first | exact Nat.le_refl _ | (simp; done) | (simp; omega))) _ | refine Below.setCell ?_ (by (first | exact Nat.le_refl _ | (simp; done) | (simp; omega))) _)), ?_⟩
                  refine rg_act 11 ?_
                  go_wp2
                  refine ⟨hbel _ (by (repeat first | exact Below.refl _ _ | exact ⟨rfl, rfl, rfl, Nat.le_refl _, fun _ _ => rfl⟩ | refine Below.drew ?_ | refine Below.alloc ?_ (by (first | exact Nat.le_refl _ | (simp; done) | (simp; omega))) _ | refine Below.setCell ?_ (by (first | exact Nat.le_refl _ | (simp; done) | (simp; omega))) _)), ?_⟩
                  refine rg_end ?_
                  (exact ⟨_, _, _, _, _, _, _, _, _, _, rfl, by (first | (simp; done) | (simp; omega)), by (first | (simp; done) | (simp; omega)), by (first | (simp; done) | (simp; omega)), by (first | (simp; done) | (simp; omega)), by (first | (simp; done) | (simp; omega)), by (first | (simp; done) | (simp; omega)), by (first | (simp; done) | (simp; omega)), by (first | (simp; done) | (simp; omega)), by (first | (simp; done) | (simp; omega)), by (first | (simp; done) | (simp; omega)), by (repeat first | exact new_at (by simp; done) | refine Blk.setOther ?_ _ _ (by first | (simp; done) | (simp; omega)) | refine Blk.congr (Blk.set (cs := #[.pointer none]) ?_ 0 _) rfl | refine Blk.drew ?_ | refine Blk.alloc ?_ _), by (repeat first | exact new_at (by simp; done) | refine Blk.setOther ?_ _ _ (by first | (simp; done) | (simp; omega)) | refine Blk.congr (Blk.set (cs := #[.pointer none]) ?_ 0 _) rfl | refine Blk.drew ?_ | refine Blk.alloc ?_ _), by (repeat first | exact new_at (by simp; done) | refine Blk.setOther ?_ _ _ (by first | (simp; done) | (simp; omega)) | refine Blk.congr (Blk.set (cs := #[.pointer none]) ?_ 0 _) rfl | refine Blk.drew ?_ | refine Blk.alloc ?_ _), by (repeat first | exact new_at (by simp; done) | refine Blk.setOther ?_ _ _ (by first | (simp; done) | (simp; omega)) | refine Blk.congr (Blk.set (cs := #[.pointer none]) ?_ 0 _) rfl | refine Blk.drew ?_ | refine Blk.alloc ?_ _), by (repeat first | exact Below.refl _ _ | exact ⟨rfl, rfl, rfl, Nat.le_refl _, fun _ _ => rfl⟩ | refine Below.drew ?_ | refine Below.alloc ?_ (by (first | exact Nat.le_refl _ | (simp; done) | (simp; omega))) _ | refine Below.setCell ?_ (by (first | exact Nat.le_refl _ | (simp; done) | (simp; omega))) _)⟩)
                · go_wp2
                  refine ⟨hbel _ (by (repeat first | exact Below.refl _ _ | exact ⟨rfl, rfl, rfl, Nat.le_refl _, fun _ _ => rfl⟩ | refine Below.drew ?_ | refine Below.alloc ?_ (by (first | exact Nat.le_refl _ | (simp; done) | (simp; omega))) _ | refine Below.setCell ?_ (by (first | exact Nat.le_refl _ | (simp; done) | (simp; omega))) _)), ?_⟩
                  refine rg_act 3 ?_
                  go_wp2
                  refine ⟨hbel _ (by (repeat first | exact Below.refl _ _ | exact ⟨rfl, rfl, rfl, Nat.le_refl _, fun _ _ => rfl⟩ | refine Below.drew ?_ | refine Below.alloc ?_ (by (first | exact Nat.le_refl _ | (simp; done) | (simp; omega))) _ | refine Below.setCell ?_ (by (first | exact Nat.le_refl _ | (simp; done) | (simp; omega))) _)), ?_⟩
                  refine rg_act 10 ?_
                  go_wp2
                  refine ⟨hbel _ (by (repeat first | exact Below.refl _ _ | exact ⟨rfl, rfl, rfl, Nat.le_refl _, fun _ _ => rfl⟩ | refine Below.drew ?_ | refine Below.alloc ?_ (by (first | exact Nat.le_refl _ | (simp; done) | (simp; omega))) _ | refine Below.setCell ?_ (by (first | exact Nat.le_refl _ | (simp; done) | (simp; omega))) _)), ?_⟩
                  refine rg_act 11 ?_
                  go_wp2
                  refine ⟨hbel _ (by (repeat first | exact Below.refl _ _ | exact ⟨rfl, rfl, rfl, Nat.le_refl _, fun _ _ => rfl⟩ | refine Below.drew ?_ | refine Below.alloc ?_ (by (first | exact Nat.le_refl _ | (simp; done) | (simp; omega))) _ | refine Below.setCell ?_ (by (first | exact Nat.le_refl _ | (simp; done) | (simp; omega))) _)), ?_⟩
                  refine rg_end ?_
                  (exact ⟨_, _, _, _, _, _, _, _, _, _, rfl, by (first | (simp; done) | (simp; omega)), by (first | (simp; done) | (simp; omega)), by (first | (simp; done) | (simp; omega)), by (first | (simp; done) | (simp; omega)), by (first | (simp; done) | (simp; omega)), by (first | (simp; done) | (simp; omega)), by (first | (simp; done) | (simp; omega)), by (first | (simp; done) | (simp; omega)), by (first | (simp; done) | (simp; omega)), by (first | (simp; done) | (simp; omega)), by (repeat first | exact new_at (by simp; done) | refine Blk.setOther ?_ _ _ (by first | (simp; done) | (simp; omega)) | refine Blk.congr (Blk.set (cs := #[.pointer none]) ?_ 0 _) rfl | refine Blk.drew ?_ | refine Blk.alloc ?_ _), by (repeat first | exact new_at (by simp; done) | refine Blk.setOther ?_ _ _ (by first | (simp; done) | (simp; omega)) | refine Blk.congr (Blk.set (cs := #[.pointer none]) ?_ 0 _) rfl | refine Blk.drew ?_ | refine Blk.alloc ?_ _), by (repeat first | exact new_at (by simp; done) | refine Blk.setOther ?_ _ _ (by first | (simp; done) | (simp; omega)) | refine Blk.congr (Blk.set (cs := #[.pointer none]) ?_ 0 _) rfl | refine Blk.drew ?_ | refine Blk.alloc ?_ _), by (repeat first | exact new_at (by simp; done) | refine Blk.setOther ?_ _ _ (by first | (simp; done) | (simp; omega)) | refine Blk.congr (Blk.set (cs := #[.pointer none]) ?_ 0 _) rfl | refine Blk.drew ?_ | refine Blk.alloc ?_ _), by (repeat first | exact Below.refl _ _ | exact ⟨rfl, rfl, rfl, Nat.le_refl _, fun _ _ => rfl⟩ | refine Below.drew ?_ | refine Below.alloc ?_ (by (first | exact Nat.le_refl _ | (simp; done) | (simp; omega))) _ | refine Below.setCell ?_ (by (first | exact Nat.le_refl _ | (simp; done) | (simp; omega))) _)⟩)
              · go_wp2
                refine ⟨hbel _ (by (repeat first | exact Below.refl _ _ | exact ⟨rfl, rfl, rfl, Nat.le_refl _, fun _ _ => rfl⟩ | refine Below.drew ?_ | refine Below.alloc ?_ (by (first | exact Nat.le_refl _ | (simp; done) | (simp; omega))) _ | refine Below.setCell ?_ (by (first | exact Nat.le_refl _ | (simp; done) | (simp; omega))) _)), ?_⟩
                refine rg_among [3, 7] ?_
                simp only [List.forall_mem_cons, List.getD_cons_zero, List.getD_cons_succ]
                refine ⟨?_, ?_, by simp⟩
                · go_wp2
                  refine ⟨hbel _ (by (repeat first | exact Below.refl _ _ | exact ⟨rfl, rfl, rfl, Nat.le_refl _, fun _ _ => rfl⟩ | refine Below.drew ?_ | refine Below.alloc ?_ (by (first | exact Nat.le_refl _ | (simp; done) | (simp; omega))) _ | refine Below.setCell ?_ (by (first | exact Nat.le_refl _ | (simp; done) | (simp; omega))) _)), ?_⟩
                  refine rg_among [7, 10] ?_
                  simp only [List.forall_mem_cons, List.getD_cons_zero, List.getD_cons_succ]
                  refine ⟨?_, ?_, by simp⟩
                  · go_wp2
                    refine ⟨hbel _ (by (repeat first | exact Below.refl _ _ | exact ⟨rfl, rfl, rfl, Nat.le_refl _, fun _ _ => rfl⟩ | refine Below.drew ?_ | refine Below.alloc ?_ (by (first | exact Nat.le_refl _ | (simp; done) | (simp; omega))) _ | refine Below.setCell ?_ (by (first | exact Nat.le_refl _ | (simp; done) | (simp; omega))) _)), ?_⟩
                    refine rg_act 10 ?_
                    go_wp2
                    refine ⟨hbel _ (by (repeat first | exact Below.refl _ _ | exact ⟨rfl, rfl, rfl, Nat.le_refl _, fun _ _ => rfl⟩ | refine Below.drew ?_ | refine Below.alloc ?_ (by (first | exact Nat.le_refl _ | (simp; done) | (simp; omega))) _ | refine Below.setCell ?_ (by (first | exact Nat.le_refl _ | (simp; done) | (simp; omega))) _)), ?_⟩
                    refine rg_act 11 ?_
                    go_wp2
                    refine ⟨hbel _ (by (repeat first | exact Below.refl _ _ | exact ⟨rfl, rfl, rfl, Nat.le_refl _, fun _ _ => rfl⟩ | refine Below.drew ?_ | refine Below.alloc ?_ (by (first | exact Nat.le_refl _ | (simp; done) | (simp; omega))) _ | refine Below.setCell ?_ (by (first | exact Nat.le_refl _ | (simp; done) | (simp; omega))) _)), ?_⟩
                    refine rg_end ?_
                    (exact ⟨_, _, _, _, _, _, _, _, _, _, rfl, by (first | (simp; done) | (simp; omega)), by (first | (simp; done) | (simp; omega)), by (first | (simp; done) | (simp; omega)), by (first | (simp; done) | (simp; omega)), by (first | (simp; done) | (simp; omega)), by (first | (simp; done) | (simp; omega)), by (first | (simp; done) | (simp; omega)), by (first | (simp; done) | (simp; omega)), by (first | (simp; done) | (simp; omega)), by (first | (simp; done) | (simp; omega)), by (repeat first | exact new_at (by simp; done) | refine Blk.setOther ?_ _ _ (by first | (simp; done) | (simp; omega)) | refine Blk.congr (Blk.set (cs := #[.pointer none]) ?_ 0 _) rfl | refine Blk.drew ?_ | refine Blk.alloc ?_ _), by (repeat first | exact new_at (by simp; done) | refine Blk.setOther ?_ _ _ (by first | (simp; done) | (simp; omega)) | refine Blk.congr (Blk.set (cs := #[.pointer none]) ?_ 0 _) rfl | refine Blk.drew ?_ | refine Blk.alloc ?_ _), by (repeat first | exact new_at (by simp; done) | refine Blk.setOther ?_ _ _ (by first | (simp; done) | (simp; omega)) | refine Blk.congr (Blk.set (cs := #[.pointer none]) ?_ 0 _) rfl | refine Blk.drew ?_ | refine Blk.alloc ?_ _), by (repeat first | exact new_at (by simp; done) | refine Blk.setOther ?_ _ _ (by first | (simp; done) | (simp; omega)) | refine Blk.congr (Blk.set (cs := #[.pointer none]) ?_ 0 _) rfl | refine Blk.drew ?_ | refine Blk.alloc ?_ _), by (repeat first | exact Below.refl _ _ | exact ⟨rfl, rfl, rfl, Nat.le_refl _, fun _ _ => rfl⟩ | refine Below.drew ?_ | refine Below.alloc ?_ (by (first | exact Nat.le_refl _ | (simp; done) | (simp; omega))) _ | refine Below.setCell ?_ (by (first | exact Nat.le_refl _ | (simp; done) | (simp; omega))) _)⟩)
                  · go_wp2
                    refine ⟨hbel _ (by (repeat first | exact Below.refl _ _ | exact ⟨rfl, rfl, rfl, Nat.le_refl _, fun _ _ => rfl⟩ | refine Below.drew ?_ | refine Below.alloc ?_ (by (first | exact Nat.le_refl _ | (simp; done) | (simp; omega))) _ | refine Below.setCell ?_ (by (first | exact Nat.le_refl _ | (simp; done) | (simp; omega))) _)), ?_⟩
                    refine rg_act 7 ?_
                    go_wp2
                    refine ⟨hbel _ (by (repeat first | exact Below.refl _ _ | exact ⟨rfl, rfl, rfl, Nat.le_refl _, fun _ _ => rfl⟩ | refine Below.drew ?_ | refine Below.alloc ?_ (by (first | exact Nat.le_refl _ | (simp; done) | (simp; omega))) _ | refine Below.setCell ?_ (by (first | exact Nat.le_refl _ | (simp; done) | (simp; omega))) _)), ?_⟩
                    refine rg_act 11 ?_
                    go_wp2
                    refine ⟨hbel _ (by (repeat first | exact Below.refl _ _ | exact ⟨rfl, rfl, rfl, Nat.le_refl _, fun _ _ => rfl⟩ | refine Below.drew ?_ | refine Below.alloc ?_ (by (first | exact Nat.le_refl _ | (simp; done) | (simp; omega))) _ | refine Below.setCell ?_ (by (first | exact Nat.le_refl _ | (simp; done) | (simp; omega))) _)), ?_⟩
                    refine rg_end ?_
                    (exact ⟨_, _, _, _, _, _, _, _, _, _, rfl, by (first | (simp; done) | (simp; omega)), by (first | (simp; done) | (simp; omega)), by (first | (simp; done) | (simp; omega)), by (first | (simp; done) | (simp; omega)), by (first | (simp; done) | (simp; omega)), by (first | (simp; done) | (simp; omega)), by (first | (simp; done) | (simp; omega)), by (first | (simp; done) | (simp; omega)), by (first | (simp; done) | (simp; omega)), by (first | (simp; done) | (simp; omega)), by (repeat first | exact new_at (by simp; done) | refine Blk.setOther ?_ _ _ (by first | (simp; done) | (simp; omega)) | refine Blk.congr (Blk.set (cs := #[.pointer none]) ?_ 0 _) rfl | refine Blk.drew ?_ | refine Blk.alloc ?_ _), by (repeat first | exact new_at (by simp; done) | refine Blk.setOther ?_ _ _ (by first | (simp; done) | (simp; omega)) | refine Blk.congr (Blk.set (cs := #[.pointer none]) ?_ 0 _) rfl | refine Blk.drew ?_ | refine Blk.alloc ?_ _), by (repeat first | exact new_at (by simp; done) | refine Blk.setOther ?_ _ _ (by first | (simp; done) | (simp; omega)) | refine Blk.congr (Blk.set (cs := #[.pointer none]) ?_ 0 _) rfl | refine Blk.drew ?_ | refine Blk.alloc ?_ _), by (repeat first | exact new_at (by simp; done) | refine Blk.setOther ?_ _ _ (by first | (simp; done) | (simp; omega)) | refine Blk.congr (Blk.set (cs := #[.pointer none]) ?_ 0 _) rfl | refine Blk.drew ?_ | refine Blk.alloc ?_ _), by (repeat first | exact Below.refl _ _ | exact ⟨rfl, rfl, rfl, Nat.le_refl _, fun _ _ => rfl⟩ | refine Below.drew ?_ | refine Below.alloc ?_ (by (first | exact Nat.le_refl _ | (simp; done) | (simp; omega))) _ | refine Below.setCell ?_ (by (first | exact Nat.le_refl _ | (simp; done) | (simp; omega))) _)⟩)
                · go_wp2
                  refine ⟨hbel _ (by (repeat first | exact Below.refl _ _ | exact ⟨rfl, rfl, rfl, Nat.le_refl _, fun _ _ => rfl⟩ | refine Below.drew ?_ | refine Below.alloc ?_ (by (first | exact Nat.le_refl _ | (simp; done) | (simp; omega))) _ | refine Below.setCell ?_ (by (first | exact Nat.le_refl _ | (simp; done) | (simp; omega))) _)), ?_⟩
                  refine rg_act 3 ?_
                  go_wp2
                  refine ⟨hbel _ (by (repeat first | exact Below.refl _ _ | exact ⟨rfl, rfl, rfl, Nat.le_refl _, fun _ _ => rfl⟩ | refine Below.drew ?_ | refine Below.alloc ?_ (by (first | exact Nat.le_refl _ | (simp; done) | (simp; omega))) _ | refine Below.setCell ?_ (by (first | exact Nat.le_refl _ | (simp; done) | (simp; omega))) _)), ?_⟩
                  refine rg_act 10 ?_
                  go_wp2
                  refine ⟨hbel _ (by (repeat first | exact Below.refl _ _ | exact ⟨rfl, rfl, rfl, Nat.le_refl _, fun _ _ => rfl⟩ | refine Below.drew ?_ | refine Below.alloc ?_ (by (first | exact Nat.le_refl _ | (simp; done) | (simp; omega))) _ | refine Below.setCell ?_ (by (first | exact Nat.le_refl _ | (simp; done) | (simp; omega))) _)), ?_⟩
                  refine rg_act 11 ?_
                  go_wp2
                  refine ⟨hbel _ (by (repeat first | exact Below.refl _ _ | exact ⟨rfl, rfl, rfl, Nat.le_refl _, fun _ _ => rfl⟩ | refine Below.drew ?_ | refine Below.alloc ?_ (by (first | exact Nat.le_refl _ | (simp; done) | (simp; omega))) _ | refine Below.setCell ?_ (by (first | exact Nat.le_refl _ | (simp; done) | (simp; omega))) _)), ?_⟩
                  refine rg_end ?_
                  (exact ⟨_, _, _, _, _, _, _, _, _, _, rfl, by (first | (simp; done) | (simp; omega)), by (first | (simp; done) | (simp; omega)), by (first | (simp; done) | (simp; omega)), by (first | (simp; done) | (simp; omega)), by (first | (simp; done) | (simp; omega)), by (first | (simp; done) | (simp; omega)), by (first | (simp; done) | (simp; omega)), by (first | (simp; done) | (simp; omega)), by (first | (simp; done) | (simp; omega)), by (first | (simp; done) | (simp; omega)), by (repeat first | exact new_at (by simp; done) | refine Blk.setOther ?_ _ _ (by first | (simp; done) | (simp; omega)) | refine Blk.congr (Blk.set (cs := #[.pointer none]) ?_ 0 _) rfl | refine Blk.drew ?_ | refine Blk.alloc ?_ _), by (repeat first | exact new_at (by simp; done) | refine Blk.setOther ?_ _ _ (by first | (simp; done) | (simp; omega)) | refine Blk.congr (Blk.set (cs := #[.pointer none]) ?_ 0 _) rfl | refine Blk.drew ?_ | refine Blk.alloc ?_ _), by (repeat first | exact new_at (by simp; done) | refine Blk.setOther ?_ _ _ (by first | (simp; done) | (simp; omega)) | refine Blk.congr (Blk.set (cs := #[.pointer none]) ?_ 0 _) rfl | refine Blk.drew ?_ | refine Blk.alloc ?_ _), by (repeat first | exact new_at (by simp; done) | refine Blk.setOther ?_ _ _ (by first | (simp; done) | (simp; omega)) | refine Blk.congr (Blk.set (cs := #[.pointer none]) ?_ 0 _) rfl | refine Blk.drew ?_ | refine Blk.alloc ?_ _), by (repeat first | exact Below.refl _ _ | exact ⟨rfl, rfl, rfl, Nat.le_refl _, fun _ _ => rfl⟩ | refine Below.drew ?_ | refine Below.alloc ?_ (by (first | exact Nat.le_refl _ | (simp; done) | (simp; omega))) _ | refine Below.setCell ?_ (by (first | exact Nat.le_refl _ | (simp; done) | (simp; omega))) _)⟩)
          · rintro a' w1 ⟨pA, pB, qa, qb, v1, v2, v3, v4, v5, v6, rfl, n1, n2, n3, n4, n5, n6, l1, l2, l3, l4, bA, bB, ba, bb, kb⟩
            have b7 := (Blk.new w #[.int .u64 win] 25).below kb
            have k1 : Below w.heap.size w w1 := below_on ((Below.refl _ _).alloc (Nat.le_refl _) _) kb (by simp)
            simp at l1 l2 l3 l4
            have K1 : Kept w pA pB qa qb w.heap.size win (fa win 0) (fb win 0 0) w1 := ⟨k1, bA, bB, ba, bb, b7, by omega⟩
            clear kb k1 bA bB ba bb b7
            have Vw : inV win := by unfold inV; omega
            go_wp2_with (fail)
            go_loopw [11, 12, 13, 14, 46] (fun _ _ _ _ i wr => ∃ (k : Nat) (sm s r : Int), i = .int .i64 k ∧ k ≤ A.length ∧ Inv win sm s r (65535 * k) ∧ Kept w pA pB qa qb w.heap.size win (fa sm s) (fb sm s r) wr) (fun _ _ _ _ i _ => A.length - (intOf i).toNat)
            case atStart => exact ⟨0, win, 0, 0, rfl, by omega, ⟨by omega, by omega, by omega, by omega, by omega, by omega⟩, K1⟩
            case round =>
              obtain ⟨k, sm, s, r, rfl, hk, hinv, K⟩ := hrel
              have ca := K.ca
              by_cases hlt : k < A.length
              · obtain ⟨b1, off, rfl, hb1, hcell, hwf⟩ := HA.out k hlt
                have hcell := (K.below.cell (p := ⟨b1, off + k, none⟩) hb1).trans hcell
                have hx := bounds_u16 hwf
                clear hwf
                generalize A.getD k 0 = x at *
                obtain ⟨r0, rs, ss, ws, sr, sS⟩ := hinv
                have V1 : inV sm := by unfold inV; omega
                have V2 : inV s := by unfold inV; omega
                have V3 : inV r := by unfold inV; omega
                have Vx : inV x := by unfold inV; omega
                go_wp2_with (fail)
                refine (fresh1 pA sm s _ V1 V2 ss K.bA).mono ?_
                rintro e w2 ⟨rfl, hb2⟩
                have K2 := K.quiet hb2
                clear ca hcell K
                have ca := K2.ca
                go_wp2_with (fail)
                refine (spend1 pA w2.heap.size sm s x _ 25 V1 V2 ss Vx (K2.bA.alloc _) (Blk.new _ _ _)).mono ?_
                by_cases hle : x ≤ sm - s
                · rw [if_pos hle, if_pos hle]
                  rintro e w3 ⟨rfl, b3, o3⟩
                  by_cases hlt2 : k < C.length
                  · obtain ⟨c1, coff, rfl, hc1, hcc, hcw⟩ := HC.out k hlt2
                    have hy := bounds_u16 hcw
                    clear hcw
                    generalize C.getD k 0 = y at *
                    have Vy : inV y := by unfold inV; omega
                    have K3 := (K2.alloc (.cells #[.int .u64 x] 25)).turnA b3 o3
                    have cb := K3.cb
                    go_wp2_with (fail)
                    refine (come1 pB w3.heap.size sm s r x _ 25 V1 V2 ss V3 Vx (K3.bB.alloc _) (Blk.new _ _ _)).mono ?_
                    rw [if_pos hle, if_pos hle]
                    rintro e w4 ⟨rfl, b4, o4⟩
                    have K4 := (K3.alloc (.cells #[.int .u64 x] 25)).turnB b4 o4
                    have hi4 : Inv win sm (s + x) r (65535 * (k + 1 : Nat)) := ⟨r0, by omega, by omega, ws, sr, by omega⟩
                    have ca4 := K4.ca
                    have cb4 := K4.cb
                    have hcellC := (K4.below.cell (p := ⟨c1, coff + k, none⟩) hc1).trans hcc
                    have zb := K4.bb.lt
                    have zc := Nat.lt_of_lt_of_le hc1 K4.size
                    go_wp2_with (fail)
                    refine rg_start 8 ?_
                    refine rg_below fun p hx hne hC hbel => ?_
                    have q0 : ∀ x : Wd p, x.w.cell? ⟨qb, 0, none⟩ = some (.pointer (some ⟨pB, 0, none⟩)) := fun x => (hx x qb 0 none zb).trans cb4
                    have q1 : ∀ x : Wd p, x.w.cell? ⟨c1, coff + k, none⟩ = some (.int .u16 y) := fun x => (hx x c1 (coff + k) none zc).trans hcellC
                    refine rg_quiet 2 [0,1,2,3,4,5] hC ?_
                    simp only [pickD, List.map_cons, List.map_nil, List.getD_cons_zero, List.getD_cons_succ]; repeat (go_big_quiet_step (fail))
                    refine wpQuiet_nil ?_
                    refine rg_act 6 ?_
                    go_wp2
                    refine ⟨hbel _ (by (repeat first | exact Below.refl _ _ | exact ⟨rfl, rfl, rfl, Nat.le_refl _, fun _ _ => rfl⟩ | refine Below.drew ?_ | refine Below.alloc ?_ (by (first | exact Nat.le_refl _ | (simp; done) | (simp; omega))) _ | refine Below.setCell ?_ (by (first | exact Nat.le_refl _ | (simp; done) | (simp; omega))) _)), ?_⟩
                    refine rg_cut 7 ?_
                    go_wp2_with (fail)
                    refine (use1 pB w4.heap.size sm (s + x) r y _ 25 V1 (by unfold inV; omega) V3 Vy (K4.drew.bB.alloc _) (Blk.new _ _ _)).mono ?_
                    rintro e w5 ⟨rfl, b5, o5⟩
                    have K5 := (K4.drew.alloc (.cells #[.int .u64 y] 25)).turnB b5 o5
                    have hr5 : r ≤ min (r + y) (s + x) ∧ min (r + y) (s + x) ≤ (s + x) := by omega
                    generalize min (r + y) (s + x) = r5 at *
                    go_wp2_with (fail)
                    refine rg_end0 ?_
                    go_wp2_with (fail)
                    refine (K5.grants Vw V1 (by unfold inV; omega) (by unfold inV; omega)).mono ?_
                    rintro e w6 ⟨rfl, K6⟩
                    have hi6 := smF_inv hi4 hw0 (by omega) r5 hr5.1 hr5.2 (by omega)
                    generalize smF sm r5 win = sm6 at *
                    generalize hS : (s + x) = s6 at *
                    have ca := K6.ca
                    have cb := K6.cb
                    have a0 := K6.bA.cell 0 (.int .u64 sm6) rfl
                    have a1 := K6.bA.cell 1 (.int .u64 s6) rfl
                    have b2 := K6.bB.cell 2 (.int .u64 sm6) rfl
                    have b3 := K6.bB.cell 3 (.int .u64 s6) rfl
                    have b4 := K6.bB.cell 4 (.int .u64 r5) rfl
                    have g1 : decide (sm6 < s6) = false := by have := hi6.ss; simp; omega
                    have g2 : decide (s6 < r5) = false := by have := hi6.rs; simp; omega
                    have KK := Lib.hid K6
                    skip
                    go_wp2_with (fail)
                    refine rg_start 63 ?_
                    refine rg_same fun p hx hne hC => ?_
                    refine rg_quiet 0 [0,1,2,3,4,5,6,7,8,9,10,11,12,13,14,15,16,17,18,19,20,21,22,23,24,25,26,27,28,29,30,31,32,33,34,35,36,37,38,39,40,41,42,43,44,45,46,47,48,49,50,51,52,53,54,55,56,57,58,59,60,61,62] hC ?_
                    simp only [pickD, List.map_cons, List.map_nil, List.getD_cons_zero, List.getD_cons_succ]; repeat (go_big_quiet_step (fail))
                    refine wpQuiet_nil ?_
                    refine rg_end ?_
                    go_wp2_with (fail)
                    exact ⟨⟨k + 1, sm6, s6, r5, by go_num, by omega, hi6, KK.out.drew⟩, by simp [intOf]; omega⟩
                  · skip
                    have K3 := (K2.alloc (.cells #[.int .u64 x] 25)).turnA b3 o3
                    have cb := K3.cb
                    go_wp2_with (fail)
                    refine (come1 pB w3.heap.size sm s r x _ 25 V1 V2 ss V3 Vx (K3.bB.alloc _) (Blk.new _ _ _)).mono ?_
                    rw [if_pos hle, if_pos hle]
                    rintro e w4 ⟨rfl, b4, o4⟩
                    have K4 := (K3.alloc (.cells #[.int .u64 x] 25)).turnB b4 o4
                    have hi4 : Inv win sm (s + x) r (65535 * (k + 1 : Nat)) := ⟨r0, by omega, by omega, ws, sr, by omega⟩
                    have ca4 := K4.ca
                    have cb4 := K4.cb
                    have K5 := K4
                    obtain ⟨r5, hr5⟩ : ∃ r5, r5 = r ∧ r ≤ r5 ∧ r5 ≤ (s + x) := ⟨_, rfl, by omega, by omega⟩
                    rw [← hr5.1] at K5
                    replace hr5 := hr5.2
                    go_wp2_with (fail)
                    refine (K5.grants Vw V1 (by unfold inV; omega) (by unfold inV; omega)).mono ?_
                    rintro e w6 ⟨rfl, K6⟩
                    have hi6 := smF_inv hi4 hw0 (by omega) r5 hr5.1 hr5.2 (by omega)
                    generalize smF sm r5 win = sm6 at *
                    generalize hS : (s + x) = s6 at *
                    have ca := K6.ca
                    have cb := K6.cb
                    have a0 := K6.bA.cell 0 (.int .u64 sm6) rfl
                    have a1 := K6.bA.cell 1 (.int .u64 s6) rfl
                    have b2 := K6.bB.cell 2 (.int .u64 sm6) rfl
                    have b3 := K6.bB.cell 3 (.int .u64 s6) rfl
                    have b4 := K6.bB.cell 4 (.int .u64 r5) rfl
                    have g1 : decide (sm6 < s6) = false := by have := hi6.ss; simp; omega
                    have g2 : decide (s6 < r5) = false := by have := hi6.rs; simp; omega
                    have KK := Lib.hid K6
                    skip
                    go_wp2_with (fail)
                    refine rg_start 63 ?_
                    refine rg_same fun p hx hne hC => ?_
                    refine rg_quiet 0 [0,1,2,3,4,5,6,7,8,9,10,11,12,13,14,15,16,17,18,19,20,21,22,23,24,25,26,27,28,29,30,31,32,33,34,35,36,37,38,39,40,41,42,43,44,45,46,47,48,49,50,51,52,53,54,55,56,57,58,59,60,61,62] hC ?_
                    simp only [pickD, List.map_cons, List.map_nil, List.getD_cons_zero, List.getD_cons_succ]; repeat (go_big_quiet_step (fail))
                    refine wpQuiet_nil ?_
                    refine rg_end ?_
                    go_wp2_with (fail)
                    exact ⟨⟨k + 1, sm6, s6, r5, by go_num, by omega, hi6, KK.out.drew⟩, by simp [intOf]; omega⟩
                · rw [if_neg hle, if_neg hle]
                  rintro e w3 ⟨rfl, b3, o3⟩
                  by_cases hlt2 : k < C.length
                  · obtain ⟨c1, coff, rfl, hc1, hcc, hcw⟩ := HC.out k hlt2
                    have hy := bounds_u16 hcw
                    clear hcw
                    generalize C.getD k 0 = y at *
                    have Vy : inV y := by unfold inV; omega
                    have K4 := (K2.alloc (.cells #[.int .u64 x] 25)).turnA b3 o3
                    have hi4 : Inv win sm s r (65535 * (k + 1 : Nat)) := ⟨r0, rs, ss, ws, sr, by omega⟩
                    have w4e : w3 = w3 := rfl
                    have ca4 := K4.ca
                    have cb4 := K4.cb
                    have hcellC := (K4.below.cell (p := ⟨c1, coff + k, none⟩) hc1).trans hcc
                    have zb := K4.bb.lt
                    have zc := Nat.lt_of_lt_of_le hc1 K4.size
                    go_wp2_with (fail)
                    refine rg_start 8 ?_
                    refine rg_below fun p hx hne hC hbel => ?_
                    have q0 : ∀ x : Wd p, x.w.cell? ⟨qb, 0, none⟩ = some (.pointer (some ⟨pB, 0, none⟩)) := fun x => (hx x qb 0 none zb).trans cb4
                    have q1 : ∀ x : Wd p, x.w.cell? ⟨c1, coff + k, none⟩ = some (.int .u16 y) := fun x => (hx x c1 (coff + k) none zc).trans hcellC
                    refine rg_quiet 2 [0,1,2,3,4,5] hC ?_
                    simp only [pickD, List.map_cons, List.map_nil, List.getD_cons_zero, List.getD_cons_succ]; repeat (go_big_quiet_step (fail))
                    refine wpQuiet_nil ?_
                    refine rg_act 6 ?_
                    go_wp2
                    refine ⟨hbel _ (by (repeat first | exact Below.refl _ _ | exact ⟨rfl, rfl, rfl, Nat.le_refl _, fun _ _ => rfl⟩ | refine Below.drew ?_ | refine Below.alloc ?_ (by (first | exact Nat.le_refl _ | (simp; done) | (simp; omega))) _ | refine Below.setCell ?_ (by (first | exact Nat.le_refl _ | (simp; done) | (simp; omega))) _)), ?_⟩
                    refine rg_cut 7 ?_
                    go_wp2_with (fail)
                    refine (use1 pB w3.heap.size sm s r y _ 25 V1 (by unfold inV; omega) V3 Vy (K4.drew.bB.alloc _) (Blk.new _ _ _)).mono ?_
                    rintro e w5 ⟨rfl, b5, o5⟩
                    have K5 := (K4.drew.alloc (.cells #[.int .u64 y] 25)).turnB b5 o5
                    have hr5 : r ≤ min (r + y) s ∧ min (r + y) s ≤ s := by omega
                    generalize min (r + y) s = r5 at *
                    go_wp2_with (fail)
                    refine rg_end0 ?_
                    go_wp2_with (fail)
                    refine (K5.grants Vw V1 (by unfold inV; omega) (by unfold inV; omega)).mono ?_
                    rintro e w6 ⟨rfl, K6⟩
                    have hi6 := smF_inv hi4 hw0 (by omega) r5 hr5.1 hr5.2 (by omega)
                    generalize smF sm r5 win = sm6 at *
                    generalize hS : s = s6 at *
                    have ca := K6.ca
                    have cb := K6.cb
                    have a0 := K6.bA.cell 0 (.int .u64 sm6) rfl
                    have a1 := K6.bA.cell 1 (.int .u64 s6) rfl
                    have b2 := K6.bB.cell 2 (.int .u64 sm6) rfl
                    have b3 := K6.bB.cell 3 (.int .u64 s6) rfl
                    have b4 := K6.bB.cell 4 (.int .u64 r5) rfl
                    have g1 : decide (sm6 < s6) = false := by have := hi6.ss; simp; omega
                    have g2 : decide (s6 < r5) = false := by have := hi6.rs; simp; omega
                    have KK := Lib.hid K6
                    skip
                    go_wp2_with (fail)
                    refine rg_start 63 ?_
                    refine rg_same fun p hx hne hC => ?_
                    refine rg_quiet 0 [0,1,2,3,4,5,6,7,8,9,10,11,12,13,14,15,16,17,18,19,20,21,22,23,24,25,26,27,28,29,30,31,32,33,34,35,36,37,38,39,40,41,42,43,44,45,46,47,48,49,50,51,52,53,54,55,56,57,58,59,60,61,62] hC ?_
                    simp only [pickD, List.map_cons, List.map_nil, List.getD_cons_zero, List.getD_cons_succ]; repeat (go_big_quiet_step (fail))
                    refine wpQuiet_nil ?_
                    refine rg_end ?_
                    go_wp2_with (fail)
                    exact ⟨⟨k + 1, sm6, s6, r5, by go_num, by omega, hi6, KK.out.drew⟩, by simp [intOf]; omega⟩
                  · skip
                    have K4 := (K2.alloc (.cells #[.int .u64 x] 25)).turnA b3 o3
                    have hi4 : Inv win sm s r (65535 * (k + 1 : Nat)) := ⟨r0, rs, ss, ws, sr, by omega⟩
                    have w4e : w3 = w3 := rfl
                    have ca4 := K4.ca
                    have cb4 := K4.cb
                    have K5 := K4
                    obtain ⟨r5, hr5⟩ : ∃ r5, r5 = r ∧ r ≤ r5 ∧ r5 ≤ s := ⟨_, rfl, by omega, by omega⟩
                    rw [← hr5.1] at K5
                    replace hr5 := hr5.2
                    go_wp2_with (fail)
                    refine (K5.grants Vw V1 (by unfold inV; omega) (by unfold inV; omega)).mono ?_
                    rintro e w6 ⟨rfl, K6⟩
                    have hi6 := smF_inv hi4 hw0 (by omega) r5 hr5.1 hr5.2 (by omega)
                    generalize smF sm r5 win = sm6 at *
                    generalize hS : s = s6 at *
                    have ca := K6.ca
                    have cb := K6.cb
                    have a0 := K6.bA.cell 0 (.int .u64 sm6) rfl
                    have a1 := K6.bA.cell 1 (.int .u64 s6) rfl
                    have b2 := K6.bB.cell 2 (.int .u64 sm6) rfl
                    have b3 := K6.bB.cell 3 (.int .u64 s6) rfl
                    have b4 := K6.bB.cell 4 (.int .u64 r5) rfl
                    have g1 : decide (sm6 < s6) = false := by have := hi6.ss; simp; omega
                    have g2 : decide (s6 < r5) = false := by have := hi6.rs; simp; omega
                    have KK := Lib.hid K6
                    skip
                    go_wp2_with (fail)
                    refine rg_start 63 ?_
                    refine rg_same fun p hx hne hC => ?_
                    refine rg_quiet 0 [0,1,2,3,4,5,6,7,8,9,10,11,12,13,14,15,16,17,18,19,20,21,22,23,24,25,26,27,28,29,30,31,32,33,34,35,36,37,38,39,40,41,42,43,44,45,46,47,48,49,50,51,52,53,54,55,56,57,58,59,60,61,62] hC ?_
                    simp only [pickD, List.map_cons, List.map_nil, List.getD_cons_zero, List.getD_cons_succ]; repeat (go_big_quiet_step (fail))
                    refine wpQuiet_nil ?_
                    refine rg_end ?_
                    go_wp2_with (fail)
                    exact ⟨⟨k + 1, sm6, s6, r5, by go_num, by omega, hi6, KK.out.drew⟩, by simp [intOf]; omega⟩
              · obtain ⟨r0, rs, ss, ws, sr, sS⟩ := hinv
                have hkA : k = A.length := by omega
                subst hkA
                have I0 : Inv win sm s r (65535 * A.length + 1048576 * (0 : Nat)) := ⟨r0, rs, ss, ws, sr, by omega⟩
                clear ca
                go_wp2_with (fail)
                go_loopw [15, 154] (fun _ i wr => ∃ (j : Nat) (sm s r : Int), i = .int .i64 j ∧ j ≤ 10 ∧ Inv win sm s r (65535 * A.length + 1048576 * j) ∧ Kept w pA pB qa qb w.heap.size win (fa sm s) (fb sm s r) wr) (fun _ i _ => 10 - (intOf i).toNat)
                case atStart => exact ⟨0, sm, s, r, rfl, by omega, I0, K⟩
                case round =>
                  obtain ⟨j, sm, s, r, rfl, hj, hinv, K⟩ := hrel
                  by_cases hlt3 : j < 10
                  · obtain ⟨r0, rs, ss, ws, sr, sS⟩ := hinv
                    have V1 : inV sm := by unfold inV; omega
                    have V2 : inV s := by unfold inV; omega
                    have V3 : inV r := by unfold inV; omega
                    have VN : inV (s - r) := by unfold inV; omega
                    have cb := K.cb
                    have b3 := K.bB.cell 3 (.int .u64 s) rfl
                    have b4 := K.bB.cell 4 (.int .u64 r) rfl
                    have zb := K.bb.lt
                    have zB := K.bB.lt
                    go_wp2_with (fail)
                    refine rg_start 14 ?_
                    refine rg_below fun p hx hne hC hbel => ?_
                    have q0 : ∀ x : Wd p, x.w.cell? ⟨qb, 0, none⟩ = some (.pointer (some ⟨pB, 0, none⟩)) := fun x => (hx x qb 0 none zb).trans cb
                    have q3 : ∀ x : Wd p, x.w.cell? ⟨pB, 3, none⟩ = some (.int .u64 s) := fun x => (hx x pB 3 none zB).trans b3
                    have q4 : ∀ x : Wd p, x.w.cell? ⟨pB, 4, none⟩ = some (.int .u64 r) := fun x => (hx x pB 4 none zB).trans b4
                    refine rg_quiet 2 [0,1,2,3,4,5,6,7,8,9,10,11] hC ?_
                    simp only [pickD, List.map_cons, List.map_nil, List.getD_cons_zero, List.getD_cons_succ]; repeat (go_big_quiet_step (fail))
                    refine wpQuiet_nil ?_
                    refine rg_act 12 ?_
                    go_wp2
                    refine ⟨hbel _ (by (repeat first | exact Below.refl _ _ | exact ⟨rfl, rfl, rfl, Nat.le_refl _, fun _ _ => rfl⟩ | refine Below.drew ?_ | refine Below.alloc ?_ (by (first | exact Nat.le_refl _ | (simp; done) | (simp; omega))) _ | refine Below.setCell ?_ (by (first | exact Nat.le_refl _ | (simp; done) | (simp; omega))) _)), ?_⟩
                    refine rg_cut 13 ?_
                    go_wp2_with (fail)
                    refine (use1 pB _ sm s r (s - r) _ 25 V1 V2 V3 VN (K.drew.bB.alloc _) (Blk.new _ _ _)).mono ?_
                    rintro e w5 ⟨rfl, b5, o5⟩
                    have e5 : min (r + (s - r)) s = s := by omega
                    rw [e5] at b5
                    have K5 := (K.drew.alloc (.cells #[.int .u64 (s - r)] 25)).turnB b5 o5
                    go_wp2_with (fail)
                    refine rg_end0 ?_
                    go_wp2_with (fail)
                    refine (K5.grants Vw V1 V2 V2).mono ?_
                    rintro e w6 ⟨rfl, K6⟩
                    have I6 := smF_inv ⟨r0, rs, ss, ws, sr, sS⟩ hw0 (by omega) s rs (by omega) (by omega)
                    have hf : win / 2 ≤ smF sm s win - s := smF_room hw0 (by omega)
                    generalize smF sm s win = sm6 at *
                    obtain ⟨_, _, ss6, ws6, sr6, _⟩ := I6
                    have V6 : inV sm6 := by unfold inV; omega
                    have VN6 : inV (sm6 - s) := by unfold inV; omega
                    have ca6 := K6.ca
                    go_wp2_with (fail)
                    refine (fresh1 pA sm6 s _ V6 V2 ss6 K6.bA).mono ?_
                    rintro e w7 ⟨rfl, hb7⟩
                    have K7 := K6.quiet hb7
                    clear ca6
                    have ca7 := K7.ca
                    have c7 := K7.b7.cell 0 (.int .u64 win) rfl
                    have g3 : decide (sm6 - s < win / 2) = false := by simp; omega
                    go_wp2_with (fail)
                    refine (spend1 pA w7.heap.size sm6 s (sm6 - s) _ 25 V6 V2 ss6 VN6 (K7.bA.alloc _) (Blk.new _ _ _)).mono ?_
                    have e8 : s + (sm6 - s) = sm6 := by omega
                    rw [if_pos (Int.le_refl _), if_pos (Int.le_refl _), e8]
                    rintro e w8 ⟨rfl, b8, o8⟩
                    have K8 := (K7.alloc (.cells #[.int .u64 (sm6 - s)] 25)).turnA b8 o8
                    have cb8 := K8.cb
                    go_wp2_with (fail)
                    refine (come1 pB w8.heap.size sm6 s s (sm6 - s) _ 25 V6 V2 ss6 V2 VN6 (K8.bB.alloc _) (Blk.new _ _ _)).mono ?_
                    rw [if_pos (Int.le_refl _), if_pos (Int.le_refl _), e8]
                    rintro e w9 ⟨rfl, b9, o9⟩
                    have K9 := (K8.alloc (.cells #[.int .u64 (sm6 - s)] 25)).turnB b9 o9
                    go_wp2_with (fail)
                    exact ⟨⟨j + 1, sm6, sm6, s, by go_num, by omega, ⟨by omega, by omega, by omega, by omega, by omega, by omega⟩, K9⟩, by simp [intOf]; omega⟩
                  · go_wp2_with (fail)
                    refine (works_any _).mono ?_
                    rintro e w5 ⟨rfl, hb5⟩
                    go_wp2_with (fail)
                    go_returns
                    exact ⟨rfl, below_on K.below hb5 K.size⟩
        · go_enter Try.func3, Try.ntmps3
          go_wp2_with (fail)
          refine (works_any _).mono ?_
          rintro e w1 ⟨rfl, hb1⟩
          go_wp2_with (fail)
          go_returns
          exact ⟨rfl, hb1⟩
      · go_enter Try.func3, Try.ntmps3
        go_wp2_with (fail)
        refine (works_any _).mono ?_
        rintro e w1 ⟨rfl, hb1⟩
        go_wp2_with (fail)
        go_returns
        exact ⟨rfl, hb1⟩
    · go_enter Try.func3, Try.ntmps3
      go_wp2_with (fail)
      refine (works_any _).mono ?_
      rintro e w1 ⟨rfl, hb1⟩
      go_wp2_with (fail)
      go_returns
      exact ⟨rfl, hb1⟩
  · go_enter Try.func3, Try.ntmps3
    go_wp2_with (fail)
    refine (works_any _).mono ?_
    rintro e w1 ⟨rfl, hb1⟩
    go_wp2_with (fail)
    go_returns
    exact ⟨rfl, hb1⟩

end Flow
end Go.Proofs.Yticnjdlapioppaa
