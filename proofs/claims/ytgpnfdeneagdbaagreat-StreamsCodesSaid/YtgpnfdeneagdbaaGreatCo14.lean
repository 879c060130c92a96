/- A set of streams: the flow's counts where no bytes come; a limit rises. -/
import Derived.Test.YtgpnfdeneagdbaaGreatCo13
namespace Go.Proofs.YtgpnfdeneagdbaaGreat
open Go.RowKit
set_option linter.unusedVariables false
set_option linter.unusedSimpArgs false
def inV (x : Int) : Prop := 0 ≤ x ∧ x ≤ 4611686018427387903
def addF (n x : Int) : Int := min (n + min x 4611686018427387903) 4611686018427387903
def sumF (L : List Int) : Int := L.foldl addF 0
theorem addF_in {n x : Int} (hn : inV n) (hx : 0 ≤ x) : inV (addF n x) := by unfold inV addF at *; omega
theorem fold_in (L : List Int) (hL : ∀ x ∈ L, 0 ≤ x) : ∀ n, inV n → inV (L.foldl addF n) := by
  induction L with
  | nil => intro n h; exact h
  | cons x L ih => intro n h; exact ih (fun y hy => hL y (by simp [hy])) _ (addF_in h (hL x (by simp)))
theorem fold_take {α β : Type} (f : β → α → β) (s : β) (l : List α) (d : α) (k : Nat) (h : k < l.length) : (l.take (k + 1)).foldl f s = f ((l.take k).foldl f s) (l.getD k d) := by
  rw [List.take_succ_eq_append_getElem h, List.foldl_append]
  simp [h]

set_option maxHeartbeats 400000 in
theorem sum_any (a : Option Addr) (cap : Nat) (L : List Int) (w : World) (hlen : L.length ≤ maxLen) (hL : IntsAt .u64 w a L) :
    Calls Tryz.prog 103 #[.slice a L.length cap] w fun e w' => e = .returned (.int .u64 (sumF L)) ∧ w = w' := by
  have hL0 : ∀ n ∈ L, 0 ≤ n := fun n hn => (bounds_u64 (hL.wf n hn)).1
  have HL := Lib.hid hL
  have HL0 := Lib.hid hL0
  unfold maxLen at hlen
  clear hL hL0
  go_enter Tryz.func103, Tryz.ntmps103
  go_wp2_with (fail)
  go_loop [3, 5, 8] (fun n _ i => ∃ (k : Nat) (m : Int), i = .int .i64 k ∧ n = .int .u64 m ∧ k ≤ L.length ∧ Hid (m = (L.take k).foldl addF 0)) (fun _ _ i => L.length - (intOf i).toNat)
  case atStart => exact ⟨0, 0, rfl, rfl, by omega, rfl⟩
  case round =>
    obtain ⟨k, m, rfl, rfl, hk, hm⟩ := hrel
    have hin := fold_in (L.take k) (fun n hn => HL0.out n (List.mem_of_mem_take hn)) 0 (by simp [inV])
    rw [← hm.out] at hin
    unfold inV at hin
    by_cases hlt : k < L.length
    · obtain ⟨b1, off, rfl, _, hcell, hwf⟩ := HL.out k hlt
      have hbd := bounds_u64 hwf
      have hst := fold_take addF 0 L 0 k hlt
      rw [← hm.out] at hst
      have hst' := Lib.hid hst
      clear hst hwf
      generalize L.getD k 0 = x at *
      go_wp2_with (fail)
      exact ⟨⟨k + 1, addF m x, by go_num, rfl, by omega, hst'.out.symm⟩, by simp [intOf]; omega⟩
    · obtain rfl : k = L.length := by omega
      go_wp2_with (fail)
      go_returns
      refine ⟨?_, rfl⟩
      show Ending.returned (.int .u64 m) = _
      rw [hm.out, List.take_of_length_le (Nat.le_refl _)]; rfl


theorem blk_same {w : World} {s k : Nat} {cs : Array Value} {T : TypeId} {v : Value} (h : Blk w s cs T) (hv : cs[k]? = some v) : Blk (w.setCell ⟨s, k, none⟩ v) s cs T := by
  refine (h.set k v).congr ?_
  apply Array.ext
  · simp
  · intro i h1 h2
    rw [Array.getElem_setIfInBounds]
    split
    · rename_i e; subst e
      have := Array.getElem?_eq_getElem h2
      rw [hv] at this; exact Option.some.inj this
    · rfl
theorem wf0 : (Lit.int .u64 0).wf = true := by decide
set_option maxRecDepth 100000 in
set_option maxHeartbeats 1000000 in
theorem come_nil (s : Nat) (cs : Array Value) (sv : Bool) (may cn : Nat → Nat) (a : Option Addr) (w : World) (hb : Blk w s cs 54) (hI : StI cs sv may cn) (hL : IntsAt .u64 w a [0]) :
    Calls Tryz.prog 83 #[.pointer (some ⟨s, 0, none⟩), .slice a 1 1] w fun e w' => e = .returned (.int .i64 0) ∧ Blk w' s cs 54 ∧ Only (· = s) w w' := by
  have HS := fun w1 (h : IntsAt .u64 w1 a [0]) => Lib.hid (sum_any a 1 [0] w1 (by simp [maxLen]) h)
  rw [show sumF [0] = 0 from rfl] at HS
  simp only [List.length_cons, List.length_nil, Nat.zero_add] at HS
  have HL := Lib.hid hL
  obtain ⟨r, hr, hr2⟩ := hI.rm
  have c2 := hb.cell 2 _ hr
  have c3 := hb.cell 3 _ hI.came
  have f3 := hb.free 3
  have hc := Lib.hid hI.came
  have HB := Lib.hid hb
  have hr3 : (0 : Int) ≤ (r : Int) := by omega
  clear hL hI hr hb
  go_enter Tryz.func83, Tryz.ntmps83
  go_wp2_with (fail)
  refine rg_start 21 ?_
  refine rg_same fun p hx hne hC => ?_
  refine rg_quiet 3 [0,2,3,4,5,6,7,8,9,10,11,12,13,14,15,16,17,18] hC ?_
  simp only [pickD, List.map_cons, List.map_nil, List.getD_cons_zero, List.getD_cons_succ]; repeat (go_big_quiet_step (fail))
  refine wpQuiet_nil ?_
  refine rg_act 1 ?_
  go_wp2_with (fail)
  refine (HS _ (HL.out.below (Below.refl _ _).drew)).out.mono ?_
  rintro e w1 ⟨rfl, rfl⟩
  go_wp2_with (fail)
  refine ⟨hC, ?_⟩
  refine rg_quiet 0 [19,20] hC ?_
  simp only [pickD, List.map_cons, List.map_nil, List.getD_cons_zero, List.getD_cons_succ]; repeat (go_big_quiet_step (fail))
  refine wpQuiet_nil ?_
  refine rg_end ?_
  go_wp2_with (fail)
  refine rg_start 12 ?_
  refine rg_same fun p hx hne hC => ?_
  refine rg_quiet 6 [0,1,2,3,4,5] hC ?_
  simp only [pickD, List.map_cons, List.map_nil, List.getD_cons_zero, List.getD_cons_succ]; repeat (go_big_quiet_step (fail))
  refine wpQuiet_nil ?_
  refine rg_act 6 ?_
  go_wp2_with (fail)
  refine (HS _ (HL.out.below (Below.refl _ _).drew.drew)).out.mono ?_
  rintro e w2 ⟨rfl, rfl⟩
  go_wp2_with (fail)
  refine ⟨hC, ?_⟩
  refine rg_quiet 1 [7,8,9,10] hC ?_
  simp only [pickD, List.map_cons, List.map_nil, List.getD_cons_zero, List.getD_cons_succ]; repeat (go_big_quiet_step (fail))
  refine wpQuiet_nil ?_
  refine rg_cut 11 ?_
  go_wp2_with (fail)
  refine rg_end0 ?_
  go_wp2_with (fail)
  go_returns
  exact ⟨rfl, blk_same HB.out.drew.drew hc.out, (((Only.refl (· = s) _).drew).drew.set _ _)⟩
set_option maxRecDepth 100000 in
set_option maxHeartbeats 1000000 in
theorem use_nil (s : Nat) (cs : Array Value) (sv : Bool) (may cn : Nat → Nat) (a : Option Addr) (w : World) (hb : Blk w s cs 54) (hI : StI cs sv may cn) (hL : IntsAt .u64 w a [0]) :
    Calls Tryz.prog 78 #[.pointer (some ⟨s, 0, none⟩), .slice a 1 1] w fun e w' => e = .returned (.tuple #[]) ∧ Blk w' s cs 54 ∧ Only (· = s) w w' := by
  have HS := fun w1 (h : IntsAt .u64 w1 a [0]) => Lib.hid (sum_any a 1 [0] w1 (by simp [maxLen]) h)
  rw [show sumF [0] = 0 from rfl] at HS
  simp only [List.length_cons, List.length_nil, Nat.zero_add] at HS
  have HL := Lib.hid hL
  have c3 := hb.cell 3 _ hI.came
  have c4 := hb.cell 4 _ hI.read
  have f4 := hb.free 4
  have lb := hb.lt
  have hc := Lib.hid hI.read
  have HB := Lib.hid hb
  clear hL hI hb
  go_enter Tryz.func78, Tryz.ntmps78
  go_wp2_with (fail)
  refine rg_start 20 ?_
  refine rg_below fun p hx hne hC hbel => ?_
  have k3 : ∀ z : Wd p, z.w.cell? ⟨s, 3, none⟩ = some (.int .u64 (0 : Nat)) := fun z => (hx z _ _ _ lb).trans c3
  have k4 : ∀ z : Wd p, z.w.cell? ⟨s, 4, none⟩ = some (.int .u64 (0 : Nat)) := fun z => (hx z _ _ _ lb).trans c4
  refine rg_quiet 8 [0,1,2,3,4,5,6,10,11,12,13,14] hC ?_
  simp only [pickD, List.map_cons, List.map_nil, List.getD_cons_zero, List.getD_cons_succ]; repeat (go_big_quiet_step (fail))
  refine wpQuiet_nil ?_
  refine rg_act 7 ?_
  go_wp2_with (fail)
  refine (HS _ (HL.out.below (Below.refl _ _).drew)).out.mono ?_
  rintro e w1 ⟨rfl, rfl⟩
  go_wp2_with (fail)
  refine ⟨hC, ?_⟩
  refine rg_act 8 ?_
  go_wp2_with (fail)
  have hC2 : Cls p (w.drew.alloc (.cells #[.int .u64 0, .int .u64 0] 23)) := hbel _ (((Below.refl _ _)).alloc (Nat.le_refl _) _)
  refine ⟨hC2, ?_⟩
  refine rg_act 9 ?_
  go_wp2_with (fail)
  have hi : IntsAt .u64 (w.drew.alloc (.cells #[.int .u64 0, .int .u64 0] 23)) (some ⟨w.heap.size, 0, none⟩) [0, 0] := IntsAt.of_map (Blk.new w.drew _ _) (by simp [wf0])
  have hsum2 := sum_any (some ⟨w.heap.size, 0, none⟩) 2 [0, 0] _ (by simp [maxLen]) hi
  rw [show sumF [0, 0] = 0 from rfl] at hsum2
  refine hsum2.mono ?_
  rintro e w2 ⟨rfl, rfl⟩
  go_wp2_with (fail)
  refine ⟨hC2, ?_⟩
  refine rg_quiet 1 [15,16,17,18] hC2 ?_
  simp only [pickD, List.map_cons, List.map_nil, List.getD_cons_zero, List.getD_cons_succ]; repeat (go_big_quiet_step (fail))
  refine wpQuiet_nil ?_
  refine rg_cut 19 ?_
  go_wp2_with (fail)
  refine rg_end0 ?_
  go_wp2_with (fail)
  go_returns
  exact ⟨rfl, (Blk.alloc (blk_same HB.out hc.out) _).drew, (((Only.refl (· = s) _).set _ _).alloc _).drew⟩
set_option maxRecDepth 100000 in
theorem allowO_any (q mx : Nat) (x : Strm) (w : World) (h : SdAt w q x) : Calls Tryz.prog 82 #[.pointer (some ⟨q, 0, none⟩), .int .u64 mx] w fun e w' => e = .returned (.tuple #[]) ∧ Only (· = q) w w' ∧ SdAt w' q { x with urg := max x.urg mx } := by
  have c3 : w.cell? ⟨q, 3, none⟩ = some (.int .u64 x.urg) := h.cell 3 _ rfl
  have f3 := h.free 3
  have H := Lib.hid h
  clear h
  by_cases hm : x.urg < mx
  · have hm' : (x.urg : Int) < (mx : Int) := by omega
    have e : max x.urg mx = mx := by omega
    rw [e]
    clear e hm
    go_enter Tryz.func82, Tryz.ntmps82
    go_wp2_with (fail)
    go_returns
    exact ⟨rfl, (Only.refl (· = q) _).set _ _, Blk.congr (H.out.set 3 _) rfl⟩
  · have hm' : ¬ (x.urg : Int) < (mx : Int) := by omega
    have e : max x.urg mx = x.urg := by omega
    rw [e]
    clear e hm
    go_enter Tryz.func82, Tryz.ntmps82
    go_wp2_with (fail)
    go_returns
    exact ⟨rfl, Only.refl _ _, H.out⟩
end Go.Proofs.YtgpnfdeneagdbaaGreat
