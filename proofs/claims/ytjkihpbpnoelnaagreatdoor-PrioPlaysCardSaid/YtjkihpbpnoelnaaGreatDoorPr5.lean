/- Plans in memory: find, ahead, next. -/
import Derived.Test.YtjkihpbpnoelnaaGreatDoorPr4
namespace Go.Proofs.YtjkihpbpnoelnaaGreatDoor
open Go.RowKit
set_option linter.unusedVariables false

/-- The plan in block q. -/
structure PlanAt (w : World) (base q : Nat) (a : Option Addr) (n cap ck : Nat) (L : List Strm) : Prop where
  blk : Blk w q #[.slice a n cap, .int .u64 ck] 67
  own : OwnS w base 64 5 a n cap (L.flatMap strmV)
  len : n = L.length
  off : ∀ x, a = some x → x.block ≠ q
theorem PlanAt.only {S : Nat → Prop} {w w' : World} {base q n cap ck : Nat} {a : Option Addr} {L : List Strm} (h : PlanAt w base q a n cap ck L) (ho : Only S w w') (hq : ¬ S q) (ha : ∀ x, a = some x → ¬ S x.block) : PlanAt w' base q a n cap ck L :=
  ⟨ho.blk h.blk hq, h.own.only ho ha, h.len, h.off⟩
theorem PlanAt.below {w w' : World} {base q n cap ck : Nat} {a : Option Addr} {L : List Strm} (h : PlanAt w base q a n cap ck L) (ho : Below w.heap.size w w') : PlanAt w' base q a n cap ck L :=
  ⟨h.blk.below ho, h.own.below ho, h.len, h.off⟩
/-- What stands in a plan. -/
structure PlanOk (L : List Strm) (ck : Nat) : Prop where
  asc : Asc L
  len : L.length ≤ 256
  mem : ∀ x ∈ L, x.urg ≤ 7 ∧ x.served ≤ ck ∧ x.id < 18446744073709551616
  ck : ck ≤ 1000000
set_option maxRecDepth 100000 in
theorem find_any (base q : Nat) (a : Option Addr) (n cap ck : Nat) (L : List Strm) (id : Nat) (w : World) (h : PlanAt w base q a n cap ck L) (hok : PlanOk L ck) :
    Calls Tryz.prog 27 #[.pointer (some ⟨q, 0, none⟩), .int .u64 id] w fun e w' => Below w.heap.size w w' ∧ e = .returned (.tuple #[.int .i64 (posL id L : Nat), .bool (hasL id L)]) := by
  have c0 := h.blk.cell 0 _ rfl
  have lb := h.blk.lt
  have H := Lib.hid h
  have HK := Lib.hid hok
  clear h hok
  go_enter Tryz.func27, Tryz.ntmps27
  go_wp2_with (fail)
  refine (bsearch_any base a n cap L id w H.out.len H.out.own HK.out.asc HK.out.len).mono ?_
  rintro e w1 ⟨hb, rfl⟩
  go_wp2_with (fail)
  go_returns
  exact ⟨hb, rfl⟩
set_option maxRecDepth 100000 in
set_option maxHeartbeats 2000000 in
theorem ahead_any (x y : Strm) (w : World) : Calls Tryz.prog 47 #[.agg (strmV x).toArray, .agg (strmV y).toArray] w fun e w' => Below w.heap.size w w' ∧ e = .returned (.bool (ahead x y)) := by
  obtain ⟨i, u, c, r, s⟩ := x
  obtain ⟨j, v, d, r2, t⟩ := y
  simp only [strmV]
  have hB : Below w.heap.size w ((w.alloc (.cells #[.int .u64 i, .int .u8 u, .bool c, .bool r, .int .u64 s] 64)).alloc (.cells #[.int .u64 j, .int .u8 v, .bool d, .bool r2, .int .u64 t] 64)) := ((Below.refl _ _).alloc (Nat.le_refl _) _).alloc (by simp) _
  have HB := Lib.hid hB
  clear hB
  obtain ⟨R, hR⟩ : ∃ R, ahead ⟨i, u, c, r, s⟩ ⟨j, v, d, r2, t⟩ = R := ⟨_, rfl⟩
  rw [hR]
  have HR := Lib.hid hR
  clear hR
  by_cases hu : u = v
  · subst hu
    have h1 : ((u : Int) != (u : Int)) = false := by simp
    cases c <;> cases d
    · obtain rfl : R = true := by rw [← HR.out]; simp [ahead]
      go_enter Tryz.func47, Tryz.ntmps47
      go_wp2_with (fail)
      go_returns
      exact ⟨HB.out, rfl⟩
    · obtain rfl : R = true := by rw [← HR.out]; simp [ahead]
      go_enter Tryz.func47, Tryz.ntmps47
      go_wp2_with (fail)
      go_returns
      exact ⟨HB.out, rfl⟩
    · obtain rfl : R = false := by rw [← HR.out]; simp [ahead]
      go_enter Tryz.func47, Tryz.ntmps47
      go_wp2_with (fail)
      go_returns
      exact ⟨HB.out, rfl⟩
    · obtain rfl : R = decide (s ≤ t) := by rw [← HR.out]; simp [ahead]
      go_enter Tryz.func47, Tryz.ntmps47
      go_wp2_with (fail)
      go_returns
      exact ⟨HB.out, rfl⟩
  · have h1 : ((u : Int) != (v : Int)) = true := by simp; omega
    have h3 : ((u : Int) == (v : Int)) = false := by simp; omega
    obtain rfl : R = decide (u < v) := by rw [← HR.out]; simp [ahead, hu]
    clear hu
    go_enter Tryz.func47, Tryz.ntmps47
    go_wp2_with (fail)
    go_returns
    exact ⟨HB.out, rfl⟩
def bestI : Option Nat → Int
  | none => -1
  | some i => (i : Nat)
def NextPost (L : List Strm) (w : World) (e : Ending) (w' : World) : Prop := Below w.heap.size w w' ∧ ∃ best, NxI L L.length best ∧ e = .returned (.int .i64 (bestI best))
set_option maxRecDepth 100000 in
set_option maxHeartbeats 4000000 in
theorem next_any (base q : Nat) (a : Option Addr) (n cap ck : Nat) (L : List Strm) (w : World) (h : PlanAt w base q a n cap ck L) (hok : PlanOk L ck) :
    Calls Tryz.prog 26 #[.pointer (some ⟨q, 0, none⟩)] w fun e w' => NextPost L w e w' := by
  have c0 := h.blk.cell 0 _ rfl
  have lb := h.blk.lt
  have hlen := h.len
  have hl256 : n ≤ 256 := by rw [hlen]; exact hok.len
  have HN := Lib.hid hlen
  have H := Lib.hid h
  have HK := Lib.hid hok
  clear h hok hlen
  go_enter Tryz.func26, Tryz.ntmps26
  go_wp2_with (fail)
  go_loopw [3, 4, 5, 11] (fun b _ _ i wr => ∃ (best : Option Nat) (k : Nat), b = .int .i64 (bestI best) ∧ i = .int .i64 k ∧ k ≤ n ∧ Below w.heap.size w wr ∧ Hid (NxI L k best)) (fun _ _ _ i _ => n - (intOf i).toNat)
  case atStart => exact ⟨none, 0, rfl, rfl, by omega, Below.refl _ _, Lib.hid (fun j h => by omega)⟩
  case round =>
    obtain ⟨best, k, rfl, rfl, hk, bw, hI⟩ := hrel
    by_cases hlt : k < n
    · obtain ⟨x, hx⟩ : ∃ x, L[k]? = some x := by have := HN.out; exact ⟨L[k], by simp⟩
      have hc0 : wr.cell? ⟨q, 0, none⟩ = some (.slice a n cap) := (bw.cell (p := ⟨q, 0, none⟩) lb).trans c0
      have lq : q < wr.heap.size := Nat.lt_of_lt_of_le lb bw.size
      obtain ⟨g, ha, hb, hg, ⟨d0, d1, d2, d3, d4⟩, _⟩ := (H.out.own.below bw).getF hx
      subst ha
      have hgx : L.getD k default = x := by simp [List.getD_eq_getElem?_getD, hx]
      have HG := Lib.hid hgx
      clear hgx hx
      obtain ⟨xi, xu, xc, xr, xs⟩ := x
      simp only at d0 d1 d2 d3 d4
      have hB2 : ∀ W, Below (wr.heap.size + 1) (wr.alloc (.cells #[.int .u64 xi, .int .u8 xu, .bool xc, .bool xr, .int .u64 xs] 64)) W → Below w.heap.size w W := fun W hW => (bw.alloc bw.size _).trans (hW.mono (by have := bw.size; omega))
      have HB2 := Lib.hid hB2
      clear hB2
      cases xr with
      | false =>
        go_wp2_with (fail)
        refine rg_start 18 ?_
        refine rg_same fun p hx hne hC => ?_
        refine rg_quiet 4 [0,1,2,3,4,5,6,7,8,9,10,11,12,13] hC ?_
        simp only [pickD, List.map_cons, List.map_nil, List.getD_cons_zero, List.getD_cons_succ]; repeat (go_big_quiet_step (fail))
        refine wpQuiet_nil ?_
        refine rg_cut 14 ?_
        go_wp2_with (fail)
        refine rg_same fun p hx hne hC => ?_
        refine rg_quiet 0 [15,16,17] hC ?_
        simp only [pickD, List.map_cons, List.map_nil, List.getD_cons_zero, List.getD_cons_succ]; repeat (go_big_quiet_step (fail))
        refine wpQuiet_nil ?_
        refine rg_end ?_
        go_wp2_with (fail)
        refine ⟨⟨best, k + 1, rfl, by go_num, by omega, HB2.out _ (Below.refl _ _).drew, Lib.hid (hI.out.skip (by rw [HG.out]))⟩, by simp [intOf]; omega⟩
      | true =>
        cases best with
        | none =>
          have hbi : bestI none = -1 := rfl
          rw [hbi]
          go_wp2_with (fail)
          refine rg_start 18 ?_
          refine rg_same fun p hx hne hC => ?_
          refine rg_quiet 4 [0,1,2,3,4,5,6,7,8,9,10,11,12,13] hC ?_
          simp only [pickD, List.map_cons, List.map_nil, List.getD_cons_zero, List.getD_cons_succ]; repeat (go_big_quiet_step (fail))
          refine wpQuiet_nil ?_
          refine rg_cut 14 ?_
          go_wp2_with (fail)
          refine rg_same fun p hx hne hC => ?_
          refine rg_quiet 0 [15,16,17] hC ?_
          simp only [pickD, List.map_cons, List.map_nil, List.getD_cons_zero, List.getD_cons_succ]; repeat (go_big_quiet_step (fail))
          refine wpQuiet_nil ?_
          refine rg_end ?_
          go_wp2_with (fail)
          refine ⟨⟨some k, k + 1, rfl, by go_num, by omega, HB2.out _ (Below.refl _ _).drew, Lib.hid (hI.out.first (by rw [HG.out]))⟩, by simp [intOf]; omega⟩
        | some i =>
          have hbi : bestI (some i) = (i : Int) := rfl
          rw [hbi]
          have hik : i < k := hI.out.1
          obtain ⟨y, hy⟩ : ∃ y, L[i]? = some y := by have := HN.out; exact ⟨L[i], by simp⟩
          obtain ⟨g', ha', _, _, ⟨e0, e1, e2, e3, e4⟩, _⟩ := (H.out.own.below bw).getF hy
          cases ha'
          have hgy : L.getD i default = y := by simp [List.getD_eq_getElem?_getD, hy]
          have HGy := Lib.hid hgy
          clear hgy hy
          obtain ⟨yi, yu, yc, yr, ys⟩ := y
          simp only at e0 e1 e2 e3 e4
          have hah := fun W => ahead_any ⟨yi, yu, yc, yr, ys⟩ ⟨xi, xu, xc, true, xs⟩ W
          simp only [strmV] at hah
          have HAH := Lib.hid hah
          clear hah
          obtain ⟨v, hv⟩ : ∃ v, ahead ⟨yi, yu, yc, yr, ys⟩ ⟨xi, xu, xc, true, xs⟩ = v := ⟨_, rfl⟩
          rw [hv] at HAH
          have hi0 : decide ((i : Int) < 0) = false := decide_eq_false (by omega)
          have HV := Lib.hid hv
          clear hv
          go_wp2_with (fail)
          refine rg_start 18 ?_
          refine rg_same fun p hx hne hC => ?_
          refine rg_quiet 4 [0,1,2,3,4,5,6,7,8,9,10,11,12,13] hC ?_
          simp only [pickD, List.map_cons, List.map_nil, List.getD_cons_zero, List.getD_cons_succ]; repeat (go_big_quiet_step (fail))
          refine wpQuiet_nil ?_
          refine rg_cut 14 ?_
          go_wp2_with (fail)
          refine (HAH.out _).mono ?_
          rintro e w1 ⟨hb1, rfl⟩
          have b1 : Below w.heap.size w w1 := below_on (HB2.out _ (Below.refl _ _).drew) hb1 (HB2.out _ (Below.refl _ _).drew).size
          have B1 := Lib.hid b1
          clear b1 hb1 hx hne hC
          go_wp2_with (fail)
          cases v with
          | true =>
            refine rg_same fun p hx hne hC => ?_
            refine rg_quiet 0 [15,16,17] hC ?_
            simp only [pickD, List.map_cons, List.map_nil, List.getD_cons_zero, List.getD_cons_succ]; repeat (go_big_quiet_step (fail))
            refine wpQuiet_nil ?_
            refine rg_end ?_
            go_wp2_with (fail)
            refine ⟨⟨some i, k + 1, rfl, by go_num, by omega, B1.out, Lib.hid (hI.out.keep HK.out.asc (by have := HN.out; omega) (by rw [HGy.out, HG.out]; exact HV.out))⟩, by simp [intOf]; omega⟩
          | false =>
            refine rg_same fun p hx hne hC => ?_
            refine rg_quiet 0 [15,16,17] hC ?_
            simp only [pickD, List.map_cons, List.map_nil, List.getD_cons_zero, List.getD_cons_succ]; repeat (go_big_quiet_step (fail))
            refine wpQuiet_nil ?_
            refine rg_end ?_
            go_wp2_with (fail)
            refine ⟨⟨some k, k + 1, rfl, by go_num, by omega, B1.out, Lib.hid (hI.out.turn HK.out.asc (by have := HN.out; omega) (by rw [HG.out]) (by rw [HGy.out, HG.out]; exact HV.out))⟩, by simp [intOf]; omega⟩
    · obtain rfl : k = n := by omega
      go_wp2_with (fail)
      go_returns
      have := hI.out
      rw [HN.out] at this
      exact ⟨bw, best, this, rfl⟩
end Go.Proofs.YtjkihpbpnoelnaaGreatDoor
