/- The document's list of streams in memory; place, the document's Next. -/
import Derived.Test.YtjkihpbpnoelnaaGreatDoorPr16
namespace Go.Proofs.YtjkihpbpnoelnaaGreatDoor
open Go.RowKit
set_option linter.unusedVariables false
def refV (x : Strm) : List Value := [.int .u64 x.id, .int .u8 x.urg, .bool x.inc, .bool x.ready, .int .i64 x.served]
theorem refV_len (x : Strm) : (refV x).length = 5 := rfl
theorem ref_et : ET Tryz.prog 42 48 5 24 := et_of (by kernel_rfl)
theorem OwnS.getR {w : World} {base n cap : Nat} {a : Option Addr} {e : TypeId} {L : List Strm} (h : OwnS w base e 5 a n cap (L.flatMap refV)) {i : Nat} {x : Strm} (hx : L[i]? = some x) : ∃ g, a = some ⟨g, 0, none⟩ ∧ base ≤ g ∧ g < w.heap.size ∧
    (w.cell? ⟨g, i * 5, none⟩ = some (.int .u64 x.id) ∧ w.cell? ⟨g, i * 5 + 1, none⟩ = some (.int .u8 x.urg) ∧ w.cell? ⟨g, i * 5 + 2, none⟩ = some (.bool x.inc) ∧ w.cell? ⟨g, i * 5 + 3, none⟩ = some (.bool x.ready) ∧ w.cell? ⟨g, i * 5 + 4, none⟩ = some (.int .i64 x.served)) ∧
    ∀ j, j < 5 → w.frozen? ⟨g, i * 5 + j, none⟩ = false := by
  have hi : i < L.length := (List.getElem?_eq_some_iff.1 hx).1
  have key : ∀ j, j < 5 → ∃ g, a = some ⟨g, 0, none⟩ ∧ base ≤ g ∧ g < w.heap.size ∧ w.cell? ⟨g, i * 5 + j, none⟩ = (refV x)[j]? ∧ w.frozen? ⟨g, i * 5 + j, none⟩ = false := fun j hj => by
    obtain ⟨g, h1, h2, h3, h4, h5⟩ := h.at_ (i := i * 5 + j) (by rw [flat_len refV_len]; omega)
    exact ⟨g, h1, h2, h3, h4.trans (flat_get refV_len L i j x hx hj), h5⟩
  obtain ⟨g, ha, hb, hg, c0, f0⟩ := key 0 (by omega)
  subst ha
  have rest : ∀ j, j < 5 → w.cell? ⟨g, i * 5 + j, none⟩ = (refV x)[j]? ∧ w.frozen? ⟨g, i * 5 + j, none⟩ = false := fun j hj => by
    obtain ⟨g', h1, _, _, h4, h5⟩ := key j hj
    cases h1; exact ⟨h4, h5⟩
  exact ⟨g, rfl, hb, hg, ⟨c0, (rest 1 (by omega)).1, (rest 2 (by omega)).1, (rest 3 (by omega)).1, (rest 4 (by omega)).1⟩, fun j hj => (rest j hj).2⟩
/-- Where a stream stands in the document's list. -/
def PlI (L : List Strm) (id : Nat) (v : Value) : Prop := (hasL id L = false ∧ v = .int .i64 (-1)) ∨ ∃ k : Nat, k < L.length ∧ (L.getD k default).id = id ∧ v = .int .i64 k
set_option maxRecDepth 100000 in
set_option maxHeartbeats 4000000 in
theorem place_any (base : Nat) (a : Option Addr) (n cap : Nat) (L : List Strm) (id : Nat) (w : World) (hn : n = L.length) (hO : OwnS w base 48 5 a n cap (L.flatMap refV)) (hl : n ≤ 256) :
    Calls Tryz.prog 19 #[.slice a n cap, .int .u64 id] w fun e w' => Below w.heap.size w w' ∧ ∃ v, e = .returned v ∧ PlI L id v := by
  have HN := Lib.hid hn
  have HO := Lib.hid hO
  clear hn hO
  go_enter Tryz.func19, Tryz.ntmps19
  go_wp2_with (fail)
  go_loopw [5, 6, 9] (fun _ _ i wr => ∃ (k : Nat), i = .int .i64 k ∧ k ≤ n ∧ Below w.heap.size w wr ∧ Hid (∀ j, j < k → (L.getD j default).id ≠ id)) (fun _ _ i _ => n - (intOf i).toNat)
  case atStart => exact ⟨0, rfl, by omega, Below.refl _ _, Lib.hid (fun j h => by omega)⟩
  case round =>
    obtain ⟨k, rfl, hk, bw, hI⟩ := hrel
    by_cases hlt : k < n
    · obtain ⟨x, hx⟩ : ∃ x, L[k]? = some x := by have := HN.out; exact ⟨L[k], by simp⟩
      obtain ⟨g, ha, hb, hg, ⟨d0, d1, d2, d3, d4⟩, _⟩ := (HO.out.below bw).getR hx
      subst ha
      have hgx : L.getD k default = x := by simp [List.getD_eq_getElem?_getD, hx]
      have HG := Lib.hid hgx
      clear hgx hx
      obtain ⟨xi, xu, xc, xr, xs⟩ := x
      simp only at d0 d1 d2 d3 d4
      have hB2 : Below w.heap.size w (wr.alloc (.cells #[.int .u64 xi, .int .u8 xu, .bool xc, .bool xr, .int .i64 xs] 48)) := bw.alloc bw.size _
      have HB2 := Lib.hid hB2
      clear hB2
      by_cases he : xi = id
      · subst he
        go_wp2_with (fail)
        go_returns
        exact ⟨HB2.out, _, rfl, .inr ⟨k, by have := HN.out; omega, by rw [HG.out], rfl⟩⟩
      · have e1 : ((xi : Int) == (id : Int)) = false := by simp; omega
        have HE := Lib.hid he
        clear he
        go_wp2_with (fail)
        exact ⟨⟨k + 1, by go_num, by omega, HB2.out, Lib.hid (fun j hj => by
          rcases Nat.lt_succ_iff_lt_or_eq.1 hj with h1 | rfl
          · exact hI.out j h1
          · rw [HG.out]; exact HE.out)⟩, by simp [intOf]; omega⟩
    · obtain rfl : k = n := by omega
      go_wp2_with (fail)
      go_returns
      exact ⟨bw, _, rfl, .inl ⟨place_no (by have := HN.out; intro j hj; exact hI.out j (by omega)), rfl⟩⟩
/-- What the document's Next yields. -/
def RNx (L : List Strm) (v : Value) : Prop := ((∀ x ∈ L, x.ready = false) ∧ v = .int .i64 (-1)) ∨ ∃ i : Nat, i < L.length ∧ IsBest L (L.getD i default) ∧ v = .int .i64 i
set_option maxRecDepth 100000 in
set_option maxHeartbeats 16000000 in
theorem rnext_any (base : Nat) (a : Option Addr) (n cap : Nat) (L : List Strm) (w : World) (hn : n = L.length) (hO : OwnS w base 48 5 a n cap (L.flatMap refV)) (hl : n ≤ 256) (hD : Dist L) (hu7 : ∀ x ∈ L, x.urg ≤ 7) :
    Calls Tryz.prog 20 #[.slice a n cap] w fun e w' => Below w.heap.size w w' ∧ ∃ v, e = .returned v ∧ RNx L v := by
  have HN := Lib.hid hn
  have HO := Lib.hid hO
  have HD := Lib.hid hD
  have HU7 := Lib.hid hu7
  clear hn hO hD hu7
  go_enter Tryz.func20, Tryz.ntmps20
  go_wp2_with (fail)
  go_loopw [3, 4] (fun u i wr => ∃ (m k : Nat), u = .int .u8 m ∧ i = .int .i64 k ∧ k ≤ n ∧ Below w.heap.size w wr ∧ Hid (LeastI L k m)) (fun _ i _ => n - (intOf i).toNat)
  case atStart => exact ⟨8, 0, rfl, rfl, by omega, Below.refl _ _, Lib.hid (LeastI.zero L)⟩
  case round =>
    obtain ⟨m, k, rfl, rfl, hk, bw, hI⟩ := hrel
    by_cases hlt : k < n
    · obtain ⟨x, hx⟩ : ∃ x, L[k]? = some x := by have := HN.out; exact ⟨L[k], by simp⟩
      obtain ⟨g, ha, hb, hg, ⟨d0, d1, d2, d3, d4⟩, _⟩ := (HO.out.below bw).getR hx
      subst ha
      have hgx : L.getD k default = x := by simp [List.getD_eq_getElem?_getD, hx]
      have HG := Lib.hid hgx
      clear hgx hx
      obtain ⟨xi, xu, xc, xr, xs⟩ := x
      simp only at d0 d1 d2 d3 d4
      have hm8 : m ≤ 8 := hI.out.1
      cases xr with
      | false =>
        go_wp2_with (fail)
        exact ⟨⟨m, k + 1, rfl, by go_num, by omega, bw, Lib.hid (hI.out.keep (by rw [HG.out]; intro h; cases h))⟩, by simp [intOf]; omega⟩
      | true =>
        by_cases hu : xu < m
        · have HU := Lib.hid hu
          have g1 : decide ((xu : Int) < (m : Int)) = true := decide_eq_true (by omega)
          have g1n : decide (xu < m) = true := decide_eq_true (by omega)
          clear hu
          go_wp2_with (fail)
          exact ⟨⟨xu, k + 1, rfl, by go_num, by omega, bw, Lib.hid (by have h9 := hI.out.turn (by rw [HG.out]) (by rw [HG.out]; exact HU.out); rw [HG.out] at h9; exact h9)⟩, by simp [intOf]; omega⟩
        · have HU := Lib.hid hu
          have g1 : decide ((xu : Int) < (m : Int)) = false := decide_eq_false (by omega)
          have g1n : decide (xu < m) = false := decide_eq_false (by omega)
          clear hu
          go_wp2_with (fail)
          exact ⟨⟨m, k + 1, rfl, by go_num, by omega, bw, Lib.hid (hI.out.keep (by rw [HG.out]; intro _; have := HU.out; simp only; omega))⟩, by simp [intOf]; omega⟩
    · have hkn : k = n := by omega
      subst k
      have hL1 := hI.out
      rw [HN.out] at hL1
      have HL1 := Lib.hid hL1
      have hm8 : m ≤ 8 := hI.out.1
      have BW := Lib.hid bw
      clear hL1 hI bw hlt hk
      go_wp2_with (fail)
      go_loopw [5, 6] (fun b i wr => ∃ (best : Option Nat) (k : Nat), b = .int .i64 (bestI best) ∧ i = .int .i64 k ∧ k ≤ n ∧ Below w.heap.size w wr ∧ Hid (SelI L (c2 m) ltId k best)) (fun _ i _ => n - (intOf i).toNat)
      case atStart => exact ⟨none, 0, rfl, rfl, by omega, BW.out, Lib.hid (SelI.zero _ _ _)⟩
      case round =>
        clear BW
        obtain ⟨best, k, rfl, rfl, hk, bw, hI⟩ := hrel
        by_cases hlt : k < n
        · obtain ⟨x, hx⟩ : ∃ x, L[k]? = some x := by have := HN.out; exact ⟨L[k], by simp⟩
          obtain ⟨g, ha, hb, hg, ⟨d0, d1, d2, d3, d4⟩, _⟩ := (HO.out.below bw).getR hx
          subst ha
          have hgx : L.getD k default = x := by simp [List.getD_eq_getElem?_getD, hx]
          have HG := Lib.hid hgx
          clear hgx hx
          obtain ⟨xi, xu, xc, xr, xs⟩ := x
          simp only at d0 d1 d2 d3 d4
          cases xr with
          | false =>
            cases best with
            | none =>
              have hbi : bestI none = -1 := rfl
              rw [hbi]
              go_wp2_with (fail)
              refine rg_start 39 ?_
              refine rg_same fun p hx hne hC => ?_
              refine rg_quiet 0 [0,1,2,3,4,5,6,7,8,9,10,11,12,13,14,15,16,17,18,19,20,21,22,23,24,25,26,27,28,29,30,31,32,33,34,35,36,37,38] hC ?_
              simp only [pickD, List.map_cons, List.map_nil, List.getD_cons_zero, List.getD_cons_succ]; repeat (go_big_quiet_step (fail))
              refine wpQuiet_nil ?_
              refine rg_end ?_
              go_wp2_with (fail)
              exact ⟨⟨none, k + 1, rfl, by go_num, by omega, bw.drew, Lib.hid (hI.out.skip (by unfold c2; rw [HG.out]; simp))⟩, by simp [intOf]; omega⟩
            | some i =>
              have hbi : bestI (some i) = (i : Int) := rfl
              rw [hbi]
              have hik : i < k := hI.out.1
              obtain ⟨y, hy⟩ : ∃ y, L[i]? = some y := by have := HN.out; exact ⟨L[i], by simp⟩
              obtain ⟨g', ha', _, _, ⟨e0, e1, e2, e3, e4⟩, _⟩ := (HO.out.below bw).getR hy
              cases ha'
              have hgy : L.getD i default = y := by simp [List.getD_eq_getElem?_getD, hy]
              have HGy := Lib.hid hgy
              clear hgy hy
              obtain ⟨yi, yu, yc, yr, ys⟩ := y
              simp only at e0 e1 e2 e3 e4
              have hi0 : decide ((i : Int) < 0) = false := decide_eq_false (by omega)
              clear hbi
              go_wp2_with (fail)
              refine rg_start 39 ?_
              refine rg_same fun p hx hne hC => ?_
              refine rg_quiet 0 [0,1,2,3,4,5,6,7,8,9,10,11,12,13,14,15,16,17,18,19,20,21,22,23,24,25,26,27,28,29,30,31,32,33,34,35,36,37,38] hC ?_
              simp only [pickD, List.map_cons, List.map_nil, List.getD_cons_zero, List.getD_cons_succ]; repeat (go_big_quiet_step (fail))
              refine wpQuiet_nil ?_
              refine rg_end ?_
              go_wp2_with (fail)
              exact ⟨⟨some i, k + 1, rfl, by go_num, by omega, bw.drew, Lib.hid (hI.out.skip (by unfold c2; rw [HG.out]; simp))⟩, by simp [intOf]; omega⟩
          | true =>
            by_cases hu : xu = m
            · cases xc with
              | true =>
                have g1 : ((xu : Int) == (m : Int)) = true := by simp; omega
                have g1n : (xu == m) = true := by simp; omega
                have g1m : decide (xu = m) = true := by simp; omega
                have HU := Lib.hid hu
                clear hu
                cases best with
                | none =>
                  have hbi : bestI none = -1 := rfl
                  rw [hbi]
                  go_wp2_with (fail)
                  refine rg_start 39 ?_
                  refine rg_same fun p hx hne hC => ?_
                  refine rg_quiet 0 [0,1,2,3,4,5,6,7,8,9,10,11,12,13,14,15,16,17,18,19,20,21,22,23,24,25,26,27,28,29,30,31,32,33,34,35,36,37,38] hC ?_
                  simp only [pickD, List.map_cons, List.map_nil, List.getD_cons_zero, List.getD_cons_succ]; repeat (go_big_quiet_step (fail))
                  refine wpQuiet_nil ?_
                  refine rg_end ?_
                  go_wp2_with (fail)
                  exact ⟨⟨none, k + 1, rfl, by go_num, by omega, bw.drew, Lib.hid (hI.out.skip (by unfold c2; rw [HG.out]; simp))⟩, by simp [intOf]; omega⟩
                | some i =>
                  have hbi : bestI (some i) = (i : Int) := rfl
                  rw [hbi]
                  have hik : i < k := hI.out.1
                  obtain ⟨y, hy⟩ : ∃ y, L[i]? = some y := by have := HN.out; exact ⟨L[i], by simp⟩
                  obtain ⟨g', ha', _, _, ⟨e0, e1, e2, e3, e4⟩, _⟩ := (HO.out.below bw).getR hy
                  cases ha'
                  have hgy : L.getD i default = y := by simp [List.getD_eq_getElem?_getD, hy]
                  have HGy := Lib.hid hgy
                  clear hgy hy
                  obtain ⟨yi, yu, yc, yr, ys⟩ := y
                  simp only at e0 e1 e2 e3 e4
                  have hi0 : decide ((i : Int) < 0) = false := decide_eq_false (by omega)
                  clear hbi
                  go_wp2_with (fail)
                  refine rg_start 39 ?_
                  refine rg_same fun p hx hne hC => ?_
                  refine rg_quiet 0 [0,1,2,3,4,5,6,7,8,9,10,11,12,13,14,15,16,17,18,19,20,21,22,23,24,25,26,27,28,29,30,31,32,33,34,35,36,37,38] hC ?_
                  simp only [pickD, List.map_cons, List.map_nil, List.getD_cons_zero, List.getD_cons_succ]; repeat (go_big_quiet_step (fail))
                  refine wpQuiet_nil ?_
                  refine rg_end ?_
                  go_wp2_with (fail)
                  exact ⟨⟨some i, k + 1, rfl, by go_num, by omega, bw.drew, Lib.hid (hI.out.skip (by unfold c2; rw [HG.out]; simp))⟩, by simp [intOf]; omega⟩
              | false =>
                have g1 : ((xu : Int) == (m : Int)) = true := by simp; omega
                have g1n : (xu == m) = true := by simp; omega
                have g1m : decide (xu = m) = true := by simp; omega
                have HU := Lib.hid hu
                clear hu
                cases best with
                | none =>
                  have hbi : bestI none = -1 := rfl
                  rw [hbi]
                  go_wp2_with (fail)
                  refine rg_start 39 ?_
                  refine rg_same fun p hx hne hC => ?_
                  refine rg_quiet 0 [0,1,2,3,4,5,6,7,8,9,10,11,12,13,14,15,16,17,18,19,20,21,22,23,24,25,26,27,28,29,30,31,32,33,34,35,36,37,38] hC ?_
                  simp only [pickD, List.map_cons, List.map_nil, List.getD_cons_zero, List.getD_cons_succ]; repeat (go_big_quiet_step (fail))
                  refine wpQuiet_nil ?_
                  refine rg_end ?_
                  go_wp2_with (fail)
                  exact ⟨⟨some k, k + 1, rfl, by go_num, by omega, bw.drew, Lib.hid (hI.out.first ltId_irr (by unfold c2; rw [HG.out]; exact ⟨rfl, HU.out, rfl⟩))⟩, by simp [intOf]; omega⟩
                | some i =>
                  have hbi : bestI (some i) = (i : Int) := rfl
                  rw [hbi]
                  have hik : i < k := hI.out.1
                  obtain ⟨y, hy⟩ : ∃ y, L[i]? = some y := by have := HN.out; exact ⟨L[i], by simp⟩
                  obtain ⟨g', ha', _, _, ⟨e0, e1, e2, e3, e4⟩, _⟩ := (HO.out.below bw).getR hy
                  cases ha'
                  have hgy : L.getD i default = y := by simp [List.getD_eq_getElem?_getD, hy]
                  have HGy := Lib.hid hgy
                  clear hgy hy
                  obtain ⟨yi, yu, yc, yr, ys⟩ := y
                  simp only at e0 e1 e2 e3 e4
                  have hi0 : decide ((i : Int) < 0) = false := decide_eq_false (by omega)
                  clear hbi
                  by_cases hq : xi < yi
                  · have HQ := Lib.hid hq
                    have g2 : decide ((xi : Int) < (yi : Int)) = true := decide_eq_true (by omega)
                    have g2n : decide (xi < yi) = true := decide_eq_true (by omega)
                    clear hq
                    go_wp2_with (fail)
                    refine rg_start 39 ?_
                    refine rg_same fun p hx hne hC => ?_
                    refine rg_quiet 0 [0,1,2,3,4,5,6,7,8,9,10,11,12,13,14,15,16,17,18,19,20,21,22,23,24,25,26,27,28,29,30,31,32,33,34,35,36,37,38] hC ?_
                    simp only [pickD, List.map_cons, List.map_nil, List.getD_cons_zero, List.getD_cons_succ]; repeat (go_big_quiet_step (fail))
                    refine wpQuiet_nil ?_
                    refine rg_end ?_
                    go_wp2_with (fail)
                    exact ⟨⟨some k, k + 1, rfl, by go_num, by omega, bw.drew, Lib.hid (hI.out.turn ltId_irr ltId_tr (by unfold c2; rw [HG.out]; exact ⟨rfl, HU.out, rfl⟩) (by rw [HG.out, HGy.out]; exact HQ.out))⟩, by simp [intOf]; omega⟩
                  · have HQ := Lib.hid hq
                    have g2 : decide ((xi : Int) < (yi : Int)) = false := decide_eq_false (by omega)
                    have g2n : decide (xi < yi) = false := decide_eq_false (by omega)
                    clear hq
                    go_wp2_with (fail)
                    refine rg_start 39 ?_
                    refine rg_same fun p hx hne hC => ?_
                    refine rg_quiet 0 [0,1,2,3,4,5,6,7,8,9,10,11,12,13,14,15,16,17,18,19,20,21,22,23,24,25,26,27,28,29,30,31,32,33,34,35,36,37,38] hC ?_
                    simp only [pickD, List.map_cons, List.map_nil, List.getD_cons_zero, List.getD_cons_succ]; repeat (go_big_quiet_step (fail))
                    refine wpQuiet_nil ?_
                    refine rg_end ?_
                    go_wp2_with (fail)
                    exact ⟨⟨some i, k + 1, rfl, by go_num, by omega, bw.drew, Lib.hid (hI.out.keep (by rw [HG.out, HGy.out]; exact HQ.out))⟩, by simp [intOf]; omega⟩
            · have HU := Lib.hid hu
              have g1 : ((xu : Int) == (m : Int)) = false := by simp; omega
              have g1n : (xu == m) = false := by simp; omega
              have g1m : decide (xu = m) = false := by simp; omega
              clear hu
              cases best with
              | none =>
                have hbi : bestI none = -1 := rfl
                rw [hbi]
                go_wp2_with (fail)
                refine rg_start 39 ?_
                refine rg_same fun p hx hne hC => ?_
                refine rg_quiet 0 [0,1,2,3,4,5,6,7,8,9,10,11,12,13,14,15,16,17,18,19,20,21,22,23,24,25,26,27,28,29,30,31,32,33,34,35,36,37,38] hC ?_
                simp only [pickD, List.map_cons, List.map_nil, List.getD_cons_zero, List.getD_cons_succ]; repeat (go_big_quiet_step (fail))
                refine wpQuiet_nil ?_
                refine rg_end ?_
                go_wp2_with (fail)
                exact ⟨⟨none, k + 1, rfl, by go_num, by omega, bw.drew, Lib.hid (hI.out.skip (by unfold c2; rw [HG.out]; exact fun h => HU.out h.2.1))⟩, by simp [intOf]; omega⟩
              | some i =>
                have hbi : bestI (some i) = (i : Int) := rfl
                rw [hbi]
                have hik : i < k := hI.out.1
                obtain ⟨y, hy⟩ : ∃ y, L[i]? = some y := by have := HN.out; exact ⟨L[i], by simp⟩
                obtain ⟨g', ha', _, _, ⟨e0, e1, e2, e3, e4⟩, _⟩ := (HO.out.below bw).getR hy
                cases ha'
                have hgy : L.getD i default = y := by simp [List.getD_eq_getElem?_getD, hy]
                have HGy := Lib.hid hgy
                clear hgy hy
                obtain ⟨yi, yu, yc, yr, ys⟩ := y
                simp only at e0 e1 e2 e3 e4
                have hi0 : decide ((i : Int) < 0) = false := decide_eq_false (by omega)
                clear hbi
                go_wp2_with (fail)
                refine rg_start 39 ?_
                refine rg_same fun p hx hne hC => ?_
                refine rg_quiet 0 [0,1,2,3,4,5,6,7,8,9,10,11,12,13,14,15,16,17,18,19,20,21,22,23,24,25,26,27,28,29,30,31,32,33,34,35,36,37,38] hC ?_
                simp only [pickD, List.map_cons, List.map_nil, List.getD_cons_zero, List.getD_cons_succ]; repeat (go_big_quiet_step (fail))
                refine wpQuiet_nil ?_
                refine rg_end ?_
                go_wp2_with (fail)
                exact ⟨⟨some i, k + 1, rfl, by go_num, by omega, bw.drew, Lib.hid (hI.out.skip (by unfold c2; rw [HG.out]; exact fun h => HU.out h.2.1))⟩, by simp [intOf]; omega⟩
        · have hkn : k = n := by omega
          subst k
          have hL2 := hI.out
          rw [HN.out] at hL2
          have HL2 := Lib.hid hL2
          have BW := Lib.hid bw
          cases best with
          | some i =>
            have hik : i < n := hI.out.1
            clear hL2 hI bw hlt hk
            have hbi : bestI (some i) = (i : Int) := rfl
            rw [hbi]
            have hge : decide ((0 : Int) ≤ (i : Int)) = true := decide_eq_true (by omega)
            go_wp2_with (fail)
            go_returns
            exact ⟨BW.out, _, rfl, .inr ⟨i, by have := HN.out; omega, best2 HD.out HL1.out HL2.out, rfl⟩⟩
          | none =>
            have hbi : bestI none = -1 := rfl
            rw [hbi]
            clear hL2 hI bw hlt hk hbi
            go_wp2_with (fail)
            go_loopw [5, 7] (fun b i wr => ∃ (best : Option Nat) (k : Nat), b = .int .i64 (bestI best) ∧ i = .int .i64 k ∧ k ≤ n ∧ Below w.heap.size w wr ∧ Hid (SelI L (c3 m) ltLast k best)) (fun _ i _ => n - (intOf i).toNat)
            case atStart => exact ⟨none, 0, rfl, rfl, by omega, BW.out, Lib.hid (SelI.zero _ _ _)⟩
            case round =>
              clear BW
              obtain ⟨best, k, rfl, rfl, hk, bw, hI⟩ := hrel
              by_cases hlt : k < n
              · obtain ⟨x, hx⟩ : ∃ x, L[k]? = some x := by have := HN.out; exact ⟨L[k], by simp⟩
                obtain ⟨g, ha, hb, hg, ⟨d0, d1, d2, d3, d4⟩, _⟩ := (HO.out.below bw).getR hx
                subst ha
                have hgx : L.getD k default = x := by simp [List.getD_eq_getElem?_getD, hx]
                have HG := Lib.hid hgx
                clear hgx hx
                obtain ⟨xi, xu, xc, xr, xs⟩ := x
                simp only at d0 d1 d2 d3 d4
                cases xr with
                | false =>
                  go_wp2_with (fail)
                  exact ⟨⟨best, k + 1, rfl, by go_num, by omega, bw, Lib.hid (hI.out.skip (by unfold c3; rw [HG.out]; simp))⟩, by simp [intOf]; omega⟩
                | true =>
                  by_cases hu : xu = m
                  · have g1 : ((xu : Int) != (m : Int)) = false := by simp; omega
                    have g1n : (xu != m) = false := by simp; omega
                    have g1m : decide (xu = m) = true := by simp; omega
                    have HU := Lib.hid hu
                    clear hu
                    cases best with
                    | none =>
                      have hbi : bestI none = -1 := rfl
                      rw [hbi]
                      go_wp2_with (fail)
                      refine rg_start 41 ?_
                      refine rg_same fun p hx hne hC => ?_
                      refine rg_quiet 0 [0,1,2,3,4,5,6,7,8,9,10,11,12,13,14,15,16,17,18,19,20,21,22,23,24,25,26,27,28,29,30,31,32,33,34,35,36,37,38,39,40] hC ?_
                      simp only [pickD, List.map_cons, List.map_nil, List.getD_cons_zero, List.getD_cons_succ]; repeat (go_big_quiet_step (fail))
                      refine wpQuiet_nil ?_
                      refine rg_end ?_
                      go_wp2_with (fail)
                      exact ⟨⟨some k, k + 1, rfl, by go_num, by omega, bw.drew, Lib.hid (hI.out.first ltLast_irr (by unfold c3; rw [HG.out]; exact ⟨rfl, HU.out⟩))⟩, by simp [intOf]; omega⟩
                    | some i =>
                      have hbi : bestI (some i) = (i : Int) := rfl
                      rw [hbi]
                      have hik : i < k := hI.out.1
                      obtain ⟨y, hy⟩ : ∃ y, L[i]? = some y := by have := HN.out; exact ⟨L[i], by simp⟩
                      obtain ⟨g', ha', _, _, ⟨e0, e1, e2, e3, e4⟩, _⟩ := (HO.out.below bw).getR hy
                      cases ha'
                      have hgy : L.getD i default = y := by simp [List.getD_eq_getElem?_getD, hy]
                      have HGy := Lib.hid hgy
                      clear hgy hy
                      obtain ⟨yi, yu, yc, yr, ys⟩ := y
                      simp only at e0 e1 e2 e3 e4
                      have hi0 : decide ((i : Int) < 0) = false := decide_eq_false (by omega)
                      clear hbi
                      by_cases hq : xs < ys
                      · have HQ := Lib.hid hq
                        have g2 : decide ((xs : Int) < (ys : Int)) = true := decide_eq_true (by omega)
                        have g2n : decide (xs < ys) = true := decide_eq_true (by omega)
                        clear hq
                        go_wp2_with (fail)
                        refine rg_start 41 ?_
                        refine rg_same fun p hx hne hC => ?_
                        refine rg_quiet 0 [0,1,2,3,4,5,6,7,8,9,10,11,12,13,14,15,16,17,18,19,20,21,22,23,24,25,26,27,28,29,30,31,32,33,34,35,36,37,38,39,40] hC ?_
                        simp only [pickD, List.map_cons, List.map_nil, List.getD_cons_zero, List.getD_cons_succ]; repeat (go_big_quiet_step (fail))
                        refine wpQuiet_nil ?_
                        refine rg_end ?_
                        go_wp2_with (fail)
                        exact ⟨⟨some k, k + 1, rfl, by go_num, by omega, bw.drew, Lib.hid (hI.out.turn ltLast_irr ltLast_tr (by unfold c3; rw [HG.out]; exact ⟨rfl, HU.out⟩) (by rw [HG.out, HGy.out]; unfold ltLast; simp only; have := HQ.out; omega))⟩, by simp [intOf]; omega⟩
                      · by_cases hq2 : xs = ys
                        · subst hq2
                          by_cases hq3 : xi < yi
                          · have HQ := Lib.hid hq3
                            have g2 : decide ((xs : Int) < (xs : Int)) = false := decide_eq_false (by omega)
                            have g2n : decide (xs < xs) = false := decide_eq_false (by omega)
                            have g3 : ((xs : Int) == (xs : Int)) = true := by simp
                            have g3n : (xs == xs) = true := by simp
                            have g3m : decide (xs = xs) = true := by simp
                            have g4 : decide ((xi : Int) < (yi : Int)) = true := decide_eq_true (by omega)
                            have g4n : decide (xi < yi) = true := decide_eq_true (by omega)
                            clear hq hq3
                            go_wp2_with (fail)
                            refine rg_start 41 ?_
                            refine rg_same fun p hx hne hC => ?_
                            refine rg_quiet 0 [0,1,2,3,4,5,6,7,8,9,10,11,12,13,14,15,16,17,18,19,20,21,22,23,24,25,26,27,28,29,30,31,32,33,34,35,36,37,38,39,40] hC ?_
                            simp only [pickD, List.map_cons, List.map_nil, List.getD_cons_zero, List.getD_cons_succ]; repeat (go_big_quiet_step (fail))
                            refine wpQuiet_nil ?_
                            refine rg_end ?_
                            go_wp2_with (fail)
                            exact ⟨⟨some k, k + 1, rfl, by go_num, by omega, bw.drew, Lib.hid (hI.out.turn ltLast_irr ltLast_tr (by unfold c3; rw [HG.out]; exact ⟨rfl, HU.out⟩) (by rw [HG.out, HGy.out]; exact .inr ⟨rfl, HQ.out⟩))⟩, by simp [intOf]; omega⟩
                          · have HQ := Lib.hid hq3
                            have g2 : decide ((xs : Int) < (xs : Int)) = false := decide_eq_false (by omega)
                            have g2n : decide (xs < xs) = false := decide_eq_false (by omega)
                            have g3 : ((xs : Int) == (xs : Int)) = true := by simp
                            have g3n : (xs == xs) = true := by simp
                            have g3m : decide (xs = xs) = true := by simp
                            have g4 : decide ((xi : Int) < (yi : Int)) = false := decide_eq_false (by omega)
                            have g4n : decide (xi < yi) = false := decide_eq_false (by omega)
                            clear hq hq3
                            go_wp2_with (fail)
                            refine rg_start 41 ?_
                            refine rg_same fun p hx hne hC => ?_
                            refine rg_quiet 0 [0,1,2,3,4,5,6,7,8,9,10,11,12,13,14,15,16,17,18,19,20,21,22,23,24,25,26,27,28,29,30,31,32,33,34,35,36,37,38,39,40] hC ?_
                            simp only [pickD, List.map_cons, List.map_nil, List.getD_cons_zero, List.getD_cons_succ]; repeat (go_big_quiet_step (fail))
                            refine wpQuiet_nil ?_
                            refine rg_end ?_
                            go_wp2_with (fail)
                            exact ⟨⟨some i, k + 1, rfl, by go_num, by omega, bw.drew, Lib.hid (hI.out.keep (by rw [HG.out, HGy.out]; rintro (h | ⟨_, h⟩); exact absurd h (Nat.lt_irrefl _); exact HQ.out h))⟩, by simp [intOf]; omega⟩
                        · have HQ := Lib.hid (And.intro hq hq2)
                          have g2 : decide ((xs : Int) < (ys : Int)) = false := decide_eq_false (by omega)
                          have g2n : decide (xs < ys) = false := decide_eq_false (by omega)
                          have g3 : ((xs : Int) == (ys : Int)) = false := by simp; omega
                          have g3n : (xs == ys) = false := by simp; omega
                          have g3m : decide (xs = ys) = false := by simp; omega
                          clear hq hq2
                          go_wp2_with (fail)
                          refine rg_start 41 ?_
                          refine rg_same fun p hx hne hC => ?_
                          refine rg_quiet 0 [0,1,2,3,4,5,6,7,8,9,10,11,12,13,14,15,16,17,18,19,20,21,22,23,24,25,26,27,28,29,30,31,32,33,34,35,36,37,38,39,40] hC ?_
                          simp only [pickD, List.map_cons, List.map_nil, List.getD_cons_zero, List.getD_cons_succ]; repeat (go_big_quiet_step (fail))
                          refine wpQuiet_nil ?_
                          refine rg_end ?_
                          go_wp2_with (fail)
                          exact ⟨⟨some i, k + 1, rfl, by go_num, by omega, bw.drew, Lib.hid (hI.out.keep (by rw [HG.out, HGy.out]; unfold ltLast; simp only; have := HQ.out; omega))⟩, by simp [intOf]; omega⟩
                  · have g1 : ((xu : Int) != (m : Int)) = true := by simp; omega
                    have g1n : (xu != m) = true := by simp; omega
                    have g1m : decide (xu = m) = false := by simp; omega
                    have HU := Lib.hid hu
                    clear hu
                    go_wp2_with (fail)
                    exact ⟨⟨best, k + 1, rfl, by go_num, by omega, bw, Lib.hid (hI.out.skip (by unfold c3; rw [HG.out]; exact fun h => HU.out h.2))⟩, by simp [intOf]; omega⟩
              · have hkn : k = n := by omega
                subst k
                have hL3 := hI.out
                rw [HN.out] at hL3
                have HL3 := Lib.hid hL3
                have BW := Lib.hid bw
                cases best with
                | some i =>
                  have hik : i < n := hI.out.1
                  clear hL3 hI bw hlt hk
                  have hbi : bestI (some i) = (i : Int) := rfl
                  rw [hbi]
                  go_wp2_with (fail)
                  go_returns
                  exact ⟨BW.out, _, rfl, .inr ⟨i, by have := HN.out; omega, best3 HD.out HL1.out HL2.out HL3.out, rfl⟩⟩
                | none =>
                  have hbi : bestI none = -1 := rfl
                  rw [hbi]
                  clear hL3 hI bw hlt hk hbi
                  go_wp2_with (fail)
                  go_returns
                  exact ⟨BW.out, _, rfl, .inl ⟨best0 HL1.out HU7.out HL3.out, rfl⟩⟩
end Go.Proofs.YtjkihpbpnoelnaaGreatDoor
