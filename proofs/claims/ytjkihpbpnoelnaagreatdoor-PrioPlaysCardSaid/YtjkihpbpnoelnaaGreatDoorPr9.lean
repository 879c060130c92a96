/- Plans in memory: Drop. -/
import Derived.Test.YtjkihpbpnoelnaaGreatDoorPr8
namespace Go.Proofs.YtjkihpbpnoelnaaGreatDoor
open Go.RowKit
set_option linter.unusedVariables false
abbrev natI (l : List Nat) : List Int := l.map fun (k : Nat) => (k : Int)
def IdxPost (ids : List Nat) (v : Nat) (w : World) (e : Ending) (w' : World) : Prop := w' = w ∧ ∃ j : Int, e = .returned (.int .i64 j) ∧ ((0 ≤ j ∧ v ∈ ids) ∨ (j = -1 ∧ v ∉ ids))
def IdxOk (ids : List Nat) (v : Nat) (j : Int) : Prop := (0 ≤ j ∧ v ∈ ids) ∨ (j = -1 ∧ v ∉ ids)
set_option maxRecDepth 100000 in
theorem idx_any (aI : Option Addr) (n cI : Nat) (ids : List Nat) (v : Nat) (w : World) (hn : n = ids.length) (hS : Sl .u64 w aI cI (natI ids)) (hl : n ≤ 1000000) :
    Calls Tryz.prog 53 #[.slice aI n cI, .int .u64 v] w fun e w' => IdxPost ids v w e w' := by
  have HS := Lib.hid hS
  have HN := Lib.hid hn
  clear hS hn
  go_enter Tryz.func53, Tryz.ntmps53
  go_wp2_with (fail)
  go_loopw [5, 8] (fun _ i wr => ∃ k : Nat, i = .int .i64 k ∧ k ≤ n ∧ wr = w ∧ Hid (∀ i, i < k → ids.getD i 0 ≠ v)) (fun _ i _ => n - (intOf i).toNat)
  case atStart => exact ⟨0, rfl, by omega, rfl, Lib.hid (fun i h => by omega)⟩
  case round =>
    obtain ⟨k, rfl, hk, rfl, hok⟩ := hrel
    by_cases hlt : k < n
    · obtain ⟨b, off, ha, hb, c0, _⟩ := HS.out.ints k (by have := HN.out; simp; omega)
      subst ha
      have e0 : (natI ids).getD k 0 = ((ids.getD k 0 : Nat) : Int) := by have := HN.out; simp [List.getD_eq_getElem?_getD, List.getElem?_eq_getElem (show k < ids.length by omega)]
      rw [e0] at c0
      obtain ⟨y, hy⟩ : ∃ y, ids.getD k 0 = y := ⟨_, rfl⟩
      rw [hy] at c0
      have HY := Lib.hid hy
      clear hy e0
      by_cases hv : v = y
      · subst hv
        go_wp2_with (fail)
        go_returns
        refine ⟨by first | rfl | trivial, k, rfl, .inl ⟨by omega, ?_⟩⟩
        rw [← HY.out, List.getD_eq_getElem?_getD, List.getElem?_eq_getElem (show k < ids.length by have := HN.out; omega)]
        exact List.getElem_mem _
      · have hne : ((v : Int) == (y : Int)) = false := by simp; omega
        go_wp2_with (fail)
        refine ⟨⟨k + 1, by go_num, by omega, by first | rfl | trivial, Lib.hid (fun j hj => ?_)⟩, by simp [intOf]; omega⟩
        rcases Nat.lt_or_ge j k with h | h
        · exact hok.out j h
        · obtain rfl : j = k := by omega
          rw [HY.out]; exact fun e => hv e.symm
    · obtain rfl : k = n := by omega
      go_wp2_with (fail)
      go_returns
      refine ⟨by first | rfl | trivial, -1, rfl, .inr ⟨rfl, fun hm => ?_⟩⟩
      obtain ⟨j, hj, rfl⟩ := List.getElem_of_mem hm
      have := hok.out j (by have := HN.out; omega)
      simp [List.getD_eq_getElem?_getD, hj] at this
set_option maxRecDepth 100000 in
theorem contains_any (aI : Option Addr) (n cI : Nat) (ids : List Nat) (v : Nat) (w : World) (hn : n = ids.length) (hS : Sl .u64 w aI cI (natI ids)) (hl : n ≤ 1000000) :
    Calls Tryz.prog 31 #[.slice aI n cI, .int .u64 v] w fun e w' => w' = w ∧ e = .returned (.bool (ids.contains v)) := by
  have HI := Lib.hid (idx_any aI n cI ids v w hn hS hl)
  obtain ⟨c, hc⟩ : ∃ c, ids.contains v = c := ⟨_, rfl⟩
  rw [hc]
  have HC := Lib.hid hc
  clear hS hn hc
  go_enter Tryz.func31, Tryz.ntmps31
  go_wp2_with (fail)
  refine HI.out.mono ?_
  rintro e w1 ⟨rfl, j, rfl, h | h⟩
  · have hd : decide (0 ≤ j) = true := by simpa using h.1
    obtain rfl : c = true := by rw [← HC.out]; simpa using h.2
    clear h
    go_wp2_with (fail)
    go_returns
    exact ⟨rfl, rfl⟩
  · obtain ⟨rfl, h2⟩ := h
    obtain rfl : c = false := by rw [← HC.out]; simpa using h2
    clear h2
    go_wp2_with (fail)
    go_returns
    exact ⟨rfl, rfl⟩
def keepB (ids : List Nat) (x : Strm) : Bool := !ids.contains x.id
/-- The ids that Drop was handed, where its closure finds them. -/
structure IdsAt (w : World) (bx : Nat) (ids : List Nat) : Prop where
  len : ids.length ≤ 1000000
  ex : ∃ aI cI, w.cell? ⟨bx, 0, none⟩ = some (.slice aI ids.length cI) ∧ Sl .u64 w aI cI (natI ids)
  lt : bx < w.heap.size
theorem IdsAt.only {S : Nat → Prop} {w w' : World} {bx : Nat} {ids : List Nat} (h : IdsAt w bx ids) (ho : Only S w w') (hb : ¬ S bx) (hS : ∀ aI cI, w.cell? ⟨bx, 0, none⟩ = some (.slice aI ids.length cI) → ∀ y, aI = some y → 0 < ids.length → ¬ S y.block) : IdsAt w' bx ids := by
  obtain ⟨aI, cI, h1, h2⟩ := h.ex
  exact ⟨h.len, ⟨aI, cI, (ho.cell (p := ⟨bx, 0, none⟩) h.lt hb).trans h1, h2.only ho (fun y hy hl => hS aI cI h1 y hy (by simpa using hl))⟩, Nat.lt_of_lt_of_le h.lt ho.size⟩
theorem IdsAt.below {w w' : World} {bx : Nat} {ids : List Nat} (h : IdsAt w bx ids) (hb : Below w.heap.size w w') : IdsAt w' bx ids :=
  h.only (only_of_below hb (fun _ => False)) id (fun _ _ _ _ _ _ => id)
set_option maxRecDepth 100000 in
theorem drop1_any (bx : Nat) (ids : List Nat) (x : Strm) (w : World) (h : IdsAt w bx ids) : Calls Tryz.prog 30 #[.agg (strmV x).toArray, .pointer (some ⟨bx, 0, none⟩)] w fun e w' => Below w.heap.size w w' ∧ e = .returned (.bool (ids.contains x.id)) := by
  obtain ⟨y, urg, inc, ready, served⟩ := x
  simp only [strmV]
  obtain ⟨aI, cI, c0, hS⟩ := h.ex
  have lb := h.lt
  obtain ⟨n, hn⟩ : ∃ n, ids.length = n := ⟨_, rfl⟩
  rw [hn] at c0
  have hc := fun W hW => contains_any aI n cI ids y W hn.symm (hS.below hW) (by rw [← hn]; exact h.len)
  obtain ⟨c, hcc⟩ : ∃ c, ids.contains y = c := ⟨_, rfl⟩
  rw [hcc] at hc ⊢
  have HC := Lib.hid hc
  clear h hS hn hc hcc
  go_enter Tryz.func30, Tryz.ntmps30
  go_wp2_with (fail)
  refine (HC.out _ ((Below.refl _ _).alloc (Nat.le_refl _) _)).mono ?_
  rintro e w1 ⟨rfl, rfl⟩
  go_wp2_with (fail)
  go_returns
  exact ⟨(Below.refl _ _).alloc (Nat.le_refl _) _, rfl⟩
/-- The first stream that is to go. -/
def FirstGo (ids : List Nat) (L : List Strm) (j : Int) : Prop := (j = -1 ∧ ∀ i, i < L.length → keepB ids (L.getD i default) = true) ∨ ∃ k : Nat, j = k ∧ k < L.length ∧ (∀ i, i < k → keepB ids (L.getD i default) = true) ∧ keepB ids (L.getD k default) = false
set_option maxRecDepth 100000 in
set_option maxHeartbeats 2000000 in
theorem ixf_any (base : Nat) (a : Option Addr) (n cap bx : Nat) (L : List Strm) (ids : List Nat) (w : World) (hn : n = L.length) (hO : OwnS w base 64 5 a n cap (L.flatMap strmV)) (hl : n ≤ 256) (hI : IdsAt w bx ids) :
    Calls Tryz.prog 52 #[.slice a n cap, .func (.func 30) #[] #[.pointer (some ⟨bx, 0, none⟩)]] w fun e w' => Below w.heap.size w w' ∧ ∃ j : Int, e = .returned (.int .i64 j) ∧ FirstGo ids L j := by
  have HO := Lib.hid hO
  have HN := Lib.hid hn
  have HI := Lib.hid hI
  clear hO hn hI
  go_enter Tryz.func52, Tryz.ntmps52
  go_wp2_with (fail)
  go_loopw [5, 8] (fun _ i wr => ∃ k : Nat, i = .int .i64 k ∧ k ≤ n ∧ Below w.heap.size w wr ∧ Hid (∀ i, i < k → keepB ids (L.getD i default) = true)) (fun _ i _ => n - (intOf i).toNat)
  case atStart => exact ⟨0, rfl, by omega, Below.refl _ _, Lib.hid (fun i h => by omega)⟩
  case round =>
    obtain ⟨k, rfl, hk, bw, hok⟩ := hrel
    by_cases hlt : k < n
    · obtain ⟨x, hx⟩ : ∃ x, L[k]? = some x := by have := HN.out; exact ⟨L[k], by simp⟩
      obtain ⟨g, ha, hb, hg, ⟨d0, d1, d2, d3, d4⟩, _⟩ := (HO.out.below bw).getF hx
      subst ha
      have hgx : L.getD k default = x := by simp [List.getD_eq_getElem?_getD, hx]
      have hc := drop1_any bx ids x wr (HI.out.below bw)
      obtain ⟨v, hv⟩ : ∃ v, ids.contains x.id = v := ⟨_, rfl⟩
      rw [hv] at hc
      have hkp : keepB ids (L.getD k default) = !v := by rw [hgx]; unfold keepB; rw [hv]
      have HK := Lib.hid hkp
      obtain ⟨xi, xu, xc, xr, xs⟩ := x
      simp only at d0 d1 d2 d3 d4
      simp only [strmV] at hc
      have HC := Lib.hid hc
      clear hc hgx hx hv hkp
      go_wp2_with (fail)
      refine HC.out.mono ?_
      rintro e w1 ⟨hb1, rfl⟩
      have b1 := below_on bw hb1 bw.size
      cases v with
      | true =>
        go_wp2_with (fail)
        go_returns
        exact ⟨b1, k, rfl, .inr ⟨k, rfl, by rw [← HN.out]; exact hlt, hok.out, HK.out⟩⟩
      | false =>
        go_wp2_with (fail)
        refine ⟨⟨k + 1, by go_num, by omega, b1, Lib.hid (fun j hj => ?_)⟩, by simp [intOf]; omega⟩
        rcases Nat.lt_or_ge j k with h | h
        · exact hok.out j h
        · obtain rfl : j = k := by omega
          exact HK.out
    · obtain rfl : k = n := by omega
      go_wp2_with (fail)
      go_returns
      exact ⟨bw, -1, rfl, .inl ⟨rfl, fun i hi => hok.out i (by rw [HN.out]; exact hi)⟩⟩
/-- What the loop of DeleteFunc keeps: i of them are at the front. -/
structure DelI (keep : Strm → Bool) (L : List Strm) (i j : Nat) (D : List Strm) : Prop where
  lt : i < j
  le : j ≤ L.length
  len : D.length = L.length
  front : D.take i = (L.take j).filter keep
  back : D.drop j = L.drop j
theorem filter_front {keep : Strm → Bool} {L : List Strm} (k : Nat) (h : ∀ i, i < k → i < L.length → keep (L.getD i default) = true) : (L.take k).filter keep = L.take k := by
  refine List.filter_eq_self.2 fun r hr => ?_
  obtain ⟨i, hi, rfl⟩ := List.getElem_of_mem hr
  simp only [List.length_take] at hi
  have := h i (by omega) (by omega)
  simpa [List.getD_eq_getElem?_getD, List.getElem?_eq_getElem (show i < L.length by omega)] using this
theorem DelI.start {keep : Strm → Bool} {L : List Strm} {k : Nat} (hk : k < L.length) (h : ∀ i, i < k → keep (L.getD i default) = true) (hb : keep (L.getD k default) = false) : DelI keep L k (k + 1) L := by
  refine ⟨by omega, by omega, rfl, ?_, rfl⟩
  rw [List.take_succ_eq_append_getElem hk, List.filter_append, filter_front k (fun i h1 _ => h i h1)]
  have : keep L[k] = false := by simpa [List.getD_eq_getElem?_getD, List.getElem?_eq_getElem hk] using hb
  simp [this]
theorem DelI.get {keep : Strm → Bool} {L D : List Strm} {i j : Nat} (h : DelI keep L i j D) (hj : j < L.length) : D[j]? = L[j]? := by
  have e := congrArg (fun l => l[0]?) h.back
  simpa only [List.getElem?_drop, Nat.add_zero] using e
theorem DelI.skip {keep : Strm → Bool} {L D : List Strm} {i j : Nat} (h : DelI keep L i j D) (hj : j < L.length) (hb : keep (L.getD j default) = false) : DelI keep L i (j + 1) D := by
  refine ⟨by have := h.lt; omega, by omega, h.len, ?_, ?_⟩
  · rw [h.front, List.take_succ_eq_append_getElem hj, List.filter_append]
    have : keep L[j] = false := by simpa [List.getD_eq_getElem?_getD, List.getElem?_eq_getElem hj] using hb
    simp [this]
  · have := congrArg (List.drop 1) h.back
    simpa [List.drop_drop, Nat.add_comm] using this
theorem DelI.keep {keep : Strm → Bool} {L D : List Strm} {i j : Nat} (h : DelI keep L i j D) (hj : j < L.length) (hb : keep (L.getD j default) = true) : DelI keep L (i + 1) (j + 1) (D.set i (L.getD j default)) := by
  have hlt := h.lt
  have hlen := h.len
  refine ⟨by omega, by omega, by simpa using h.len, ?_, ?_⟩
  · have e : L.getD j default = L[j] := by simp [hj]
    rw [e] at hb ⊢
    rw [List.take_succ_eq_append_getElem hj, List.filter_append, ← h.front, List.take_succ_eq_append_getElem (by simp; omega)]
    simp [List.take_set, hb]
    rw [List.set_eq_of_length_le (by simp only [List.length_take]; omega)]
  · have := congrArg (List.drop 1) h.back
    rw [List.drop_set_of_lt (by omega)]
    simpa [List.drop_drop, Nat.add_comm] using this
def zeroS : Value := .agg #[.int .u64 0, .int .u8 0, .bool false, .bool false, .int .u64 0]
def zeroSs (n : Nat) : List Value := (Builtin.zeroCells zeroS.cells n).toList
theorem run_clearS (w : World) (ty : TypeId) (g o n c : Nat) (hn : 0 < n) (hc : ∀ j, j < n * 5 → (w.cell? ⟨g, o + j, none⟩).isSome = true) (hf : ∀ j, j < n * 5 → w.frozen? ⟨g, o + j, none⟩ = false) :
    (Builtin.clear_ #[65] ty #[.slice (some ⟨g, o, none⟩) n c]).run Tryz.prog w = .ok (.tuple #[]) (w.setCells g o (zeroSs n)) := by
  have hv : (zeroValue 64).run Tryz.prog w = .ok zeroS w := by kernel_rfl
  have hlen : (zeroSs n).length = n * 5 := by
    rw [zeroSs, Array.length_toList, size_zeroCells]; rfl
  have h1 : ∀ v ∈ zeroSs n, v.oneCell' = true := by
    intro v hv
    rw [zeroSs] at hv
    simp [Builtin.zeroCells] at hv
    obtain ⟨i, _, rfl⟩ := hv
    have hz : zeroS.cells = #[.int .u64 0, .int .u8 0, .bool false, .bool false, .int .u64 0] := rfl
    rw [hz]
    have : i % 5 = 0 ∨ i % 5 = 1 ∨ i % 5 = 2 ∨ i % 5 = 3 ∨ i % 5 = 4 := by omega
    rcases this with h | h | h | h | h <;> simp [h, Value.oneCell']
  have hst := run_storeCells_cells (P := Tryz.prog) g o (zeroSs n) 0 w (by rw [hlen]; simpa using hc) (by rw [hlen]; simpa using hf) h1
  simp only [Nat.add_zero] at hst
  obtain ⟨m, rfl⟩ : ∃ m, n = m + 1 := ⟨n - 1, by omega⟩
  rw [zeroSs] at hst ⊢
  simp [Builtin.clear_, run_underlying Tryz.underlying65, hv, hst]
end Go.Proofs.YtjkihpbpnoelnaaGreatDoor
