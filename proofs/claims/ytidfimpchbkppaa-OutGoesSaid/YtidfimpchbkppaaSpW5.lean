/- Walks: the closures of neat; Clone, IndexFunc, DeleteFunc of ranges. -/
import Derived.Test.YtidfimpchbkppaaSpM
import Derived.Laws.IdiomCopy
import Derived.Lib.SliceRun
namespace Go.Proofs.Ytidfimpchbkppaa
open Go.RowKit
set_option linter.unusedVariables false

theorem below_set5 {B : Nat} {w w' : World} (h : Below B w w') {p : Addr} (hp : B ≤ p.block) (u : Value) : Below B w (w'.setCell p u) :=
  ⟨h.os, h.tape, h.output, by simpa [World.setCell] using h.size, fun k hk => by rw [Below.heap_setCell _ _ _ _ (by rintro rfl; omega)]; exact h.block k hk⟩
theorem OwnS.setS5 {w : World} {base : Nat} {e : TypeId} {size n cap : Nat} {a : Option Addr} {xs : List Value} (h : OwnS w base e size a n cap xs) (g : Nat) (ha : a = some ⟨g, 0, none⟩) (i : Nat) (v : Value) : OwnS (w.setCell ⟨g, i, none⟩ v) base e size a n cap (xs.set i v) := by
  obtain ⟨hl, h2⟩ := h
  refine ⟨by simpa using hl, ?_⟩
  rcases h2 with ⟨h1, h3⟩ | ⟨g', c, cur, h1, h3, h4, h5, h6, h7, h8⟩
  · rw [ha] at h1; cases h1
  · rw [ha] at h1
    cases h1
    have hb : Blk w g cur e := h4
    refine .inr ⟨g, cap, _, by rw [ha], h3, hb.set i v, h5, h6, by simpa using h7, ?_⟩
    rw [← h8]
    simp [List.take_set]
/-- The front of it. -/
theorem OwnS.front {w : World} {base : Nat} {e : TypeId} {size n cap : Nat} {g : Nat} {xs : List Value} (h : OwnS w base e size (some ⟨g, 0, none⟩) n cap xs) (m : Nat) (hm : m ≤ n) : OwnS w base e size (some ⟨g, 0, none⟩) m cap (xs.take (m * size)) := by
  obtain ⟨hl, h2⟩ := h
  have hle : m * size ≤ n * size := Nat.mul_le_mul_right _ hm
  refine ⟨by rw [List.length_take, hl]; omega, ?_⟩
  rcases h2 with ⟨h1, h3⟩ | ⟨g', c, cur, h1, h3, h4, h5, h6, h7, h8⟩
  · cases h1
  · cases h1
    refine .inr ⟨g, cap, cur, rfl, h3, h4, by omega, h6, h7, ?_⟩
    rw [← h8, List.take_take, Nat.min_eq_left hle]
theorem OwnS.clears {base : Nat} {e : TypeId} {size m cap g : Nat} {xs : List Value} : ∀ (l : List Value) (o : Nat) (w : World), OwnS w base e size (some ⟨g, 0, none⟩) m cap xs → m * size ≤ o → OwnS (w.setCells g o l) base e size (some ⟨g, 0, none⟩) m cap xs
  | [], _, _, h, _ => h
  | v :: l, o, w, h, ho => by
    have h1 := h.setS5 g rfl o v
    rw [List.set_eq_of_length_le (by rw [h.length]; exact ho)] at h1
    exact OwnS.clears l (o + 1) _ h1 (by omega)
theorem below_sets {B g : Nat} (hg : B ≤ g) {w : World} : ∀ (l : List Value) (o : Nat) (w' : World), Below B w w' → Below B w (w'.setCells g o l)
  | [], _, _, h => h
  | v :: l, o, w', h => below_sets hg l (o + 1) _ (below_set5 h (p := ⟨g, o, none⟩) hg v)
theorem cellsR_setAt : ∀ (D : List Rg) (i : Nat) (r : Rg), i < D.length → ((cellsR D).set (i * 2) (.int .u64 r.1)).set (i * 2 + 1) (.int .u64 r.2) = cellsR (D.set i r)
  | [], _, _, h => by simp at h
  | q :: D, 0, r, _ => rfl
  | q :: D, i + 1, r, h => by
    have := cellsR_setAt D i r (by simpa using h)
    rw [List.set_cons_succ, cellsR_cons, cellsR_cons, ← this, show (i + 1) * 2 = i * 2 + 1 + 1 from by omega]
    rfl
theorem cellsR_take : ∀ (D : List Rg) (i : Nat), (cellsR D).take (i * 2) = cellsR (D.take i)
  | [], i => by simp [cellsR, flat]
  | q :: D, 0 => rfl
  | q :: D, i + 1 => by
    rw [show (i + 1) * 2 = i * 2 + 1 + 1 from by omega, List.take_succ_cons, cellsR_cons, cellsR_cons, ← cellsR_take D i]
    rfl

/-! The closures. -/
theorem isNaN_any (x : Int) (w : World) : Calls Try.prog 100 #[.int .u64 x] w fun e w' => e = .returned (.bool false) ∧ w' = w := by
  go_enter Try.func100, Try.ntmps100
  go_wp2_with (fail)
  go_returns
  exact ⟨by simp, rfl⟩
def cmpF (x y : Int) : Int := if x < y then -1 else if y < x then 1 else 0
theorem compare_any (x y : Int) (w : World) : Calls Try.prog 91 #[.int .u64 x, .int .u64 y] w fun e w' => e = .returned (.int .i64 (cmpF x y)) ∧ w' = w := by
  obtain ⟨v, hv⟩ : ∃ v, cmpF x y = v := ⟨_, rfl⟩
  rw [hv]
  unfold cmpF at hv
  go_enter Try.func91, Try.ntmps91
  go_wp2_with (fail)
  refine (isNaN_any x w).mono ?_
  rintro e w1 ⟨rfl, rfl⟩
  go_wp2_with (fail)
  refine (isNaN_any y w1).mono ?_
  rintro e w2 ⟨rfl, rfl⟩
  by_cases h1 : x < y
  · rw [if_pos h1] at hv
    have HV := Lib.hid hv
    clear hv
    go_wp2_with (fail)
    go_returns
    exact ⟨by rw [← HV.out]; rfl, rfl⟩
  · rw [if_neg h1] at hv
    by_cases h2 : y < x
    · rw [if_pos h2] at hv
      have HV := Lib.hid hv
      clear hv
      go_wp2_with (fail)
      go_returns
      exact ⟨by rw [← HV.out]; rfl, rfl⟩
    · rw [if_neg h2] at hv
      have HV := Lib.hid hv
      clear hv
      go_wp2_with (fail)
      go_returns
      exact ⟨by rw [← HV.out]; rfl, rfl⟩
theorem neat1_any (r : Rg) (w : World) : Calls Try.prog 88 #[rgV r] w fun e w' => e = .returned (.bool (decide (r.2 ≤ r.1))) ∧ Below w.heap.size w w' := by
  obtain ⟨x, y⟩ := r
  simp only [rgV]
  go_enter Try.func88, Try.ntmps88
  go_wp2_with (fail)
  go_returns
  exact ⟨rfl, (Below.refl _ _).alloc (Nat.le_refl _) _⟩
set_option maxRecDepth 100000 in
/-- Clone. -/
theorem clone_any (a : Option Addr) (n cap : Nat) (L : List Rg) (w : World) (hn : n = L.length) (hR : Rs w a cap L) (hbig : L.length ≤ 1000000) :
    Calls Try.prog 73 #[.slice a n cap] w fun e w' => Below w.heap.size w w' ∧ ∃ a' c', e = .returned (.slice a' L.length c') ∧ OwnS w' w.heap.size 31 2 a' L.length c' (cellsR L) := by
  subst hn
  have hq : ∀ (w : World) (a : Option Addr) (n c n' c' : Nat), (binOp .eql 22 (.slice a n c) (.slice none n' c')).run Try.prog w = .ok (.bool a.isNone) w := fun w a n c n' c' => Lib.run_eql_slice_nil w _ _ a n c n' c' Try.underlying22
  have HR := Lib.hid hR
  cases a with
  | none =>
    have h0 := hR.nul rfl
    have hle := hR.le
    have : L = [] := List.length_eq_zero_iff.1 (by omega)
    subst this
    clear hR
    go_enter Try.func73, Try.ntmps73
    go_wp2_with (fail)
    go_returns
    exact ⟨Below.refl _ _, none, 0, rfl, OwnS.nil _ _ _ _⟩
  | some x =>
    have hlen := hR.len
    unfold maxLen at hlen
    clear hR
    go_enter Try.func73, Try.ntmps73
    go_wp2_with (at_builtin; refine Stop.mk ?_)
    refine Stop.out ?_
    refine wpList_app rg_et rfl rfl (base := w.heap.size) (xs := []) rfl rfl (OwnS.new w w.heap.size (Nat.le_refl _) 31 2 0 #[] (by simp [maxLen]) rfl) ((HR.out.below ((Below.refl _ _).alloc (Nat.le_refl _) _)).src) (by simp only [maxLen]; omega) (by omega) (by simp) ?_
    intro a2 c2 w2 ho2 on2 _
    have b2 : Below w.heap.size w w2 := below_onto ((Below.refl _ _).alloc (Nat.le_refl _) _) on2 (by simp) (by rintro z hz ⟨y, hy, rfl⟩; cases hy; simp at hz)
    rw [Nat.zero_add, List.nil_append] at ho2
    have HO := Lib.hid ho2
    clear ho2 on2
    simp only [Nat.zero_add]
    go_wp2_with (fail)
    go_returns
    exact ⟨b2, a2, c2, rfl, HO.out⟩

/-- The first range that has no number. -/
def FirstBad (L : List Rg) (j : Int) : Prop := (j = -1 ∧ ∀ i, i < L.length → (L.getD i default).1 < (L.getD i default).2) ∨ ∃ k : Nat, j = k ∧ k < L.length ∧ (∀ i, i < k → (L.getD i default).1 < (L.getD i default).2) ∧ ¬ (L.getD k default).1 < (L.getD k default).2
set_option maxRecDepth 100000 in
/-- IndexFunc with the closure of neat. -/
theorem index_any (a : Option Addr) (n cap : Nat) (L : List Rg) (w : World) (hn : n = L.length) (hR : Rs w a cap L) :
    Calls Try.prog 95 #[.slice a n cap, .func (.func 88) #[] #[]] w fun e w' => Below w.heap.size w w' ∧ ∃ j : Int, e = .returned (.int .i64 j) ∧ FirstBad L j := by
  subst hn
  have hlen := hR.len
  unfold maxLen at hlen
  have HR := Lib.hid hR
  clear hR
  go_enter Try.func95, Try.ntmps95
  go_wp2_with (fail)
  go_loopw [5, 8] (fun _ i wr => ∃ k : Nat, i = .int .i64 k ∧ k ≤ L.length ∧ Below w.heap.size w wr ∧ Hid (∀ i, i < k → (L.getD i default).1 < (L.getD i default).2)) (fun _ i _ => L.length - (intOf i).toNat)
  case atStart => exact ⟨0, rfl, by omega, Below.refl _ _, Lib.hid (fun i h => by omega)⟩
  case round =>
    obtain ⟨k, rfl, hk, bw, hok⟩ := hrel
    by_cases hlt : k < L.length
    · obtain ⟨b, off, ha, hb, c1, c2⟩ := (HR.out.below bw).at_ hlt
      subst ha
      obtain ⟨r, hr⟩ : ∃ r, L.getD k default = r := ⟨_, rfl⟩
      rw [hr] at c1 c2
      have H1 := Lib.hid hr
      have hc := neat1_any r wr
      clear hr
      by_cases hle : r.2 ≤ r.1
      · rw [decide_eq_true hle] at hc
        have HC := Lib.hid hc
        clear hc
        go_wp2_with (fail)
        refine HC.out.mono ?_
        rintro e w1 ⟨rfl, hb1⟩
        go_wp2_with (fail)
        go_returns
        exact ⟨below_on bw hb1 bw.size, k, rfl, .inr ⟨k, rfl, hlt, hok.out, by rw [H1.out]; omega⟩⟩
      · rw [decide_eq_false hle] at hc
        have HC := Lib.hid hc
        clear hc
        go_wp2_with (fail)
        refine HC.out.mono ?_
        rintro e w1 ⟨rfl, hb1⟩
        go_wp2_with (fail)
        refine ⟨⟨k + 1, by go_num, by omega, below_on bw hb1 bw.size, Lib.hid ?_⟩, by simp [intOf]; omega⟩
        intro j hj
        rcases Nat.lt_or_ge j k with h | h
        · exact hok.out j h
        · obtain rfl : j = k := by omega
          rw [H1.out]; omega
    · obtain rfl : k = L.length := by omega
      go_wp2_with (fail)
      go_returns
      exact ⟨bw, -1, rfl, .inl ⟨rfl, hok.out⟩⟩

/-- What the loop of DeleteFunc keeps: i of them are at the front. -/
structure DelInv (L : List Rg) (i j : Nat) (D : List Rg) : Prop where
  lt : i < j
  le : j ≤ L.length
  len : D.length = L.length
  front : D.take i = (L.take j).filter fun r => decide (r.1 < r.2)
  back : D.drop j = L.drop j
theorem filter_take {L : List Rg} (k : Nat) (h : ∀ i, i < k → i < L.length → (L.getD i default).1 < (L.getD i default).2) : (L.take k).filter (fun r => decide (r.1 < r.2)) = L.take k := by
  refine List.filter_eq_self.2 fun r hr => ?_
  obtain ⟨i, hi, rfl⟩ := List.getElem_of_mem hr
  simp only [List.length_take] at hi
  have := h i (by omega) (by omega)
  simpa [List.getD_eq_getElem?_getD, List.getElem?_eq_getElem (show i < L.length by omega)] using this
theorem DelInv.start {L : List Rg} {k : Nat} (hk : k < L.length) (h : ∀ i, i < k → (L.getD i default).1 < (L.getD i default).2) (hb : ¬ (L.getD k default).1 < (L.getD k default).2) : DelInv L k (k + 1) L := by
  refine ⟨by omega, by omega, rfl, ?_, rfl⟩
  rw [List.take_succ_eq_append_getElem hk, List.filter_append, filter_take k (fun i h1 _ => h i h1)]
  have : ¬ (L[k].1 < L[k].2) := by simpa [List.getD_eq_getElem?_getD, List.getElem?_eq_getElem hk] using hb
  simp [this]
theorem DelInv.get {L D : List Rg} {i j : Nat} (h : DelInv L i j D) (hj : j < L.length) : D.getD j default = L.getD j default := by
  have e := congrArg (fun l => l[0]?) h.back
  simp only [List.getElem?_drop, Nat.add_zero] at e
  simp [List.getD_eq_getElem?_getD, e]
theorem DelInv.skip {L D : List Rg} {i j : Nat} (h : DelInv L i j D) (hj : j < L.length) (hb : ¬ (L.getD j default).1 < (L.getD j default).2) : DelInv L i (j + 1) D := by
  refine ⟨by have := h.lt; omega, by omega, h.len, ?_, ?_⟩
  · rw [h.front, List.take_succ_eq_append_getElem hj, List.filter_append]
    have : ¬ (L[j].1 < L[j].2) := by simpa [List.getD_eq_getElem?_getD, List.getElem?_eq_getElem hj] using hb
    simp [this]
  · have := congrArg (List.drop 1) h.back
    simpa [List.drop_drop, Nat.add_comm] using this
theorem DelInv.keep {L D : List Rg} {i j : Nat} (h : DelInv L i j D) (hj : j < L.length) (hb : (L.getD j default).1 < (L.getD j default).2) : DelInv L (i + 1) (j + 1) (D.set i (L.getD j default)) := by
  have hlt := h.lt
  have hlen := h.len
  refine ⟨by omega, by omega, by simpa using h.len, ?_, ?_⟩
  · have e : L.getD j default = L[j] := by simp [hj]
    rw [e] at hb ⊢
    rw [List.take_succ_eq_append_getElem hj, List.filter_append, ← h.front, List.take_succ_eq_append_getElem (by simp; omega)]
    simp [List.take_set, hb]
    rw [List.set_eq_of_length_le (by simp only [List.length_take]; omega)]
  · have := congrArg (List.drop 1) h.back
    rw [List.drop_set_of_lt (by omega)]
    simpa [List.drop_drop, Nat.add_comm] using this

def zeroR (n : Nat) : List Value := (Builtin.zeroCells (Value.agg #[.int .u64 0, .int .u64 0]).cells n).toList
theorem run_clearR (w : World) (ty : TypeId) (g o n c : Nat) (hn : 0 < n) (hc : ∀ j, j < n * 2 → (w.cell? ⟨g, o + j, none⟩).isSome = true) (hf : ∀ j, j < n * 2 → w.frozen? ⟨g, o + j, none⟩ = false) :
    (Builtin.clear_ #[22] ty #[.slice (some ⟨g, o, none⟩) n c]).run Try.prog w = .ok (.tuple #[]) (w.setCells g o (zeroR n)) := by
  have hv : (zeroValue 31).run Try.prog w = .ok (.agg #[.int .u64 0, .int .u64 0]) w := by kernel_rfl
  have hlen : (zeroR n).length = n * 2 := by
    rw [zeroR, Array.length_toList, size_zeroCells]; rfl
  have h1 : ∀ v ∈ zeroR n, v.oneCell' = true := by
    intro v hv
    have hz : (Value.agg #[.int .u64 0, .int .u64 0]).cells = #[.int .u64 0, .int .u64 0] := rfl
    rw [zeroR, hz] at hv
    simp [Builtin.zeroCells] at hv
    obtain ⟨i, _, rfl⟩ := hv
    rcases Nat.mod_two_eq_zero_or_one i with h | h <;> simp [h, Value.oneCell']
  have hst := run_storeCells_cells (P := Try.prog) g o (zeroR n) 0 w (by rw [hlen]; simpa using hc) (by rw [hlen]; simpa using hf) h1
  simp only [Nat.add_zero] at hst
  obtain ⟨m, rfl⟩ : ∃ m, n = m + 1 := ⟨n - 1, by omega⟩
  rw [zeroR] at hst ⊢
  simp [Builtin.clear_, run_underlying Try.underlying22, hv, hst]
theorem run_cut_lR {g n cap : Nat} (l : Nat) (h1 : l < n) (h2 : n ≤ cap) (w : World) : (Instr.sliceAt 22 (.slice (some ⟨g, 0, none⟩) n cap) (some (.int .i64 l)) none none).run Try.prog w = .ok (.slice (some ⟨g, l * 2, none⟩) (n - l) (cap - l)) w := by
  obtain ⟨ht, hz⟩ := (rg_et).elem
  rw [run_sliceAt_slice (h := ht), run_slice_l (ht := ht) (h0 := by omega) (h1 := by omega), hz]
  simp [Result.andThen, sliced, show cap ≠ l by omega, addr_add]
theorem run_cut_hR {g n cap : Nat} (m : Nat) (h2 : m ≤ cap) (w : World) : (Instr.sliceAt 22 (.slice (some ⟨g, 0, none⟩) n cap) none (some (.int .i64 m)) none).run Try.prog w = .ok (.slice (some ⟨g, 0, none⟩) m cap) w := by
  obtain ⟨ht, hz⟩ := (rg_et).elem
  rw [run_sliceAt_slice (h := ht), run_slice_h (ht := ht) (h0 := by omega) (h2 := by omega), hz]
  simp [Result.andThen, sliced, addr_add]
theorem OwnS.getR {w : World} {base n cap g : Nat} {e : TypeId} {D : List Rg} (h : OwnS w base e 2 (some ⟨g, 0, none⟩) n cap (cellsR D)) {i : Nat} (hi : i < D.length) : base ≤ g ∧ g < w.heap.size ∧
    w.cell? ⟨g, i * 2, none⟩ = some (.int .u64 (D.getD i default).1) ∧ w.cell? ⟨g, i * 2 + 1, none⟩ = some (.int .u64 (D.getD i default).2) ∧ w.frozen? ⟨g, i * 2, none⟩ = false ∧ w.frozen? ⟨g, i * 2 + 1, none⟩ = false := by
  obtain ⟨g', ha, h1, h2, h3, f3⟩ := h.at_ (i := i * 2) (by rw [cellsR_length]; omega)
  cases ha
  obtain ⟨g', ha, _, _, h4, f4⟩ := h.at_ (i := i * 2 + 1) (by rw [cellsR_length]; omega)
  cases ha
  have e := flat_getD D i
  have e1 : (cellsR D)[i * 2]? = some (.int .u64 (D.getD i (0, 0)).1) := by
    rw [cellsR, List.getElem?_map, ← e.1, Nat.mul_comm]
    simp [flat_length, hi]
  have e2 : (cellsR D)[i * 2 + 1]? = some (.int .u64 (D.getD i (0, 0)).2) := by
    rw [cellsR, List.getElem?_map, ← e.2, Nat.mul_comm]
    simp [flat_length, show 2 * i + 1 < 2 * D.length by omega]
  exact ⟨h1, h2, h3.trans e1, h4.trans e2, f3, f4⟩

set_option maxRecDepth 100000 in
set_option maxHeartbeats 2000000 in
theorem delete_any (base g n cap : Nat) (L : List Rg) (w : World) (hn : n = L.length) (hown : OwnS w base 31 2 (some ⟨g, 0, none⟩) n cap (cellsR L)) (hB : Bnd L) (hbase : base ≤ w.heap.size) :
    Calls Try.prog 87 #[.slice (some ⟨g, 0, none⟩) n cap, .func (.func 88) #[] #[]] w fun e w' => Below base w w' ∧
      e = .returned (.slice (some ⟨g, 0, none⟩) (L.filter fun r => decide (r.1 < r.2)).length cap) ∧ OwnS w' base 31 2 (some ⟨g, 0, none⟩) (L.filter fun r => decide (r.1 < r.2)).length cap (cellsR (L.filter fun r => decide (r.1 < r.2))) := by
  subst hn
  have hR := (hown.rs hB).2
  have hgb := hown.block rfl
  simp only at hgb
  have hlen := hR.len
  have hcap := hR.le
  have hmax := hR.max
  unfold maxLen at hlen hmax
  obtain ⟨F, hF⟩ : ∃ F, L.filter (fun r => decide (r.1 < r.2)) = F := ⟨_, rfl⟩
  rw [hF]
  have HF := Lib.hid hF
  have HR := Lib.hid hR
  have HO := Lib.hid hown
  have HB := Lib.hid hB
  clear hown hR hB hF
  go_enter Try.func87, Try.ntmps87
  go_wp2_with (fail)
  refine (index_any _ _ cap L w rfl HR.out).mono ?_
  rintro e w1 ⟨hb1, j, rfl, hfb⟩
  rcases hfb with ⟨rfl, hall⟩ | ⟨k, rfl, hk, hbef, hbad⟩
  · have hFL : F = L := by
      have := filter_take (L := L) L.length (fun i h _ => hall i h)
      rw [List.take_of_length_le (Nat.le_refl _)] at this
      rw [← HF.out, this]
    have HFL := Lib.hid hFL
    clear hFL hall
    go_wp2_with (fail)
    go_returns
    rw [HFL.out]
    exact ⟨hb1.mono hbase, rfl, HO.out.below hb1⟩
  · have hst := DelInv.start hk hbef hbad
    have HST := Lib.hid hst
    clear hbef hbad hst
    have hne1 : ((k : Int) == -1) = false := beq_eq_false_iff_ne.2 (by omega)
    go_wp2_with (fail)
    go_loopw [5, 6, 7] (fun i j _ wr => ∃ (ii jj : Nat) (D : List Rg), i = .int .i64 ii ∧ j = .int .i64 jj ∧ jj ≤ L.length ∧ ii < jj ∧ Below base w wr ∧ Hid (OwnS wr base 31 2 (some ⟨g, 0, none⟩) L.length cap (cellsR D) ∧ DelInv L ii jj D)) (fun _ j _ _ => L.length - (intOf j).toNat)
    case atStart => exact ⟨k, k + 1, L, rfl, by go_num, by omega, by omega, hb1.mono hbase, Lib.hid ⟨HO.out.below hb1, HST.out⟩⟩
    case round =>
      clear HST hne1 hb1
      obtain ⟨ii, jj, D, rfl, rfl, hjj, hij, bw, hok⟩ := hrel
      by_cases hlt : jj < L.length
      · obtain ⟨hg1, hg2, c1, c2, _, _⟩ := hok.out.1.getR (i := jj) (by rw [hok.out.2.len]; exact hlt)
        have hget := hok.out.2.get hlt
        rw [hget] at c1 c2
        obtain ⟨r, hr⟩ : ∃ r, L.getD jj default = r := ⟨_, rfl⟩
        rw [hr] at c1 c2
        have H1 := Lib.hid hr
        clear hget hr
        have hc := fun W => neat1_any r W
        obtain ⟨v, hv⟩ : ∃ v, decide (r.2 ≤ r.1) = v := ⟨_, rfl⟩
        simp only [hv] at hc
        have HC := Lib.hid hc
        have HV := Lib.hid hv
        clear hc hv
        go_wp2_with (fail)
        refine (HC.out _).mono ?_
        rintro e w2 ⟨rfl, hb2⟩
        have o2 : Hid (OwnS w2 base 31 2 (some ⟨g, 0, none⟩) L.length cap (cellsR D)) := Lib.hid ((hok.out.1.below ((Below.refl _ _).alloc (Nat.le_refl _) _)).below hb2)
        have cb1 : w2.cell? ⟨wr.heap.size, 0, none⟩ = some (.int .u64 r.1) := (hb2.cell (p := ⟨wr.heap.size, 0, none⟩) (by simp)).trans ((Blk.new wr #[.int .u64 r.1, .int .u64 r.2] 31).cell 0 _ rfl)
        have cb2 : w2.cell? ⟨wr.heap.size, 1, none⟩ = some (.int .u64 r.2) := (hb2.cell (p := ⟨wr.heap.size, 1, none⟩) (by simp)).trans ((Blk.new wr #[.int .u64 r.1, .int .u64 r.2] 31).cell 1 _ rfl)
        have b2 : Below base w w2 := (bw.alloc (Nat.le_trans hbase bw.size) _).trans (hb2.mono (by have := bw.size; simp; omega))
        clear hb2
        cases v with
        | true =>
          have hle := of_decide_eq_true HV.out
          go_wp2_with (fail)
          refine ⟨⟨ii, jj + 1, D, rfl, by go_num, by omega, by omega, b2, Lib.hid ⟨o2.out, hok.out.2.skip hlt (by rw [H1.out]; omega)⟩⟩, by simp [intOf]; omega⟩
        | false =>
          have hle := of_decide_eq_false HV.out
          obtain ⟨_, hg3, c3, c4, f3, f4⟩ := o2.out.getR (i := ii) (by rw [hok.out.2.len]; omega)
          go_wp2_with (fail)
          refine ⟨⟨ii + 1, jj + 1, D.set ii r, by go_num, by go_num, by omega, by omega, below_set5 (below_set5 b2 (p := ⟨g, ii * 2, none⟩) hg1 _) (p := ⟨g, ii * 2 + 1, none⟩) hg1 _, Lib.hid ⟨?_, by have := hok.out.2.keep hlt (by rw [H1.out]; omega); rwa [H1.out] at this⟩⟩, by simp [intOf]; omega⟩
          rw [← cellsR_setAt D ii r (by rw [hok.out.2.len]; omega)]
          exact (o2.out.setS5 g rfl _ _).setS5 g rfl _ _
      · obtain rfl : jj = L.length := by omega
        have hcap0 : ii < L.length := hij
        have hc1 := fun w' => run_cut_lR (g := g) (n := L.length) (cap := cap) ii hcap0 hcap w'
        have hc2 := fun w' => run_cut_hR (g := g) (n := L.length) (cap := cap) ii (by omega) w'
        have hcl : ∀ ty, (Builtin.clear_ #[22] ty #[.slice (some ⟨g, ii * 2, none⟩) (L.length - ii) (cap - ii)]).run Try.prog wr = .ok (.tuple #[]) (wr.setCells g (ii * 2) (zeroR (L.length - ii))) := fun ty => run_clearR wr ty g (ii * 2) (L.length - ii) (cap - ii) (by omega)
          (fun j hj => by
            obtain ⟨g', ha, _, _, hc, _⟩ := hok.out.1.at_ (i := ii * 2 + j) (by rw [cellsR_length, hok.out.2.len]; omega)
            cases ha
            rw [hc]
            simp [cellsR_length, hok.out.2.len]; omega)
          (fun j hj => by
            obtain ⟨g', ha, _, _, _, hf⟩ := hok.out.1.at_ (i := ii * 2 + j) (by rw [cellsR_length, hok.out.2.len]; omega)
            cases ha
            exact hf)
        go_wp2_with (fail)
        go_returns
        have hfr := hok.out.2.front
        rw [List.take_of_length_le (Nat.le_refl _), HF.out] at hfr
        have hFl : F.length = ii := by rw [← hfr, List.length_take, hok.out.2.len]; omega
        have ho := OwnS.clears (zeroR (L.length - ii)) (ii * 2) _ (hok.out.1.front ii (by omega)) (Nat.le_refl _)
        rw [cellsR_take, hfr] at ho
        rw [hFl]
        exact ⟨below_sets hgb.1 _ _ _ bw, rfl, ho⟩
end Go.Proofs.Ytidfimpchbkppaa
