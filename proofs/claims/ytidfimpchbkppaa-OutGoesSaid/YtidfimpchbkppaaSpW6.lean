/- Walks: SortFunc at ranges; Grow, Concat. -/
import Derived.Test.YtidfimpchbkppaaSpLay
import Derived.Test.YtidfimpchbkppaaSpW5
import Derived.Lib.AppendZerosOnto
import Derived.LoopN
namespace Go.Proofs.Ytidfimpchbkppaa
open Go.RowKit
set_option linter.unusedVariables false

theorem neat2_any (r s : Rg) (w : World) : Calls Try.prog 90 #[rgV r, rgV s] w fun e w' => e = .returned (.int .i64 (cmpF r.1 s.1)) ∧ ∃ q os', w' = Go.Sort.grow (w.drewN q) os' := by
  obtain ⟨x, y⟩ := r
  obtain ⟨x', y'⟩ := s
  have hc := compare_any x x'
  simp only [rgV]
  obtain ⟨v, hv⟩ : ∃ v, cmpF x x' = v := ⟨_, rfl⟩
  rw [hv] at hc ⊢
  clear hv
  have HC := Lib.hid hc
  clear hc
  go_enter Try.func90, Try.ntmps90
  go_wp2_with (fail)
  refine (HC.out _).mono ?_
  rintro e w1 ⟨rfl, rfl⟩
  go_wp2_with (fail)
  go_returns
  exact ⟨rfl, 0, _, by rw [Go.Sort.alloc_eq_grow, Go.Sort.alloc_eq_grow, Go.Sort.grow_grow]; rfl⟩

theorem ltOf_cmp (x y : Rg) : ltOf (fun x y : Rg => cmpF x.1 y.1) x y = decide (x.1 < y.1) := by
  unfold ltOf cmpF
  by_cases h1 : x.1 < y.1
  · simp [h1]
  · by_cases h2 : y.1 < x.1 <;> simp [h1, h2]
theorem swo_cmp : Go.Sort.SWO (ltOf fun x y : Rg => cmpF x.1 y.1) where
  irrefl x := by rw [ltOf_cmp]; simp
  trans x y z h1 h2 := by rw [ltOf_cmp] at *; simp at *; omega
  ntrans x y z h1 h2 := by rw [ltOf_cmp] at *; simp at *; omega
theorem cellsR_at (L : List Rg) (j : Nat) (h : j < L.length * 2) : (cellsR L)[j]? = some ((encR (L.getD (j / 2) default)).getD (j % 2) undef) := by
  have e := flat_getD L (j / 2)
  have hl := cellsR_length L
  rcases Nat.mod_two_eq_zero_or_one j with h1 | h1
  · have : j = 2 * (j / 2) := by omega
    have e1 := e.1
    rw [← this] at e1
    rw [h1, cellsR, List.getElem?_map, List.getElem?_eq_getElem (by rw [flat_length]; omega)]
    rw [List.getD_eq_getElem?_getD, List.getElem?_eq_getElem (by rw [flat_length]; omega)] at e1
    simp only [Option.getD_some] at e1
    rw [e1]
    rfl
  · have : j = 2 * (j / 2) + 1 := by omega
    have e1 := e.2
    rw [← this] at e1
    rw [h1, cellsR, List.getElem?_map, List.getElem?_eq_getElem (by rw [flat_length]; omega)]
    rw [List.getD_eq_getElem?_getD, List.getElem?_eq_getElem (by rw [flat_length]; omega)] at e1
    simp only [Option.getD_some] at e1
    rw [e1]
    rfl
theorem OwnS.holdsK {w : World} {base n cap g : Nat} {e : TypeId} {L : List Rg} (h : OwnS w base e 2 (some ⟨g, 0, none⟩) n cap (cellsR L)) : Go.Sort.HoldsK encR 2 w g 0 L.toArray := by
  intro j hj
  rw [Go.Sort.size_flatK] at hj
  have hj' : j < L.length * 2 := by simpa using hj
  obtain ⟨g', ha, _, _, hc, hf⟩ := h.at_ (i := j) (by rw [cellsR_length]; omega)
  cases ha
  rw [Nat.zero_add]
  refine ⟨?_, hf⟩
  rw [hc, cellsR_at L j hj', Go.Sort.get_flatK _ _ _ _ hj]
  have h2 : j / 2 < L.length := by omega
  have h3 : j % 2 < 2 := Nat.mod_lt _ (by decide)
  have e1 : L.toArray[j / 2]! = L.getD (j / 2) default := by simp [h2]
  rw [e1]
  rcases Nat.mod_two_eq_zero_or_one j with h1 | h1 <;> rw [h1] <;> rfl
theorem below_sortWorldK {B : Nat} {w : World} {g n : Nat} {d : Array Rg} {os : Array Obj} (hB : B ≤ g) (hb : B ≤ w.heap.size) : Below B w (sortWorldK encR 2 w g 0 n d os) := by
  refine ⟨rfl, rfl, rfl, ?_, fun k hk => ?_⟩
  · simp [sortWorldK, Go.Sort.grow, Go.Sort.putRowK, Go.Sort.putRow, Go.Sort.mapBlock, Go.Sort.ahead]
  · have h1 : k < w.heap.size := by omega
    have h2 : g ≠ k := by omega
    simp [sortWorldK, Go.Sort.grow, Go.Sort.putRowK, Go.Sort.putRow, Go.Sort.mapBlock, Go.Sort.ahead, Array.getElem?_append, Array.getElem?_modify, h1, h2]
    rw [Array.getElem_modify_of_ne h2]
theorem rs_holdsK {w : World} {cap g : Nat} {d : Array Rg} (h : Go.Sort.HoldsK encR 2 w g 0 d) (hb : g < w.heap.size) (hB : Bnd d.toList) (h1 : d.size ≤ cap) (h2 : cap ≤ maxLen) : Rs w (some ⟨g, 0, none⟩) cap d.toList := by
  refine Rs.of hb (fun i hi => ?_) hB (by simpa using h1) h2
  rw [flat_length] at hi
  have hi' : i < d.size * 2 := by simp at hi; omega
  have := (h i (by rw [Go.Sort.size_flatK]; exact hi')).1
  rw [this, Go.Sort.get_flatK _ _ _ _ hi']
  have h3 := cellsR_at d.toList i (by simp; omega)
  rw [cellsR, List.getElem?_map, List.getElem?_eq_getElem (by rw [flat_length]; omega)] at h3
  simp only [Option.map_some, Option.some.injEq] at h3
  have e0 : (flat d.toList).getD i 0 = (flat d.toList)[i]'(by rw [flat_length]; omega) := by
    rw [List.getD_eq_getElem?_getD, List.getElem?_eq_getElem (by rw [flat_length]; omega)]; rfl
  rw [e0, h3]
  have h4 : i / 2 < d.size := by omega
  have e1 : d[i / 2]! = d.toList.getD (i / 2) default := by simp [h4]
  rw [e1]
  rcases Nat.mod_two_eq_zero_or_one i with h5 | h5 <;> rw [h5] <;> rfl

/-- SortFunc with the closure of neat: a rising list of the same ranges. -/
theorem sort_any (base g n cap : Nat) (L : List Rg) (w : World) (hn : n = L.length) (hown : OwnS w base 31 2 (some ⟨g, 0, none⟩) n cap (cellsR L)) (hB : Bnd L) (hbase : base ≤ w.heap.size) (hbig : L.length ≤ 1000000) :
    Calls Try.prog 89 #[.slice (some ⟨g, 0, none⟩) n cap, .func (.func 90) #[] #[]] w fun e w' => Below base w w' ∧ e = .returned (.tuple #[]) ∧
      ∃ M, Rs w' (some ⟨g, 0, none⟩) cap M ∧ M.Perm L ∧ M.Pairwise (fun x y => x.1 ≤ y.1) := by
  subst hn
  have hR := (hown.rs hB).2
  have hgb := hown.block rfl
  simp only at hgb
  have hlen := hR.len
  unfold maxLen at hlen
  have eg : ∀ args w, (callFunc 90 args).run Try.prog w = .ok (.enter 90 args) w := enters_of Try.func90 (by kernel_rfl) rfl
  have hH := hown.holdsK
  have hcap := hR.le
  have hcon := AnyQ.slices_SortFunc sortRg 2 Try.isAgg31 Try.sizeOf31 encR (fun _ => rfl) (fun x v hv => by simp [encR] at hv; rcases hv with rfl | rfl <;> rfl) (fun x y => cmpF x.1 y.1) swo_cmp 90 #[] g 0 cap L.toArray w eg (fun m os dk _ x y => neat2_any x y _) hH hgb.2.1 (by simp; omega)
  change Calls Try.prog 89 _ _ _ at hcon
  simp only [List.size_toArray] at hcon
  refine hcon.mono ?_
  rintro e w' ⟨rfl, d', m, os, hp, hs, rfl⟩
  refine ⟨below_sortWorldK hgb.1 hbase, rfl, d'.toList, ?_, ?_, ?_⟩
  · have hsz : d'.size = L.length := by simpa using hp.1
    have hperm : d'.toList.Perm L := by
      have := hp.2.2
      simp [← hsz] at this
      rw [List.take_of_length_le (by omega)] at this
      exact this
    have hH' : Go.Sort.HoldsK encR 2 (sortWorldK encR 2 w g 0 m d' os) g 0 d' := by
      refine Go.Sort.holdsK_grow encR 2 _ os g 0 d' (by simpa [Go.Sort.putRowK, Go.Sort.putRow, Go.Sort.mapBlock, Go.Sort.ahead] using hgb.2.1) ?_
      exact Go.Sort.holdsK_putRowK encR 2 _ g 0 L.toArray d' (Go.Sort.holdsK_ahead encR 2 w m g 0 _ hH) (by simpa using hp.1)
    exact rs_holdsK hH' (by simp [sortWorldK, Go.Sort.grow, Go.Sort.putRowK, Go.Sort.putRow, Go.Sort.mapBlock, Go.Sort.ahead]; omega) (fun r hr => hB r (hperm.mem_iff.1 hr)) (by omega) hR.max
  · have hsz : d'.size = L.length := by simpa using hp.1
    have := hp.2.2
    simp [← hsz] at this
    rw [List.take_of_length_le (by omega)] at this
    exact this
  · have hsz : d'.size = L.length := by simpa using hp.1
    refine List.pairwise_iff_getElem.2 fun i j hi hj hij => ?_
    simp only [Array.length_toList] at hi hj
    have := hs i j (Nat.zero_le _) hij (by omega)
    rw [ltOf_cmp] at this
    have e1 : d'[i]! = d'[i] := getElem!_pos d' i hi
    have e2 : d'[j]! = d'[j] := getElem!_pos d' j hj
    rw [e1, e2] at this
    simp only [decide_eq_false_iff_not] at this
    simp only [Array.getElem_toList]
    omega

set_option maxRecDepth 100000 in
/-- Grow of nothing. -/
theorem grow_any (n : Nat) (w : World) (hn : n ≤ 1000000) :
    Calls Try.prog 92 #[.slice none 0 0, .int .i64 n] w fun e w' => Below w.heap.size w w' ∧ ∃ a' c', e = .returned (.slice a' 0 c') ∧ OwnS w' w.heap.size 31 2 a' 0 c' [] := by
  rcases Nat.eq_zero_or_pos n with rfl | hpos
  · go_enter Try.func92, Try.ntmps92
    go_wp2_with (fail)
    go_returns
    exact ⟨Below.refl _ _, none, 0, rfl, OwnS.nil _ _ _ _⟩
  · obtain ⟨i0, z, ht, hi0, hz0, hs1, hb1, hzs, _⟩ := rg_et
    have hold : (Builtin.firstCells i0.size 0 (.slice none 0 0)).run Try.prog w.drew = .ok (#[] : Array Value) w.drew := run_firstCells_none w.drew i0.size 0 0 0
    have hrz : ∀ ty, (Builtin.append_ #[22, 3] ty #[.slice none 0 0, .int .i64 n]).run Try.prog w = .ok (.slice (some ⟨w.heap.size, 0, none⟩) n (grownCap w n 0 31)) (w.drew.alloc (.cells (#[] ++ Builtin.zeroCells z.cells n ++ Builtin.zeroCells z.cells (grownCap w n 0 31 - n)) 31)) := fun ty => by
      have h := Lib.run_append_grow_zeros w 22 3 ty 31 i0 z .i64 .i64 Try.underlying22 Try.underlying3 hi0 hz0 none 0 0 [] (by simpa using hold) n hpos (by omega) (by omega) (by omega) (by rw [hb1]; omega)
        (growslice_fits (by omega) (by rw [hb1]; omega))
      simpa using h
    have hGn : n ≤ grownCap w n 0 31 := grownCap_ge w _ _ _
    have hG63 : grownCap w n 0 31 ≤ maxLen := grownCap_le_maxLen w n 0 31 (by unfold maxLen; omega)
    obtain ⟨G, hG⟩ : ∃ G, G = grownCap w n 0 31 := ⟨_, rfl⟩
    rw [← hG] at hrz hGn hG63
    have hsize : (#[] ++ Builtin.zeroCells z.cells n ++ Builtin.zeroCells z.cells (G - n)).size = G * 2 := by
      simp only [Array.size_append, size_zeroCells, hzs]
      simp
      omega
    generalize #[] ++ Builtin.zeroCells z.cells n ++ Builtin.zeroCells z.cells (G - n) = cs at hrz hsize
    clear hold hG ht hi0 hz0 hs1 hb1 hzs
    have hposI : (n : Int) > 0 := by omega
    have HG := Lib.hid hG63
    unfold maxLen at hG63
    have hcut := fun w' => run_cut_hR (g := w.heap.size) (n := n) (cap := G) 0 (Nat.zero_le _) w'
    go_enter Try.func92, Try.ntmps92
    go_wp2_with (at_builtin; refine Lib.wpList_append_run _ rfl _ _ _ _ rfl _ _ rfl rfl _ _ (hrz _) ?_)
    go_returns
    refine ⟨(Below.refl _ _).drew.alloc (Nat.le_refl _) _, some ⟨w.heap.size, 0, none⟩, G, rfl, by simp, .inr ⟨w.heap.size, G, cs, rfl, Nat.le_refl _, Blk.new w.drew cs _, Nat.zero_le _, HG.out, hsize, by simp⟩⟩
end Go.Proofs.Ytidfimpchbkppaa
