/- Pieces in memory; SortStableFunc. -/
import Derived.Test.YticnjdlapioppaaSo6
import Derived.Test.YticnjdlapioppaaArgSl
import Derived.Lib.AppendZerosOnto
import Derived.LoopN
namespace Go.Proofs.Yticnjdlapioppaa
open Go.RowKit Go.Shelf Go.Lib Go.Sort
set_option linter.unusedVariables false

def cellsQ (L : List Pc) : List Value := L.flatMap encQ
theorem cellsQ_nil : cellsQ [] = [] := rfl
theorem cellsQ_cons (p : Pc) (L : List Pc) : cellsQ (p :: L) = encQ p ++ cellsQ L := rfl
theorem cellsQ_append (A B : List Pc) : cellsQ (A ++ B) = cellsQ A ++ cellsQ B := by simp [cellsQ]
theorem cellsQ_length (L : List Pc) : (cellsQ L).length = L.length * 2 := by
  induction L with
  | nil => rfl
  | cons p L ih =>
    rw [cellsQ_cons, List.length_append, ih]
    simp [encQ]; omega
theorem cellsQ_get : ∀ (L : List Pc) (i j : Nat), i < L.length → j < 2 → (cellsQ L)[i * 2 + j]? = (encQ (L.getD i default))[j]?
  | [], i, j, h, _ => by simp at h
  | p :: L, 0, j, _, hj => by
    rw [cellsQ_cons, List.getElem?_append_left (by simp [encQ]; omega)]
    simp
  | p :: L, i + 1, j, h, hj => by
    rw [cellsQ_cons, List.getElem?_append_right (by simp [encQ]; omega)]
    have e : (i + 1) * 2 + j - (encQ p).length = i * 2 + j := by simp [encQ]; omega
    rw [e, cellsQ_get L i j (by simpa using h) hj]
    simp
theorem cellsQ_one (L : List Pc) : ∀ u ∈ cellsQ L, u.oneCell' = true := by
  intro u hu
  obtain ⟨p, _, hp⟩ := List.mem_flatMap.1 hu
  simp [encQ] at hp
  rcases hp with rfl | rfl <;> rfl
def PcOk (p : Pc) : Prop := 0 ≤ p.off ∧ p.off ≤ 18446744073709551615
/-- The slice (a, L.length, cap) holds these pieces. -/
structure Qs (w : World) (a : Option Addr) (cap : Nat) (L : List Pc) : Prop where
  cells : ∀ i, i < L.length → ∃ b off, a = some ⟨b, off, none⟩ ∧ b < w.heap.size ∧ ∀ j v, (encQ (L.getD i default))[j]? = some v → w.cell? ⟨b, off + i * 2 + j, none⟩ = some v
  nul : a = none → cap = 0
  le : L.length ≤ cap
  max : cap ≤ maxLen
  ok : ∀ p ∈ L, PcOk p

section
variable {w w' : World} {a : Option Addr} {cap : Nat} {L : List Pc}
theorem Qs.below (h : Qs w a cap L) (hb : Below w.heap.size w w') : Qs w' a cap L := ⟨fun i hi => by
  obtain ⟨b, off, ha, hlt, hc⟩ := h.cells i hi
  exact ⟨b, off, ha, Nat.lt_of_lt_of_le hlt hb.size, fun j v hv => (hb.cell (p := ⟨b, off + i * 2 + j, none⟩) hlt).trans (hc j v hv)⟩, h.nul, h.le, h.max, h.ok⟩
theorem Qs.only {S : Nat → Prop} (h : Qs w a cap L) (hb : Only S w w') (hs : ∀ x, a = some x → 0 < L.length → ¬ S x.block) : Qs w' a cap L := ⟨fun i hi => by
  obtain ⟨b, off, ha, hlt, hc⟩ := h.cells i hi
  exact ⟨b, off, ha, Nat.lt_of_lt_of_le hlt hb.size, fun j v hv => (hb.cell (p := ⟨b, off + i * 2 + j, none⟩) hlt (hs ⟨b, off, none⟩ ha (by omega))).trans (hc j v hv)⟩, h.nul, h.le, h.max, h.ok⟩
theorem Qs.nil (w : World) : Qs w none 0 [] := ⟨fun i hi => by simp at hi, fun _ => rfl, by simp, by simp, by simp⟩
theorem Qs.len (h : Qs w a cap L) : L.length ≤ maxLen := Nat.le_trans h.le h.max
theorem Qs.lt (h : Qs w a cap L) : ∀ x, a = some x → 0 < L.length → x.block < w.heap.size := fun x hx h0 => by
  obtain ⟨b, off, ha, hlt, _⟩ := h.cells 0 h0
  rw [hx] at ha
  cases ha
  exact hlt
theorem Qs.at_ (h : Qs w a cap L) {i : Nat} (hi : i < L.length) : ∃ b off, a = some ⟨b, off, none⟩ ∧ b < w.heap.size ∧ ∃ p, L.getD i default = p ∧ p ∈ L ∧
    w.cell? ⟨b, off + i * 2, none⟩ = some (.int .u64 p.off) ∧ w.cell? ⟨b, off + i * 2 + 1, none⟩ = some (.slice p.a p.n p.c) ∧ (0 ≤ p.off ∧ p.off ≤ 18446744073709551615) := by
  obtain ⟨b, off, ha, hlt, hc⟩ := h.cells i hi
  have hm : L.getD i default ∈ L := by simp [hi]
  exact ⟨b, off, ha, hlt, _, rfl, hm, hc 0 _ rfl, hc 1 _ rfl, h.ok _ hm⟩
theorem Qs.src {n : Nat} (h : Qs w a cap L) (hn : n = L.length) : SrcAt w a n cap 2 (cellsQ L) := by
  subst hn
  refine ⟨cellsQ_length L, fun ha => ?_, fun x hx j u hj => ?_, cellsQ_one L⟩
  · have h1 := h.nul ha
    have h2 := h.le
    omega
  · have hlt : j < L.length * 2 := by rw [← cellsQ_length]; exact (List.getElem?_eq_some_iff.1 hj).1
    obtain ⟨b, off, ha, hb, hc⟩ := h.cells (j / 2) (by omega)
    rw [hx] at ha
    cases ha
    have hdm : j / 2 * 2 + j % 2 = j := by omega
    rw [addr_add]
    have := hc (j % 2) u (by rw [← cellsQ_get L (j / 2) (j % 2) (by omega) (by omega), hdm]; exact hj)
    rw [show off + j / 2 * 2 + j % 2 = off + j by omega] at this
    exact this
theorem OwnS.qs {base : Nat} {e : TypeId} {n : Nat} (h : OwnS w base e 2 a n cap (cellsQ L)) (hw : ∀ p ∈ L, PcOk p) : n = L.length ∧ Qs w a cap L := by
  have hl := h.length
  rw [cellsQ_length] at hl
  have hn : n = L.length := by omega
  refine ⟨hn, fun i hi => ?_, fun ha => (h.none_of ha).2, by rw [← hn]; exact h.caps.1, h.caps.2, hw⟩
  obtain ⟨g, rfl, _, hg, _⟩ := h.at_ (i := i * 2) (by rw [cellsQ_length]; omega)
  refine ⟨g, 0, rfl, hg, fun j v hv => ?_⟩
  have hj : j < 2 := (List.getElem?_eq_some_iff.1 hv).1
  obtain ⟨g', hg', _, _, hc, _⟩ := h.at_ (i := i * 2 + j) (by rw [cellsQ_length]; omega)
  cases hg'
  rw [Nat.zero_add, hc, cellsQ_get L i j hi hj, hv]
/-- Without the first. -/
theorem Qs.tail (h : Qs w a cap L) (h0 : 0 < L.length) : Qs w (if cap = 1 then a else a.map (·.add (1 * 2))) (cap - 1) (L.drop 1) := by
  have hle := h.le
  have hmax := h.max
  refine ⟨fun i hi => ?_, fun ha => ?_, by simp; omega, by omega, fun p hp => h.ok p (List.mem_of_mem_drop hp)⟩
  · simp at hi
    obtain ⟨b, off, ha, hlt, hc⟩ := h.cells (i + 1) (by omega)
    have hne : ¬ cap = 1 := by omega
    refine ⟨b, off + 2, by rw [if_neg hne, ha]; simp [addr_add], hlt, fun j v hv => ?_⟩
    have e : (L.drop 1).getD i default = L.getD (i + 1) default := by
      simp only [List.getD_eq_getElem?_getD, List.getElem?_drop, Nat.add_comm]
    rw [e] at hv
    have := hc j v hv
    rw [show off + 2 + i * 2 + j = off + (i + 1) * 2 + j by omega]
    exact this
  · have : a = none := by
      split at ha
      · exact ha
      · exact Option.map_eq_none_iff.1 ha
    have := h.nul this
    omega
end
theorem pc_et : ET Try.prog 69 130 2 32 := et_of (by kernel_rfl)

theorem OwnS.rowK {w : World} {base n cap g : Nat} {e : TypeId} {L : List Pc} (h : OwnS w base e 2 (some ⟨g, 0, none⟩) n cap (cellsQ L)) (hl : 0 < L.length) : RowK encQ 2 w g 0 L.toArray := by
  refine ⟨fun _ => rfl, fun x v hv => by simp [encQ] at hv; rcases hv with rfl | rfl <;> rfl, fun j hj => ?_, (h.block rfl).2.1⟩
  rw [Go.Sort.size_flatK] at hj
  have hj' : j < L.length * 2 := by simpa using hj
  obtain ⟨g', ha, _, _, hc, hf⟩ := h.at_ (i := j) (by rw [cellsQ_length]; omega)
  cases ha
  rw [Nat.zero_add]
  refine ⟨?_, hf⟩
  have hdm : j / 2 * 2 + j % 2 = j := by omega
  have e0 := cellsQ_get L (j / 2) (j % 2) (by omega) (by omega)
  rw [hdm] at e0
  rw [hc, e0, Go.Sort.get_flatK _ _ _ _ hj]
  have h2 : j / 2 < L.length := by omega
  have e1 : L.toArray[j / 2]! = L.getD (j / 2) default := by simp [h2]
  rw [e1]
  rcases Nat.mod_two_eq_zero_or_one j with h1 | h1 <;> rw [h1] <;> rfl
theorem below_swk {B : Nat} {w w' : World} {g : Nat} {d : Array Pc} (hB : B ≤ g) (hb : B ≤ w.heap.size) (h : SWK encQ 2 w g 0 d w') : Below B w w' := by
  obtain ⟨n, os, rfl⟩ := h
  refine ⟨rfl, rfl, rfl, ?_, fun k hk => ?_⟩
  · simp [sortWorldK, Go.Sort.grow, Go.Sort.putRowK, Go.Sort.putRow, Go.Sort.mapBlock, Go.Sort.ahead]
  · have h1 : k < w.heap.size := by omega
    have h2 : g ≠ k := by omega
    simp [sortWorldK, Go.Sort.grow, Go.Sort.putRowK, Go.Sort.putRow, Go.Sort.mapBlock, Go.Sort.ahead, Array.getElem?_append, Array.getElem?_modify, h1, h2]
    rw [Array.getElem_modify_of_ne h2]

/-- SortStableFunc with the closure of join. -/
theorem sortst_any (base g n cap : Nat) (L : List Pc) (w : World) (hn : n = L.length) (hown : OwnS w base 130 2 (some ⟨g, 0, none⟩) n cap (cellsQ L)) (hok : ∀ p ∈ L, PcOk p) (hbase : base ≤ w.heap.size) (hl : 0 < L.length) (hbig : L.length ≤ 1000000) :
    Calls Try.prog 63 #[.slice (some ⟨g, 0, none⟩) n cap, .func (.func 64) #[] #[]] w fun e w' => e = .returned (.tuple #[]) ∧ Below base w w' ∧ ∃ M, Qs w' (some ⟨g, 0, none⟩) cap M ∧ M.Perm L ∧ Ord keyQ 0 n M := by
  have hR := hown.rowK hl
  have hS := SWK.start hR.hH
  have hgb := hown.block rfl
  simp only at hgb
  have hq := (hown.qs hok).2
  have hst := stable_any g n cap L L.toArray w w hR (by simp) hS hn (by omega)
  have HST := Lib.hid hst
  have hpost : ∀ (w' : World) (M : List Pc), SWK encQ 2 w g 0 M.toArray w' → Moved 0 n L M → Qs w' (some ⟨g, 0, none⟩) cap M := fun w' M hM hmv => by
    have hml := hmv.len
    have hlt : g < w'.heap.size := hM.lt hgb.2.1
    refine ⟨fun i hi => ⟨g, 0, rfl, hlt, fun j v hv => ?_⟩, (fun h => nomatch h), by have := hq.le; omega, hq.max, fun p hp => hok p (hmv.perm.mem_iff.1 hp)⟩
    obtain ⟨p, hp, c0, c1, _, _⟩ := swk_cells2 hM hR (by simp [hml]) hi
    have hj : j < 2 := (List.getElem?_eq_some_iff.1 hv).1
    rw [show M.getD i default = p from hp] at hv
    rw [Nat.zero_add]
    match j, hj with
    | 0, _ => simp [encQ] at hv; rw [← hv]; exact c0
    | 1, _ => simp [encQ] at hv; rw [← hv]; exact c1
  have HP := Lib.hid hpost
  have HB : Hid (∀ w' d, SWK encQ 2 w g 0 d w' → Below base w w') := Lib.hid (fun w' d h => below_swk hgb.1 hbase h)
  clear hR hS hgb hq hst hpost hown hok hn hbig
  go_enter Try.func63, Try.ntmps63
  go_wp2_with (fail)
  refine HST.out.mono ?_
  rintro e w2 ⟨rfl, M, h1, h2, h3⟩
  have HF := Lib.hid (And.intro h1 (And.intro h2 h3))
  clear h1 h2 h3
  go_wp2_with (fail)
  go_returns
  exact ⟨rfl, HB.out _ _ HF.out.1, M, HP.out _ _ HF.out.1 HF.out.2.1, HF.out.2.1.perm, HF.out.2.2⟩
theorem insert_nil (a : Option Addr) (cap : Nat) (cv : Value) (w : World) :
    Calls Try.prog 74 #[.slice a 0 cap, .int .i64 0, .int .i64 0, cv] w fun e w' => e = .returned (.tuple #[]) ∧ w' = w := by
  go_enter Try.func74, Try.ntmps74
  go_wp2_with (fail)
  refine wp_loop_rounds 1 ?_
  rw [rounds_succ]
  go_wp2_with (fail)
  go_returns
  exact ⟨rfl, rfl⟩
theorem stable_nil (a : Option Addr) (cap : Nat) (cv : Value) (w : World) :
    Calls Try.prog 70 #[.slice a 0 cap, .int .i64 0, cv] w fun e w' => e = .returned (.tuple #[]) ∧ w' = w := by
  go_enter Try.func70, Try.ntmps70
  go_wp2_with (fail)
  refine wp_loop_rounds 1 ?_
  rw [rounds_succ]
  go_wp2_with (fail)
  refine (insert_nil a cap cv _).mono ?_
  rintro e w1 ⟨rfl, rfl⟩
  go_wp2_with (fail)
  refine wp_loop_rounds 1 ?_
  rw [rounds_succ]
  go_wp2_with (fail)
  go_returns
  exact ⟨rfl, rfl⟩
theorem sortst_nil (a : Option Addr) (cap : Nat) (cv : Value) (w : World) :
    Calls Try.prog 63 #[.slice a 0 cap, cv] w fun e w' => e = .returned (.tuple #[]) ∧ w' = w := by
  go_enter Try.func63, Try.ntmps63
  go_wp2_with (fail)
  refine (stable_nil a cap cv _).mono ?_
  rintro e w1 ⟨rfl, rfl⟩
  go_wp2_with (fail)
  go_returns
  exact ⟨rfl, rfl⟩
end Go.Proofs.Yticnjdlapioppaa
