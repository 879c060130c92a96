/- Slices that a call makes for itself: append, in our own words. -/
import Derived.Test.YthangjgdjhhfgaaGreatDoorBase
import Derived.Maps.AppendAt
import Derived.Laws.AppendOwnNone
namespace Go.Proofs.YthangjgdjhhfgaaGreatDoor
open Go.RowKit
set_option linter.unusedVariables false

/-- The slice (a, n, cap) is nil, or begins a row of the call's own (block 'base' or later); its cells are xs. -/
def OwnS (w : World) (base : Nat) (e : TypeId) (size : Nat) (a : Option Addr) (n cap : Nat) (xs : List Value) : Prop := w.ownsRow base e size (.slice a n cap) n xs

theorem OwnS.nil (w : World) (base : Nat) (e : TypeId) (size : Nat) : OwnS w base e size none 0 0 [] := World.ownsRow_nil _ _ _ _
theorem OwnS.length {w : World} {base : Nat} {e : TypeId} {size : Nat} {a : Option Addr} {n cap : Nat} {xs : List Value} (h : OwnS w base e size a n cap xs) : xs.length = n * size := h.1
theorem OwnS.caps {w : World} {base : Nat} {e : TypeId} {size : Nat} {a : Option Addr} {n cap : Nat} {xs : List Value} (h : OwnS w base e size a n cap xs) : n ≤ cap ∧ cap ≤ maxLen := by
  rcases h.2 with ⟨h1, h2⟩ | ⟨g, c, cur, h1, _, _, h4, h5, _⟩
  · cases h1; simp []
  · cases h1; exact ⟨h4, h5⟩
theorem OwnS.none_of {w : World} {base : Nat} {e : TypeId} {size : Nat} {a : Option Addr} {n cap : Nat} {xs : List Value} (h : OwnS w base e size a n cap xs) (ha : a = none) : n = 0 ∧ cap = 0 := by
  subst ha
  rcases h.2 with ⟨h1, h2⟩ | ⟨g, c, cur, h1, _⟩
  · cases h1; exact ⟨rfl, rfl⟩
  · cases h1
/-- Where it lies, and what its cells hold. -/
theorem OwnS.at_ {w : World} {base : Nat} {e : TypeId} {size : Nat} {a : Option Addr} {n cap : Nat} {xs : List Value} (h : OwnS w base e size a n cap xs) {i : Nat} (hi : i < xs.length) :
    ∃ g, a = some ⟨g, 0, none⟩ ∧ base ≤ g ∧ g < w.heap.size ∧ w.cell? ⟨g, i, none⟩ = xs[i]? ∧ w.frozen? ⟨g, i, none⟩ = false := by
  obtain ⟨hl, h2⟩ := h
  rcases h2 with ⟨h1, h3⟩ | ⟨g, c, cur, h1, h3, h4, h5, h6, h7, h8⟩
  · subst h3; rw [Nat.zero_mul] at hl; omega
  · cases h1
    refine ⟨g, rfl, h3, lt_of_block h4, ?_, by simp [World.frozen?, h4]⟩
    rw [← h8, List.getElem?_take_of_lt (by omega)]
    simp [World.cell?, h4]
theorem OwnS.block {w : World} {base : Nat} {e : TypeId} {size : Nat} {a : Option Addr} {n cap : Nat} {xs : List Value} (h : OwnS w base e size a n cap xs) {x : Addr} (hx : a = some x) : base ≤ x.block ∧ x.block < w.heap.size ∧ x.off = 0 ∧ x.spot = none := by
  subst hx
  rcases h.2 with ⟨h1, h3⟩ | ⟨g, c, cur, h1, h3, h4, _⟩
  · cases h1
  · cases h1; exact ⟨h3, lt_of_block h4, rfl, rfl⟩
/-- It stays while its own block does. -/
theorem OwnS.keep {w w' : World} {base : Nat} {e : TypeId} {size : Nat} {a : Option Addr} {n cap : Nat} {xs : List Value} (h : OwnS w base e size a n cap xs) (hk : ∀ x, a = some x → w'.heap[x.block]? = w.heap[x.block]?) : OwnS w' base e size a n cap xs := by
  obtain ⟨hl, h2⟩ := h
  refine ⟨hl, ?_⟩
  rcases h2 with h2 | ⟨g, c, cur, h1, h3, h4, r⟩
  · exact .inl h2
  · cases h1
    exact .inr ⟨g, cap, cur, rfl, h3, by rw [hk _ rfl]; exact h4, r⟩
theorem OwnS.below {w w' : World} {base : Nat} {e : TypeId} {size : Nat} {a : Option Addr} {n cap : Nat} {xs : List Value} (h : OwnS w base e size a n cap xs) (hb : Below w.heap.size w w') : OwnS w' base e size a n cap xs :=
  h.keep fun x hx => hb.block _ (h.block hx).2.1
theorem OwnS.only {S : Nat → Prop} {w w' : World} {base : Nat} {e : TypeId} {size : Nat} {a : Option Addr} {n cap : Nat} {xs : List Value} (h : OwnS w base e size a n cap xs) (hb : Only S w w') (hs : ∀ x, a = some x → ¬ S x.block) : OwnS w' base e size a n cap xs :=
  h.keep fun x hx => hb.block _ (h.block hx).2.1 (hs x hx)
theorem OwnS.base_le {w : World} {base base' : Nat} {e : TypeId} {size : Nat} {a : Option Addr} {n cap : Nat} {xs : List Value} (h : OwnS w base e size a n cap xs) (hb : base' ≤ base) : OwnS w base' e size a n cap xs := by
  obtain ⟨hl, h2⟩ := h
  refine ⟨hl, ?_⟩
  rcases h2 with h2 | ⟨g, c, cur, h1, h3, r⟩
  · exact .inl h2
  · exact .inr ⟨g, c, cur, h1, by omega, r⟩
/-- A block that has just been made, as a slice of the whole of it. -/
theorem OwnS.new (w : World) (base : Nat) (hb : base ≤ w.heap.size) (e : TypeId) (size n : Nat) (cs : Array Value) (hn : n ≤ maxLen) (hc : cs.size = n * size) : OwnS (w.alloc (.cells cs e)) base e size (some ⟨w.heap.size, 0, none⟩) n n cs.toList :=
  ⟨by simpa using hc, .inr ⟨w.heap.size, n, cs, rfl, hb, Blk.new w cs e, Nat.le_refl _, hn, hc, List.take_of_length_le (by simp [hc])⟩⟩
/-- A slice of integers of the call's own, as what it reads. -/
theorem OwnS.ints {kd : IntKind} {w : World} {base : Nat} {e : TypeId} {a : Option Addr} {n cap : Nat} {L : List Int} (h : OwnS w base e 1 a n cap (L.map (Value.int kd))) (hw : ∀ x ∈ L, (Lit.int kd x).wf = true) : n = L.length ∧ IntsAt kd w a L := by
  have hl := h.length
  simp at hl
  refine ⟨hl.symm, fun i hi => ?_⟩
  obtain ⟨g, rfl, _, hg, hc, _⟩ := h.at_ (i := i) (by simpa using hi)
  refine ⟨g, 0, rfl, hg, ?_, ?_⟩
  · rw [Nat.zero_add, hc]; simp [hi]
  · rw [List.getD_eq_getElem?_getD, List.getElem?_eq_getElem hi]; exact hw _ (List.getElem_mem hi)

/-- What the laws on append ask of an element's type: closed facts. -/
def ET (P : Program) (t e : TypeId) (size bytes : Nat) : Prop :=
  ∃ (i : TypeInfo) (z : Value), P.underlying t = some (.slice e) ∧ P.info? e = some i ∧ i.zero = some z ∧ i.size = size ∧ i.bytes = bytes ∧ z.cells.size = size ∧ 0 < size

def etB (P : Program) (t e : TypeId) (size bytes : Nat) : Bool :=
  match P.underlying t, P.info? e with
  | some (.slice e'), some i => match i.zero with
    | some z => e' == e && z.cells.size == size && i.size == size && i.bytes == bytes && decide (0 < size)
    | none => false
  | _, _ => false
theorem et_of {P : Program} {t e : TypeId} {size bytes : Nat} (h : etB P t e size bytes = true) : ET P t e size bytes := by
  unfold etB at h
  split at h
  · rename_i e' i h1 h2
    split at h
    · rename_i z h3
      simp only [Bool.and_eq_true, beq_iff_eq, decide_eq_true_eq] at h
      obtain ⟨⟨⟨⟨rfl, h5⟩, h6⟩, h7⟩, h8⟩ := h
      exact ⟨i, z, h1, h2, h3, h6, h7, h5, h8⟩
    · cases h
  · cases h

/-- The cells that are to be appended lie there. -/
def SrcAt (w : World) (ad : Option Addr) (m : Nat) (c : Nat) (size : Nat) (news : List Value) : Prop :=
  news.length = m * size ∧ (ad = none → m = 0 ∧ c = 0) ∧ (∀ x, ad = some x → ∀ j u, news[j]? = some u → w.cell? (x.add j) = some u) ∧ ∀ u ∈ news, u.oneCell' = true

theorem SrcAt.ints {kd : IntKind} {w : World} {a : Option Addr} {c : Nat} {L : List Int} (h : IntsAt kd w a L) (hc : a = none → c = 0) : SrcAt w a L.length c 1 (L.map (Value.int kd)) := by
  refine ⟨by simp, fun ha => ⟨?_, hc ha⟩, fun x hx j u hj => ?_, fun u hu => ?_⟩
  · subst ha
    cases L with
    | nil => rfl
    | cons n L => obtain ⟨_, _, h0, _⟩ := h 0 (by simp); cases h0
  · have hlt : j < L.length := by
      have := (List.getElem?_eq_some_iff.1 hj).1
      simpa using this
    obtain ⟨b, off, hx', _, hcell, _⟩ := h j hlt
    rw [hx] at hx'
    cases hx'
    rw [addr_add, hcell]
    simp [hlt] at hj ⊢
    exact hj
  · obtain ⟨n, _, rfl⟩ := List.mem_map.1 hu
    rfl
/-- One value, in a block of its own. -/
theorem SrcAt.one (w : World) (x : Value) (t : TypeId) (hx : x.oneCell' = true) : SrcAt (w.alloc (.cells #[x] t)) (some ⟨w.heap.size, 0, none⟩) 1 1 1 [x] :=
  ⟨rfl, by simp, fun y hy j u hj => by cases hy; exact cell_one_new w x t j u hj, by simpa using hx⟩
theorem SrcAt.cells (w : World) (cs : Array Value) (t : TypeId) (m size : Nat) (hc : cs.size = m * size) (h1 : ∀ u ∈ cs.toList, u.oneCell' = true) : SrcAt (w.alloc (.cells cs t)) (some ⟨w.heap.size, 0, none⟩) m m size cs.toList :=
  ⟨by simpa using hc, by simp, fun y hy j u hj => by cases hy; rw [addr_add, Nat.zero_add]; exact (Blk.new w cs t).cell j u (by simpa using hj), h1⟩

section
variable {P : Program} {ops : Array Oper} {rest : List Oper} {o : Oper} {a : Act} {w : World} {Q : Exit → Act → World → Prop}

theorem wpList_app {t e : TypeId} {size bytes : Nat} (hE : ET P t e size bytes) (hgd : o.guard = none) {s x : Operand}
    (ho : o.op = .call { callee := .builtin .append, args := #[s, x], argTypes := #[t, t] })
    {base : Nat} {av ad : Option Addr} {n cap m c : Nat} {xs news : List Value} (hs : a.eval s = .slice av n cap) (hx : a.eval x = .slice ad m c)
    (hown : OwnS w base e size av n cap xs) (hsrc : SrcAt w ad m c size news) (h63 : n + m ≤ maxLen) (hbytes : (n + m) * bytes ≤ 140737488355328) (hbase : base ≤ w.heap.size)
    (h : ∀ a' cap' w', OwnS w' base e size a' (n + m) cap' (xs ++ news) → Only (fun k => ∃ y, av = some y ∧ y.block = k) w w' → (∀ y, a' = some y → (∃ z, av = some z ∧ y.block = z.block) ∨ y.block = w.heap.size) →
      wpList P ops Q rest (a.put o.dst (.slice a' (n + m) cap')) w') : wpList P ops Q (o :: rest) a w := by
  obtain ⟨i, z, ht, hi, hz, h1, h2, h3, h4⟩ := hE
  obtain ⟨hl, hnone, hcells, hone⟩ := hsrc
  cases ad with
  | none =>
    obtain ⟨rfl, rfl⟩ := hnone rfl
    refine wpList_append_own_none hgd s x t ho base e i size ht hi _ n xs hs hown hx ?_
    have hn : news = [] := by rw [Nat.zero_mul] at hl; exact List.length_eq_zero_iff.1 hl
    subst hn
    have := h av cap w (by simpa using hown) (Only.refl _ _) (fun y hy => .inl ⟨y, hy, rfl⟩)
    simpa using this
  | some ad =>
    refine wpList_append_own_at w hgd s x t ho base e i z size bytes ht hi hz h1 h2 h3 h4 _ n xs hs hown ad m c news hx hl (hcells ad rfl) hone h63 hbytes hbase ?_
    intro v' w' hown' hg hnil hat
    have hshape : ∃ a' cap', v' = .slice a' (n + m) cap' := by
      rcases hown'.2 with ⟨h5, h6⟩ | ⟨g, c', cur, h5, _⟩
      · exact ⟨none, 0, by rw [h5, h6]⟩
      · exact ⟨_, _, h5⟩
    obtain ⟨a', cap', rfl⟩ := hshape
    refine h a' cap' w' hown' ⟨hg.os, hg.tape, hg.output, hg.size, fun k hk hs => hg.block k hk ?_⟩ ?_
    · cases av with
      | none => simp [Value.ownBlock]
      | some y => simp only [Value.ownBlock]; intro e; cases e; exact hs ⟨y, rfl, rfl⟩
    · intro y hy
      subst hy
      rcases hat with h5 | h5
      · cases av with
        | none => simp [Value.ownBlock] at h5
        | some z => simp only [Value.ownBlock, Option.some.injEq] at h5; exact .inl ⟨z, rfl, h5⟩
      · simp only [Value.ownBlock, Option.some.injEq] at h5; exact .inr h5
end

end Go.Proofs.YthangjgdjhhfgaaGreatDoor
