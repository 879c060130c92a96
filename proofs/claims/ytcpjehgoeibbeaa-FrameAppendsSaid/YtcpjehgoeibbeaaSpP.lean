/- Ranges in plain Lean: neat lists, the numbers in them; neat lists of the same numbers are the same. -/
import Derived.Test.YtcpjehgoeibbeaaBase
namespace Go.Proofs.Ytcpjehgoeibbeaa
set_option linter.unusedVariables false

abbrev Rg := Int × Int
/-- n is in one of some ranges. -/
def MemR (L : List Rg) (n : Int) : Prop := ∃ r ∈ L, r.1 ≤ n ∧ n < r.2
def inB (L : List Rg) (n : Int) : Bool := L.any fun r => decide (r.1 ≤ n) && decide (n < r.2)
theorem inB_iff (L : List Rg) (n : Int) : inB L n = true ↔ MemR L n := by
  simp [inB, MemR]
theorem memR_nil (n : Int) : ¬ MemR [] n := by simp [MemR]
theorem memR_cons (r : Rg) (L : List Rg) (n : Int) : MemR (r :: L) n ↔ (r.1 ≤ n ∧ n < r.2) ∨ MemR L n := by
  simp [MemR]
theorem memR_append (A B : List Rg) (n : Int) : MemR (A ++ B) n ↔ MemR A n ∨ MemR B n := by
  simp only [MemR, List.mem_append]
  constructor
  · rintro ⟨r, h | h, h2⟩
    · exact .inl ⟨r, h, h2⟩
    · exact .inr ⟨r, h, h2⟩
  · rintro (⟨r, h, h2⟩ | ⟨r, h, h2⟩)
    · exact ⟨r, .inl h, h2⟩
    · exact ⟨r, .inr h, h2⟩

/-- Each begins behind the end of the one before (the first one behind b), and has a number. -/
def NeatFrom : Int → List Rg → Prop
  | _, [] => True
  | b, r :: l => b < r.1 ∧ r.1 < r.2 ∧ NeatFrom r.2 l
def endOf (b : Int) : List Rg → Int
  | [] => b
  | r :: l => endOf r.2 l
theorem neatFrom_append : ∀ (A : List Rg) (b : Int) (B : List Rg), NeatFrom b (A ++ B) ↔ NeatFrom b A ∧ NeatFrom (endOf b A) B
  | [], b, B => by simp [NeatFrom, endOf]
  | r :: A, b, B => by simp [NeatFrom, endOf, neatFrom_append A r.2 B, and_assoc]
theorem endOf_append : ∀ (A : List Rg) (b : Int) (B : List Rg), endOf b (A ++ B) = endOf (endOf b A) B
  | [], b, B => rfl
  | r :: A, b, B => endOf_append A r.2 B
theorem neatFrom_mono {b b' : Int} (h : b' ≤ b) : ∀ {L : List Rg}, NeatFrom b L → NeatFrom b' L
  | [], _ => trivial
  | r :: l, ⟨h1, h2, h3⟩ => ⟨by omega, h2, h3⟩
theorem neatFrom_low : ∀ {L : List Rg} {b n : Int}, NeatFrom b L → MemR L n → b < n
  | [], _, _, _, h => absurd h (memR_nil _)
  | r :: l, b, n, ⟨h1, h2, h3⟩, h => by
    rcases (memR_cons _ _ _).1 h with h | h
    · omega
    · have := neatFrom_low h3 h; omega
theorem neatFrom_le_end : ∀ {L : List Rg} {b : Int}, NeatFrom b L → b ≤ endOf b L
  | [], _, _ => Int.le_refl _
  | r :: l, b, ⟨h1, h2, h3⟩ => by have := neatFrom_le_end h3; simp only [endOf]; omega
theorem neatFrom_high : ∀ {L : List Rg} {b n : Int}, NeatFrom b L → MemR L n → n < endOf b L
  | [], _, _, _, h => absurd h (memR_nil _)
  | r :: l, b, n, ⟨h1, h2, h3⟩, h => by
    simp only [endOf]
    rcases (memR_cons _ _ _).1 h with h | h
    · have := neatFrom_le_end h3; omega
    · exact neatFrom_high h3 h
/-- Neat lists of the same numbers are the same. -/
theorem neat_unique : ∀ {A B : List Rg} {b : Int}, NeatFrom b A → NeatFrom b B → (∀ n, MemR A n ↔ MemR B n) → A = B
  | [], [], _, _, _, _ => rfl
  | [], s :: B, _, _, hB, h => absurd ((h s.1).2 ((memR_cons _ _ _).2 (.inl ⟨Int.le_refl _, hB.2.1⟩))) (memR_nil _)
  | r :: A, [], _, hA, _, h => absurd ((h r.1).1 ((memR_cons _ _ _).2 (.inl ⟨Int.le_refl _, hA.2.1⟩))) (memR_nil _)
  | r :: A, s :: B, b, ⟨a1, a2, a3⟩, ⟨b1, b2, b3⟩, h => by
    have lo : ∀ {r s : Rg} {A B : List Rg}, r.1 < r.2 → s.1 < s.2 → NeatFrom s.2 B → (∀ n, MemR (r :: A) n ↔ MemR (s :: B) n) → s.1 ≤ r.1 := by
      intro r s A B h1 h2 h3 h
      rcases (memR_cons _ _ _).1 ((h r.1).1 ((memR_cons _ _ _).2 (.inl ⟨Int.le_refl _, h1⟩))) with h4 | h4
      · exact h4.1
      · have := neatFrom_low h3 h4; omega
    have e1 : r.1 = s.1 := by have := lo a2 b2 b3 h; have := lo b2 a2 a3 (fun n => (h n).symm); omega
    have hi : ∀ {r s : Rg} {A B : List Rg}, r.1 < r.2 → s.1 < s.2 → r.1 = s.1 → NeatFrom r.2 A → (∀ n, MemR (r :: A) n ↔ MemR (s :: B) n) → s.2 ≤ r.2 := by
      intro r s A B h1 h2 h0 h3 h
      refine Int.not_lt.1 fun hlt => ?_
      rcases (memR_cons _ _ _).1 ((h r.2).2 ((memR_cons _ _ _).2 (.inl ⟨by omega, hlt⟩))) with h4 | h4
      · omega
      · have := neatFrom_low h3 h4; omega
    have e2 : r.2 = s.2 := by have := hi a2 b2 e1 a3 h; have := hi b2 a2 e1.symm b3 (fun n => (h n).symm); omega
    obtain rfl : r = s := by ext <;> assumption
    rw [neat_unique a3 b3 fun n => ?_]
    have hn := h n
    rw [memR_cons, memR_cons] at hn
    constructor
    · intro hm
      have := neatFrom_low a3 hm
      rcases hn.1 (.inr hm) with h5 | h5
      · omega
      · exact h5
    · intro hm
      have := neatFrom_low b3 hm
      rcases hn.2 (.inr hm) with h5 | h5
      · omega
      · exact h5

/-- The list M is the neat one of the numbers p. -/
structure IsNf (p : Int → Prop) (M : List Rg) : Prop where
  neat : NeatFrom (-1) M
  mem : ∀ n, MemR M n ↔ p n
theorem IsNf.unique {p : Int → Prop} {M N : List Rg} (h : IsNf p M) (k : IsNf p N) : M = N := neat_unique h.neat k.neat fun n => (h.mem n).trans (k.mem n).symm
theorem IsNf.congr {p q : Int → Prop} {M : List Rg} (h : IsNf p M) (e : ∀ n, p n ↔ q n) : IsNf q M := ⟨h.neat, fun n => (h.mem n).trans (e n)⟩

/-- Numbers that may be a range's ends. -/
def Bnd (L : List Rg) : Prop := ∀ r ∈ L, (0 ≤ r.1 ∧ r.1 ≤ 18446744073709551615) ∧ (0 ≤ r.2 ∧ r.2 ≤ 18446744073709551615)
theorem Bnd.append {A B : List Rg} (h : Bnd A) (k : Bnd B) : Bnd (A ++ B) := fun r hr => (List.mem_append.1 hr).elim (h r) (k r)
theorem Bnd.mem {L : List Rg} (h : Bnd L) {n : Int} (hn : MemR L n) : 0 ≤ n ∧ n < 18446744073709551615 := by
  obtain ⟨r, hr, h1, h2⟩ := hn
  have := h r hr
  omega
theorem bnd_of_neat : ∀ {L : List Rg} {b : Int}, NeatFrom b L → -1 ≤ b → (∀ n, MemR L n → n < 18446744073709551615) → Bnd L
  | [], _, _, _, _ => fun r hr => by cases hr
  | r :: l, b, ⟨h1, h2, h3⟩, hb, hm => by
    have h4 := hm (r.2 - 1) ((memR_cons _ _ _).2 (.inl ⟨by omega, by omega⟩))
    intro s hs
    rcases List.mem_cons.1 hs with rfl | hs
    · omega
    · exact bnd_of_neat h3 (by omega) (fun n hn => hm n ((memR_cons _ _ _).2 (.inr hn))) s hs

/-! The code's own joining. -/
def joinStep (out : List Rg) (r : Rg) : List Rg := match out.getLast? with
  | some q => if r.1 ≤ q.2 then out.dropLast ++ [(q.1, max q.2 r.2)] else out ++ [r]
  | none => out ++ [r]
theorem joinStep_last (A : List Rg) (q r : Rg) : joinStep (A ++ [q]) r = if r.1 ≤ q.2 then A ++ [(q.1, max q.2 r.2)] else A ++ [q] ++ [r] := by
  simp [joinStep]
theorem join_spec (b : Int) : ∀ (l A : List Rg) (q : Rg), NeatFrom b (A ++ [q]) → (∀ r ∈ l, q.1 ≤ r.1 ∧ r.1 < r.2) → l.Pairwise (fun x y => x.1 ≤ y.1) →
    NeatFrom b (l.foldl joinStep (A ++ [q])) ∧ ∀ n, MemR (l.foldl joinStep (A ++ [q])) n ↔ MemR (A ++ [q]) n ∨ MemR l n
  | [], A, q, h, _, _ => ⟨h, fun n => by simp [memR_nil]⟩
  | r :: l, A, q, h, hr, hp => by
    rw [List.foldl_cons, joinStep_last]
    have hr0 := hr r (by simp)
    have hp' := List.pairwise_cons.1 hp
    have hA := (neatFrom_append A b [q]).1 h
    simp only [NeatFrom, and_true] at hA
    split
    · rename_i hle
      obtain ⟨g1, g2⟩ := join_spec b l A (q.1, max q.2 r.2) ((neatFrom_append _ _ _).2 ⟨hA.1, by simp only [NeatFrom, and_true]; omega⟩)
        (fun s hs => ⟨(hr s (by simp [hs])).1, (hr s (by simp [hs])).2⟩) hp'.2
      refine ⟨g1, fun n => ?_⟩
      rw [g2, memR_append, memR_append, memR_cons, memR_cons, memR_cons]
      have : MemR [] n ↔ False := by simp [memR_nil]
      rw [this]
      simp only [or_false]
      by_cases h1 : MemR A n <;> by_cases h2 : MemR l n <;> simp only [h1, h2, true_or, or_true, false_or, or_false]
      omega
    · rename_i hle
      obtain ⟨g1, g2⟩ := join_spec b l (A ++ [q]) r ((neatFrom_append _ _ _).2 ⟨h, by rw [endOf_append]; simp only [NeatFrom, and_true, endOf]; omega⟩)
        (fun s hs => ⟨hp'.1 s hs, (hr s (by simp [hs])).2⟩) hp'.2
      refine ⟨g1, fun n => ?_⟩
      rw [g2, memR_append _ [r], memR_cons, memR_cons r l]
      have : MemR [] n ↔ False := by simp [memR_nil]
      rw [this, or_false, or_assoc]
/-- Of a rising list of ranges that each have a number. -/
theorem join_nf {l : List Rg} (h : ∀ r ∈ l, 0 ≤ r.1 ∧ r.1 < r.2) (hp : l.Pairwise (fun x y => x.1 ≤ y.1)) : IsNf (MemR l) (l.foldl joinStep []) := by
  cases l with
  | nil => exact ⟨trivial, fun n => Iff.rfl⟩
  | cons r l =>
    have hp' := List.pairwise_cons.1 hp
    have hr := h r (by simp)
    obtain ⟨g1, g2⟩ := join_spec (-1) l [] r (by simp only [List.nil_append, NeatFrom, and_true]; omega) (fun s hs => ⟨hp'.1 s hs, (h s (by simp [hs])).2⟩) hp'.2
    have e : (r :: l).foldl joinStep [] = l.foldl joinStep ([] ++ [r]) := rfl
    rw [e]
    refine ⟨g1, fun n => ?_⟩
    rw [g2, memR_cons, List.nil_append, memR_cons]
    have : MemR [] n ↔ False := by simp [memR_nil]
    rw [this, or_false]
theorem joinStep_length (out : List Rg) (r : Rg) : (joinStep out r).length ≤ out.length + 1 := by
  unfold joinStep
  split
  · split <;> simp <;> omega
  · simp
/-- Whether a list is neat, from a place on: what the code asks. -/
def okAt (L : List Rg) (i : Nat) : Prop := (L.getD i default).1 < (L.getD i default).2 ∧ (0 < i → (L.getD (i - 1) default).2 < (L.getD i default).1)
theorem neat_iff_ok : ∀ (L : List Rg) (b : Int), NeatFrom b L ↔ (∀ r, L.head? = some r → b < r.1) ∧ ∀ i, i < L.length → okAt L i
  | [], b => by simp [NeatFrom]
  | r :: l, b => by
    simp only [NeatFrom, neat_iff_ok l r.2, List.head?_cons, Option.some.injEq]
    constructor
    · rintro ⟨h1, h2, h3, h4⟩
      refine ⟨by rintro _ rfl; exact h1, fun i hi => ?_⟩
      cases i with
      | zero => exact ⟨by simpa using h2, by simp⟩
      | succ i =>
        have := h4 i (by simpa using hi)
        refine ⟨by simpa using this.1, fun _ => ?_⟩
        cases i with
        | zero => cases l with
          | nil => simp at hi
          | cons s l => simpa using h3 s rfl
        | succ i => simpa using this.2 (by omega)
    · rintro ⟨h1, h2⟩
      refine ⟨h1 r rfl, by simpa [okAt] using (h2 0 (by simp)).1, fun s hs => ?_, fun i hi => ?_⟩
      · cases l with
        | nil => cases hs
        | cons s' l =>
          cases hs
          simpa [okAt] using (h2 1 (by simp)).2 (by omega)
      · have := h2 (i + 1) (by simpa using hi)
        refine ⟨by simpa using this.1, fun h0 => ?_⟩
        cases i with
        | zero => omega
        | succ i => simpa using this.2 (by omega)
theorem neat_iff {L : List Rg} (hb : Bnd L) : NeatFrom (-1) L ↔ ∀ i, i < L.length → okAt L i := by
  rw [neat_iff_ok]
  refine ⟨And.right, fun h => ⟨fun r hr => ?_, h⟩⟩
  have := hb r (by cases L with
    | nil => cases hr
    | cons s l => cases hr; simp)
  omega

/-- Gone over two neat lists: whether a number is in, and the next end. -/
def endsP : List Rg → Int → Bool × Int
  | [], _ => (false, 18446744073709551615)
  | r :: l, at_ => if at_ < r.1 then (false, r.1) else if at_ < r.2 then (true, r.2) else endsP l at_
theorem endsP_spec : ∀ {L : List Rg} {b : Int} (at_ : Int), NeatFrom b L → Bnd L → 0 ≤ at_ → at_ < 18446744073709551615 →
    at_ < (endsP L at_).2 ∧ (endsP L at_).2 ≤ 18446744073709551615 ∧ (∀ n, at_ ≤ n → n < (endsP L at_).2 → (MemR L n ↔ (endsP L at_).1 = true)) ∧ ((endsP L at_).2 < 18446744073709551615 ∨ (endsP L at_).1 = true → ∃ r ∈ L, (endsP L at_).2 = r.1 ∨ (endsP L at_).2 = r.2)
  | [], b, at_, _, _, h0, h1 => ⟨h1, Int.le_refl _, fun n _ _ => by simp [endsP, memR_nil], by simp [endsP]⟩
  | r :: l, b, at_, ⟨a1, a2, a3⟩, hb, h0, h1 => by
    have hr := hb r (by simp)
    unfold endsP
    split
    · rename_i h2
      refine ⟨h2, hr.1.2, fun n h3 h4 => ?_, fun _ => ⟨r, by simp, .inl rfl⟩⟩
      simp only [memR_cons]
      refine ⟨fun h5 => ?_, by simp⟩
      simp only at h4
      rcases h5 with h5 | h5
      · omega
      · have := neatFrom_low a3 h5; omega
    · rename_i h2
      split
      · rename_i h3
        refine ⟨h3, hr.2.2, fun n h4 h5 => ?_, fun _ => ⟨r, by simp, .inr rfl⟩⟩
        simp only [memR_cons, iff_true]
        simp only at h5
        exact .inl ⟨by omega, h5⟩
      · rename_i h3
        obtain ⟨g1, g2, g3, g4⟩ := endsP_spec at_ a3 (fun s hs => hb s (by simp [hs])) h0 h1
        refine ⟨g1, g2, fun n h4 h5 => ?_, fun h4 => ?_⟩
        · rw [memR_cons, ← g3 n h4 h5]
          refine ⟨fun h6 => ?_, .inr⟩
          rcases h6 with h6 | h6
          · omega
          · exact h6
        · obtain ⟨s, hs, h5⟩ := g4 h4
          exact ⟨s, by simp [hs], h5⟩

/-- How many numbers there are. -/
def countR (M : List Rg) : Int := (M.map fun r => r.2 - r.1).sum
theorem countR_le : ∀ {M : List Rg} {b : Int}, NeatFrom b M → 0 ≤ countR M ∧ countR M ≤ endOf b M - b
  | [], b, _ => by simp [countR, endOf]
  | r :: l, b, ⟨h1, h2, h3⟩ => by
    have := countR_le h3
    simp only [countR, List.map_cons, List.sum_cons, endOf] at this ⊢
    omega

end Go.Proofs.Ytcpjehgoeibbeaa
