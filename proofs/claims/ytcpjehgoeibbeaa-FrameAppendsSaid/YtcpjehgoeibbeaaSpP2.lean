/- Ranges in plain Lean: the code's going over two lists; the document's own making, by the ends. -/
import Derived.Test.YtcpjehgoeibbeaaSpP
namespace Go.Proofs.Ytcpjehgoeibbeaa
set_option linter.unusedVariables false

def flat (L : List Rg) : List Int := L.flatMap fun r => [r.1, r.2]
theorem flat_nil : flat [] = [] := rfl
theorem flat_cons (r : Rg) (L : List Rg) : flat (r :: L) = r.1 :: r.2 :: flat L := rfl
theorem flat_append (A B : List Rg) : flat (A ++ B) = flat A ++ flat B := by simp [flat]
theorem flat_length : ∀ L : List Rg, (flat L).length = 2 * L.length
  | [] => rfl
  | r :: L => by rw [flat_cons]; simp only [List.length_cons, flat_length L]; omega
theorem flat_getD : ∀ (L : List Rg) (i : Nat), (flat L).getD (2 * i) 0 = (L.getD i (0, 0)).1 ∧ (flat L).getD (2 * i + 1) 0 = (L.getD i (0, 0)).2
  | [], i => by simp [flat]
  | r :: L, 0 => by simp [flat_cons]
  | r :: L, i + 1 => by
    have := flat_getD L i
    rw [flat_cons, show 2 * (i + 1) = 2 * i + 1 + 1 from by omega]
    simpa using this
theorem mem_flat {L : List Rg} {x : Int} : x ∈ flat L ↔ ∃ r ∈ L, x = r.1 ∨ x = r.2 := by
  simp [flat]
theorem bnd_flat {L : List Rg} : Bnd L ↔ ∀ x ∈ flat L, 0 ≤ x ∧ x ≤ 18446744073709551615 := by
  constructor
  · intro h x hx
    obtain ⟨r, hr, rfl | rfl⟩ := mem_flat.1 hx
    · exact (h r hr).1
    · exact (h r hr).2
  · intro h r hr
    exact ⟨h _ (mem_flat.2 ⟨r, hr, .inl rfl⟩), h _ (mem_flat.2 ⟨r, hr, .inr rfl⟩)⟩

theorem memR_filter (L : List Rg) (n : Int) : MemR (L.filter fun r => decide (r.1 < r.2)) n ↔ MemR L n := by
  simp only [MemR, List.mem_filter, decide_eq_true_eq]
  constructor
  · rintro ⟨r, ⟨h, _⟩, h2⟩; exact ⟨r, h, h2⟩
  · rintro ⟨r, h, h2⟩; exact ⟨r, ⟨h, by omega⟩, h2⟩
theorem memR_perm {A B : List Rg} (h : A.Perm B) (n : Int) : MemR A n ↔ MemR B n := by
  simp only [MemR]
  constructor
  · rintro ⟨r, hr, h2⟩; exact ⟨r, h.mem_iff.1 hr, h2⟩
  · rintro ⟨r, hr, h2⟩; exact ⟨r, h.mem_iff.2 hr, h2⟩

/-! merge -/
/-- What the loop of merge keeps. -/
structure MgInv (keep : Bool → Bool → Bool) (A B : List Rg) (at_ : Int) (out : List Rg) : Prop where
  lo : 0 ≤ at_
  hi : at_ ≤ 18446744073709551615
  mem : ∀ n, MemR out n ↔ (0 ≤ n ∧ n < at_) ∧ keep (inB A n) (inB B n) = true
  bnd : Bnd out
  len : out.length ≤ (flat A ++ flat B).countP (fun x => decide (x ≤ at_))
theorem MgInv.start (keep : Bool → Bool → Bool) (A B : List Rg) : MgInv keep A B 0 [] :=
  ⟨Int.le_refl _, by omega, fun n => ⟨fun h => absurd h (memR_nil _), fun h => by omega⟩, (fun r hr => by simp at hr), by simp⟩
theorem countP_lt {l : List Int} {x y z : Int} (h : x < y) (hy : y ∈ l) (hz : y ≤ z) : l.countP (fun v => decide (v ≤ x)) + 1 ≤ l.countP (fun v => decide (v ≤ z)) := by
  induction l with
  | nil => cases hy
  | cons v l ih =>
    have mono : l.countP (fun v => decide (v ≤ x)) ≤ l.countP (fun v => decide (v ≤ z)) := List.countP_mono_left fun u _ hu => by simp at hu ⊢; omega
    simp only [List.countP_cons, decide_eq_true_eq]
    rcases List.mem_cons.1 hy with rfl | hy
    · have h1 : ¬ y ≤ x := by omega
      rw [if_neg h1, if_pos hz]; omega
    · have := ih hy
      split <;> split <;> omega
theorem MgInv.step {keep : Bool → Bool → Bool} {A B : List Rg} {at_ : Int} {out : List Rg} (h : MgInv keep A B at_ out) (hk : ∀ y, keep false y = false) (hA : NeatFrom (-1) A) (hB : NeatFrom (-1) B) (bA : Bnd A) (bB : Bnd B) (hat : at_ < 18446744073709551615) :
    at_ < min (endsP A at_).2 (endsP B at_).2 ∧ MgInv keep A B (min (endsP A at_).2 (endsP B at_).2) (if keep (endsP A at_).1 (endsP B at_).1 = true then out ++ [(at_, min (endsP A at_).2 (endsP B at_).2)] else out) := by
  obtain ⟨a1, a2, a3, a4⟩ := endsP_spec at_ hA bA h.lo hat
  obtain ⟨b1, b2, b3, b4⟩ := endsP_spec at_ hB bB h.lo hat
  have hlo := h.lo
  generalize e1 : (endsP A at_).2 = nx at *
  generalize e2 : (endsP B at_).2 = sc at *
  generalize e3 : (endsP A at_).1 = i at *
  generalize e4 : (endsP B at_).1 = j at *
  have hto : at_ < min nx sc := by omega
  have hin : ∀ n, at_ ≤ n → n < min nx sc → inB A n = i ∧ inB B n = j := by
    intro n h1 h2
    have ha := a3 n h1 (by omega)
    have hb := b3 n h1 (by omega)
    rw [← inB_iff] at ha hb
    constructor
    · cases i <;> cases h5 : inB A n <;> simp_all
    · cases j <;> cases h5 : inB B n <;> simp_all
  refine ⟨hto, by omega, by omega, fun n => ?_, ?_, ?_⟩
  · split
    · rename_i hkp
      rw [memR_append, h.mem, memR_cons]
      have : MemR [] n ↔ False := by simp [memR_nil]
      rw [this, or_false]
      simp only
      constructor
      · rintro (⟨h1, h2⟩ | ⟨h1, h2⟩)
        · exact ⟨⟨h1.1, by omega⟩, h2⟩
        · obtain ⟨h3, h4⟩ := hin n h1 h2
          exact ⟨⟨by omega, h2⟩, by rw [h3, h4]; exact hkp⟩
      · rintro ⟨⟨h1, h2⟩, h3⟩
        by_cases h4 : n < at_
        · exact .inl ⟨⟨h1, h4⟩, h3⟩
        · exact .inr ⟨by omega, h2⟩
    · rename_i hkp
      rw [h.mem]
      constructor
      · rintro ⟨h1, h2⟩; exact ⟨⟨h1.1, by omega⟩, h2⟩
      · rintro ⟨⟨h1, h2⟩, h3⟩
        by_cases h4 : n < at_
        · exact ⟨⟨h1, h4⟩, h3⟩
        · obtain ⟨h5, h6⟩ := hin n (by omega) h2
          rw [h5, h6] at h3
          exact absurd h3 hkp
  · split
    · refine h.bnd.append fun r hr => ?_
      simp only [List.mem_singleton] at hr
      subst hr
      simp only
      omega
    · exact h.bnd
  · have hl := h.len
    have mono : (flat A ++ flat B).countP (fun v => decide (v ≤ at_)) ≤ (flat A ++ flat B).countP (fun v => decide (v ≤ min nx sc)) := List.countP_mono_left fun u _ hu => by simp at hu ⊢; omega
    split
    · rename_i hkp
      have hi : i = true := by
        cases i
        · rw [hk] at hkp; cases hkp
        · rfl
      have hend : min nx sc ∈ flat A ++ flat B := by
        by_cases h1 : nx ≤ sc
        · rw [Int.min_eq_left h1]
          obtain ⟨r, hr, h2⟩ := a4 (.inr hi)
          exact List.mem_append.2 (.inl (mem_flat.2 ⟨r, hr, h2⟩))
        · rw [Int.min_eq_right (by omega)]
          obtain ⟨r, hr, h2⟩ := b4 (.inl (by omega))
          exact List.mem_append.2 (.inr (mem_flat.2 ⟨r, hr, h2⟩))
      have := countP_lt hto hend (Int.le_refl _)
      simp only [List.length_append, List.length_singleton]
      omega
    · omega
theorem MgInv.done {keep : Bool → Bool → Bool} {A B : List Rg} {at_ : Int} {out : List Rg} (h : MgInv keep A B at_ out) (hk : ∀ y, keep false y = false) (bA : Bnd A) (hat : ¬ at_ < 18446744073709551615) :
    (∀ n, MemR out n ↔ keep (inB A n) (inB B n) = true) ∧ out.length ≤ 2 * (A.length + B.length) := by
  refine ⟨fun n => ?_, ?_⟩
  · rw [h.mem]
    refine ⟨And.right, fun h1 => ⟨?_, h1⟩⟩
    have : inB A n = true := by
      cases h2 : inB A n
      · rw [h2, hk] at h1; cases h1
      · rfl
    have := bA.mem ((inB_iff _ _).1 this)
    omega
  · have := List.countP_le_length (l := flat A ++ flat B) (p := fun x => decide (x ≤ at_))
    have hl := h.len
    simp only [List.length_append, flat_length] at this
    omega

/-! The document's: the ends, rising. -/
def putP : List Int → Int → List Int
  | [], n => [n]
  | m :: l, n => if m < n then m :: putP l n else if m = n then m :: l else n :: m :: l
theorem putP_at : ∀ (l : List Int) (n : Int) (k : Nat), k ≤ l.length → (∀ i, i < k → l.getD i 0 < n) → (k < l.length → ¬ l.getD k 0 < n) →
    putP l n = if k < l.length ∧ l.getD k 0 = n then l else l.take k ++ [n] ++ l.drop k
  | [], n, k, hk, _, _ => by
    have : k = 0 := by simpa using hk
    subst this
    simp [putP]
  | m :: l, n, 0, _, _, h => by
    have := h (by simp)
    simp only [List.getD_cons_zero] at this
    unfold putP
    rw [if_neg this]
    simp
  | m :: l, n, k + 1, hk, h1, h2 => by
    have h0 := h1 0 (by omega)
    simp only [List.getD_cons_zero] at h0
    unfold putP
    rw [if_pos h0, putP_at l n k (by simpa using hk) (fun i hi => by simpa using h1 (i + 1) (by omega)) (fun h => by simpa using h2 (by simpa using h))]
    simp only [List.length_cons, List.getD_cons_succ, Nat.add_lt_add_iff_right, List.take_succ_cons, List.drop_succ_cons]
    split <;> simp
theorem mem_putP : ∀ (l : List Int) (n x : Int), x ∈ putP l n ↔ x = n ∨ x ∈ l
  | [], n, x => by simp [putP]
  | m :: l, n, x => by
    unfold putP
    split
    · simp only [List.mem_cons, mem_putP l n x]
      constructor
      · rintro (h | h | h)
        · exact .inr (.inl h)
        · exact .inl h
        · exact .inr (.inr h)
      · rintro (h | h | h)
        · exact .inr (.inl h)
        · exact .inl h
        · exact .inr (.inr h)
    · split
      · rename_i h; subst h; simp
      · simp
theorem sorted_putP : ∀ (l : List Int) (n : Int), l.Pairwise (· < ·) → (putP l n).Pairwise (· < ·)
  | [], n, _ => by simp [putP]
  | m :: l, n, h => by
    have h' := List.pairwise_cons.1 h
    unfold putP
    split
    · rename_i h1
      refine List.pairwise_cons.2 ⟨fun x hx => ?_, sorted_putP l n h'.2⟩
      rcases (mem_putP l n x).1 hx with rfl | hx
      · exact h1
      · exact h'.1 x hx
    · split
      · exact h
      · rename_i h1 h2
        refine List.pairwise_cons.2 ⟨fun x hx => ?_, h⟩
        rcases List.mem_cons.1 hx with rfl | hx
        · omega
        · have := h'.1 x hx; omega
theorem length_putP : ∀ (l : List Int) (n : Int), (putP l n).length ≤ l.length + 1
  | [], n => by simp [putP]
  | m :: l, n => by
    have := length_putP l n
    unfold putP
    split
    · simpa using this
    · split <;> simp
def endsR (a b : List Rg) : List Int := (flat a ++ flat b).foldl putP []
theorem foldl_putP : ∀ (xs l : List Int), l.Pairwise (· < ·) → (xs.foldl putP l).Pairwise (· < ·) ∧ (∀ x, x ∈ xs.foldl putP l ↔ x ∈ xs ∨ x ∈ l) ∧ (xs.foldl putP l).length ≤ xs.length + l.length
  | [], l, h => ⟨h, fun x => by simp, by simp⟩
  | n :: xs, l, h => by
    obtain ⟨h1, h2, h3⟩ := foldl_putP xs (putP l n) (sorted_putP l n h)
    refine ⟨h1, fun x => ?_, ?_⟩
    · rw [List.foldl_cons, h2, mem_putP, List.mem_cons]
      constructor
      · rintro (h | h | h)
        · exact .inl (.inr h)
        · exact .inl (.inl h)
        · exact .inr h
      · rintro ((h | h) | h)
        · exact .inr (.inl h)
        · exact .inl h
        · exact .inr (.inr h)
    · have := length_putP l n
      rw [List.foldl_cons]
      simp only [List.length_cons]
      omega
theorem endsR_sorted (a b : List Rg) : (endsR a b).Pairwise (· < ·) := (foldl_putP _ _ List.Pairwise.nil).1
theorem mem_endsR {a b : List Rg} {x : Int} : x ∈ endsR a b ↔ x ∈ flat a ∨ x ∈ flat b := by
  rw [endsR, (foldl_putP _ _ List.Pairwise.nil).2.1]; simp
theorem endsR_length (a b : List Rg) : (endsR a b).length ≤ 2 * (a.length + b.length) := by
  have := (foldl_putP (flat a ++ flat b) [] List.Pairwise.nil).2.2
  simp only [List.length_append, flat_length, List.length_nil] at this
  unfold endsR
  omega
theorem endsR_bnd {a b : List Rg} (ha : Bnd a) (hb : Bnd b) : ∀ x ∈ endsR a b, 0 ≤ x ∧ x ≤ 18446744073709551615 := fun x hx =>
  (mem_endsR.1 hx).elim (bnd_flat.1 ha x) (bnd_flat.1 hb x)

def opR (kind : Int) (x y : Bool) : Bool := if kind = 2 then x && y else if kind = 1 then x && !y else x || y
/-- One round of Make. -/
def mkStep (out : List Rg) (is : Bool) (x y : Int) : List Rg :=
  if is then (match out.getLast? with
    | some q => if q.2 = x then out.dropLast ++ [(q.1, y)] else out ++ [(x, y)]
    | none => out ++ [(x, y)]) else out
theorem mkStep_last (A : List Rg) (q : Rg) (x y : Int) : mkStep (A ++ [q]) true x y = if q.2 = x then A ++ [(q.1, y)] else A ++ [q] ++ [(x, y)] := by simp [mkStep]
theorem mkStep_length (out : List Rg) (is : Bool) (x y : Int) : (mkStep out is x y).length ≤ out.length + 1 := by
  unfold mkStep
  split
  · split
    · split <;> simp <;> omega
    · simp
  · omega
structure MkInv (kind : Int) (a b : List Rg) (k : Nat) (out : List Rg) : Prop where
  neat : NeatFrom (-1) out
  low : endOf (-1) out ≤ (endsR a b).getD k 18446744073709551615
  mem : ∀ n, MemR out n ↔ n < (endsR a b).getD k 18446744073709551615 ∧ opR kind (inB a n) (inB b n) = true
  len : out.length ≤ k
theorem sorted_getD {l : List Int} (h : l.Pairwise (· < ·)) {i j : Nat} (hij : i < j) (hj : j < l.length) (d : Int) : l.getD i d < l.getD j d := by
  have := List.pairwise_iff_getElem.1 h i j (by omega) hj hij
  simpa [List.getD_eq_getElem?_getD, List.getElem?_eq_getElem hj, List.getElem?_eq_getElem (show i < l.length by omega)] using this
theorem opR_some {kind : Int} {x y : Bool} (h : opR kind x y = true) : x = true ∨ y = true := by
  unfold opR at h
  split at h
  · simp at h; exact .inl h.1
  · split at h
    · simp at h; exact .inl h.1
    · simpa using h
theorem mem_getD {l : List Int} {i : Nat} (h : i < l.length) (d : Int) : l.getD i d ∈ l := by
  simp [h]
/-- Nothing is in below the first end. -/
theorem low_endsR {a b : List Rg} {n : Int} (h : MemR a n ∨ MemR b n) : (endsR a b).getD 0 18446744073709551615 ≤ n ∧ 0 < (endsR a b).length ∧ n < (endsR a b).getD ((endsR a b).length - 1) 18446744073709551615 := by
  have key : ∀ x, x ∈ endsR a b → (endsR a b).getD 0 18446744073709551615 ≤ x ∧ x ≤ (endsR a b).getD ((endsR a b).length - 1) 18446744073709551615 := by
    intro x hx
    obtain ⟨i, hi, rfl⟩ := List.getElem_of_mem hx
    have e : (endsR a b)[i] = (endsR a b).getD i 18446744073709551615 := by simp [hi]
    rw [e]
    refine ⟨?_, ?_⟩
    · rcases Nat.eq_zero_or_pos i with rfl | h0
      · exact Int.le_refl _
      · exact Int.le_of_lt (sorted_getD (endsR_sorted a b) h0 hi _)
    · rcases Nat.lt_or_ge i ((endsR a b).length - 1) with h0 | h0
      · exact Int.le_of_lt (sorted_getD (endsR_sorted a b) h0 (by omega) _)
      · rw [show i = (endsR a b).length - 1 by omega]; exact Int.le_refl _
  have : ∃ r : Rg, (r.1 ∈ endsR a b ∧ r.2 ∈ endsR a b) ∧ r.1 ≤ n ∧ n < r.2 := by
    rcases h with ⟨r, hr, h⟩ | ⟨r, hr, h⟩
    · exact ⟨r, ⟨mem_endsR.2 (.inl (mem_flat.2 ⟨r, hr, .inl rfl⟩)), mem_endsR.2 (.inl (mem_flat.2 ⟨r, hr, .inr rfl⟩))⟩, h⟩
    · exact ⟨r, ⟨mem_endsR.2 (.inr (mem_flat.2 ⟨r, hr, .inl rfl⟩)), mem_endsR.2 (.inr (mem_flat.2 ⟨r, hr, .inr rfl⟩))⟩, h⟩
  obtain ⟨r, ⟨h1, h2⟩, h3, h4⟩ := this
  have k1 := key _ h1
  have k2 := key _ h2
  refine ⟨by omega, ?_, by omega⟩
  exact List.length_pos_of_mem h1
theorem MkInv.start (kind : Int) {a b : List Rg} (ha : Bnd a) (hb : Bnd b) : MkInv kind a b 0 [] := by
  refine ⟨trivial, ?_, fun n => ?_, by simp⟩
  · simp only [endOf]
    rcases Nat.eq_zero_or_pos (endsR a b).length with h | h
    · rw [List.length_eq_zero_iff.1 h]; simp
    · have := endsR_bnd ha hb _ (mem_getD h 18446744073709551615); omega
  · simp only [memR_nil, false_iff, not_and]
    intro h1 h2
    have h3 := opR_some h2
    rw [inB_iff, inB_iff] at h3
    have := low_endsR h3
    omega
/-- Between two ends all are alike. -/
theorem alike_endsR {a b : List Rg} {k : Nat} (hk : k + 1 < (endsR a b).length) {n : Int} (h1 : (endsR a b).getD k 18446744073709551615 ≤ n) (h2 : n < (endsR a b).getD (k + 1) 18446744073709551615) :
    inB a n = inB a ((endsR a b).getD k 18446744073709551615) ∧ inB b n = inB b ((endsR a b).getD k 18446744073709551615) := by
  have key : ∀ x, x ∈ endsR a b → x ≤ (endsR a b).getD k 18446744073709551615 ∨ (endsR a b).getD (k + 1) 18446744073709551615 ≤ x := by
    intro x hx
    obtain ⟨i, hi, rfl⟩ := List.getElem_of_mem hx
    have e : (endsR a b)[i] = (endsR a b).getD i 18446744073709551615 := by simp [hi]
    rw [e]
    rcases Nat.lt_or_ge i k with h0 | h0
    · exact .inl (Int.le_of_lt (sorted_getD (endsR_sorted a b) h0 (by omega) _))
    · rcases Nat.eq_or_lt_of_le h0 with rfl | h0
      · exact .inl (Int.le_refl _)
      · rcases Nat.eq_or_lt_of_le (show k + 1 ≤ i by omega) with rfl | h0
        · exact .inr (Int.le_refl _)
        · exact .inr (Int.le_of_lt (sorted_getD (endsR_sorted a b) h0 hi _))
  have gen : ∀ c : List Rg, (∀ x, x ∈ flat c → x ∈ endsR a b) → inB c n = inB c ((endsR a b).getD k 18446744073709551615) := by
    intro c hc
    have : MemR c n ↔ MemR c ((endsR a b).getD k 18446744073709551615) := by
      simp only [MemR]
      constructor
      · rintro ⟨r, hr, h3, h4⟩
        have k1 := key _ (hc _ (mem_flat.2 ⟨r, hr, .inl rfl⟩))
        have k2 := key _ (hc _ (mem_flat.2 ⟨r, hr, .inr rfl⟩))
        exact ⟨r, hr, by omega, by omega⟩
      · rintro ⟨r, hr, h3, h4⟩
        have k1 := key _ (hc _ (mem_flat.2 ⟨r, hr, .inl rfl⟩))
        have k2 := key _ (hc _ (mem_flat.2 ⟨r, hr, .inr rfl⟩))
        exact ⟨r, hr, by omega, by omega⟩
    rw [← inB_iff, ← inB_iff] at this
    exact Bool.eq_iff_iff.2 this
  exact ⟨gen a fun x hx => mem_endsR.2 (.inl hx), gen b fun x hx => mem_endsR.2 (.inr hx)⟩
theorem MkInv.step {kind : Int} {a b : List Rg} {k : Nat} {out : List Rg} (h : MkInv kind a b k out) (ha : Bnd a) (hb : Bnd b) (hk : k + 1 < (endsR a b).length) {x y : Int} (hx : (endsR a b).getD k 18446744073709551615 = x) (hy : (endsR a b).getD (k + 1) 18446744073709551615 = y) :
    MkInv kind a b (k + 1) (mkStep out (opR kind (inB a x) (inB b x)) x y) := by
  have hlt := sorted_getD (endsR_sorted a b) (show k < k + 1 by omega) hk 18446744073709551615
  have hal := fun n => alike_endsR (n := n) hk
  have h0 := endsR_bnd ha hb _ (mem_getD (show k < (endsR a b).length by omega) 18446744073709551615)
  obtain ⟨h1, h2, h3, h4⟩ := h
  rw [hx] at hlt h2 h3 h0
  simp only [hx] at hal
  rw [hy] at hlt
  simp only [hy] at hal
  have hlen := mkStep_length out (opR kind (inB a x) (inB b x)) x y
  cases his : opR kind (inB a x) (inB b x) with
  | false =>
    refine ⟨h1, by rw [hy]; simp only [mkStep]; simp; omega, fun n => ?_, by simp [mkStep]; omega⟩
    rw [hy]
    simp only [mkStep]
    simp only [Bool.false_eq_true, if_false, h3]
    constructor
    · rintro ⟨g1, g2⟩; exact ⟨by omega, g2⟩
    · rintro ⟨g1, g2⟩
      refine ⟨Int.not_le.1 fun g3 => ?_, g2⟩
      obtain ⟨e1, e2⟩ := hal n g3 g1
      rw [e1, e2, his] at g2
      cases g2
  | true =>
    have hmem : ∀ n, (MemR out n ∨ (x ≤ n ∧ n < y)) ↔ n < y ∧ opR kind (inB a n) (inB b n) = true := by
      intro n
      rw [h3]
      constructor
      · rintro (⟨g1, g2⟩ | ⟨g1, g2⟩)
        · exact ⟨by omega, g2⟩
        · obtain ⟨e1, e2⟩ := hal n g1 g2
          exact ⟨g2, by rw [e1, e2]; exact his⟩
      · rintro ⟨g1, g2⟩
        by_cases g3 : n < x
        · exact .inl ⟨g3, g2⟩
        · exact .inr ⟨by omega, g1⟩
    have hE : ∀ n, MemR [] n ↔ False := fun n => by simp [memR_nil]
    rw [his] at hlen
    rcases List.eq_nil_or_concat out with rfl | ⟨A, q, rfl⟩
    · have e : mkStep [] true x y = [(x, y)] := by simp [mkStep]
      rw [e]
      refine ⟨by simp only [NeatFrom, and_true]; omega, by simp only [endOf, hy]; omega, fun n => ?_, by simp⟩
      rw [hy, ← hmem, memR_cons]
      simp only [hE, false_or, or_false]
    · rw [List.concat_eq_append] at *
      have hA := (neatFrom_append A (-1) [q]).1 h1
      rw [endOf_append] at h2
      simp only [NeatFrom, and_true, endOf] at hA h2
      rw [mkStep_last]
      split
      · rename_i hq
        refine ⟨(neatFrom_append _ _ _).2 ⟨hA.1, by simp only [NeatFrom, and_true]; omega⟩, by rw [endOf_append, hy]; simp only [endOf]; omega, fun n => ?_, by simp at h4 ⊢; omega⟩
        rw [hy, ← hmem, memR_append, memR_append, memR_cons, memR_cons]
        simp only [hE, or_false]
        by_cases g : MemR A n <;> simp only [g, true_or, false_or]
        omega
      · rename_i hq
        refine ⟨(neatFrom_append _ _ _).2 ⟨h1, by rw [endOf_append]; simp only [NeatFrom, and_true, endOf]; omega⟩, by rw [endOf_append, hy]; simp only [endOf]; omega, fun n => ?_, by simpa using h4⟩
        rw [hy, ← hmem, memR_append _ [(x, y)], memR_cons]
        simp only [hE, or_false]
theorem MkInv.done {kind : Int} {a b : List Rg} {k : Nat} {out : List Rg} (h : MkInv kind a b k out) (hk : k = (endsR a b).length - 1) : IsNf (fun n => opR kind (inB a n) (inB b n) = true) out := by
  refine ⟨h.neat, fun n => (h.mem n).trans ⟨And.right, fun h1 => ⟨?_, h1⟩⟩⟩
  have h2 := opR_some h1
  rw [inB_iff, inB_iff] at h2
  have := low_endsR h2
  rw [hk]; exact this.2.2

end Go.Proofs.Ytcpjehgoeibbeaa
