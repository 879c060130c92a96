/- Scripts in plain Lean: what is printed. -/
import Derived.Test.YthangjgdjhhfgaaGreatDoorScP3
namespace Go.Proofs.YthangjgdjhhfgaaGreatDoor
set_option linter.unusedVariables false
def fieldS (c : UInt8) (m : Mv) : List UInt8 :=
  if c = 115 then dig m.side
  else if c = 110 then wholeS m.n
  else if c = 105 then dig m.id
  else if c = 99 then dig m.code
  else if c = 98 then hexS m.b
  else dig m.from_ ++ (32 :: (dig m.to_ ++ (32 :: hexS m.d)))
def clearM (c : UInt8) (m : Mv) : Mv :=
  if c = 115 then { m with side := 0 }
  else if c = 110 then { m with n := 0 }
  else if c = 105 then { m with id := 0 }
  else if c = 99 then { m with code := 0 }
  else if c = 98 then { m with b := [] }
  else { m with from_ := 0, to_ := 0, d := [] }
def putL : List UInt8 → Mv → List (List UInt8)
  | [], _ => []
  | c :: r, m => fieldS c m :: putL r (clearM c m)
def restM : List UInt8 → Mv → Mv
  | [], m => m
  | c :: r, m => restM r (clearM c m)
def bareM (m : Mv) : Bool := decide (m.side = 0) && decide (m.n = 0) && decide (m.id = 0) && decide (m.code = 0) && decide (m.b.length + m.d.length = 0) && decide (m.from_ = 0) && decide (m.to_ = 0)
def joinW (ws : List (List UInt8)) : List UInt8 := [32].intercalate ws
def lineO (m : Mv) : Option (List UInt8) := if isK m.kind && bareM (restM (letK m.kind) m) then some (joinW (wordK m.kind :: putL (letK m.kind) m)) else none
def printG : List Mv → Nat → List UInt8 → List UInt8 × Nat × Nat
  | [], _, acc => if acc.length > 262144 then ([], 0, 3) else (acc, 0, 0)
  | m :: r, k, acc => match lineO m with
    | none => ([], k, 2)
    | some s => printG r (k + 1) (acc ++ s ++ [10])
def printS (L : List Mv) : List UInt8 × Nat × Nat := if L.length > 2000 then ([], 0, 3) else printG L 0 []
/-- The values' bounds. -/
structure MvOk (m : Mv) : Prop where
  kind : m.kind ≤ 255
  side : m.side ≤ 255
  n0 : -9223372036854775808 ≤ m.n
  n1 : m.n ≤ 9223372036854775807
  id : m.id ≤ M64
  code : m.code ≤ M64
  from_ : m.from_ ≤ 4294967295
  to_ : m.to_ ≤ 4294967295
/-! ### Words -/
theorem joinW_nil : joinW [] = [] := rfl
theorem joinW_one (a : List UInt8) : joinW [a] = a := by simp [joinW, List.intercalate]
theorem joinW_cons (a b : List UInt8) (r : List (List UInt8)) : joinW (a :: b :: r) = a ++ 32 :: joinW (b :: r) := by simp [joinW, List.intercalate, List.intersperse]
theorem joinW_app (a : List UInt8) (b : List UInt8) (r : List (List UInt8)) : ∀ (l : List (List UInt8)), joinW (l ++ (joinW (a :: b :: r)) :: []) = joinW (l ++ a :: b :: r)
  | [] => by simp [joinW_one]
  | [x] => by simp only [List.cons_append, List.nil_append, joinW_cons, joinW_one]
  | x :: y :: l => by
    have := joinW_app a b r (y :: l)
    simp only [List.cons_append] at this ⊢
    rw [joinW_cons x y, joinW_cons x y, this]
/-- A word: not empty, and of letters behind '#'. -/
def CW (w : List UInt8) : Prop := w ≠ [] ∧ ∀ x ∈ w, 35 < x.toNat
theorem wdsA_word (w acc l : List UInt8) (h : ∀ x ∈ w, 35 < x.toNat) : wdsA acc (w ++ l) = wdsA (acc ++ w) l :=
  wdsA_run w acc l (fun x hx e => by have := h x hx; rw [e] at this; simp at this)
theorem wdsA_blank (l : List UInt8) : wdsA [] (32 :: l) = wdsA [] l := by rw [wdsA, if_pos rfl, if_pos rfl]
theorem wdsA_join : ∀ (ws : List (List UInt8)) (t : List UInt8), (∀ w ∈ ws, CW w) → (t = [] ∨ t.head? = some 32) → wdsA [] (joinW ws ++ t) = ws ++ wdsA [] t
  | [], t, _, _ => rfl
  | [a], t, h, ht => by
    obtain ⟨h1, h2⟩ := h a (List.mem_cons_self ..)
    rw [joinW_one, wdsA_word a [] t h2, List.nil_append]
    rcases ht with rfl | ht
    · rw [wdsA_end h1]; rfl
    · cases t with
      | nil => cases ht
      | cons c t =>
        simp at ht; subst ht
        rw [wdsA_sp h1, wdsA_blank]; rfl
  | a :: b :: r, t, h, ht => by
    obtain ⟨h1, h2⟩ := h a (List.mem_cons_self ..)
    rw [joinW_cons, List.append_assoc, wdsA_word a [] _ h2, List.nil_append, List.cons_append, wdsA_sp h1, wdsA_join (b :: r) t (fun w hw => h w (List.mem_cons_of_mem _ hw)) ht]
    rfl
theorem joinW_mem : ∀ (ws : List (List UInt8)) (x : UInt8), x ∈ joinW ws → x = 32 ∨ ∃ w ∈ ws, x ∈ w
  | [], x, h => by simp [joinW_nil] at h
  | [a], x, h => by rw [joinW_one] at h; exact .inr ⟨a, List.mem_cons_self .., h⟩
  | a :: b :: r, x, h => by
    rw [joinW_cons] at h
    rcases List.mem_append.1 h with h | h
    · exact .inr ⟨a, List.mem_cons_self .., h⟩
    · rcases List.mem_cons.1 h with h | h
      · exact .inl h
      · rcases joinW_mem (b :: r) x h with h | ⟨w, hw, hx⟩
        · exact .inl h
        · exact .inr ⟨w, List.mem_cons_of_mem _ hw, hx⟩
theorem joinW_no (ws : List (List UInt8)) (h : ∀ w ∈ ws, CW w) (c : UInt8) (hc : c.toNat ≤ 35) (h32 : c ≠ 32) : c ∉ joinW ws := fun hm => by
  rcases joinW_mem ws c hm with h1 | ⟨w, hw, hx⟩
  · exact h32 h1
  · have := (h w hw).2 c hx; omega
theorem takeWhile_all {c : UInt8} : ∀ {l : List UInt8} (t : List UInt8), c ∉ l → (l ++ t).takeWhile (· ≠ c) = l ++ t.takeWhile (· ≠ c)
  | [], t, _ => rfl
  | a :: l, t, h => by
    have ha : a ≠ c := fun e => h (by rw [e]; exact List.mem_cons_self ..)
    rw [List.cons_append, List.takeWhile_cons, if_pos (by simpa using ha), takeWhile_all t (fun hm => h (List.mem_cons_of_mem _ hm)), List.cons_append]
theorem textW_join (ws : List (List UInt8)) (h : ∀ w ∈ ws, CW w) : textW (joinW ws) = ws := by
  have h1 := takeWhile_all (c := 35) [] (joinW_no ws h 35 (by decide) (by decide))
  rw [List.append_nil, List.takeWhile_nil, List.append_nil] at h1
  have h2 := wdsA_join ws [] h (.inl rfl)
  rw [List.append_nil] at h2
  rw [textW, h1, wds, h2]
  simp [wdsA]
/-- Blanks before it, blanks and a remark behind it make no difference. -/
theorem textW_around (ws : List (List UInt8)) (h : ∀ w ∈ ws, CW w) (r : List UInt8) : textW (32 :: 32 :: 32 :: (joinW ws ++ (32 :: 32 :: 35 :: r))) = ws := by
  have h1 := takeWhile_all (c := 35) (32 :: 32 :: 35 :: r) (joinW_no ws h 35 (by decide) (by decide))
  have h3 : (32 :: 32 :: 35 :: r).takeWhile (· ≠ (35 : UInt8)) = [32, 32] := by simp
  have h2 := wdsA_join ws [32, 32] h (.inr rfl)
  rw [textW, List.takeWhile_cons, if_pos (by decide), List.takeWhile_cons, if_pos (by decide), List.takeWhile_cons, if_pos (by decide), h1, h3, wds, wdsA_blank, wdsA_blank, wdsA_blank, h2]
  simp [wdsA]
/-! ### Numbers' words -/
theorem dig_clean (n : Nat) : CW (dig n) := by
  refine ⟨dig_ne n, fun x hx => ?_⟩
  have key : ∀ (k n : Nat), ∀ x ∈ digF k n, 35 < x.toNat := by
    intro k
    induction k with
    | zero => intro n x hx; simp [digF] at hx; subst hx; rw [dg1_nat]; omega
    | succ k ih =>
      intro n x hx
      rw [digF] at hx
      split at hx
      · simp at hx; subst hx; rw [dg1_nat]; omega
      · rcases List.mem_append.1 hx with hx | hx
        · exact ih _ _ hx
        · simp at hx; subst hx; rw [dg1_nat]; omega
  exact key _ _ x hx
theorem wholeS_clean (n : Int) : CW (wholeS n) := by
  unfold wholeS
  split
  · refine ⟨by simp, fun x hx => ?_⟩
    rcases List.mem_cons.1 hx with rfl | hx
    · decide
    · exact (dig_clean _).2 x hx
  · exact dig_clean _
theorem hexT_clean : ∀ k, k < 16 → 35 < (hexT.getD k 0).toNat := by decide
theorem hexD_mem {b : List UInt8} {x : UInt8} (h : x ∈ b.flatMap hexD) : ∃ k, k < 16 ∧ x = hexT.getD k 0 := by
  obtain ⟨c, _, hc⟩ := List.mem_flatMap.1 h
  have hl := c.toNat_lt
  simp only [hexD, List.mem_cons, List.not_mem_nil, or_false] at hc
  rcases hc with rfl | rfl
  · exact ⟨_, by omega, rfl⟩
  · exact ⟨_, by omega, rfl⟩
theorem hexS_clean (b : List UInt8) : CW (hexS b) := by
  unfold hexS
  split
  · exact ⟨by decide, by decide⟩
  · rename_i h
    refine ⟨fun e => h ?_, fun x hx => ?_⟩
    · cases b with
      | nil => rfl
      | cons c b => simp [hexD] at e
    · obtain ⟨k, hk, rfl⟩ := hexD_mem hx
      exact hexT_clean k hk
theorem wordK_clean : ∀ k, k < 27 → 1 ≤ k → CW (wordK k) := by
  have : ∀ k, k < 27 → 1 ≤ k → wordK k ≠ [] ∧ (wordK k).all (fun x => decide (35 < x.toNat)) = true := by decide
  intro k h1 h2
  obtain ⟨h3, h4⟩ := this k h1 h2
  exact ⟨h3, fun x hx => by simpa using List.all_eq_true.1 h4 x hx⟩
theorem hv_T : ∀ k, k < 16 → hv (hexT.getD k 0) = some k := by decide
theorem hexP_D : ∀ b : List UInt8, hexP (b.flatMap hexD) = some b
  | [] => rfl
  | c :: b => by
    have hl := c.toNat_lt
    rw [List.flatMap_cons, hexD, List.cons_append, List.cons_append, List.nil_append, hexP, hv_T _ (by omega), hv_T _ (by omega), hexP_D b]
    simp only [Option.some.injEq, List.cons.injEq, and_true]
    apply UInt8.toNat_inj.1
    rw [UInt8.toNat_ofNat']
    omega
theorem unhex_S (b : List UInt8) : unhexO (hexS b) = some b := by
  unfold hexS unhexO
  by_cases h : b = []
  · rw [if_pos h, if_pos rfl, h]
  · rw [if_neg h]
    have h2 : b.flatMap hexD ≠ [45] := fun e => by
      have := congrArg List.length e
      have h3 : ∀ L : List UInt8, (L.flatMap hexD).length = 2 * L.length := fun L => by
        induction L with
        | nil => rfl
        | cons c L ih => simp only [List.flatMap_cons, List.length_append, ih, List.length_cons, hexD, List.length_nil]; omega
      rw [h3] at this
      simp at this
      omega
    have h3 : b.flatMap hexD ≠ [] := fun e => h (by
      cases b with
      | nil => rfl
      | cons c b => simp [hexD] at e)
    rw [if_neg h2, if_neg h3, hexP_D]
theorem int_S (n : Int) (h0 : -9223372036854775808 ≤ n) (h1 : n ≤ 9223372036854775807) : intO (wholeS n) = some n := by
  unfold wholeS intO
  by_cases h : n < 0
  · rw [if_pos h, if_pos (show (45 :: dig n.natAbs).head? = some 45 from rfl), List.tail_cons, numM_dig (by decide) (by decide) (by omega)]
    simp only
    rw [if_pos (by omega)]
    congr 1
    omega
  · rw [if_neg h, if_neg (dig_noMinus _), numM_dig (by decide) (by decide) (by omega), Option.map_some]
    congr 1
    omega
/-! ### From the words back -/
theorem numM_back {M n : Nat} {w : List UInt8} (h9 : 9 ≤ M) (hM : M ≤ M64) (h : numM M w = some n) : w = dig n ∧ n ≤ M := by
  have h1 := (numM_iff M h9 hM w n).1 h
  have h2 := (parseMM_iff M hM w 0 n (by omega)).1 h1.1.2
  exact ⟨h1.2.symm, h2.2.2⟩
theorem int_back {n : Int} {w : List UInt8} (h : intO w = some n) : w = wholeS n ∧ -9223372036854775808 ≤ n ∧ n ≤ 9223372036854775807 := by
  refine ⟨((int_iff w n).1 h).2.symm, ?_⟩
  unfold intO at h
  split at h
  · split at h
    · rename_i m hm
      have := (numM_back (by decide) (by decide) hm).2
      split at h
      · cases h; omega
      · cases h
    · cases h
  · cases hm : numM 9223372036854775807 w with
    | none => rw [hm] at h; cases h
    | some m =>
      rw [hm] at h
      have := (numM_back (by decide) (by decide) hm).2
      simp only [Option.map_some, Option.some.injEq] at h
      omega
set_option maxRecDepth 20000 in
theorem hv_back {c : UInt8} {k : Nat} (h : hv c = some k) : k < 16 ∧ hexT.getD k 0 = c := by
  have key : ∀ i : Fin 256, (match hv (UInt8.ofNat i.val) with | some j => decide (j < 16) && (hexT.getD j 0 == UInt8.ofNat i.val) | none => true) = true := by decide
  have h1 := key ⟨c.toNat, c.toNat_lt⟩
  simp only [UInt8.ofNat_toNat] at h1
  rw [h] at h1
  simpa using h1
theorem hexP_back : ∀ (w b : List UInt8), hexP w = some b → w = b.flatMap hexD
  | [], b, h => by cases h; rfl
  | [_], b, h => by cases h
  | x :: y :: r, b, h => by
    rw [hexP] at h
    cases hx : hv x with
    | none => rw [hx] at h; cases h
    | some i =>
      cases hy : hv y with
      | none => rw [hx, hy] at h; cases h
      | some j =>
        cases hr : hexP r with
        | none => rw [hx, hy, hr] at h; cases h
        | some t =>
          rw [hx, hy, hr] at h
          cases h
          obtain ⟨hi, hi2⟩ := hv_back hx
          obtain ⟨hj, hj2⟩ := hv_back hy
          have e : (UInt8.ofNat (i * 16 + j)).toNat = i * 16 + j := by rw [UInt8.toNat_ofNat']; omega
          rw [List.flatMap_cons, hexD, e, show (i * 16 + j) / 16 = i by omega, show (i * 16 + j) % 16 = j by omega, hi2, hj2, ← hexP_back r t hr]
          rfl
theorem unhex_back {w b : List UInt8} (h : unhexO w = some b) : w = hexS b := by
  unfold unhexO at h
  split at h
  · rename_i hw; cases h; exact hw
  · split at h
    · cases h
    · rename_i h1 h2
      have := hexP_back w b h
      unfold hexS
      rw [if_neg, this]
      rintro rfl
      exact h2 this
end Go.Proofs.YthangjgdjhhfgaaGreatDoor
