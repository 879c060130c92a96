/- Scripts in plain Lean: texts of moves. -/
import Derived.Test.YthangjgdjhhfgaaDoorScL2
namespace Go.Proofs.YthangjgdjhhfgaaDoor
set_option linter.unusedVariables false
def lineL (m : Mv) : List UInt8 := (lineO m).getD []
def flatL (L : List Mv) : List UInt8 := L.flatMap fun m => lineL m ++ [10]
theorem printG_ok : ∀ (L : List Mv) (k : Nat) (acc : List UInt8), (printG L k acc).2.2 = 0 → (∀ m ∈ L, lineO m = some (lineL m)) ∧ printG L k acc = (acc ++ flatL L, 0, 0) ∧ (acc ++ flatL L).length ≤ 262144
  | [], k, acc, h => by
    rw [printG] at h ⊢
    split at h
    · simp at h
    · rename_i hl
      refine ⟨by simp, by rw [if_neg hl]; simp [flatL], by simp [flatL]; omega⟩
  | m :: r, k, acc, h => by
    rw [printG] at h ⊢
    cases hm : lineO m with
    | none => rw [hm] at h; simp at h
    | some s =>
      rw [hm] at h
      simp only at h ⊢
      obtain ⟨h1, h2, h3⟩ := printG_ok r (k + 1) _ h
      have hs : lineL m = s := by rw [lineL, hm]; rfl
      have hf : acc ++ s ++ [10] ++ flatL r = acc ++ flatL (m :: r) := by simp [flatL, hs]
      rw [hf] at h2 h3
      refine ⟨fun x hx => ?_, h2, h3⟩
      rcases List.mem_cons.1 hx with rfl | hx
      · rw [hm, hs]
      · exact h1 x hx
theorem printG_of : ∀ (L : List Mv) (k : Nat) (acc : List UInt8), (∀ m ∈ L, lineO m = some (lineL m)) → (acc ++ flatL L).length ≤ 262144 → printG L k acc = (acc ++ flatL L, 0, 0)
  | [], k, acc, _, h => by
    have h1 : acc.length ≤ 262144 := by simpa [flatL] using h
    rw [printG, if_neg (by omega)]; simp [flatL]
  | m :: r, k, acc, hm, h => by
    rw [printG, hm m (List.mem_cons_self ..)]
    simp only
    have hf : acc ++ lineL m ++ [10] ++ flatL r = acc ++ flatL (m :: r) := by simp [flatL]
    rw [printG_of r (k + 1) _ (fun x hx => hm x (List.mem_cons_of_mem _ hx)) (by rw [hf]; exact h), hf]
/-! ### Lines of a text -/
theorem pcs_line (a r : List UInt8) (h : (10 : UInt8) ∉ a) : pcs 10 (a ++ 10 :: r) = a :: pcs 10 r := by
  have h1 := takeWhile_all (c := 10) (10 :: r) h
  rw [List.takeWhile_cons, if_neg (by decide), List.append_nil] at h1
  rw [pcs, pcsA_some 10 _ _ (by simp), h1, List.nil_append]
  congr 2
  simp
theorem pcs_empty : pcs 10 [] = [[]] := rfl
theorem pcs_flat : ∀ (L : List Mv), (∀ m ∈ L, (10 : UInt8) ∉ lineL m) → pcs 10 (flatL L) = L.map lineL ++ [[]]
  | [], _ => rfl
  | m :: r, h => by
    have : flatL (m :: r) = lineL m ++ 10 :: flatL r := by simp [flatL]
    rw [this, pcs_line _ _ (h m (List.mem_cons_self ..)), pcs_flat r (fun x hx => h x (List.mem_cons_of_mem _ hx))]
    rfl
theorem wordsM_ne (m : Mv) : wordsM m ≠ [] := by simp [wordsM]
theorem line_no {m : Mv} (ok : MvOk m) (h : lineO m = some (lineL m)) (c : UInt8) (hc : c.toNat ≤ 35) (h32 : c ≠ 32) : c ∉ lineL m := by
  obtain ⟨h1, h2, _⟩ := line_back ok h
  rw [h1]
  exact joinW_no _ (wordsM_clean m h2) c hc h32
theorem textW_line {m : Mv} (ok : MvOk m) (h : lineO m = some (lineL m)) : textW (lineL m) = wordsM m := by
  obtain ⟨h1, h2, _⟩ := line_back ok h
  rw [h1]
  exact textW_join _ (wordsM_clean m h2)
theorem parse_flat : ∀ (L : List Mv) (k : Nat) (out : List Mv), (∀ m ∈ L, MvOk m ∧ lineO m = some (lineL m)) → out.length + L.length ≤ 2000 → parseLs k (L.map lineL ++ [[]]) out = (out ++ L, 0, 0)
  | [], k, out, _, _ => by
    rw [List.map_nil, List.nil_append, parseLs, if_pos (by decide), parseLs, List.append_nil]
  | m :: r, k, out, h, hl => by
    obtain ⟨ok, h1⟩ := h m (List.mem_cons_self ..)
    obtain ⟨_, _, h3⟩ := line_back ok h1
    rw [List.length_cons] at hl
    rw [List.map_cons, List.cons_append, parseLs, textW_line ok h1, if_neg (wordsM_ne m), h3]
    simp only
    rw [if_neg (by omega), parse_flat r (k + 1) (out ++ [m]) (fun x hx => h x (List.mem_cons_of_mem _ hx)) (by simp; omega)]
    simp
theorem print_parse (L : List Mv) (ok : ∀ m ∈ L, MvOk m) (h : (printS L).2.2 = 0) : parseS (printS L).1 = (L, 0, 0) ∧ (printS L).1.length ≤ 262144 ∧ (printS L).2.1 = 0 := by
  unfold printS at h ⊢
  split at h
  · simp at h
  · rename_i hl
    rw [if_neg hl]
    obtain ⟨h1, h2, h3⟩ := printG_ok L 0 [] h
    rw [h2]
    rw [List.nil_append] at h3 ⊢
    refine ⟨?_, h3, rfl⟩
    rw [parseS, pcs_flat L (fun m hm => line_no (ok m hm) (h1 m hm) 10 (by decide) (by decide)), parse_flat L 0 [] (fun m hm => ⟨ok m hm, h1 m hm⟩) (by simp; omega)]
    rfl
/-- A line between remarks and blanks. -/
def aroundS (s : List UInt8) : List UInt8 := [35, 32, 120, 10, 32, 32, 32] ++ s ++ [32, 32, 35, 32, 104, 111, 112, 10]
theorem around_parse (m : Mv) (ok : MvOk m) (s : List UInt8) (h : lineO m = some s) : parseS (aroundS s) = ([m], 0, 0) := by
  have hs : lineL m = s := by rw [lineL, h]; rfl
  have h' : lineO m = some (lineL m) := by rw [hs]; exact h
  have hno := line_no ok h' 10 (by decide) (by decide)
  obtain ⟨h1, h2, h3⟩ := line_back ok h
  have e : aroundS s = [35, 32, 120] ++ 10 :: ((32 :: 32 :: 32 :: (s ++ (32 :: 32 :: 35 :: [32, 104, 111, 112]))) ++ 10 :: []) := by simp [aroundS]
  rw [hs] at hno
  have hno2 : (10 : UInt8) ∉ (32 :: 32 :: 32 :: (s ++ (32 :: 32 :: 35 :: [32, 104, 111, 112]))) := by simp [hno]
  rw [parseS, e, pcs_line _ _ (by decide), pcs_line _ _ hno2, pcs_empty, parseLs, if_pos (by decide), parseLs]
  rw [h1, textW_around _ (wordsM_clean m h2), if_neg (wordsM_ne m), h3]
  simp only
  rw [if_neg (by simp), parseLs, if_pos (by decide), parseLs]
  rfl
/-! ### What is parsed is printed -/
theorem wds_join_len : ∀ (l acc : List UInt8), (joinW (wdsA acc l)).length ≤ acc.length + l.length
  | [], acc => by
    rw [wdsA]
    split
    · simp [joinW_nil]
    · simp [joinW_one]
  | c :: l, acc => by
    rw [wdsA]
    have h1 := wds_join_len l []
    have h2 := wds_join_len l (acc ++ [c])
    split
    · split
      · simp at h1 ⊢; omega
      · cases hw : wdsA [] l with
        | nil => simp [joinW_one]
        | cons b r =>
          rw [hw] at h1
          rw [joinW_cons]
          simp at h1 ⊢; omega
    · simp at h2 ⊢; omega
theorem textW_join_len (t : List UInt8) : (joinW (textW t)).length ≤ t.length := by
  have h1 := wds_join_len (t.takeWhile (· ≠ 35)) []
  have h2 : (t.takeWhile (· ≠ 35)).length ≤ t.length := (List.takeWhile_sublist _).length_le
  exact Nat.le_trans h1 (by simp only [List.length_nil]; omega)
def sumL : List (List UInt8) → Nat
  | [] => 0
  | t :: r => t.length + 1 + sumL r
theorem pcsA_sum (c : UInt8) : ∀ (l acc : List UInt8), sumL (pcsA c acc l) = acc.length + l.length + 1
  | [], acc => by simp [pcsA, sumL]
  | x :: l, acc => by
    rw [pcsA]
    split
    · rw [sumL, pcsA_sum c l []]; simp; omega
    · rw [pcsA_sum c l]; simp; omega
theorem oneE_err {ws : List (List UInt8)} {e : Nat} (h : oneE ws = .err e) : e ≠ 0 := by
  unfold oneE at h
  split at h
  · cases h; decide
  · split at h
    · cases h; decide
    · split at h
      · cases h
      · cases h; decide
theorem parse_lines : ∀ (ls : List (List UInt8)) (k : Nat) (out : List Mv), out.length ≤ 2000 → (parseLs k ls out).2.2 = 0 →
    ∃ L, parseLs k ls out = (out ++ L, 0, 0) ∧ (out ++ L).length ≤ 2000 ∧ (∀ m ∈ L, MvOk m ∧ lineO m = some (lineL m)) ∧ (flatL L).length ≤ sumL ls
  | [], k, out, ho, _ => ⟨[], by simp [parseLs], by simpa using ho, by simp, by simp [flatL]⟩
  | t :: r, k, out, ho, h => by
    rw [parseLs] at h ⊢
    by_cases hw : textW t = []
    · rw [if_pos hw] at h ⊢
      obtain ⟨L, h1, h2, h3, h4⟩ := parse_lines r (k + 1) out ho h
      exact ⟨L, h1, h2, h3, by rw [sumL]; omega⟩
    · rw [if_neg hw] at h ⊢
      cases he : oneE (textW t) with
      | err e =>
        rw [he] at h
        exact absurd h (oneE_err he)
      | ok m =>
        rw [he] at h
        simp only at h ⊢
        by_cases h2 : out.length = 2000
        · rw [if_pos h2] at h; simp at h
        · rw [if_neg h2] at h ⊢
          obtain ⟨L, h3, h4, h5, h6⟩ := parse_lines r (k + 1) (out ++ [m]) (by simp; omega) h
          obtain ⟨ok, hl, hm⟩ := one_back hw he
          have hs : lineL m = joinW (textW t) := by rw [lineL, hl]; rfl
          have hlen := textW_join_len t
          refine ⟨m :: L, by rw [h3]; simp, by simpa using h4, fun x hx => ?_, ?_⟩
          · rcases List.mem_cons.1 hx with rfl | hx
            · exact ⟨ok, by rw [hl, hs]⟩
            · exact h5 x hx
          · rw [sumL]
            have : flatL (m :: L) = lineL m ++ 10 :: flatL L := by simp [flatL]
            rw [this, hs]
            simp only [List.length_append, List.length_cons]
            omega
theorem parse_print (s : List UInt8) (hs : s.length ≤ 200000) (h : (parseS s).2.2 = 0) : (∀ m ∈ (parseS s).1, MvOk m) ∧ printS (parseS s).1 = (flatL (parseS s).1, 0, 0) ∧ parseS (flatL (parseS s).1) = ((parseS s).1, 0, 0) ∧ (flatL (parseS s).1).length ≤ 200001 := by
  obtain ⟨L, h1, h2, h3, h4⟩ := parse_lines (pcs 10 s) 0 [] (by simp) h
  rw [List.nil_append] at h1 h2
  have e : parseS s = (L, 0, 0) := h1
  have h5 := pcsA_sum 10 s []
  rw [show pcsA 10 [] s = pcs 10 s from rfl] at h5
  simp only [List.length_nil] at h5
  rw [e]
  have hp : printS L = (flatL L, 0, 0) := by
    rw [printS, if_neg (by omega), printG_of L 0 [] (fun m hm => (h3 m hm).2) (by rw [List.nil_append]; omega), List.nil_append]
  have hpp := print_parse L (fun m hm => (h3 m hm).1) (by rw [hp])
  rw [hp] at hpp
  exact ⟨fun m hm => (h3 m hm).1, hp, hpp.1, by show (flatL L).length ≤ 200001; omega⟩
/-- What is refused has no moves. -/
theorem parse_none : ∀ (ls : List (List UInt8)) (k : Nat) (out : List Mv), (parseLs k ls out).2.2 ≠ 0 → (parseLs k ls out).1 = []
  | [], k, out, h => absurd rfl h
  | t :: r, k, out, h => by
    rw [parseLs] at h ⊢
    by_cases hw : textW t = []
    · rw [if_pos hw] at h ⊢
      exact parse_none r (k + 1) out h
    · rw [if_neg hw] at h ⊢
      cases he : oneE (textW t) with
      | err e => rfl
      | ok m =>
        rw [he] at h
        simp only at h ⊢
        by_cases h2 : out.length = 2000
        · rw [if_pos h2]
        · rw [if_neg h2] at h ⊢
          exact parse_none r (k + 1) _ h
end Go.Proofs.YthangjgdjhhfgaaDoor
