/- Scripts in plain Lean: what is printed is parsed as it was, and back (written by gen_scl2.py). -/
import Derived.Test.YthangjgdjhhfgaaDoorScL1
namespace Go.Proofs.YthangjgdjhhfgaaDoor
set_option linter.unusedVariables false
def fwords (c : UInt8) (m : Mv) : List (List UInt8) := if c = 100 then [dig m.from_, dig m.to_, hexS m.d] else [fieldS c m]
def wordsM (m : Mv) : List (List UInt8) := wordK m.kind :: (letK m.kind).flatMap fun c => fwords c m
def lets : List (List UInt8) := [[], [115, 110], [115, 105, 98], [115, 105], [115, 105, 99], [115, 105, 110], [115], [115, 99, 98], [110], [110, 99], [100]]
theorem let_mem : ∀ k, k < 27 → 1 ≤ k → letK k ∈ lets := by decide
theorem put_words (l : List UInt8) (hl : l ∈ lets) (w : List UInt8) (m : Mv) :
    joinW (w :: putL l m) = joinW (w :: l.flatMap fun c => fwords c m) := by
  simp only [lets, List.mem_cons, List.not_mem_nil, or_false] at hl
  rcases hl with rfl | rfl | rfl | rfl | rfl | rfl | rfl | rfl | rfl | rfl | rfl <;> simp [putL, fieldS, clearM, fwords, joinW_cons, joinW_one]
theorem run_words (l : List UInt8) (hl : l ∈ lets) (m : Mv) (ok : MvOk m) (h : bareM (restM l m) = true) :
    runL l (l.flatMap fun c => fwords c m) (some (mv0 m.kind)) = some m := by
  have n1 := numM_dig (M := 255) (by decide) (by decide) ok.side
  have n2 := int_S m.n ok.n0 ok.n1
  have n3 := numM_dig (M := M64) (by decide) (by decide) ok.id
  have n4 := numM_dig (M := M64) (by decide) (by decide) ok.code
  have n5 := numM_dig (M := 4294967295) (by decide) (by decide) ok.from_
  have n6 := numM_dig (M := 4294967295) (by decide) (by decide) ok.to_
  have n7 := unhex_S m.b
  have n8 := unhex_S m.d
  clear ok
  obtain ⟨kind, side, n, id, code, b, from_, to_, d⟩ := m
  simp only at n1 n2 n3 n4 n5 n6 n7 n8
  simp only [lets, List.mem_cons, List.not_mem_nil, or_false] at hl
  rcases hl with rfl | rfl | rfl | rfl | rfl | rfl | rfl | rfl | rfl | rfl | rfl <;> simp [restM, clearM, bareM] at h <;> simp_all [runL, setO, fwords, fieldS, cntL, mv0]
  obtain ⟨⟨⟨⟨⟨⟨h1, h2⟩, h3⟩, h4⟩, _⟩, h5⟩, h6⟩ := h
  exact ⟨(of_decide_eq_true h1).symm, (of_decide_eq_true h2).symm, (of_decide_eq_true h3).symm, (of_decide_eq_true h4).symm, (of_decide_eq_true h5).symm, (of_decide_eq_true h6).symm⟩
theorem run_back_none (k : Nat) (hk : k ≤ 255) (ws : List (List UInt8)) (hw : ws.length = 0) (m : Mv) (h : runL [] ws (some (mv0 k)) = some m) :
    m.kind = k ∧ MvOk m ∧ bareM (restM [] m) = true ∧ ws = ([] : List UInt8).flatMap fun c => fwords c m := by
  obtain rfl : ws = [] := List.length_eq_zero_iff.1 hw
  simp [runL, mv0] at h
  subst h
  exact ⟨rfl, ⟨hk, by simp, by simp, by simp, by simp, by simp, by simp, by simp⟩, by simp [restM, bareM], by simp [fwords, fieldS]⟩
theorem run_back_sn (k : Nat) (hk : k ≤ 255) (ws : List (List UInt8)) (hw : ws.length = 2) (m : Mv) (h : runL [115, 110] ws (some (mv0 k)) = some m) :
    m.kind = k ∧ MvOk m ∧ bareM (restM [115, 110] m) = true ∧ ws = ([115, 110] : List UInt8).flatMap fun c => fwords c m := by
  obtain ⟨w0, w1, rfl⟩ : ∃ w0 w1, ws = [w0, w1] := by
    match ws, hw with
    | [w0, w1], _ => exact ⟨w0, w1, rfl⟩
  cases h0 : numM 255 w0 with
  | none => simp [runL, setO, cntL, h0] at h
  | some x0 =>
    cases h1 : intO w1 with
    | none => simp [runL, setO, cntL, h0, h1] at h
    | some x1 =>
      simp [runL, setO, cntL, mv0, h0, h1] at h
      subst h
      obtain ⟨e0, b0⟩ := numM_back (by decide) (by decide) h0
      obtain ⟨e1, b1, c1⟩ := int_back h1
      exact ⟨rfl, ⟨hk, b0, b1, c1, by simp, by simp, by simp, by simp⟩, by simp [restM, clearM, bareM], by simp [fwords, fieldS, e0, e1]⟩
theorem run_back_sib (k : Nat) (hk : k ≤ 255) (ws : List (List UInt8)) (hw : ws.length = 3) (m : Mv) (h : runL [115, 105, 98] ws (some (mv0 k)) = some m) :
    m.kind = k ∧ MvOk m ∧ bareM (restM [115, 105, 98] m) = true ∧ ws = ([115, 105, 98] : List UInt8).flatMap fun c => fwords c m := by
  obtain ⟨w0, w1, w2, rfl⟩ : ∃ w0 w1 w2, ws = [w0, w1, w2] := by
    match ws, hw with
    | [w0, w1, w2], _ => exact ⟨w0, w1, w2, rfl⟩
  cases h0 : numM 255 w0 with
  | none => simp [runL, setO, cntL, h0] at h
  | some x0 =>
    cases h1 : numM M64 w1 with
    | none => simp [runL, setO, cntL, h0, h1] at h
    | some x1 =>
      cases h2 : unhexO w2 with
      | none => simp [runL, setO, cntL, h0, h1, h2] at h
      | some x2 =>
        simp [runL, setO, cntL, mv0, h0, h1, h2] at h
        subst h
        obtain ⟨e0, b0⟩ := numM_back (by decide) (by decide) h0
        obtain ⟨e1, b1⟩ := numM_back (by decide) (by decide) h1
        have e2 := unhex_back h2
        exact ⟨rfl, ⟨hk, b0, by simp, by simp, b1, by simp, by simp, by simp⟩, by simp [restM, clearM, bareM], by simp [fwords, fieldS, e0, e1, e2]⟩
theorem run_back_si (k : Nat) (hk : k ≤ 255) (ws : List (List UInt8)) (hw : ws.length = 2) (m : Mv) (h : runL [115, 105] ws (some (mv0 k)) = some m) :
    m.kind = k ∧ MvOk m ∧ bareM (restM [115, 105] m) = true ∧ ws = ([115, 105] : List UInt8).flatMap fun c => fwords c m := by
  obtain ⟨w0, w1, rfl⟩ : ∃ w0 w1, ws = [w0, w1] := by
    match ws, hw with
    | [w0, w1], _ => exact ⟨w0, w1, rfl⟩
  cases h0 : numM 255 w0 with
  | none => simp [runL, setO, cntL, h0] at h
  | some x0 =>
    cases h1 : numM M64 w1 with
    | none => simp [runL, setO, cntL, h0, h1] at h
    | some x1 =>
      simp [runL, setO, cntL, mv0, h0, h1] at h
      subst h
      obtain ⟨e0, b0⟩ := numM_back (by decide) (by decide) h0
      obtain ⟨e1, b1⟩ := numM_back (by decide) (by decide) h1
      exact ⟨rfl, ⟨hk, b0, by simp, by simp, b1, by simp, by simp, by simp⟩, by simp [restM, clearM, bareM], by simp [fwords, fieldS, e0, e1]⟩
theorem run_back_sic (k : Nat) (hk : k ≤ 255) (ws : List (List UInt8)) (hw : ws.length = 3) (m : Mv) (h : runL [115, 105, 99] ws (some (mv0 k)) = some m) :
    m.kind = k ∧ MvOk m ∧ bareM (restM [115, 105, 99] m) = true ∧ ws = ([115, 105, 99] : List UInt8).flatMap fun c => fwords c m := by
  obtain ⟨w0, w1, w2, rfl⟩ : ∃ w0 w1 w2, ws = [w0, w1, w2] := by
    match ws, hw with
    | [w0, w1, w2], _ => exact ⟨w0, w1, w2, rfl⟩
  cases h0 : numM 255 w0 with
  | none => simp [runL, setO, cntL, h0] at h
  | some x0 =>
    cases h1 : numM M64 w1 with
    | none => simp [runL, setO, cntL, h0, h1] at h
    | some x1 =>
      cases h2 : numM M64 w2 with
      | none => simp [runL, setO, cntL, h0, h1, h2] at h
      | some x2 =>
        simp [runL, setO, cntL, mv0, h0, h1, h2] at h
        subst h
        obtain ⟨e0, b0⟩ := numM_back (by decide) (by decide) h0
        obtain ⟨e1, b1⟩ := numM_back (by decide) (by decide) h1
        obtain ⟨e2, b2⟩ := numM_back (by decide) (by decide) h2
        exact ⟨rfl, ⟨hk, b0, by simp, by simp, b1, b2, by simp, by simp⟩, by simp [restM, clearM, bareM], by simp [fwords, fieldS, e0, e1, e2]⟩
theorem run_back_sin (k : Nat) (hk : k ≤ 255) (ws : List (List UInt8)) (hw : ws.length = 3) (m : Mv) (h : runL [115, 105, 110] ws (some (mv0 k)) = some m) :
    m.kind = k ∧ MvOk m ∧ bareM (restM [115, 105, 110] m) = true ∧ ws = ([115, 105, 110] : List UInt8).flatMap fun c => fwords c m := by
  obtain ⟨w0, w1, w2, rfl⟩ : ∃ w0 w1 w2, ws = [w0, w1, w2] := by
    match ws, hw with
    | [w0, w1, w2], _ => exact ⟨w0, w1, w2, rfl⟩
  cases h0 : numM 255 w0 with
  | none => simp [runL, setO, cntL, h0] at h
  | some x0 =>
    cases h1 : numM M64 w1 with
    | none => simp [runL, setO, cntL, h0, h1] at h
    | some x1 =>
      cases h2 : intO w2 with
      | none => simp [runL, setO, cntL, h0, h1, h2] at h
      | some x2 =>
        simp [runL, setO, cntL, mv0, h0, h1, h2] at h
        subst h
        obtain ⟨e0, b0⟩ := numM_back (by decide) (by decide) h0
        obtain ⟨e1, b1⟩ := numM_back (by decide) (by decide) h1
        obtain ⟨e2, b2, c2⟩ := int_back h2
        exact ⟨rfl, ⟨hk, b0, b2, c2, b1, by simp, by simp, by simp⟩, by simp [restM, clearM, bareM], by simp [fwords, fieldS, e0, e1, e2]⟩
theorem run_back_s (k : Nat) (hk : k ≤ 255) (ws : List (List UInt8)) (hw : ws.length = 1) (m : Mv) (h : runL [115] ws (some (mv0 k)) = some m) :
    m.kind = k ∧ MvOk m ∧ bareM (restM [115] m) = true ∧ ws = ([115] : List UInt8).flatMap fun c => fwords c m := by
  obtain ⟨w0, rfl⟩ : ∃ w0, ws = [w0] := by
    match ws, hw with
    | [w0], _ => exact ⟨w0, rfl⟩
  cases h0 : numM 255 w0 with
  | none => simp [runL, setO, h0] at h
  | some x0 =>
    simp [runL, setO, mv0, h0] at h
    subst h
    obtain ⟨e0, b0⟩ := numM_back (by decide) (by decide) h0
    exact ⟨rfl, ⟨hk, b0, by simp, by simp, by simp, by simp, by simp, by simp⟩, by simp [restM, clearM, bareM], by simp [fwords, fieldS, e0]⟩
theorem run_back_scb (k : Nat) (hk : k ≤ 255) (ws : List (List UInt8)) (hw : ws.length = 3) (m : Mv) (h : runL [115, 99, 98] ws (some (mv0 k)) = some m) :
    m.kind = k ∧ MvOk m ∧ bareM (restM [115, 99, 98] m) = true ∧ ws = ([115, 99, 98] : List UInt8).flatMap fun c => fwords c m := by
  obtain ⟨w0, w1, w2, rfl⟩ : ∃ w0 w1 w2, ws = [w0, w1, w2] := by
    match ws, hw with
    | [w0, w1, w2], _ => exact ⟨w0, w1, w2, rfl⟩
  cases h0 : numM 255 w0 with
  | none => simp [runL, setO, cntL, h0] at h
  | some x0 =>
    cases h1 : numM M64 w1 with
    | none => simp [runL, setO, cntL, h0, h1] at h
    | some x1 =>
      cases h2 : unhexO w2 with
      | none => simp [runL, setO, cntL, h0, h1, h2] at h
      | some x2 =>
        simp [runL, setO, cntL, mv0, h0, h1, h2] at h
        subst h
        obtain ⟨e0, b0⟩ := numM_back (by decide) (by decide) h0
        obtain ⟨e1, b1⟩ := numM_back (by decide) (by decide) h1
        have e2 := unhex_back h2
        exact ⟨rfl, ⟨hk, b0, by simp, by simp, by simp, b1, by simp, by simp⟩, by simp [restM, clearM, bareM], by simp [fwords, fieldS, e0, e1, e2]⟩
theorem run_back_n (k : Nat) (hk : k ≤ 255) (ws : List (List UInt8)) (hw : ws.length = 1) (m : Mv) (h : runL [110] ws (some (mv0 k)) = some m) :
    m.kind = k ∧ MvOk m ∧ bareM (restM [110] m) = true ∧ ws = ([110] : List UInt8).flatMap fun c => fwords c m := by
  obtain ⟨w0, rfl⟩ : ∃ w0, ws = [w0] := by
    match ws, hw with
    | [w0], _ => exact ⟨w0, rfl⟩
  cases h0 : intO w0 with
  | none => simp [runL, setO, h0] at h
  | some x0 =>
    simp [runL, setO, mv0, h0] at h
    subst h
    obtain ⟨e0, b0, c0⟩ := int_back h0
    exact ⟨rfl, ⟨hk, by simp, b0, c0, by simp, by simp, by simp, by simp⟩, by simp [restM, clearM, bareM], by simp [fwords, fieldS, e0]⟩
theorem run_back_nc (k : Nat) (hk : k ≤ 255) (ws : List (List UInt8)) (hw : ws.length = 2) (m : Mv) (h : runL [110, 99] ws (some (mv0 k)) = some m) :
    m.kind = k ∧ MvOk m ∧ bareM (restM [110, 99] m) = true ∧ ws = ([110, 99] : List UInt8).flatMap fun c => fwords c m := by
  obtain ⟨w0, w1, rfl⟩ : ∃ w0 w1, ws = [w0, w1] := by
    match ws, hw with
    | [w0, w1], _ => exact ⟨w0, w1, rfl⟩
  cases h0 : intO w0 with
  | none => simp [runL, setO, cntL, h0] at h
  | some x0 =>
    cases h1 : numM M64 w1 with
    | none => simp [runL, setO, cntL, h0, h1] at h
    | some x1 =>
      simp [runL, setO, cntL, mv0, h0, h1] at h
      subst h
      obtain ⟨e0, b0, c0⟩ := int_back h0
      obtain ⟨e1, b1⟩ := numM_back (by decide) (by decide) h1
      exact ⟨rfl, ⟨hk, by simp, b0, c0, by simp, b1, by simp, by simp⟩, by simp [restM, clearM, bareM], by simp [fwords, fieldS, e0, e1]⟩
theorem run_back_d (k : Nat) (hk : k ≤ 255) (ws : List (List UInt8)) (hw : ws.length = 3) (m : Mv) (h : runL [100] ws (some (mv0 k)) = some m) :
    m.kind = k ∧ MvOk m ∧ bareM (restM [100] m) = true ∧ ws = ([100] : List UInt8).flatMap fun c => fwords c m := by
  obtain ⟨w0, w1, w2, rfl⟩ : ∃ w0 w1 w2, ws = [w0, w1, w2] := by
    match ws, hw with
    | [w0, w1, w2], _ => exact ⟨w0, w1, w2, rfl⟩
  cases h0 : numM 4294967295 w0 with
  | none => simp [runL, setO, h0] at h
  | some x0 =>
    cases h1 : numM 4294967295 w1 with
    | none => simp [runL, setO, h0, h1] at h
    | some x1 =>
      cases h2 : unhexO w2 with
      | none => simp [runL, setO, h0, h1, h2] at h
      | some x2 =>
        simp [runL, setO, mv0, h0, h1, h2] at h
        subst h
        obtain ⟨e0, b0⟩ := numM_back (by decide) (by decide) h0
        obtain ⟨e1, b1⟩ := numM_back (by decide) (by decide) h1
        have e2 := unhex_back h2
        exact ⟨rfl, ⟨hk, by simp, by simp, by simp, by simp, by simp, b0, b1⟩, by simp [restM, clearM, bareM], by simp [fwords, fieldS, e0, e1, e2]⟩
theorem run_back (l : List UInt8) (hl : l ∈ lets) (k : Nat) (hk : k ≤ 255) (ws : List (List UInt8)) (hw : 1 + ws.length = manyL l) (m : Mv) (h : runL l ws (some (mv0 k)) = some m) :
    m.kind = k ∧ MvOk m ∧ bareM (restM l m) = true ∧ ws = l.flatMap fun c => fwords c m := by
  simp only [lets, List.mem_cons, List.not_mem_nil, or_false] at hl
  rcases hl with rfl | rfl | rfl | rfl | rfl | rfl | rfl | rfl | rfl | rfl | rfl
  · exact run_back_none k hk ws (Nat.add_left_cancel (hw.trans (show manyL [] = 1 + 0 by decide))) m h
  · exact run_back_sn k hk ws (Nat.add_left_cancel (hw.trans (show manyL [115, 110] = 1 + 2 by decide))) m h
  · exact run_back_sib k hk ws (Nat.add_left_cancel (hw.trans (show manyL [115, 105, 98] = 1 + 3 by decide))) m h
  · exact run_back_si k hk ws (Nat.add_left_cancel (hw.trans (show manyL [115, 105] = 1 + 2 by decide))) m h
  · exact run_back_sic k hk ws (Nat.add_left_cancel (hw.trans (show manyL [115, 105, 99] = 1 + 3 by decide))) m h
  · exact run_back_sin k hk ws (Nat.add_left_cancel (hw.trans (show manyL [115, 105, 110] = 1 + 3 by decide))) m h
  · exact run_back_s k hk ws (Nat.add_left_cancel (hw.trans (show manyL [115] = 1 + 1 by decide))) m h
  · exact run_back_scb k hk ws (Nat.add_left_cancel (hw.trans (show manyL [115, 99, 98] = 1 + 3 by decide))) m h
  · exact run_back_n k hk ws (Nat.add_left_cancel (hw.trans (show manyL [110] = 1 + 1 by decide))) m h
  · exact run_back_nc k hk ws (Nat.add_left_cancel (hw.trans (show manyL [110, 99] = 1 + 2 by decide))) m h
  · exact run_back_d k hk ws (Nat.add_left_cancel (hw.trans (show manyL [100] = 1 + 3 by decide))) m h
theorem kindW_K : ∀ k, k < 27 → 1 ≤ k → kindW (wordK k) = k := by decide
theorem fwords_clean (c : UInt8) (m : Mv) (hc : c = 115 ∨ c = 110 ∨ c = 105 ∨ c = 99 ∨ c = 98 ∨ c = 100) : ∀ w ∈ fwords c m, CW w := by
  intro w hw
  rcases hc with rfl | rfl | rfl | rfl | rfl | rfl
  · simp [fwords, fieldS] at hw; subst hw; exact dig_clean _
  · simp [fwords, fieldS] at hw; subst hw; exact wholeS_clean _
  · simp [fwords, fieldS] at hw; subst hw; exact dig_clean _
  · simp [fwords, fieldS] at hw; subst hw; exact dig_clean _
  · simp [fwords, fieldS] at hw; subst hw; exact hexS_clean _
  · simp [fwords] at hw
    rcases hw with rfl | rfl | rfl
    · exact dig_clean _
    · exact dig_clean _
    · exact hexS_clean _
theorem wordsM_clean (m : Mv) (h : isK m.kind = true) : ∀ w ∈ wordsM m, CW w := by
  intro w hw
  have hk : 1 ≤ m.kind ∧ m.kind ≤ 26 := by simpa [isK] using h
  rcases List.mem_cons.1 hw with rfl | hw
  · exact wordK_clean _ (by omega) hk.1
  · obtain ⟨c, hc, hw⟩ := List.mem_flatMap.1 hw
    exact fwords_clean c m (let_ok m.kind (by omega) c hc) w hw
theorem words_many (l : List UInt8) (m : Mv) : (l.flatMap fun c => fwords c m).length + 1 = manyL l := by
  induction l with
  | nil => rfl
  | cons c l ih =>
    have h1 : (fwords c m).length = cntL c := by
      unfold fwords cntL
      split <;> rfl
    rw [List.flatMap_cons, List.length_append, h1]
    generalize (l.flatMap fun c => fwords c m).length = q at ih ⊢
    unfold manyL at ih ⊢
    by_cases hc : c = 100
    · subst hc; simp [cntL]; omega
    · simp [cntL, hc]; omega
/-- A line that is printed is parsed as its move. -/
theorem line_back {m : Mv} {s : List UInt8} (ok : MvOk m) (h : lineO m = some s) : s = joinW (wordsM m) ∧ isK m.kind = true ∧ oneE (wordsM m) = .ok m := by
  unfold lineO at h
  split at h
  · rename_i hb
    simp only [Bool.and_eq_true] at hb
    obtain ⟨hk, hb⟩ := hb
    have hk2 : 1 ≤ m.kind ∧ m.kind ≤ 26 := by simpa [isK] using hk
    have hm := let_mem m.kind (by omega) hk2.1
    cases h
    refine ⟨put_words _ hm _ _, hk, ?_⟩
    have hkw := kindW_K m.kind (by omega) hk2.1
    unfold oneE
    rw [show (wordsM m).getD 0 [] = wordK m.kind from rfl, hkw, if_neg (by omega), if_neg (by
      have := words_many (letK m.kind) m
      simp only [wordsM, List.length_cons]
      omega), show (wordsM m).tail = (letK m.kind).flatMap fun c => fwords c m from rfl, run_words _ hm m ok hb]
  · cases h
/-- A line that is parsed is printed, in at most as many bytes. -/
theorem one_back {ws : List (List UInt8)} {m : Mv} (hne : ws ≠ []) (h : oneE ws = .ok m) : MvOk m ∧ lineO m = some (joinW ws) ∧ ws = wordsM m := by
  unfold oneE at h
  split at h
  · cases h
  · rename_i h0
    split at h
    · cases h
    · rename_i hn
      obtain ⟨w, r, rfl⟩ : ∃ w r, ws = w :: r := by cases ws with
        | nil => exact absurd rfl hne
        | cons w r => exact ⟨w, r, rfl⟩
      simp only [List.getD_cons_zero, List.tail_cons] at h h0 hn
      have hk26 := kindW_le w
      cases hr : runL (letK (kindW w)) r (some (mv0 (kindW w))) with
      | none => rw [hr] at h; cases h
      | some m' =>
        rw [hr] at h
        cases h
        obtain ⟨e1, ok, hb, e2⟩ := run_back _ (let_mem (kindW w) (by omega) (by omega)) _ (by omega) r (by simp only [List.length_cons, ne_eq, Decidable.not_not] at hn; omega) m hr
        have hw : wordK (kindW w) = w := by
          rcases kindF_of w 30 1 (by omega) (by omega) with h1 | ⟨_, _, h1⟩
          · exact absurd h1 h0
          · exact h1
        have hwm : w :: r = wordsM m := by rw [wordsM, e1, hw, ← e2]
        refine ⟨ok, ?_, hwm⟩
        unfold lineO
        rw [e1, if_pos (by rw [hb]; simp [isK]; omega), put_words _ (let_mem (kindW w) (by omega) (by omega)), hwm, wordsM, e1]
end Go.Proofs.YthangjgdjhhfgaaDoor
