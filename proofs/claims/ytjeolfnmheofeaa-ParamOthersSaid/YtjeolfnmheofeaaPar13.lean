/- Layer 4 in plain Lean: what was appended is taken as it was; doubled it is none; what is taken may be, and is not longer. -/
import Derived.Test.YtjeolfnmheofeaaPar11
namespace Go.Proofs.Ytjeolfnmheofeaa
open Go.RowKit
set_option linter.unusedVariables false
set_option linter.unusedSimpArgs false
namespace Par
open Var (Byte takeF takeN takeU enc encs sizeF take_enc enc_length enc_bytes take_ok size_le bytesF)

theorem enc_small (n : Int) (h : n ≤ 63) : enc n = [n] := by
  unfold enc
  have hc : Var.classF n = 0 := by unfold Var.classF; rw [if_pos h]
  rw [hc]
  rfl
theorem size_small (n : Int) (h : n ≤ 63) : sizeF n = 1 := by
  unfold sizeF
  have hc : Var.classF n = 0 := by unfold Var.classF; rw [if_pos h]
  rw [hc]; rfl

/-- parameters as they stand one behind the other -/
def flat (l : List (Int × List Int)) : List Int := l.flatMap fun x => pb x.1 x.2
def put (p : PV) (l : List (Int × List Int)) : PV := l.foldl (fun p x => updC p x.1 x.2) p

theorem step_pb (T : List Int) (id : Int) (V rest : List Int) (h0 : 0 ≤ id) (h : id ≤ 63) (hV : (V.length : Int) ≤ 4611686018427387903) :
    stepF T (pb id V ++ rest) = if id ∈ T then none else if okV id V = true then some (id, V, rest) else none := by
  have h1 : takeF (pb id V ++ rest) = some (id, 1) := by
    have := take_enc id h0 (by omega) (enc V.length ++ V ++ rest)
    rw [enc_small id h, size_small id h] at this
    simpa [pb] using this
  have h2 : (pb id V ++ rest).drop 1 = enc V.length ++ (V ++ rest) := by simp [pb]
  have h3 : bytesF (enc V.length ++ (V ++ rest)) = some (V, sizeF V.length + V.length) := by
    unfold bytesF
    rw [take_enc (V.length : Int) (by omega) hV]
    have hl := enc_length (V.length : Int) (by omega)
    simp only [List.length_append, Int.natCast_add, hl, Int.toNat_natCast]
    rw [if_pos (by omega)]
    have : (enc (V.length : Int) ++ (V ++ rest)).drop (sizeF V.length) = V ++ rest := by rw [← hl, List.drop_left]
    rw [this]
    simp
  unfold stepF
  rw [h1]
  simp only [h2, h3]
  have h4 : (pb id V ++ rest).drop (1 + (sizeF V.length + V.length)) = rest := by
    have hl := enc_length (V.length : Int) (by omega)
    rw [← List.drop_drop, h2, ← List.drop_drop, ← hl, List.drop_left, List.drop_left]
  rw [h4]

theorem pb_ne (id : Int) (V rest : List Int) : pb id V ++ rest ≠ [] := by simp [pb]

/-- What stands one behind the other is taken one by one. -/
theorem take_flat : ∀ (l : List (Int × List Int)) (n : Nat) (p : PV) (T rest : List Int), (flat l).length ≤ n → (∀ x ∈ l, 0 ≤ x.1 ∧ x.1 ≤ 63 ∧ (x.2.length : Int) ≤ 4611686018427387903 ∧ okV x.1 x.2 = true ∧ x.1 ∉ T) → (l.map (·.1)).Nodup →
    takeFuel n p T (flat l ++ rest) = takeFuel (n - l.length) (put p l) ((l.map (·.1)).reverse ++ T) rest
  | [], n, p, T, rest, _, _, _ => by simp [flat, put]
  | (id, V) :: l, n, p, T, rest, hn, hl, hnd => by
    obtain ⟨h0, h1, h2, h3, h4⟩ := hl (id, V) (List.mem_cons_self ..)
    simp only at h0 h1 h2 h3 h4
    have hf : flat ((id, V) :: l) ++ rest = pb id V ++ (flat l ++ rest) := by simp [flat]
    have hlen : (flat ((id, V) :: l)).length = (pb id V).length + (flat l).length := by simp [flat]
    have hpb : 1 ≤ (pb id V).length := by simp [pb]
    obtain ⟨m, rfl⟩ : ∃ m, n = m + 1 := ⟨n - 1, by omega⟩
    rw [hf, takeFuel_some m p T _ (pb_ne id V _) (id := id) (V := V) (L' := flat l ++ rest) (by rw [step_pb T id V _ h0 h1 h2, if_neg h4, if_pos h3])]
    simp only [List.map_cons, List.nodup_cons] at hnd
    rw [take_flat l m (updC p id V) (id :: T) rest (by omega) (fun x hx => by
      obtain ⟨a0, a1, a2, a3, a4⟩ := hl x (List.mem_cons_of_mem _ hx)
      refine ⟨a0, a1, a2, a3, fun hm => ?_⟩
      rcases List.mem_cons.1 hm with hm | hm
      · exact hnd.1 (hm ▸ List.mem_map.2 ⟨x, hx, rfl⟩)
      · exact a4 hm) hnd.2]
    simp only [List.length_cons, put, List.foldl_cons, List.map_cons, List.reverse_cons, List.append_assoc, List.singleton_append]
    congr 1
    omega

/-- What is told of a parameter, as a pair. -/
def pairOf (p : PV) (k : Nat) : List (Int × List Int) :=
  if idn p k ≠ 0 then [((k : Int), enc (idn p k))] else if k = 0 ∧ p.O ≠ [] then [(0, p.O)] else if k = 15 ∧ p.C ≠ [] then [(15, p.C)] else if k = 2 ∧ p.has = true then [(2, p.tok)] else []
def pairs (p : PV) (k : Nat) : List (Int × List Int) := (List.range k).flatMap (pairOf p)
theorem flat_pairOf (p : PV) (k : Nat) : flat (pairOf p k) = item p k := by
  unfold pairOf item
  repeat' split
  all_goals simp [flat]
theorem pairs_succ (p : PV) (k : Nat) : pairs p (k + 1) = pairs p k ++ pairOf p k := by
  unfold pairs
  rw [List.range_succ, List.flatMap_append]
  simp
theorem flat_pairs (p : PV) (k : Nat) : flat (pairs p k) = itemsTo p k := by
  induction k with
  | zero => rfl
  | succ k ih => rw [pairs_succ, itemsTo_succ, ← ih, ← flat_pairOf]; simp [flat]
theorem pairOf_id {p : PV} {k : Nat} {x : Int × List Int} (h : x ∈ pairOf p k) : x.1 = k := by
  unfold pairOf at h
  split at h
  · simp at h; rw [h]
  · split at h
    · rename_i hk; simp at h; rw [h, hk.1]; rfl
    · split at h
      · rename_i hk; simp at h; rw [h, hk.1]; rfl
      · split at h
        · rename_i hk; simp at h; rw [h, hk.1]; rfl
        · cases h
theorem pairOf_one (p : PV) (k : Nat) : pairOf p k = [] ∨ ∃ x, pairOf p k = [x] := by
  unfold pairOf
  repeat' split
  all_goals first | exact .inl rfl | exact .inr ⟨_, rfl⟩
theorem pairs_lt {p : PV} {k : Nat} {x : Int × List Int} (h : x ∈ pairs p k) : ∃ j, j < k ∧ x ∈ pairOf p j := by
  unfold pairs at h
  obtain ⟨j, hj, hx⟩ := List.mem_flatMap.1 h
  exact ⟨j, by simpa using hj, hx⟩
theorem pairs_nodup (p : PV) (k : Nat) : ((pairs p k).map (·.1)).Nodup := by
  induction k with
  | zero => simp [pairs]
  | succ k ih =>
    rw [pairs_succ, List.map_append, List.nodup_append]
    refine ⟨ih, ?_, fun a ha b hb e => ?_⟩
    · rcases pairOf_one p k with h | ⟨x, h⟩ <;> rw [h] <;> simp
    · subst e
      obtain ⟨x, hx, rfl⟩ := List.mem_map.1 ha
      obtain ⟨y, hy, he⟩ := List.mem_map.1 hb
      obtain ⟨j, hj, hx⟩ := pairs_lt hx
      have h1 := pairOf_id hx
      have h2 := pairOf_id hy
      rw [h1, h2] at he
      have : k = j := by exact_mod_cast he
      omega

theorem take_own (n : Int) (h0 : 0 ≤ n) (h1 : n ≤ 4611686018427387903) : takeF (enc n) = some (n, sizeF n) := by
  have := take_enc n h0 h1 []
  simpa using this
theorem takeN_enc (n : Int) (h0 : 0 ≤ n) (h1 : n ≤ 4611686018427387903) : takeN (enc n) = n ∧ takeU (enc n) = (enc n).length := by
  unfold takeN takeU
  rw [take_own n h0 h1]
  exact ⟨rfl, (enc_length n h0).symm⟩

theorem mayF_id {p : PV} (h : mayF p = true) (k : Nat) (hk : k < 16) : okId p k = true := by
  unfold mayF at h
  rw [Bool.and_eq_true, List.all_eq_true] at h
  exact h.1 k (by simpa using hk)
theorem mayF_tok {p : PV} (h : mayF p = true) : p.has = true ∨ p.tok = List.replicate 16 0 := by
  unfold mayF at h
  simp only [Bool.and_eq_true, Bool.or_eq_true] at h
  rcases h.2.2 with h | h
  · exact .inl h
  · rw [zero_tok] at h; exact .inr (by simpa using h)

/-- each pair may stand there -/
theorem pair_ok {p : PV} (h : mayF p = true) (hn : ∀ k, 0 ≤ p.num k) (k : Nat) (hk : k < 16) : ∀ x ∈ pairOf p k, 0 ≤ x.1 ∧ x.1 ≤ 63 ∧ (x.2.length : Int) ≤ 4611686018427387903 ∧ okV x.1 x.2 = true := by
  intro x hx
  have hid := pairOf_id hx
  have hl := mayF_lens h
  refine ⟨by omega, by omega, ?_, ?_⟩
  · unfold pairOf at hx
    split at hx
    · simp at hx; rw [hx]
      have := enc_length (idn p k) (by unfold idn; split; exact Int.le_refl _; exact hn _)
      have := size_le (idn p k)
      simp only; omega
    · split at hx
      · simp at hx; rw [hx]; simp only; omega
      · split at hx
        · simp at hx; rw [hx]; simp only; omega
        · split at hx
          · simp at hx; rw [hx]; simp only [PV.tok, List.length_cons, List.length_nil]; omega
          · cases hx
  · have hidn : 0 ≤ idn p k := by unfold idn; split; exact Int.le_refl _; exact hn _
    have hfit := idn_fits h k hk
    unfold pairOf at hx
    split at hx
    · rename_i hne
      simp at hx; rw [hx]
      have hs : slotF k ≠ 0 := by intro e; unfold idn at hne; rw [if_pos e] at hne; exact hne rfl
      have hm := mayF_id h k hk
      unfold okId at hm
      simp only [hne, decide_false, Bool.false_or] at hm
      obtain ⟨e1, e2⟩ := takeN_enc (idn p k) hidn hfit
      unfold okV
      simp only [if_pos hs, take_own _ hidn hfit, Option.isSome_some, e1, e2, decide_true, Bool.true_and, hm]
    · split at hx
      · simp at hx; rw [hx]
        have e0 : okV 0 p.O = decide (p.O.length ≤ 20) := rfl
        rw [e0]; simpa using hl.1
      · split at hx
        · simp at hx; rw [hx]
          have e0 : okV 15 p.C = decide (p.C.length ≤ 20) := rfl
          rw [e0]; simpa using hl.2
        · split at hx
          · simp at hx; rw [hx]; simp [okV, PV.tok, show slotF 2 = 0 from by decide]
          · cases hx

theorem upd_15 (q : PV) (V : List Int) : updC q 15 V = { q with ca := none, cc := 0, C := V } := rfl
theorem upd_2 (q : PV) (V : List Int) : updC q 2 V = ({ q with has := true } : PV).withTok (V.take 16 ++ q.tok.drop (V.take 16).length) := rfl
theorem put_append (p : PV) (a b : List (Int × List Int)) : put p (a ++ b) = put (put p a) b := by simp [put]
theorem put_none (p : PV) : put p [] = p := rfl

/-- one number put -/
theorem put_num {p q : PV} {k : Nat} (s : Nat) (hs : slotF k = s) (h2 : 2 ≤ s) (h10 : s ≤ 10) (hn : 0 ≤ p.num s) (hf : idn p k ≤ 4611686018427387903) (hk : k ≠ 0 ∧ k ≠ 15 ∧ k ≠ 2) (hz : q.setNum s 0 = q) : put q (pairOf p k) = q.setNum s (p.num s) := by
  have hi : idn p k = p.num s := by unfold idn; rw [hs, if_neg (by omega)]
  unfold pairOf
  by_cases h0 : idn p k = 0
  · rw [if_neg (by simpa using h0), if_neg (by omega), if_neg (by omega), if_neg (by omega), put_none, ← hi, h0, hz]
  · rw [if_pos h0]
    simp only [put, List.foldl_cons, List.foldl_nil, updC, updV]
    rw [hs, if_pos (by omega), (takeN_enc (idn p k) (by rw [hi]; exact hn) hf).1, hi]

set_option maxHeartbeats 8000000 in
/-- What was told is put together again. -/
theorem put_pairs {p : PV} (h : mayF p = true) (hn : ∀ k, 0 ≤ p.num k) : put p0 (pairs p 16) = { p with oa := none, oc := 0, ca := none, cc := 0 } := by
  have hf := fun k hk => idn_fits h k hk
  have e0 : put p0 (pairOf p 0) = { p0 with O := p.O } := by
    have hi : idn p ((0 : Nat) : Int) = 0 := rfl
    unfold pairOf
    rw [if_neg (by simpa using hi)]
    by_cases hO : p.O = []
    · rw [if_neg (by simp [hO]), if_neg (by simp), if_neg (by simp), put_none, hO]; rfl
    · rw [if_pos ⟨rfl, hO⟩]; rfl
  have skip : ∀ (k : Nat) (q : PV), slotF k = 0 → k ≠ 0 → k ≠ 15 → k ≠ 2 → put q (pairOf p k) = q := fun k q hs h0 h15 h2 => by
    have hi : idn p k = 0 := by unfold idn; rw [if_pos hs]
    unfold pairOf
    rw [if_neg (by simpa using hi), if_neg (by omega), if_neg (by omega), if_neg (by omega), put_none]
  have tok : ∀ q : PV, q.has = false → q.tok = List.replicate 16 0 → put q (pairOf p 2) = ({ q with has := p.has } : PV).withTok p.tok := fun q hh ht => by
    have hi : idn p ((2 : Nat) : Int) = 0 := rfl
    unfold pairOf
    rw [if_neg (by simpa using hi), if_neg (by simp), if_neg (by simp)]
    by_cases hp : p.has = true
    · rw [if_pos ⟨rfl, hp⟩]
      simp only [put, List.foldl_cons, List.foldl_nil, upd_2]
      rw [hp]
      have : p.tok.take 16 = p.tok := rfl
      rw [this]
      have hd : q.tok.drop p.tok.length = [] := rfl
      rw [hd, List.append_nil]
    · rw [if_neg (by simp [hp]), put_none]
      have hpf : p.has = false := by simpa using hp
      rcases mayF_tok h with h1 | h1
      · exact absurd h1 hp
      · rw [hpf, h1]
        have h2 : q.tok = List.replicate 16 0 := ht
        cases q
        simp only [PV.tok, List.replicate, List.cons.injEq, and_true] at h2
        simp only at hh
        obtain ⟨a0, a1, a2, a3, a4, a5, a6, a7, a8, a9, a10, a11, a12, a13, a14, a15⟩ := h2
        subst a0 a1 a2 a3 a4 a5 a6 a7 a8 a9 a10 a11 a12 a13 a14 a15 hh
        rfl
  have all : pairs p 16 = pairOf p 0 ++ (pairOf p 1 ++ (pairOf p 2 ++ (pairOf p 3 ++ (pairOf p 4 ++ (pairOf p 5 ++ (pairOf p 6 ++ (pairOf p 7 ++ (pairOf p 8 ++ (pairOf p 9 ++ (pairOf p 10 ++ (pairOf p 11 ++ (pairOf p 12 ++ (pairOf p 13 ++ (pairOf p 14 ++ pairOf p 15)))))))))))))) := by
    simp [pairs, List.range, List.range.loop]
  have e15 : ∀ q : PV, q.C = [] → q.ca = none → q.cc = 0 → put q (pairOf p 15) = { q with C := p.C } := fun q hC ha hc => by
    have hi : idn p ((15 : Nat) : Int) = 0 := rfl
    unfold pairOf
    rw [if_neg (by simpa using hi), if_neg (by simp)]
    by_cases hpC : p.C = []
    · rw [if_neg (by simp [hpC]), if_neg (by simp), put_none, hpC, ← hC]
    · rw [if_pos ⟨rfl, hpC⟩]
      simp only [put, List.foldl_cons, List.foldl_nil, upd_15]
      rw [← ha, ← hc]
  rw [all]
  simp only [put_append]
  rw [e0, put_num 2 rfl (by omega) (by omega) (hn _) (hf 1 (by omega)) (by omega) rfl, tok _ rfl rfl, skip 3 _ rfl (by omega) (by omega) (by omega),
    put_num 3 rfl (by omega) (by omega) (hn _) (hf 4 (by omega)) (by omega) rfl, put_num 4 rfl (by omega) (by omega) (hn _) (hf 5 (by omega)) (by omega) rfl,
    put_num 5 rfl (by omega) (by omega) (hn _) (hf 6 (by omega)) (by omega) rfl, put_num 6 rfl (by omega) (by omega) (hn _) (hf 7 (by omega)) (by omega) rfl,
    put_num 7 rfl (by omega) (by omega) (hn _) (hf 8 (by omega)) (by omega) rfl, put_num 8 rfl (by omega) (by omega) (hn _) (hf 9 (by omega)) (by omega) rfl,
    skip 10 _ rfl (by omega) (by omega) (by omega), put_num 9 rfl (by omega) (by omega) (hn _) (hf 11 (by omega)) (by omega) rfl, skip 12 _ rfl (by omega) (by omega) (by omega),
    skip 13 _ rfl (by omega) (by omega) (by omega), put_num 10 rfl (by omega) (by omega) (hn _) (hf 14 (by omega)) (by omega) rfl, e15 _ rfl rfl rfl]
  rfl

def bare (p : PV) : PV := { p with oa := none, oc := 0, ca := none, cc := 0 }

theorem pairs_may {p : PV} (h : mayF p = true) (hn : ∀ k, 0 ≤ p.num k) (T : List Int) (hT : ∀ k : Nat, k < 16 → (k : Int) ∉ T) : ∀ x ∈ pairs p 16, 0 ≤ x.1 ∧ x.1 ≤ 63 ∧ (x.2.length : Int) ≤ 4611686018427387903 ∧ okV x.1 x.2 = true ∧ x.1 ∉ T := fun x hx => by
  obtain ⟨j, hj, hx⟩ := pairs_lt hx
  obtain ⟨a, b, c, d⟩ := pair_ok h hn j hj x hx
  exact ⟨a, b, c, d, by rw [pairOf_id hx]; exact hT j hj⟩

/-- WHAT WAS APPENDED IS TAKEN AS IT WAS. -/
theorem take_back {p : PV} (h : mayF p = true) (hn : ∀ k, 0 ≤ p.num k) : takeP (paramB p) = some (bare p) := by
  have := take_flat (pairs p 16) (paramB p).length p0 [] [] (by rw [flat_pairs]; exact Nat.le_refl _) (pairs_may h hn [] (by simp)) (pairs_nodup p 16)
  rw [List.append_nil, flat_pairs] at this
  unfold takeP
  rw [show paramB p = itemsTo p 16 from rfl] at *
  rw [this, takeFuel_nil, put_pairs h hn]
  rfl

/-- DOUBLED IT IS NONE. -/
theorem take_twice {p : PV} (h : mayF p = true) (hn : ∀ k, 0 ≤ p.num k) (hne : paramB p ≠ []) : takeP (paramB p ++ paramB p) = none := by
  have := take_flat (pairs p 16) (paramB p ++ paramB p).length p0 [] (paramB p) (by rw [flat_pairs]; simp [paramB]) (pairs_may h hn [] (by simp)) (pairs_nodup p 16)
  rw [flat_pairs] at this
  unfold takeP
  rw [show paramB p = itemsTo p 16 from rfl] at *
  rw [this]
  refine takeFuel_none _ _ _ _ hne ?_
  rw [← flat_pairs]
  cases hp : pairs p 16 with
  | nil => rw [← flat_pairs, hp] at hne; exact absurd rfl hne
  | cons x l =>
    obtain ⟨a, b, c, d, _⟩ := pairs_may h hn [] (by simp) x (by rw [hp]; exact List.mem_cons_self ..)
    have hf : flat (x :: l) = pb x.1 x.2 ++ flat l := by simp [flat]
    rw [hf, step_pb _ _ _ _ a b c, if_pos (by simp)]
end Par
end Go.Proofs.Ytjeolfnmheofeaa
