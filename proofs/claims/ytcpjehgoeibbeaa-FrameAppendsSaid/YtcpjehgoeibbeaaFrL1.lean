/- What frames that are not great take: plain Lean. -/
import Derived.Test.YtcpjehgoeibbeaaFrMj
import Derived.Test.YtcpjehgoeibbeaaFrA
namespace Go.Proofs.Ytcpjehgoeibbeaa
set_option linter.unusedVariables false
namespace Frm
open Var
theorem enc_le (n : Int) : (enc n).length ≤ 8 := by
  unfold enc
  split <;> simp
theorem gapsB_le : ∀ (r : List (Int × Int)) (x : Int), (gapsB x r).length ≤ 16 * r.length
  | [], x => by simp [gapsB]
  | (a, b) :: r, x => by
    have := gapsB_le r a
    have := enc_le (x - b - 1)
    have := enc_le (b - a - 1)
    simp only [gapsB, List.length_append, List.length_cons]
    omega
theorem acksB_le (f : Fr) : (acksB f).length ≤ 32 + 16 * f.acks.length := by
  unfold acksB
  have e : f.acks.length = f.acks.reverse.length := by simp
  rw [e]
  cases f.acks.reverse with
  | nil => simp
  | cons p r =>
    obtain ⟨a, b⟩ := p
    have := gapsB_le r a
    have := enc_le (b - 1)
    have := enc_le f.delay
    have := enc_le r.length
    have := enc_le (b - a - 1)
    simp only [List.length_append, List.length_cons]
    omega
theorem sizedB_le (l : List Int) : (sizedB l).length ≤ 8 + l.length := by
  have := enc_le l.length
  simp only [sizedB, List.length_append]; omega
theorem le_ite {c : Prop} [Decidable c] {a b : List Int} {n : Nat} (h1 : a.length ≤ n) (h2 : b.length ≤ n) : (if c then a else b).length ≤ n := by split <;> assumption
theorem putF_len (f : Fr) (h16 : f.tok.length = 16) : (putF f).length ≤ 100 + f.data.length + f.cid.length + 16 * f.acks.length + (if f.kind = 0 then f.n.toNat else 0) := by
  have h1 := acksB_le f
  have h2 := sizedB_le f.data
  have e : ∀ n, (enc n).length ≤ 8 := enc_le
  unfold putF
  by_cases h0 : f.kind = 0
  · rw [if_pos h0, if_pos h0, List.length_replicate]; omega
  rw [if_neg h0, if_neg h0]
  generalize (10 + (if f.fin = true then (1 : Int) else 0) + (if f.off > 0 then (4 : Int) else 0)) = tg
  have ho : (if f.off > 0 then enc f.off else []).length ≤ 8 := le_ite (e _) (by simp)
  generalize (if f.off > 0 then enc f.off else []) = og at *
  rw [Nat.add_zero]
  repeat' refine le_ite ?_ ?_
  all_goals try simp only [List.length_append, List.length_cons, List.length_nil, h16]
  all_goals
    have := e 2; have := e 3; have := e 4; have := e 5; have := e 6; have := e 7; have := e 24; have := e 25; have := e 28; have := e 29
    have := e f.kind; have := e f.id; have := e f.off; have := e f.max; have := e f.code; have := e f.e0; have := e f.e1; have := e f.e2
    have := e tg
    omega
theorem gr1_pos (f : Fr) (h : 0 ≤ f.n) : 1 ≤ gr1 f ∧ (f.acks.length : Int) ≤ gr1 f ∧ ((f.data.length : Int) + f.cid.length) ≤ 16 * gr1 f := by
  unfold gr1
  split <;> omega
theorem putF_gr (f : Fr) (ok : FrOk f) (h : mayF f = true) : ((putF f).length : Int) ≤ 120 * gr1 f := by
  have h1 := putF_len f ok.tok16
  obtain ⟨_, hn, _, hko⟩ := may_parts h
  have hn0 := ok.n.1
  by_cases h0 : f.kind = 0
  · have hb : 1 ≤ f.n ∧ f.n ≤ 65536 := by
      unfold kindOk at hko
      rw [if_pos h0] at hko
      simpa using hko
    have hp : (putF f).length = f.n.toNat := by unfold putF; rw [if_pos h0, List.length_replicate]
    unfold gr1
    rw [hp]
    split <;> omega
  · rw [if_neg h0] at h1
    unfold gr1
    split <;> omega
theorem sum_mem : ∀ (l : List Int), (∀ x ∈ l, 0 ≤ x) → ∀ x ∈ l, x ≤ l.sum
  | [], _, x, hx => by cases hx
  | y :: l, h, x, hx => by
    have h0 := h y (by simp)
    have hs : 0 ≤ l.sum := by
      clear hx
      induction l with
      | nil => simp
      | cons z t ih =>
        have := h z (by simp)
        have := ih (fun q hq => h q (by simp only [List.mem_cons] at hq ⊢; rcases hq with h' | h'; exact .inl h'; exact .inr (.inr h')))
        rw [List.sum_cons]; omega
    rw [List.sum_cons]
    rcases List.mem_cons.1 hx with rfl | hx
    · omega
    · have := sum_mem l (fun q hq => h q (by simp [hq])) x hx
      omega
theorem sum_len : ∀ (l : List Int), (∀ x ∈ l, 1 ≤ x) → (l.length : Int) ≤ l.sum
  | [], _ => by simp
  | y :: l, h => by
    have h0 := h y (by simp)
    have := sum_len l (fun q hq => h q (by simp [hq]))
    rw [List.sum_cons, List.length_cons]; omega
theorem sum_take : ∀ (l : List Int) (k : Nat), (∀ x ∈ l, 0 ≤ x) → 0 ≤ l.sum ∧ (l.take k).sum ≤ l.sum
  | [], k, _ => by simp
  | y :: l, 0, h => by
    have h0 := h y (by simp)
    have := sum_take l 0 (fun q hq => h q (by simp [hq]))
    rw [List.sum_cons]
    simp only [List.take_zero, List.sum_nil] at this ⊢
    omega
  | y :: l, k + 1, h => by
    have h0 := h y (by simp)
    have := sum_take l k (fun q hq => h q (by simp [hq]))
    rw [List.take_succ_cons, List.sum_cons, List.sum_cons]
    omega
/-- What is not great. -/
structure Few (L : List FM) : Prop where
  len : L.length ≤ 4000
  sm : ∀ p ∈ L, p.f.data.length ≤ 64000 ∧ p.f.cid.length ≤ 64000 ∧ p.f.acks.length ≤ 4000
  put : ∀ k, (∀ p ∈ L.take k, mayF p.f = true) → (putAll (L.take k)).length ≤ 480000
theorem Few.smm {L : List FM} (h : Few L) : ∀ p ∈ L, p.sm := fun p hp => by
  obtain ⟨h1, h2, h3⟩ := h.sm p hp
  exact ⟨by omega, by omega, by omega⟩
theorem grS_cons (p : FM) (L : List FM) : grS (p :: L) = gr1 p.f + grS L := by simp [grS]
theorem putAll_cons (p : FM) (L : List FM) : putAll (p :: L) = putF p.f ++ putAll L := by simp [putAll]
theorem putAll_putL (L : List FM) : putAll L = putL (L.map FM.f) := by simp [putAll, putL, List.flatMap_map, List.flatten_eq_flatMap]
theorem put_gr : ∀ (L : List FM), (∀ p ∈ L, FrOk p.f) → (∀ p ∈ L, mayF p.f = true) → ((putAll L).length : Int) ≤ 120 * grS L
  | [], _, _ => by simp [putAll, grS]
  | p :: L, h, hm => by
    have := put_gr L (fun q hq => h q (by simp [hq])) (fun q hq => hm q (by simp [hq]))
    have := putF_gr p.f (h p (by simp)) (hm p (by simp))
    rw [putAll_cons, grS_cons, List.length_append]
    omega
theorem few_of {L : List FM} (h : ∀ p ∈ L, FrOk p.f) (hg : grS L ≤ 4000) : Few L := by
  have hp : ∀ x ∈ L.map (fun p => gr1 p.f), 1 ≤ x := fun x hx => by
    obtain ⟨p, hp, rfl⟩ := List.mem_map.1 hx
    exact (gr1_pos p.f (h p hp).n.1).1
  have h1 := sum_len _ hp
  rw [List.length_map] at h1
  unfold grS at hg
  refine ⟨by omega, fun p hpm => ?_, fun k hm => ?_⟩
  · obtain ⟨_, g2, g3⟩ := gr1_pos p.f (h p hpm).n.1
    have := sum_mem _ (fun x hx => by have := hp x hx; omega) (gr1 p.f) (List.mem_map.2 ⟨p, hpm, rfl⟩)
    omega
  · have h2 := put_gr (L.take k) (fun q hq => h q (List.mem_of_mem_take hq)) hm
    have h3 := sum_take (L.map fun p => gr1 p.f) k (fun x hx => by have := hp x hx; omega)
    unfold grS at h2
    rw [List.map_take] at h2
    omega
theorem Few.put_ok {L : List FM} (h : Few L) (hok : ∀ p ∈ L, FrOk p.f) (hm : ∀ p ∈ L, mayF p.f = true) : ∀ g ∈ L.map FM.f, Put g := fun g hg => by
  obtain ⟨p, hp, rfl⟩ := List.mem_map.1 hg
  obtain ⟨h1, h2, h3⟩ := h.sm p hp
  exact ⟨hok p hp, hm p hp, by simp only [M62]; omega, by omega⟩
theorem kind0_le {f : Fr} (h : mayF f = true) (h0 : f.kind = 0) : f.n ≤ 65536 := by
  obtain ⟨_, _, _, hko⟩ := may_parts h
  unfold kindOk at hko
  rw [if_pos h0] at hko
  simp at hko
  omega
end Frm
end Go.Proofs.Ytcpjehgoeibbeaa
