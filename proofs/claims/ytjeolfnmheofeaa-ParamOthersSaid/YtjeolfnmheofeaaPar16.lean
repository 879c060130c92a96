/- Layer 4 in plain Lean: a parameter of another number makes no difference. -/
import Derived.Test.YtjeolfnmheofeaaPar14
namespace Go.Proofs.Ytjeolfnmheofeaa
open Go.RowKit
set_option linter.unusedVariables false
namespace Par
open Var (Byte enc)

theorem slot_other {id : Int} (h : 16 ≤ id) : slotF id = 0 := by
  rcases slot_cases id with h1 | h1 | h1 | h1 | h1 | h1 | h1 | h1 | h1 | h1 <;> omega
theorem upd_other (p : PV) {id : Int} (V : List Int) (h : 16 ≤ id) : updC p id V = p := by
  unfold updC updV
  rw [if_neg (by rw [slot_other h]; simp), if_neg (by omega), if_neg (by omega), if_neg (by omega)]
theorem okV_other {id : Int} (V : List Int) (h : 16 ≤ id) : okV id V = true := by
  unfold okV
  rw [if_neg (by rw [slot_other h]; simp), if_neg (by omega), if_neg (by omega)]
theorem pb_small {id : Int} {V : List Int} (h : id ≤ 60) (hV : V.length ≤ 60) : pb id V = [id, (V.length : Int)] ++ V := by
  have h1 := enc_small id (by omega)
  have h2 := enc_small (V.length : Int) (by omega)
  unfold pb
  rw [h2]
  rfl
theorem pairs_ids {p : PV} {x : Int × List Int} (h : x ∈ pairs p 16) : 0 ≤ x.1 ∧ x.1 < 16 := by
  obtain ⟨j, hj, hx⟩ := pairs_lt h
  have := pairOf_id hx
  omega

theorem take_others {p : PV} (h : mayF p = true) (hn : ∀ k, 0 ≤ p.num k) {id : Int} {V : List Int} (h1 : 16 ≤ id) (h2 : id ≤ 60) (hV : V.length ≤ 60) (l : List (Int × List Int)) (hl : l = (id, V) :: pairs p 16 ∨ l = pairs p 16 ++ [(id, V)]) :
    takeP (flat l) = some (bare p) ∧ takeP (flat l ++ pb id V) = none := by
  have hput : put p0 l = put p0 (pairs p 16) := by
    rcases hl with rfl | rfl
    · show put (updC p0 id V) (pairs p 16) = _
      rw [upd_other _ _ h1]
    · rw [put_append]
      show updC _ id V = _
      rw [upd_other _ _ h1]
  have hmem : ∀ x ∈ l, x = (id, V) ∨ x ∈ pairs p 16 := by
    intro x hx
    rcases hl with rfl | rfl
    · simpa using hx
    · rcases List.mem_append.1 hx with hx | hx
      · exact .inr hx
      · exact .inl (by simpa using hx)
  have hid : id ∈ l.map (·.1) := by
    rcases hl with rfl | rfl <;> simp
  have hnd : (l.map (·.1)).Nodup := by
    have h0 := pairs_nodup p 16
    have hni : id ∉ (pairs p 16).map (·.1) := fun hc => by
      obtain ⟨x, hx, he⟩ := List.mem_map.1 hc
      have := pairs_ids hx
      omega
    rcases hl with rfl | rfl
    · simp only [List.map_cons, List.nodup_cons]
      exact ⟨hni, h0⟩
    · rw [List.map_append, List.nodup_append]
      refine ⟨h0, by simp, fun a ha b hb e => ?_⟩
      subst e
      rw [List.map_cons, List.map_nil, List.mem_singleton] at hb
      rw [hb] at ha
      exact hni ha
  have hok : ∀ x ∈ l, 0 ≤ x.1 ∧ x.1 ≤ 63 ∧ (x.2.length : Int) ≤ 4611686018427387903 ∧ okV x.1 x.2 = true ∧ x.1 ∉ ([] : List Int) := by
    intro x hx
    rcases hmem x hx with rfl | hx
    · exact ⟨by omega, by omega, by simp only; omega, okV_other V h1, by simp⟩
    · exact pairs_may h hn [] (by simp) x hx
  refine ⟨?_, ?_⟩
  · have := take_flat l (flat l).length p0 [] [] (Nat.le_refl _) hok hnd
    rw [List.append_nil] at this
    unfold takeP
    rw [this, takeFuel_nil, hput, put_pairs h hn]
    rfl
  · have := take_flat l (flat l ++ pb id V).length p0 [] (pb id V) (by simp) hok hnd
    unfold takeP
    rw [this]
    refine takeFuel_none _ _ _ _ (by simp [pb]) ?_
    have hs := step_pb ((l.map (·.1)).reverse ++ []) id V [] (by omega) (by omega) (by omega)
    rw [List.append_nil (pb id V), if_pos (by simpa using hid)] at hs
    exact hs
theorem flat_ahead (p : PV) (id : Int) (V : List Int) : flat ((id, V) :: pairs p 16) = pb id V ++ paramB p := by
  show pb id V ++ flat (pairs p 16) = _
  rw [flat_pairs]
  rfl
theorem flat_behind (p : PV) (id : Int) (V : List Int) : flat (pairs p 16 ++ [(id, V)]) = paramB p ++ pb id V := by
  show (pairs p 16 ++ [(id, V)]).flatMap _ = _
  rw [List.flatMap_append]
  show flat (pairs p 16) ++ ([(id, V)] : List (Int × List Int)).flatMap _ = _
  rw [flat_pairs]
  simp [paramB]
theorem others_ahead {p : PV} (h : mayF p = true) (hn : ∀ k, 0 ≤ p.num k) {id : Int} {V : List Int} (h1 : 16 ≤ id) (h2 : id ≤ 60) (hV : V.length ≤ 60) :
    takeP (([id, (V.length : Int)] ++ V) ++ paramB p) = some (bare p) ∧ takeP ((([id, (V.length : Int)] ++ V) ++ paramB p) ++ ([id, (V.length : Int)] ++ V)) = none := by
  have := take_others h hn h1 h2 hV _ (.inl rfl)
  rwa [flat_ahead, pb_small h2 hV] at this
theorem others_behind {p : PV} (h : mayF p = true) (hn : ∀ k, 0 ≤ p.num k) {id : Int} {V : List Int} (h1 : 16 ≤ id) (h2 : id ≤ 60) (hV : V.length ≤ 60) :
    takeP (paramB p ++ ([id, (V.length : Int)] ++ V)) = some (bare p) ∧ takeP ((paramB p ++ ([id, (V.length : Int)] ++ V)) ++ ([id, (V.length : Int)] ++ V)) = none := by
  have := take_others h hn h1 h2 hV _ (.inr rfl)
  rwa [flat_behind, pb_small h2 hV] at this
end Par
end Go.Proofs.Ytjeolfnmheofeaa
