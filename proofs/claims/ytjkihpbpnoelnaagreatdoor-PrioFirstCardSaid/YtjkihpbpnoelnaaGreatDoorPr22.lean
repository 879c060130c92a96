/- Who is ready, and who goes first. No program here. -/
import Derived.Test.YtjkihpbpnoelnaaGreatDoorPrMp
namespace Go.Proofs.YtjkihpbpnoelnaaGreatDoor
set_option linter.unusedVariables false
theorem setL_same {L : List Strm} {u id : Nat} {b : Bool} (h : setR u id L ≠ 0) : setL u b id L = L := by
  unfold setR at h
  unfold setL
  by_cases h7 : 7 < u
  · rw [if_pos h7]
  · rw [if_neg h7] at h ⊢
    cases hh : hasL id L with
    | true => rw [hh, if_pos rfl] at h; exact absurd rfl h
    | false =>
      rw [hh, if_neg (by simp)] at h
      rw [if_neg (by simp)]
      by_cases h256 : 256 ≤ L.length
      · rw [if_pos h256]
      · rw [if_neg h256] at h; exact absurd rfl h
/-- What a stream that is set was ahead of that. -/
theorem setL_cases {L : List Strm} {u id : Nat} {b : Bool} {x : Strm} (h0 : setR u id L = 0) (hx : x ∈ setL u b id L) : (x.id = id ∧ x.urg = u ∧ x.inc = b) ∨ (x ∈ L ∧ x.id ≠ id) := by
  unfold setR at h0
  unfold setL at hx
  by_cases h7 : 7 < u
  · rw [if_pos h7] at h0; cases h0
  · rw [if_neg h7] at h0 hx
    cases hh : hasL id L with
    | true =>
      rw [hh, if_pos rfl] at hx
      obtain ⟨y, hy, rfl⟩ := List.mem_map.1 hx
      by_cases he : y.id = id
      · rw [if_pos he]; exact .inl ⟨he, rfl, rfl⟩
      · rw [if_neg he]; exact .inr ⟨hy, he⟩
    | false =>
      rw [hh, if_neg (by simp)] at h0 hx
      by_cases h256 : 256 ≤ L.length
      · rw [if_pos h256] at h0; cases h0
      · rw [if_neg h256] at hx
        rcases List.mem_cons.1 ((insL_perm _ L).mem_iff.1 hx) with rfl | hx
        · exact .inl ⟨rfl, rfl, rfl⟩
        · refine .inr ⟨hx, fun e => ?_⟩
          have : hasL id L = true := List.any_eq_true.2 ⟨x, hx, by simpa using e⟩
          rw [hh] at this; cases this
/-- T are the numbers of those that are ready. -/
def RdyI (L : List Strm) (T : List Nat) : Prop := ∀ i, i ∈ T ↔ ∃ x ∈ L, x.id = i ∧ x.ready = true
theorem RdyI.nil : RdyI [] [] := fun i => ⟨fun h => (by cases h), fun ⟨x, hx, _⟩ => (by cases hx)⟩
theorem RdyI.set {L : List Strm} {T : List Nat} (h : RdyI L T) (u id : Nat) (b : Bool) : RdyI (setL u b id L) T := by
  intro i
  rw [h i]
  unfold setL
  split
  · exact Iff.rfl
  · split
    · constructor
      · rintro ⟨x, hx, e, hr⟩
        refine ⟨_, List.mem_map.2 ⟨x, hx, rfl⟩, ?_, ?_⟩
        · split
          · exact e
          · exact e
        · split
          · exact hr
          · exact hr
      · rintro ⟨x, hx, e, hr⟩
        obtain ⟨y, hy, rfl⟩ := List.mem_map.1 hx
        split at e
        · rename_i h1
          rw [if_pos h1] at hr; exact ⟨y, hy, e, hr⟩
        · rename_i h1
          rw [if_neg h1] at hr; exact ⟨y, hy, e, hr⟩
    · split
      · exact Iff.rfl
      · constructor
        · rintro ⟨x, hx, e, hr⟩
          exact ⟨x, (insL_perm _ L).mem_iff.2 (List.mem_cons_of_mem _ hx), e, hr⟩
        · rintro ⟨x, hx, e, hr⟩
          rcases List.mem_cons.1 ((insL_perm _ L).mem_iff.1 hx) with rfl | hx
          · cases hr
          · exact ⟨x, hx, e, hr⟩
theorem RdyI.on {L : List Strm} {T : List Nat} (h : RdyI L T) {id : Nat} (hh : hasL id L = true) : RdyI (updL id (setReady true) L) (addS id T) := by
  intro i
  rw [mem_addS, h i]
  constructor
  · rintro (rfl | ⟨x, hx, e, hr⟩)
    · obtain ⟨x, hx, he⟩ := List.any_eq_true.1 hh
      have he' : x.id = i := by simpa using he
      exact ⟨_, List.mem_map.2 ⟨x, hx, rfl⟩, by rw [if_pos he']; exact he', by rw [if_pos he']; rfl⟩
    · refine ⟨_, List.mem_map.2 ⟨x, hx, rfl⟩, ?_, ?_⟩
      · split <;> exact e
      · split
        · rfl
        · exact hr
  · rintro ⟨x, hx, e, hr⟩
    rcases mem_updL (f := setReady true) (fun x => rfl) hx with ⟨y, hy, he, rfl⟩ | ⟨hy, hne⟩
    · exact .inl (e.symm.trans he)
    · exact .inr ⟨x, hy, e, hr⟩
theorem RdyI.off {L : List Strm} {T : List Nat} (h : RdyI L T) {id : Nat} {b : Bool} (hb : hasL id L = true → b = false) : RdyI (updL id (setReady b) L) (T.filter (fun z => decide (z ≠ id))) := by
  intro i
  rw [List.mem_filter, h i]
  constructor
  · rintro ⟨⟨x, hx, e, hr⟩, hne⟩
    have hne' : i ≠ id := by simpa using hne
    exact ⟨_, List.mem_map.2 ⟨x, hx, rfl⟩, by rw [if_neg (by rw [e]; exact hne')]; exact e, by rw [if_neg (by rw [e]; exact hne')]; exact hr⟩
  · rintro ⟨x, hx, e, hr⟩
    rcases mem_updL (f := setReady b) (fun x => rfl) hx with ⟨y, hy, he, rfl⟩ | ⟨hy, hne⟩
    · have : b = false := hb (List.any_eq_true.2 ⟨y, hy, by simpa using he⟩)
      subst this
      cases hr
    · exact ⟨⟨x, hy, e, hr⟩, by simpa using (by rw [← e]; exact hne)⟩
theorem RdyI.drop {L : List Strm} {T : List Nat} {ids : List Nat} (h : RdyI (dropL ids L) T) (id : Nat) : RdyI (dropL (ids ++ [id]) L) (T.filter (fun z => decide (z ≠ id))) := by
  intro i
  rw [List.mem_filter, h i, dropL_snoc]
  constructor
  · rintro ⟨⟨x, hx, e, hr⟩, hne⟩
    exact ⟨x, List.mem_filter.2 ⟨hx, by rw [e]; exact hne⟩, e, hr⟩
  · rintro ⟨x, hx, e, hr⟩
    obtain ⟨h1, h2⟩ := List.mem_filter.1 hx
    exact ⟨⟨x, h1, e, hr⟩, by rw [← e]; exact h2⟩
theorem RdyI.served {L : List Strm} {T : List Nat} (h : RdyI L T) (id n : Nat) : RdyI (updL id (setServed n) L) T := by
  intro i
  rw [h i]
  constructor
  · rintro ⟨x, hx, e, hr⟩
    refine ⟨_, List.mem_map.2 ⟨x, hx, rfl⟩, ?_, ?_⟩
    · split <;> exact e
    · split <;> exact hr
  · rintro ⟨x, hx, e, hr⟩
    rcases mem_updL (f := setServed n) (fun x => rfl) hx with ⟨y, hy, he, rfl⟩ | ⟨hy, hne⟩
    · exact ⟨y, hy, e, hr⟩
    · exact ⟨x, hy, e, hr⟩
theorem updL_alike {L : List Strm} {id : Nat} {f : Strm → Strm} (hf : ∀ x, (f x).id = x.id ∧ (f x).urg = x.urg ∧ (f x).inc = x.inc) : ∀ y ∈ updL id f L, ∃ x ∈ L, x.id = y.id ∧ x.urg = y.urg ∧ x.inc = y.inc := by
  intro y hy
  rcases mem_updL (f := f) (fun x => (hf x).1) hy with ⟨x, hx, he, rfl⟩ | ⟨hx, _⟩
  · exact ⟨x, hx, (hf x).1.symm, (hf x).2.1.symm, (hf x).2.2.symm⟩
  · exact ⟨y, hx, rfl, rfl, rfl⟩
theorem RdyI.empty {L : List Strm} {T : List Nat} (h : RdyI L T) (hn : ∀ x ∈ L, x.ready = false) : T = [] := by
  cases T with
  | nil => rfl
  | cons t T =>
    obtain ⟨x, hx, _, hr⟩ := (h t).1 (List.mem_cons_self ..)
    rw [hn x hx] at hr; cases hr
theorem RdyI.best {L : List Strm} {T : List Nat} (h : RdyI L T) {b : Strm} (hb : IsBest L b) : b.id ∈ T := (h b.id).2 ⟨b, hb.1, rfl, hb.2.1⟩
/-- No one that is ready goes ahead of the best. -/
theorem best_first {L : List Strm} {b y : Strm} (hb : IsBest L b) (hy : y ∈ L) (hr : y.ready = true) : ¬ y.urg < b.urg ∧ (b.urg < y.urg ∨ (b.urg = y.urg ∧ (b.inc = false ∨ y.inc = true))) := by
  rcases hb.2.2 y hy hr with rfl | h
  · refine ⟨by omega, .inr ⟨rfl, ?_⟩⟩
    cases y.inc <;> simp
  · unfold kl kb at h
    refine ⟨by omega, ?_⟩
    rcases h with h | ⟨h1, h2⟩
    · exact .inl h
    · refine .inr ⟨h1, ?_⟩
      cases hbi : b.inc <;> cases hyi : y.inc <;> simp [hbi, hyi] at h2 ⊢
end Go.Proofs.YtjkihpbpnoelnaaGreatDoor
