/- Turns: what stands in the plan while it is set up and served. No program here. -/
import Derived.Test.YtjkihpbpnoelnaaGreatDoorPr16
import Derived.Test.YtjkihpbpnoelnaaGreatDoorSetM
namespace Go.Proofs.YtjkihpbpnoelnaaGreatDoor
set_option linter.unusedVariables false
theorem setL_has {L : List Strm} {u id : Nat} {b : Bool} (hu : u ≤ 7) (hl : L.length < 256) : hasL id (setL u b id L) = true ∧ setR u id L = 0 ∧ (setL u b id L).length ≤ L.length + 1 := by
  unfold setL setR
  have n7 : ¬ 7 < u := by omega
  have n256 : ¬ 256 ≤ L.length := by omega
  cases hh : hasL id L with
  | true =>
    simp only [n7, if_false, if_true]
    refine ⟨?_, trivial, by rw [updL_len]; omega⟩
    obtain ⟨x, hx, he⟩ := List.any_eq_true.1 hh
    have he' : x.id = id := by simpa using he
    exact List.any_eq_true.2 ⟨setX u b x, List.mem_map.2 ⟨x, hx, by rw [if_pos he']⟩, by simpa [setX] using he'⟩
  | false =>
    simp only [n7, n256, if_false, Bool.false_eq_true]
    exact ⟨List.any_eq_true.2 ⟨⟨id, u, b, false, 0⟩, (insL_perm _ L).mem_iff.2 (List.mem_cons_self ..), by simp⟩, trivial, by rw [insL_len]; omega⟩
theorem mem_setL {L : List Strm} {u id : Nat} {b : Bool} {x : Strm} (hu : u ≤ 7) (hl : L.length < 256) (hx : x ∈ setL u b id L) : (x.id = id ∧ x.urg = u ∧ x.inc = b ∧ (x.served = 0 ∨ ∃ y ∈ L, y.served = x.served)) ∨ (x ∈ L ∧ x.id ≠ id) := by
  unfold setL at hx
  rw [if_neg (by omega)] at hx
  cases hh : hasL id L with
  | true =>
    rw [hh, if_pos rfl] at hx
    obtain ⟨y, hy, rfl⟩ := List.mem_map.1 hx
    by_cases he : y.id = id
    · rw [if_pos he]; exact .inl ⟨he, rfl, rfl, .inr ⟨y, hy, rfl⟩⟩
    · rw [if_neg he]; exact .inr ⟨hy, he⟩
  | false =>
    rw [hh, if_neg (by simp), if_neg (by omega)] at hx
    rcases List.mem_cons.1 ((insL_perm _ L).mem_iff.1 hx) with rfl | hx
    · exact .inl ⟨rfl, rfl, rfl, .inl rfl⟩
    · refine .inr ⟨hx, fun e => ?_⟩
      have : hasL id L = true := List.any_eq_true.2 ⟨x, hx, by simpa using e⟩
      rw [hh] at this; cases this
theorem mem_updL {L : List Strm} {id : Nat} {f : Strm → Strm} (hf : ∀ x, (f x).id = x.id) {x : Strm} (hx : x ∈ updL id f L) : (∃ y ∈ L, y.id = id ∧ x = f y) ∨ (x ∈ L ∧ x.id ≠ id) := by
  obtain ⟨y, hy, rfl⟩ := List.mem_map.1 hx
  by_cases he : y.id = id
  · rw [if_pos he]; exact .inl ⟨y, hy, he, rfl⟩
  · rw [if_neg he]; exact .inr ⟨hy, he⟩
theorem has_updL {L : List Strm} {id i : Nat} {f : Strm → Strm} (hf : ∀ x, (f x).id = x.id) : hasL i (updL id f L) = hasL i L := by
  rw [Bool.eq_iff_iff]
  unfold hasL
  rw [List.any_eq_true, List.any_eq_true]
  constructor
  · rintro ⟨x, hx, he⟩
    obtain ⟨y, hy, rfl⟩ := List.mem_map.1 hx
    refine ⟨y, hy, ?_⟩
    by_cases h : y.id = id
    · rw [if_pos h, hf] at he; exact he
    · rw [if_neg h] at he; exact he
  · rintro ⟨x, hx, he⟩
    refine ⟨_, List.mem_map.2 ⟨x, hx, rfl⟩, ?_⟩
    by_cases h : x.id = id
    · rw [if_pos h, hf]; exact he
    · rw [if_neg h]; exact he
theorem has_setL_other {L : List Strm} {u id i : Nat} {b : Bool} (h : hasL i L = true) : hasL i (setL u b id L) = true := by
  unfold setL
  split
  · exact h
  · split
    · rw [has_updL (f := setX u b) (fun x => rfl)]; exact h
    · split
      · exact h
      · obtain ⟨x, hx, he⟩ := List.any_eq_true.1 h
        exact List.any_eq_true.2 ⟨x, (insL_perm _ L).mem_iff.2 (by simp [hx]), he⟩
/-- Streams are set and ready; those of T are of urgency u, and take turns; others wait. -/
structure UpI (u : Nat) (T : List Nat) (k : Nat) (L : List Strm) : Prop where
  len : L.length ≤ k
  mine : ∀ x ∈ L, x.id ∈ T → x.ready = true ∧ x.inc = true ∧ x.urg = u
  other : ∀ x ∈ L, x.id ∉ T → x.urg = 7
  srv : ∀ x ∈ L, x.served = 0
  has : ∀ i ∈ T, hasL i L = true
theorem UpI.nil (u : Nat) : UpI u [] 0 [] := ⟨by simp, fun x h => (by cases h), fun x h => (by cases h), fun x h => (by cases h), fun i h => (by cases h)⟩
theorem UpI.other_step {u id k : Nat} {L : List Strm} (h : UpI u [] k L) (hk : k < 256) : UpI u [] (k + 1) (updL id (setReady true) (setL 7 false id L)) := by
  have hl : L.length < 256 := Nat.lt_of_le_of_lt h.len hk
  obtain ⟨h1, h2, h3⟩ := setL_has (L := L) (u := 7) (id := id) (b := false) (by omega) hl
  refine ⟨by rw [updL_len]; have := h.len; omega, fun x hx ht => (by cases ht), fun x hx _ => ?_, fun x hx => ?_, fun i hi => (by cases hi)⟩
  · rcases mem_updL (f := setReady true) (fun x => rfl) hx with ⟨y, hy, he, rfl⟩ | ⟨hy, _⟩
    · rcases mem_setL (by omega) hl hy with ⟨_, h5, _⟩ | ⟨h5, _⟩
      · exact h5
      · exact h.other y h5 (by simp)
    · rcases mem_setL (by omega) hl hy with ⟨_, h5, _⟩ | ⟨h5, _⟩
      · exact h5
      · exact h.other x h5 (by simp)
  · rcases mem_updL (f := setReady true) (fun x => rfl) hx with ⟨y, hy, he, rfl⟩ | ⟨hy, _⟩
    · rcases mem_setL (by omega) hl hy with ⟨_, _, _, h5 | ⟨z, hz, h5⟩⟩ | ⟨h5, _⟩
      · exact h5
      · exact h5.symm.trans (h.srv z hz)
      · exact h.srv y h5
    · rcases mem_setL (by omega) hl hy with ⟨_, _, _, h5 | ⟨z, hz, h5⟩⟩ | ⟨h5, _⟩
      · exact h5
      · exact h5.symm.trans (h.srv z hz)
      · exact h.srv x h5
theorem UpI.mine_step {u id k : Nat} {T T' : List Nat} {L : List Strm} (h : UpI u T k L) (hk : k < 256) (hu : u < 7) (hT : ∀ i, i ∈ T' ↔ i = id ∨ i ∈ T) : UpI u T' (k + 1) (updL id (setReady true) (setL u true id L)) := by
  have hl : L.length < 256 := Nat.lt_of_le_of_lt h.len hk
  obtain ⟨h1, h2, h3⟩ := setL_has (L := L) (u := u) (id := id) (b := true) (by omega) hl
  refine ⟨by rw [updL_len]; have := h.len; omega, fun x hx ht => ?_, fun x hx ht => ?_, fun x hx => ?_, fun i hi => ?_⟩
  · rcases mem_updL (f := setReady true) (fun x => rfl) hx with ⟨y, hy, he, rfl⟩ | ⟨hy, hne⟩
    · rcases mem_setL (by omega) hl hy with ⟨_, h5, h6, _⟩ | ⟨_, h5⟩
      · exact ⟨rfl, h6, h5⟩
      · exact absurd he h5
    · rcases mem_setL (by omega) hl hy with ⟨h5, _⟩ | ⟨h5, _⟩
      · exact absurd h5 hne
      · rcases (hT x.id).1 ht with e | e
        · exact absurd e hne
        · exact h.mine x h5 e
  · have hn : ¬ (x.id = id ∨ x.id ∈ T) := fun e => ht ((hT x.id).2 e)
    rcases mem_updL (f := setReady true) (fun x => rfl) hx with ⟨y, hy, he, rfl⟩ | ⟨hy, hne⟩
    · exact absurd (.inl he) hn
    · rcases mem_setL (by omega) hl hy with ⟨h5, _⟩ | ⟨h5, _⟩
      · exact absurd h5 hne
      · exact h.other x h5 (fun e => hn (.inr e))
  · rcases mem_updL (f := setReady true) (fun x => rfl) hx with ⟨y, hy, he, rfl⟩ | ⟨hy, _⟩
    · rcases mem_setL (by omega) hl hy with ⟨_, _, _, h5 | ⟨z, hz, h5⟩⟩ | ⟨h5, _⟩
      · exact h5
      · exact h5.symm.trans (h.srv z hz)
      · exact h.srv y h5
    · rcases mem_setL (by omega) hl hy with ⟨_, _, _, h5 | ⟨z, hz, h5⟩⟩ | ⟨h5, _⟩
      · exact h5
      · exact h5.symm.trans (h.srv z hz)
      · exact h.srv x h5
  · rw [has_updL (f := setReady true) (fun x => rfl)]
    rcases (hT i).1 hi with rfl | hi
    · exact h1
    · exact has_setL_other (h.has i hi)
/-- A round: c0 the clock where it began, S who was served in it. -/
structure RoI (u : Nat) (T S : List Nat) (c0 ck : Nat) (L : List Strm) : Prop where
  turn : TurnI L ck c0 u (· ∈ T) (· ∈ S)
  has : ∀ i ∈ T, hasL i L = true
  nod : S.Nodup
  sub : ∀ i ∈ S, i ∈ T
  ck : ck = c0 + S.length
theorem RoI.begin {u k : Nat} {T : List Nat} {L : List Strm} (h : UpI u T k L) (hu : u < 7) : RoI u T [] 0 0 L :=
  ⟨by
    have := TurnI.start (L := L) (ck := 0) (u := u) (In := (· ∈ T)) h.mine (fun x hx hn => by have := h.other x hx hn; omega) (fun x hx => by rw [h.srv x hx]; exact Nat.le_refl _)
    refine ⟨this.le, this.mine, this.other, this.top, fun x hx hI => ⟨fun hs => (by cases hs), fun _ => (this.seen x hx hI).2 id⟩⟩, h.has, List.nodup_nil, fun i hi => (by cases hi), rfl⟩
theorem RoI.anew {u c0 ck : Nat} {T S : List Nat} {L : List Strm} (h : RoI u T S c0 ck L) : RoI u T [] ck ck L :=
  ⟨by
    have := TurnI.start (L := L) (ck := ck) (u := u) (In := (· ∈ T)) h.turn.mine h.turn.other h.turn.top
    refine ⟨this.le, this.mine, this.other, this.top, fun x hx hI => ⟨fun hs => (by cases hs), fun _ => (this.seen x hx hI).2 id⟩⟩, h.has, List.nodup_nil, fun i hi => (by cases hi), rfl⟩
theorem sub_len : ∀ (T S : List Nat), T.Nodup → (∀ i ∈ T, i ∈ S) → T.length ≤ S.length
  | [], S, _, _ => by simp
  | t :: T, S, hn, h => by
    have h1 := List.nodup_cons.1 hn
    have ht : t ∈ S := h t (by simp)
    have := sub_len T (S.erase t) h1.2 (fun i hi => by
      have hne : i ≠ t := fun e => h1.1 (e ▸ hi)
      exact (List.mem_erase_of_ne hne).2 (h i (by simp [hi])))
    rw [List.length_erase_of_mem ht] at this
    have := List.length_pos_of_mem ht
    simp only [List.length_cons]
    omega
/-- While not all were served, the next one is of T, and was not. -/
theorem RoI.next {u c0 ck : Nat} {T S : List Nat} {L : List Strm} (h : RoI u T S c0 ck L) (hT : T.Nodup) (hl : S.length < T.length) : (∃ y ∈ L, y.ready = true) ∧ ∀ b, IsBest L b → b.id ∈ T ∧ b.id ∉ S ∧ RoI u T (addS b.id S) c0 (ck + 1) (updL b.id (setServed (ck + 1)) L) := by
  have hy : ∃ y, y ∈ T ∧ y ∉ S := by
    apply Classical.byContradiction
    intro hn
    have := sub_len T S hT (fun i hi => Classical.byContradiction fun h => hn ⟨i, hi, h⟩)
    omega
  obtain ⟨y, hyT, hyS⟩ := hy
  obtain ⟨x, hx, hxe⟩ := List.any_eq_true.1 (h.has y hyT)
  have hxe' : x.id = y := by simpa using hxe
  subst hxe'
  refine ⟨⟨x, hx, (h.turn.mine x hx hyT).1⟩, fun b hb => ?_⟩
  have h1 := h.turn.best hx hyT hyS hb
  refine ⟨h1.1, h1.2, ⟨?_, fun i hi => by rw [has_updL (f := setServed (ck + 1)) (fun x => rfl)]; exact h.has i hi, ?_, ?_, ?_⟩⟩
  · have := h.turn.serve (b := b) h1.1
    refine ⟨this.le, this.mine, this.other, this.top, fun x hx hI => ?_⟩
    have hs := this.seen x hx hI
    unfold addS
    rw [if_neg h1.2]
    refine ⟨fun hm => hs.1 ?_, fun hm => hs.2 ?_⟩
    · rcases List.mem_cons.1 hm with e | e
      · exact .inr e
      · exact .inl e
    · rintro (e | e)
      · exact hm (List.mem_cons_of_mem _ e)
      · exact hm (e ▸ List.mem_cons_self ..)
  · unfold addS; rw [if_neg h1.2]; exact List.nodup_cons.2 ⟨h1.2, h.nod⟩
  · unfold addS; rw [if_neg h1.2]
    intro i hi
    rcases List.mem_cons.1 hi with rfl | hi
    · exact h1.1
    · exact h.sub i hi
  · unfold addS; rw [if_neg h1.2, h.ck]; simp; omega
end Go.Proofs.YtjkihpbpnoelnaaGreatDoor
