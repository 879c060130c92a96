/- Plans and the document's lists: the same streams; turns. No program here. -/
import Derived.Test.YtjkihpbpnoelnaaGreatDoorPr2
namespace Go.Proofs.YtjkihpbpnoelnaaGreatDoor
set_option linter.unusedVariables false
def NodI (L : List Strm) : Prop := (L.map Strm.id).Nodup
theorem Asc.nod {L : List Strm} (h : Asc L) : NodI L := by
  unfold NodI Asc at *
  rw [List.nodup_iff_pairwise_ne, List.pairwise_map]
  exact h.imp fun {a b} hab => by omega
theorem NodI.perm {L M : List Strm} (h : L.Perm M) (hd : NodI L) : NodI M := ((h.map Strm.id).nodup_iff).1 hd
theorem NodI.dist {L : List Strm} (h : NodI L) : Dist L := by
  intro x hx y hy he
  obtain ⟨i, hi, rfl⟩ := List.getElem_of_mem hx
  obtain ⟨j, hj, rfl⟩ := List.getElem_of_mem hy
  have := (List.getElem_inj (xs := L.map Strm.id) (i := i) (j := j) (h₀ := by simpa using hi) (h₁ := by simpa using hj) h).1 (by simpa using he)
  subst this
  rfl
/-- A stream's place in the document's list. -/
theorem place_yes {L : List Strm} {id k : Nat} (hk : k < L.length) (h : (L.getD k default).id = id) : hasL id L = true := by
  unfold hasL
  rw [List.any_eq_true]
  exact ⟨_, mem_getD hk, by rw [beq_iff_eq]; exact h⟩
theorem place_no {L : List Strm} {id : Nat} (h : ∀ j, j < L.length → (L.getD j default).id ≠ id) : hasL id L = false := by
  unfold hasL
  rw [Bool.eq_false_iff]
  intro h2
  obtain ⟨x, hx, he⟩ := List.any_eq_true.1 h2
  obtain ⟨j, hj, rfl⟩ := getD_of_mem hx
  exact h j hj (by simpa using he)
theorem hasL_perm {L M : List Strm} (h : L.Perm M) (id : Nat) : hasL id L = hasL id M := by
  unfold hasL
  rw [Bool.eq_iff_iff, List.any_eq_true, List.any_eq_true]
  exact ⟨fun ⟨x, hx, he⟩ => ⟨x, h.mem_iff.1 hx, he⟩, fun ⟨x, hx, he⟩ => ⟨x, h.mem_iff.2 hx, he⟩⟩
/-- One stream is turned. -/
theorem set_updL {L : List Strm} (f : Strm → Strm) (h : NodI L) {i : Nat} (hi : i < L.length) : L.set i (f (L.getD i default)) = updL (L.getD i default).id f L := by
  unfold updL
  refine List.ext_getElem (by rw [List.length_set, List.length_map]) ?_
  intro j h1 h2
  have hj : j < L.length := by rw [List.length_set] at h1; exact h1
  rw [List.getElem_set, List.getElem_map]
  split
  · rename_i e
    subst e
    simp [hi]
  · rename_i e
    rw [if_neg]
    intro hh
    have := (List.getElem_inj (xs := L.map Strm.id) (i := i) (j := j) (h₀ := by simpa using hi) (h₁ := by simpa using hj) h).1 (by simp [hi] at hh ⊢; exact hh.symm)
    exact e this
theorem updL_perm {L M : List Strm} (h : L.Perm M) (id : Nat) (f : Strm → Strm) : (updL id f L).Perm (updL id f M) := h.map _
theorem updL_nod {L : List Strm} {id : Nat} {f : Strm → Strm} (hf : ∀ x, (f x).id = x.id) (h : NodI L) : NodI (updL id f L) := by
  unfold NodI updL at *
  rw [List.map_map]
  have e : (Strm.id ∘ fun x => if x.id = id then f x else x) = Strm.id := by
    funext x
    simp only [Function.comp]
    split
    · exact hf x
    · rfl
  rw [e]; exact h
/-- One stream is left out. -/
theorem erase_filter {L : List Strm} (h : NodI L) {i : Nat} (hi : i < L.length) : L.take i ++ L.drop (i + 1) = L.filter (fun x => decide (x.id ≠ (L.getD i default).id)) := by
  induction L generalizing i with
  | nil => simp at hi
  | cons x L ih =>
    have h2 := List.nodup_cons.1 (show (x.id :: L.map Strm.id).Nodup from h)
    cases i with
    | zero =>
      simp only [List.take_zero, List.nil_append, List.drop_succ_cons, List.drop_zero, List.getD_cons_zero, List.filter_cons]
      rw [if_neg (by simp)]
      exact (List.filter_eq_self.2 fun y hy => by
        simp only [ne_eq, decide_not, Bool.not_eq_true', decide_eq_false_iff_not]
        intro e
        exact h2.1 (List.mem_map.2 ⟨y, hy, e⟩)).symm
    | succ i =>
      have hi' : i < L.length := by simpa using hi
      have hne : x.id ≠ (L.getD i default).id := fun e => h2.1 (List.mem_map.2 ⟨_, mem_getD hi', e.symm⟩)
      simp only [List.take_succ_cons, List.cons_append, List.drop_succ_cons, List.getD_cons_succ, List.filter_cons]
      rw [if_pos (by simpa using hne), ih h2.2 hi']
theorem filter_no {L : List Strm} {id : Nat} (h : hasL id L = false) : L.filter (fun x => decide (x.id ≠ id)) = L :=
  List.filter_eq_self.2 fun y hy => by
    simp only [ne_eq, decide_not, Bool.not_eq_true', decide_eq_false_iff_not]
    intro e
    have : hasL id L = true := by
      unfold hasL
      rw [List.any_eq_true]
      exact ⟨y, hy, by simp [e]⟩
    rw [h] at this; cases this
/-- Those are left out whose numbers are told. -/
def dropL (ids : List Nat) (L : List Strm) : List Strm := L.filter fun x => !ids.contains x.id
theorem dropL_nil (L : List Strm) : dropL [] L = L := List.filter_eq_self.2 fun y _ => by simp
theorem dropL_snoc (ids : List Nat) (id : Nat) (L : List Strm) : dropL (ids ++ [id]) L = (dropL ids L).filter fun x => decide (x.id ≠ id) := by
  unfold dropL
  rw [List.filter_filter]
  congr 1
  funext x
  rw [List.contains_append]
  cases h : ids.contains x.id <;> by_cases h2 : x.id = id <;> simp [h2]
theorem dropL_perm {L M : List Strm} (h : L.Perm M) (ids : List Nat) : (dropL ids L).Perm (dropL ids M) := h.filter _
theorem dropL_nod {L : List Strm} (h : NodI L) (ids : List Nat) : NodI (dropL ids L) := by
  unfold NodI dropL at *
  exact List.Nodup.sublist (List.Sublist.map _ List.filter_sublist) h
/-! ### Turns -/
def setServed (n : Nat) (x : Strm) : Strm := { x with served := n }
/-- What stands while streams of one urgency, all incremental, take turns: c0 the clock where the round began, S those that were served in it. -/
structure TurnI (L : List Strm) (ck c0 : Nat) (u : Nat) (In : Nat → Prop) (S : Nat → Prop) : Prop where
  le : c0 ≤ ck
  mine : ∀ x ∈ L, In x.id → x.ready = true ∧ x.inc = true ∧ x.urg = u
  other : ∀ x ∈ L, ¬ In x.id → u < x.urg
  top : ∀ x ∈ L, x.served ≤ ck
  seen : ∀ x ∈ L, In x.id → (S x.id → c0 < x.served) ∧ (¬ S x.id → x.served ≤ c0)
theorem TurnI.start {L : List Strm} {ck u : Nat} {In : Nat → Prop} (h1 : ∀ x ∈ L, In x.id → x.ready = true ∧ x.inc = true ∧ x.urg = u) (h2 : ∀ x ∈ L, ¬ In x.id → u < x.urg) (h3 : ∀ x ∈ L, x.served ≤ ck) : TurnI L ck ck u In (fun _ => False) :=
  ⟨Nat.le_refl _, h1, h2, h3, fun x hx _ => ⟨fun h => h.elim, fun _ => h3 x hx⟩⟩
/-- Who goes first was not yet served in this round, if one was not. -/
theorem TurnI.best {L : List Strm} {ck c0 u : Nat} {In S : Nat → Prop} (h : TurnI L ck c0 u In S) {y : Strm} (hy : y ∈ L) (hyI : In y.id) (hyS : ¬ S y.id) {b : Strm} (hb : IsBest L b) : In b.id ∧ ¬ S b.id := by
  obtain ⟨hbL, hbr, hbb⟩ := hb
  obtain ⟨yr, yi, yu⟩ := h.mine y hy hyI
  have hk := hbb y hy yr
  by_cases hbI : In b.id
  · refine ⟨hbI, fun hbS => ?_⟩
    obtain ⟨br, bi, bu⟩ := h.mine b hbL hbI
    have e1 := (h.seen b hbL hbI).1 hbS
    have e2 := (h.seen y hy hyI).2 hyS
    rcases hk with rfl | hk
    · exact hyS hbS
    · unfold kl kb ks at hk
      rw [bi, yi, bu, yu] at hk
      simp at hk
      omega
  · have := h.other b hbL hbI
    rcases hk with rfl | hk
    · exact absurd hyI hbI
    · unfold kl at hk
      omega
theorem TurnI.serve {L : List Strm} {ck c0 u : Nat} {In S : Nat → Prop} (h : TurnI L ck c0 u In S) {b : Strm} (hbI : In b.id) : TurnI (updL b.id (setServed (ck + 1)) L) (ck + 1) c0 u In (fun i => S i ∨ i = b.id) := by
  have hm : ∀ x ∈ updL b.id (setServed (ck + 1)) L, ∃ y ∈ L, x = (if y.id = b.id then setServed (ck + 1) y else y) := fun x hx => by
    obtain ⟨y, hy, rfl⟩ := List.mem_map.1 hx
    exact ⟨y, hy, rfl⟩
  have hle := h.le
  refine ⟨by omega, fun x hx hI => ?_, fun x hx hI => ?_, fun x hx => ?_, fun x hx hI => ?_⟩
  · obtain ⟨y, hy, rfl⟩ := hm x hx
    by_cases he : y.id = b.id
    · rw [if_pos he] at hI ⊢; exact h.mine y hy hI
    · rw [if_neg he] at hI ⊢; exact h.mine y hy hI
  · obtain ⟨y, hy, rfl⟩ := hm x hx
    by_cases he : y.id = b.id
    · rw [if_pos he] at hI ⊢; exact h.other y hy hI
    · rw [if_neg he] at hI ⊢; exact h.other y hy hI
  · obtain ⟨y, hy, rfl⟩ := hm x hx
    have := h.top y hy
    split <;> simp [setServed] <;> omega
  · obtain ⟨y, hy, rfl⟩ := hm x hx
    by_cases he : y.id = b.id
    · rw [if_pos he] at hI ⊢
      exact ⟨fun _ => by show c0 < ck + 1; omega, fun hn => absurd (.inr he) hn⟩
    · rw [if_neg he] at hI ⊢
      have := h.seen y hy hI
      exact ⟨fun hs => this.1 (hs.resolve_right he), fun hn => this.2 fun hs => hn (.inl hs)⟩
end Go.Proofs.YtjkihpbpnoelnaaGreatDoor
