/- Plans in memory, beside other things of the call's own: the calls' contracts in one shape. -/
import Derived.Test.YtjkihpbpnoelnaaGreatDoorPr10
namespace Go.Proofs.YtjkihpbpnoelnaaGreatDoor
open Go.RowKit
set_option linter.unusedVariables false
theorem setL_ok {L : List Strm} {ck u id : Nat} {b : Bool} (h : PlanOk L ck) (hid : id < 18446744073709551616) : PlanOk (setL u b id L) ck := by
  unfold setL
  by_cases h7 : 7 < u
  · rw [if_pos h7]; exact h
  · rw [if_neg h7]
    cases hh : hasL id L with
    | true =>
      rw [if_pos rfl]
      refine ⟨updL_asc (fun x => rfl) h.asc, by rw [updL_len]; exact h.len, fun x hx => ?_, h.ck⟩
      obtain ⟨y, hy, rfl⟩ := List.mem_map.1 hx
      have := h.mem y hy
      split
      · exact ⟨by show u ≤ 7; omega, this.2⟩
      · exact this
    | false =>
      rw [if_neg (by simp)]
      by_cases h256 : 256 ≤ L.length
      · rw [if_pos h256]; exact h
      · rw [if_neg h256]
        refine ⟨insL_asc h.asc hh, by rw [insL_len]; omega, fun x hx => ?_, h.ck⟩
        rcases List.mem_cons.1 ((insL_perm _ L).mem_iff.1 hx) with rfl | hx
        · exact ⟨by show u ≤ 7; omega, Nat.zero_le _, hid⟩
        · exact h.mem x hx
theorem updL_ok {L : List Strm} {ck id : Nat} {f : Strm → Strm} (h : PlanOk L ck) (hf : ∀ x, (f x).id = x.id ∧ (f x).urg = x.urg ∧ (f x).served = x.served) : PlanOk (updL id f L) ck :=
  ⟨updL_asc (fun x => (hf x).1) h.asc, by rw [updL_len]; exact h.len, fun x hx => by
    obtain ⟨y, hy, rfl⟩ := List.mem_map.1 hx
    have := h.mem y hy
    split
    · rw [(hf y).1, (hf y).2.1, (hf y).2.2]; exact this
    · exact this, h.ck⟩
theorem srv_ok {L : List Strm} {ck id : Nat} (h : PlanOk L ck) (hck : ck < 1000000) : PlanOk (updL id (setServed (ck + 1)) L) (ck + 1) :=
  ⟨updL_asc (fun x => rfl) h.asc, by rw [updL_len]; exact h.len, fun x hx => by
    obtain ⟨y, hy, rfl⟩ := List.mem_map.1 hx
    have := h.mem y hy
    split
    · exact ⟨this.1, Nat.le_refl _, this.2.2⟩
    · exact ⟨this.1, by omega, this.2.2⟩, by omega⟩
theorem drop_ok {L : List Strm} {ck : Nat} (ids : List Nat) (h : PlanOk L ck) : PlanOk (dropL ids L) ck :=
  ⟨filter_asc h.asc _, Nat.le_trans (List.length_filter_le _ _) h.len, fun x hx => h.mem x (List.mem_filter.1 hx).1, h.ck⟩
/-- A plan of the call's own, beside the blocks of X. -/
structure PSt (w0 : World) (q base : Nat) (X : Nat → Prop) (ck : Nat) (L : List Strm) (w : World) : Prop where
  below : Below w0.heap.size w0 w
  ex : ∃ a n cap, PlanAt w base q a n cap ck L ∧ ∀ x, a = some x → ¬ X x.block
  ok : PlanOk L ck
  qle : w0.heap.size ≤ q
  bs : w0.heap.size ≤ base ∧ base ≤ w.heap.size
  xs : ∀ k, X k → k < w.heap.size ∧ k ≠ q
/-- Other blocks turn, and come. -/
theorem PSt.foreign {w0 w w' : World} {q base ck : Nat} {X X' : Nat → Prop} {L : List Strm} (h : PSt w0 q base X ck L w) (ho : Only X w w') (hX0 : ∀ k, X k → w0.heap.size ≤ k) (hX : ∀ k, X' k → (X k ∨ w.heap.size ≤ k) ∧ k < w'.heap.size) : PSt w0 q base X' ck L w' := by
  obtain ⟨a, n, cap, hP, ha⟩ := h.ex
  have hq := hP.blk.lt
  refine ⟨below_onto h.below ho h.below.size (fun k hk hx => by have := hX0 k hx; omega), ⟨a, n, cap, hP.only ho (fun hx => (h.xs _ hx).2 rfl) ha, fun x hx hX' => ?_⟩, h.ok, h.qle, ⟨h.bs.1, Nat.le_trans h.bs.2 ho.size⟩, fun k hk => ⟨(hX k hk).2, ?_⟩⟩
  · rcases (hX _ hX').1 with h1 | h1
    · exact ha x hx h1
    · have := (hP.own.block hx).2.1; omega
  · rcases (hX k hk).1 with h1 | h1
    · exact (h.xs k h1).2
    · intro e; subst e; exact absurd hq (by omega)
theorem PSt.same {w0 w w' : World} {q base ck : Nat} {X : Nat → Prop} {L : List Strm} (h : PSt w0 q base X ck L w) (hb : Below w.heap.size w w') : PSt w0 q base X ck L w' := by
  obtain ⟨a, n, cap, hP, ha⟩ := h.ex
  exact ⟨below_on h.below hb h.below.size, ⟨a, n, cap, hP.below hb, ha⟩, h.ok, h.qle, ⟨h.bs.1, Nat.le_trans h.bs.2 hb.size⟩, fun k hk => ⟨Nat.lt_of_lt_of_le (h.xs k hk).1 hb.size, (h.xs k hk).2⟩⟩
/-- What a call on the plan keeps: the blocks of X. -/
def KeepX (X : Nat → Prop) (w w' : World) : Prop := Only (fun k => ¬ X k) w w'
theorem PSt.step {w0 w w' : World} {q base ck ck' : Nat} {X : Nat → Prop} {L L' : List Strm} {a : Option Addr} (h : PSt w0 q base X ck L w) {n cap : Nat} (hP : PlanAt w base q a n cap ck L) (ha : ∀ x, a = some x → ¬ X x.block) (hok : PlanOk L' ck')
    (ho : Only (PS q a) w w') {a' : Option Addr} {n' c' : Nat} (hP' : PlanAt w' base q a' n' c' ck' L') (hat : ∀ y, a' = some y → (∃ z, a = some z ∧ y.block = z.block) ∨ w.heap.size ≤ y.block) : PSt w0 q base X ck' L' w' ∧ KeepX X w w' := by
  have hbb : ∀ x, a = some x → base ≤ x.block := fun x hx => (hP.own.block hx).1
  refine ⟨⟨below_onto h.below ho h.below.size (fun k hk hs => ?_), ⟨a', n', c', hP', fun y hy hX => ?_⟩, hok, h.qle, ⟨h.bs.1, Nat.le_trans h.bs.2 ho.size⟩, fun k hk => ⟨Nat.lt_of_lt_of_le (h.xs k hk).1 ho.size, (h.xs k hk).2⟩⟩, ho.mono fun k _ hs hX => ?_⟩
  · rcases hs with rfl | ⟨x, hx, rfl⟩
    · have := h.qle; omega
    · have := hbb x hx; have := h.bs.1; omega
  · rcases hat y hy with ⟨z, hz, e⟩ | h1
    · rw [e] at hX; exact ha z hz hX
    · have := (h.xs _ hX).1; omega
  · rcases hs with rfl | ⟨x, hx, rfl⟩
    · exact (h.xs _ hX).2 rfl
    · exact ha x hx hX
def StPost (w0 : World) (q base : Nat) (X : Nat → Prop) (ck : Nat) (L : List Strm) (v : Value) (w : World) (e : Ending) (w' : World) : Prop := e = .returned v ∧ PSt w0 q base X ck L w' ∧ KeepX X w w'
theorem set_st {w0 w : World} {q base ck : Nat} {X : Nat → Prop} {L : List Strm} (h : PSt w0 q base X ck L w) (id u : Nat) (b : Bool) (hu : u < 256) (hid : id < 18446744073709551616) :
    Calls Tryz.prog 13 #[.pointer (some ⟨q, 0, none⟩), .int .u64 id, .agg #[.int .u8 u, .bool b]] w fun e w' => StPost w0 q base X ck (setL u b id L) (.int .i64 (setR u id L)) w e w' := by
  obtain ⟨a, n, cap, hP, ha⟩ := h.ex
  refine (set_any base q a n cap ck L id u b w hP h.ok h.bs.2 hu hid).mono ?_
  rintro e w' ⟨rfl, ho, a', n', c', hP', hat⟩
  exact ⟨rfl, h.step hP ha (setL_ok h.ok hid) ho hP' hat⟩
theorem ready_st {w0 w : World} {q base ck : Nat} {X : Nat → Prop} {L : List Strm} (h : PSt w0 q base X ck L w) (id : Nat) (b : Bool) :
    Calls Tryz.prog 14 #[.pointer (some ⟨q, 0, none⟩), .int .u64 id, .bool b] w fun e w' => StPost w0 q base X ck (updL id (setReady b) L) (.int .i64 (if hasL id L then 0 else 4)) w e w' := by
  obtain ⟨a, n, cap, hP, ha⟩ := h.ex
  refine (ready_any base q a n cap ck L id b w hP h.ok).mono ?_
  rintro e w' ⟨ho, hP', h1, h2⟩
  refine ⟨?_, h.step hP ha (updL_ok h.ok (fun x => ⟨rfl, rfl, rfl⟩)) ho hP' (same_spot _ _)⟩
  cases hh : hasL id L with
  | false => exact h1 hh
  | true => exact h2 hh
/-- Whose turn it is, told by the best one. -/
def TopIs (L : List Strm) (v : Value) : Prop := ((∀ x ∈ L, x.ready = false) ∧ v = .tuple #[.int .u64 0, .bool false]) ∨ ∃ x, IsBest L x ∧ v = .tuple #[.int .u64 x.id, .bool true]
theorem top_st {w0 w : World} {q base ck : Nat} {X : Nat → Prop} {L : List Strm} (h : PSt w0 q base X ck L w) :
    Calls Tryz.prog 10 #[.pointer (some ⟨q, 0, none⟩)] w fun e w' => Below w.heap.size w w' ∧ ∃ v, e = .returned v ∧ TopIs L v := by
  obtain ⟨a, n, cap, hP, ha⟩ := h.ex
  refine (top_any base q a n cap ck L w hP h.ok).mono ?_
  rintro e w' ⟨hb, best, hI, h1, h2⟩
  cases best with
  | none => exact ⟨hb, _, h1 rfl, .inl ⟨hI.none_of, rfl⟩⟩
  | some i =>
    have hlt : i < L.length := hI.1
    have hb' := hI.best_of
    have hg : L.getD i default = L[i] := by simp [hlt]
    rw [hg] at hb'
    exact ⟨hb, _, h2 i L[i] rfl (by simp), .inr ⟨_, hb', rfl⟩⟩
/-- Behind Serve: none was ready, or the best one was served. -/
def SrvIs (w0 : World) (q base : Nat) (X : Nat → Prop) (ck : Nat) (L : List Strm) (v : Value) (w' : World) : Prop := ((∀ x ∈ L, x.ready = false) ∧ v = .tuple #[.int .u64 0, .bool false] ∧ PSt w0 q base X ck L w') ∨ ∃ x, IsBest L x ∧ v = .tuple #[.int .u64 x.id, .bool true] ∧ PSt w0 q base X (ck + 1) (updL x.id (setServed (ck + 1)) L) w'
theorem serve_st {w0 w : World} {q base ck : Nat} {X : Nat → Prop} {L : List Strm} (h : PSt w0 q base X ck L w) (hck : ck < 1000000) :
    Calls Tryz.prog 11 #[.pointer (some ⟨q, 0, none⟩)] w fun e w' => KeepX X w w' ∧ ∃ v, e = .returned v ∧ SrvIs w0 q base X ck L v w' := by
  obtain ⟨a, n, cap, hP, ha⟩ := h.ex
  refine (serve_any base q a n cap ck L w hP h.ok).mono ?_
  rintro e w' ⟨ho, best, hI, h1, h2⟩
  cases best with
  | none =>
    obtain ⟨rfl, hP'⟩ := h1 rfl
    have := h.step hP ha h.ok ho hP' (same_spot _ _)
    exact ⟨this.2, _, rfl, .inl ⟨hI.none_of, rfl, this.1⟩⟩
  | some i =>
    have hlt : i < L.length := hI.1
    have hb' := hI.best_of
    have hg : L.getD i default = L[i] := by simp [hlt]
    rw [hg] at hb'
    obtain ⟨rfl, hP'⟩ := h2 i L[i] rfl (by simp)
    have := h.step hP ha (srv_ok h.ok hck) ho hP' (same_spot _ _)
    exact ⟨this.2, _, rfl, .inr ⟨_, hb', rfl, this.1⟩⟩
theorem drop_st {w0 w : World} {q base ck : Nat} {X : Nat → Prop} {L : List Strm} (h : PSt w0 q base X ck L w) (aI : Option Addr) (nI cI : Nat) (ids : List Nat) (hn : nI = ids.length) (hS : Sl .u64 w aI cI (natI ids)) (hl : ids.length ≤ 1000000) (hid : ∀ z, aI = some z → 0 < ids.length → X z.block ∨ z.block < w0.heap.size ∨ z.block < base ∨ w.heap.size ≤ z.block) :
    Calls Tryz.prog 15 #[.pointer (some ⟨q, 0, none⟩), .slice aI nI cI] w fun e w' => StPost w0 q base X ck (dropL ids L) (.int .i64 ((L.length - (dropL ids L).length : Nat) : Int)) w e w' := by
  obtain ⟨a, n, cap, hP, ha⟩ := h.ex
  refine (drop_any base q a n cap ck L aI nI cI ids w hP h.ok hn hS hl (fun z hz h0 y hy e => ?_)).mono ?_
  · have h1 := hP.own.block hy
    rcases hid z hz h0 with h2 | h2 | h2 | h2
    · rw [e] at h2; exact ha y hy h2
    · have := h.bs.1; omega
    · omega
    · omega
  · rintro e w' ⟨rfl, ho, a', n', c', hP', hat⟩
    exact ⟨rfl, h.step hP ha (drop_ok ids h.ok) ho hP' hat⟩
theorem len_st {w0 w : World} {q base ck : Nat} {X : Nat → Prop} {L : List Strm} (h : PSt w0 q base X ck L w) :
    Calls Tryz.prog 16 #[.pointer (some ⟨q, 0, none⟩)] w fun e w' => w' = w ∧ e = .returned (.int .i64 (L.length : Nat)) := by
  obtain ⟨a, n, cap, hP, ha⟩ := h.ex
  refine (len_any base q a n cap ck L w hP).mono ?_
  rintro e w' ⟨rfl, rfl⟩
  exact ⟨rfl, by rw [hP.len]⟩
theorem new_st (w0 w : World) (h : Below w0.heap.size w0 w) : Calls Tryz.prog 17 #[] w fun e w' => ∃ q, e = .returned (.pointer (some ⟨q, 0, none⟩)) ∧ PSt w0 q (q + 1) (fun _ => False) 0 [] w' ∧ w.heap.size ≤ q ∧ Below w.heap.size w w' := by
  refine (new_any w).mono ?_
  rintro e w' ⟨rfl, hb, hP, hs⟩
  have hs0 := h.size
  exact ⟨_, rfl, ⟨below_on h hb h.size, ⟨none, 0, 0, hP, fun x hx => (by cases hx)⟩, ⟨List.Pairwise.nil, by simp, fun x hx => (by cases hx), by omega⟩, hs0, ⟨by omega, by omega⟩, fun k hk => hk.elim⟩, Nat.le_refl _, hb⟩
end Go.Proofs.YtjkihpbpnoelnaaGreatDoor
