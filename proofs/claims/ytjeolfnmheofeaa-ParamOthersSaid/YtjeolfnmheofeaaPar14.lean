/- Layer 4 in plain Lean: what is taken may be, and is appended in at most as many bytes. -/
import Derived.Test.YtjeolfnmheofeaaPar13
namespace Go.Proofs.Ytjeolfnmheofeaa
open Go.RowKit
set_option linter.unusedVariables false
set_option linter.unusedSimpArgs false
namespace Par
open Var (Byte takeF takeN takeU enc encs sizeF take_enc enc_length enc_bytes take_ok size_le bytesF)

theorem itemsTo_grow {p q : PV} {id : Nat} (hsame : ∀ k : Nat, k ≠ id → item q k = item p k) (c : Nat) (hid : (item q id).length ≤ (item p id).length + c) : ∀ k, (itemsTo q k).length ≤ (itemsTo p k).length + (if id < k then c else 0)
  | 0 => by simp [itemsTo]
  | k + 1 => by
    have := itemsTo_grow hsame c hid k
    rw [itemsTo_succ, itemsTo_succ, List.length_append, List.length_append]
    by_cases hk : k = id
    · subst hk
      rw [if_neg (by omega)] at this
      rw [if_pos (by omega)]
      omega
    · rw [hsame k hk]
      by_cases h : id < k
      · rw [if_pos h] at this; rw [if_pos (by omega)]; omega
      · rw [if_neg h] at this; rw [if_neg (by omega)]; omega

theorem paramB_grow {p q : PV} {id : Nat} (hid16 : id < 16) (hsame : ∀ k : Nat, k ≠ id → item q k = item p k) (c : Nat) (hid : (item q id).length ≤ (item p id).length + c) : (paramB q).length ≤ (paramB p).length + c := by
  have := itemsTo_grow hsame c hid 16
  rw [if_pos hid16] at this
  exact this

/-- how the parameters stand while they are taken: what was not told has no value yet -/
structure Way (p : PV) (T : List Int) : Prop where
  may : mayF p = true
  pos : ∀ k, 0 ≤ p.num k
  num : ∀ id : Int, id ∉ T → slotF id ≠ 0 → p.num (slotF id) = 0
  o : (0 : Int) ∉ T → p.O = []
  c : (15 : Int) ∉ T → p.C = []
  t : (2 : Int) ∉ T → p.has = false

theorem slot_id {id : Int} (h : slotF id ≠ 0) : ∃ k : Nat, id = k ∧ k < 16 ∧ k ≠ 0 ∧ k ≠ 15 ∧ k ≠ 2 := by
  rcases slot_cases id with ⟨rfl, _⟩ | ⟨rfl, _⟩ | ⟨rfl, _⟩ | ⟨rfl, _⟩ | ⟨rfl, _⟩ | ⟨rfl, _⟩ | ⟨rfl, _⟩ | ⟨rfl, _⟩ | ⟨rfl, _⟩ | h'
  · exact ⟨1, rfl, by omega, by omega, by omega, by omega⟩
  · exact ⟨4, rfl, by omega, by omega, by omega, by omega⟩
  · exact ⟨5, rfl, by omega, by omega, by omega, by omega⟩
  · exact ⟨6, rfl, by omega, by omega, by omega, by omega⟩
  · exact ⟨7, rfl, by omega, by omega, by omega, by omega⟩
  · exact ⟨8, rfl, by omega, by omega, by omega, by omega⟩
  · exact ⟨9, rfl, by omega, by omega, by omega, by omega⟩
  · exact ⟨11, rfl, by omega, by omega, by omega, by omega⟩
  · exact ⟨14, rfl, by omega, by omega, by omega, by omega⟩
  · exact absurd (by omega) h

theorem slot_inj {a b : Int} (ha : slotF a ≠ 0) (h : slotF a = slotF b) : a = b := by
  rcases slot_cases a with ⟨rfl, ea⟩ | ⟨rfl, ea⟩ | ⟨rfl, ea⟩ | ⟨rfl, ea⟩ | ⟨rfl, ea⟩ | ⟨rfl, ea⟩ | ⟨rfl, ea⟩ | ⟨rfl, ea⟩ | ⟨rfl, ea⟩ | h' <;>
  rcases slot_cases b with ⟨rfl, eb⟩ | ⟨rfl, eb⟩ | ⟨rfl, eb⟩ | ⟨rfl, eb⟩ | ⟨rfl, eb⟩ | ⟨rfl, eb⟩ | ⟨rfl, eb⟩ | ⟨rfl, eb⟩ | ⟨rfl, eb⟩ | h'' <;> first | rfl | omega | (exfalso; omega)

theorem way_start : Way p0 [] := ⟨by decide, fun k => by unfold PV.num; split <;> exact Int.le_refl _, fun id _ _ => by unfold PV.num; split <;> rfl, fun _ => rfl, fun _ => rfl, fun _ => rfl⟩

theorem idn_eq (p : PV) (k : Int) : idn p k = if slotF k = 0 then 0 else p.num (slotF k) := rfl

theorem may_of {q : PV} (h1 : ∀ k : Nat, k < 16 → okId q k = true) (h2 : q.O.length ≤ 20) (h3 : q.C.length ≤ 20) (h4 : q.has = true ∨ zeroT q = true) : mayF q = true := by
  rw [mayF_good q h1]
  simp only [Bool.and_eq_true, Bool.or_eq_true, decide_eq_true_eq]
  exact ⟨⟨h2, h3⟩, h4⟩

theorem may_parts {p : PV} (h : mayF p = true) : (∀ k : Nat, k < 16 → okId p k = true) ∧ p.O.length ≤ 20 ∧ p.C.length ≤ 20 ∧ (p.has = true ∨ zeroT p = true) := by
  refine ⟨fun k hk => mayF_id h k hk, (mayF_lens h).1, (mayF_lens h).2, ?_⟩
  unfold mayF at h
  simp only [Bool.and_eq_true, Bool.or_eq_true] at h
  exact h.2.2

theorem pb_len1 (id : Int) (V : List Int) (h : V.length ≤ 63) : (pb id V).length = V.length + 2 := by
  simp [pb, enc_small (V.length : Int) (by omega)]

theorem item_upto {p q : PV} (k : Nat) (h1 : idn q k = idn p k) (h2 : k = 0 → q.O = p.O) (h3 : k = 15 → q.C = p.C) (h4 : k = 2 → q.has = p.has ∧ q.tok = p.tok) : item q k = item p k := by
  unfold item
  rw [h1]
  by_cases e0 : k = 0
  · subst e0; rw [h2 rfl]; simp
  · by_cases e15 : k = 15
    · subst e15; rw [h3 rfl]; simp
    · by_cases e2 : k = 2
      · subst e2; rw [(h4 rfl).1, (h4 rfl).2]; simp
      · simp [e0, e15, e2]

/-- One parameter more. -/
theorem way_step {p : PV} {T : List Int} (h : Way p T) {id : Int} {V : List Int} (hid : id ∉ T) (hV : ∀ x ∈ V, Byte x) (hok : okV id V = true) : Way (updC p id V) (id :: T) ∧ (paramB (updC p id V)).length ≤ (paramB p).length + V.length + 2 := by
  obtain ⟨m1, m2, m3, m4⟩ := may_parts h.may
  unfold updC updV
  by_cases hs : slotF id = 0
  · simp only [hs, ne_eq, not_true_eq_false, if_false]
    have hnum : ∀ (q : PV), (∀ k, q.num k = p.num k) → ∀ k : Int, idn q k = idn p k := fun q hq k => by rw [idn_eq, idn_eq, hq]
    by_cases h0 : id = 0
    · subst h0
      simp only [if_true]
      have hl : V.length ≤ 20 := by
        have e0 : okV 0 V = decide (V.length ≤ 20) := rfl
        rw [e0] at hok; simpa using hok
      have hq : ∀ k, ({ p with oa := none, oc := 0, O := V } : PV).num k = p.num k := fun k => by unfold PV.num; split <;> rfl
      refine ⟨⟨may_of (fun k hk => ?_) hl m3 m4, fun k => by rw [hq]; exact h.pos k, fun id' hn hs' => by rw [hq]; exact h.num id' (fun hm => hn (List.mem_cons_of_mem _ hm)) hs', fun hn => absurd (List.mem_cons_self ..) hn, fun hn => h.c fun hm => hn (List.mem_cons_of_mem _ hm), fun hn => h.t fun hm => hn (List.mem_cons_of_mem _ hm)⟩, ?_⟩
      · unfold okId; rw [hnum _ hq]; exact m1 k hk
      · refine Nat.le_trans (paramB_grow (id := 0) (by omega) (fun k hk => item_upto k (hnum _ hq k) (fun e => absurd e hk) (fun _ => rfl) (fun _ => ⟨rfl, rfl⟩)) (V.length + 2) ?_) (by omega)
        have hi : idn ({ p with oa := none, oc := 0, O := V } : PV) ((0 : Nat) : Int) = 0 := rfl
        unfold item
        rw [if_neg (by simpa using hi)]
        by_cases hV0 : V = []
        · rw [if_neg (by simp [hV0]), if_neg (by simp), if_neg (by simp)]; simp
        · rw [if_pos ⟨rfl, hV0⟩]
          show (pb 0 V).length ≤ _
          rw [pb_len1 0 V (by omega)]; omega
    · simp only [if_neg h0]
      by_cases h15 : id = 15
      · subst h15
        simp only [if_true]
        have hl : V.length ≤ 20 := by
          have e0 : okV 15 V = decide (V.length ≤ 20) := rfl
          rw [e0] at hok; simpa using hok
        have hq : ∀ k, ({ p with ca := none, cc := 0, C := V } : PV).num k = p.num k := fun k => by unfold PV.num; split <;> rfl
        refine ⟨⟨may_of (fun k hk => ?_) m2 hl m4, fun k => by rw [hq]; exact h.pos k, fun id' hn hs' => by rw [hq]; exact h.num id' (fun hm => hn (List.mem_cons_of_mem _ hm)) hs', fun hn => h.o fun hm => hn (List.mem_cons_of_mem _ hm), fun hn => absurd (List.mem_cons_self ..) hn, fun hn => h.t fun hm => hn (List.mem_cons_of_mem _ hm)⟩, ?_⟩
        · unfold okId; rw [hnum _ hq]; exact m1 k hk
        · refine Nat.le_trans (paramB_grow (id := 15) (by omega) (fun k hk => item_upto k (hnum _ hq k) (fun _ => rfl) (fun e => absurd e hk) (fun _ => ⟨rfl, rfl⟩)) (V.length + 2) ?_) (by omega)
          have hi : idn ({ p with ca := none, cc := 0, C := V } : PV) ((15 : Nat) : Int) = 0 := rfl
          unfold item
          rw [if_neg (by simpa using hi), if_neg (by simp)]
          by_cases hV0 : V = []
          · rw [if_neg (by simp [hV0]), if_neg (by simp)]; simp
          · rw [if_pos ⟨rfl, hV0⟩]
            show (pb 15 V).length ≤ _
            rw [pb_len1 15 V (by omega)]; omega
      · simp only [if_neg h15]
        by_cases h2 : id = 2
        · subst h2
          simp only [if_true]
          have hl : V.length = 16 := by
            have e0 : okV 2 V = decide (V.length = 16) := rfl
            rw [e0] at hok; simpa using hok
          have hq : ∀ k, (({ p with has := true } : PV).withTok (V.take 16 ++ p.tok.drop (V.take 16).length)).num k = p.num k := fun k => by unfold PV.num; split <;> rfl
          refine ⟨⟨may_of (fun k hk => ?_) m2 m3 (.inl rfl), fun k => by rw [hq]; exact h.pos k, fun id' hn hs' => by rw [hq]; exact h.num id' (fun hm => hn (List.mem_cons_of_mem _ hm)) hs', fun hn => h.o fun hm => hn (List.mem_cons_of_mem _ hm), fun hn => h.c fun hm => hn (List.mem_cons_of_mem _ hm), fun hn => absurd (List.mem_cons_self ..) hn⟩, ?_⟩
          · unfold okId; rw [hnum _ hq]; exact m1 k hk
          · refine Nat.le_trans (paramB_grow (id := 2) (by omega) (fun k hk => item_upto k (hnum _ hq k) (fun _ => rfl) (fun _ => rfl) (fun e => absurd e hk)) (V.length + 2) ?_) (by omega)
            have hi : idn (({ p with has := true } : PV).withTok (V.take 16 ++ p.tok.drop (V.take 16).length)) ((2 : Nat) : Int) = 0 := rfl
            unfold item
            rw [if_neg (by simpa using hi), if_neg (by simp), if_neg (by simp), if_pos ⟨rfl, rfl⟩, pb_len1 _ _ (by simp [PV.tok])]
            simp only [PV.tok, List.length_cons, List.length_nil]
            omega
        · simp only [if_neg h2]
          exact ⟨⟨h.may, h.pos, fun id' hn hs' => h.num id' (fun hm => hn (List.mem_cons_of_mem _ hm)) hs', fun hn => h.o fun hm => hn (List.mem_cons_of_mem _ hm), fun hn => h.c fun hm => hn (List.mem_cons_of_mem _ hm), fun hn => h.t fun hm => hn (List.mem_cons_of_mem _ hm)⟩, by omega⟩
  · simp only [ne_eq, hs, not_false_eq_true, if_true]
    obtain ⟨k0, rfl, hk16, hk0, hk15, hk2⟩ := slot_id hs
    have hsl := slot_le (k0 : Int)
    have hrest := setNum_rest p (slotF k0) (takeN V)
    obtain ⟨r1, r2, _, _, _, _, r7, r8⟩ := hrest
    have hnum := fun j => setNum_num p (slotF k0) j (takeN V) (by omega) (by omega)
    have hrange := takeN_range hV
    have hokv : (takeF V).isSome = true ∧ takeU V = V.length ∧ mayId k0 (takeN V) = true := by
      unfold okV at hok
      rw [if_pos hs] at hok
      simp only [Bool.and_eq_true, decide_eq_true_eq] at hok
      exact hok
    have hidn : ∀ k : Int, idn (p.setNum (slotF k0) (takeN V)) k = if k = k0 then takeN V else idn p k := fun k => by
      rw [idn_eq, idn_eq]
      by_cases hk : k = k0
      · subst hk; rw [if_neg hs, hnum, if_pos rfl, if_pos rfl]
      · rw [if_neg hk]
        by_cases hs2 : slotF k = 0
        · rw [if_pos hs2, if_pos hs2]
        · rw [if_neg hs2, if_neg hs2, hnum, if_neg fun e => hk (slot_inj hs2 e)]
    have hold : idn p k0 = 0 := by rw [idn_eq, if_neg hs]; exact h.num k0 hid hs
    refine ⟨⟨may_of (fun k hk => ?_) (by rw [r1]; exact m2) (by rw [r2]; exact m3) (by rw [r8, zero_tok, r7, ← zero_tok]; exact m4), fun k => ?_, fun id' hn hs' => ?_, fun hn => by rw [r1]; exact h.o fun hm => hn (List.mem_cons_of_mem _ hm), fun hn => by rw [r2]; exact h.c fun hm => hn (List.mem_cons_of_mem _ hm), fun hn => by rw [r8]; exact h.t fun hm => hn (List.mem_cons_of_mem _ hm)⟩, ?_⟩
    · unfold okId
      rw [hidn]
      by_cases hk' : (k : Int) = k0
      · rw [if_pos hk', hk', hokv.2.2]; simp
      · rw [if_neg hk']; exact m1 k hk
    · rw [hnum]; split
      · exact hrange.1
      · exact h.pos k
    · have hne : id' ≠ k0 := fun e => hn (e ▸ List.mem_cons_self ..)
      rw [hnum, if_neg fun e => hne (slot_inj hs' e)]
      exact h.num id' (fun hm => hn (List.mem_cons_of_mem _ hm)) hs'
    · refine Nat.le_trans (paramB_grow (id := k0) hk16 (fun k hk => item_upto k ?_ (fun _ => r1) (fun _ => r2) (fun _ => ⟨r8, r7⟩)) (V.length + 2) ?_) (by omega)
      · rw [hidn, if_neg (by omega)]
      · unfold item
        rw [hidn, if_pos rfl]
        by_cases hz : takeN V = 0
        · rw [if_neg (by simpa using hz), if_neg (by omega), if_neg (by omega), if_neg (by omega)]; simp
        · rw [if_pos hz]
          have hl := enc_length (takeN V) hrange.1
          have h8 := size_le (takeN V)
          have hle : sizeF (takeN V) ≤ V.length := by
            obtain ⟨v, hv⟩ := Option.isSome_iff_exists.1 hokv.1
            obtain ⟨x, u⟩ := v
            have := take_ok hV hv
            have e1 : takeN V = x := by unfold takeN; rw [hv]; rfl
            have e2 : takeU V = u := by unfold takeU; rw [hv]; rfl
            rw [e1]; omega
          rw [pb_len1 _ _ (by omega)]
          omega

theorem step_parts {T L : List Int} (hL : ∀ x ∈ L, Byte x) {id : Int} {V L' : List Int} (h : stepF T L = some (id, V, L')) : id ∉ T ∧ okV id V = true ∧ (∀ x ∈ V, Byte x) ∧ (∀ x ∈ L', Byte x) ∧ V.length + 2 + L'.length ≤ L.length := by
  unfold stepF at h
  split at h
  · cases h
  · rename_i id' u hid
    split at h
    · cases h
    · rename_i V' more hb
      split at h
      · cases h
      · rename_i hT
        split at h
        · rename_i hok
          simp only [Option.some.injEq, Prod.mk.injEq] at h
          obtain ⟨rfl, rfl, rfl⟩ := h
          have h1 := take_ok hL hid
          have hLd : ∀ x ∈ L.drop u, Byte x := fun x hx => hL x (List.mem_of_mem_drop hx)
          unfold bytesF at hb
          split at hb
          · rename_i m v hm
            split at hb
            · rename_i hle
              simp only [Option.some.injEq, Prod.mk.injEq] at hb
              obtain ⟨rfl, rfl⟩ := hb
              have h2 := take_ok hLd hm
              refine ⟨hT, hok, fun x hx => hLd x (List.mem_of_mem_drop (List.mem_of_mem_take hx)), fun x hx => hL x (List.mem_of_mem_drop hx), ?_⟩
              simp only [List.length_take, List.length_drop] at *
              omega
            · cases hb
          · cases hb
        · cases h

/-- WHAT IS TAKEN MAY BE, AND IS NOT LONGER. -/
theorem take_may : ∀ (n : Nat) (p : PV) (T L : List Int) (q : PV), Way p T → (∀ x ∈ L, Byte x) → takeFuel n p T L = some q → mayF q = true ∧ (∀ k, 0 ≤ q.num k) ∧ (paramB q).length ≤ (paramB p).length + L.length
  | n, p, T, [], q, hw, _, h => by
    rw [takeFuel_nil] at h
    simp only [Option.some.injEq] at h
    subst h
    exact ⟨hw.may, hw.pos, Nat.le_add_right _ _⟩
  | 0, p, T, x :: L, q, hw, hL, h => by simp [takeFuel] at h
  | n + 1, p, T, x :: L, q, hw, hL, h => by
    cases hs : stepF T (x :: L) with
    | none => rw [takeFuel_none _ _ _ _ (by simp) hs] at h; cases h
    | some v =>
      obtain ⟨id, V, L'⟩ := v
      rw [takeFuel_some n p T _ (by simp) hs] at h
      obtain ⟨h1, h2, h3, h4, h5⟩ := step_parts hL hs
      obtain ⟨hw', hlen⟩ := way_step hw h1 h3 h2
      obtain ⟨a, b, c⟩ := take_may n _ _ L' q hw' h4 h
      exact ⟨a, b, by omega⟩

theorem takeP_may {L : List Int} {q : PV} (hL : ∀ x ∈ L, Byte x) (h : takeP L = some q) : mayF q = true ∧ (∀ k, 0 ≤ q.num k) ∧ (paramB q).length ≤ L.length := by
  have := take_may L.length p0 [] L q way_start hL h
  have e : (paramB p0).length = 0 := by decide
  rw [e, Nat.zero_add] at this
  exact this
end Par
end Go.Proofs.Ytjeolfnmheofeaa
