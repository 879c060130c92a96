/- Walks: Has, Gap; the document's Gap. -/
import Derived.Test.YtidfimpchbkppaaSpW10
namespace Go.Proofs.Ytidfimpchbkppaa
open Go.RowKit
set_option linter.unusedVariables false

set_option maxRecDepth 100000 in
theorem has1_any (q : Nat) (r : Rg) (x : Int) (w : World) (hq : q < w.heap.size) (hc : w.cell? ⟨q, 0, none⟩ = some (.int .u64 x)) : Calls Try.prog 72 #[rgV r, .pointer (some ⟨q, 0, none⟩)] w fun e w' => e = .returned (.bool (decide (r.1 ≤ x) && decide (x < r.2))) ∧ Below w.heap.size w w' := by
  obtain ⟨f, t⟩ := r
  have hne : ¬ q = w.heap.size := by omega
  simp only [rgV]
  by_cases h1 : f ≤ x
  · by_cases h2 : x < t
    · simp only [decide_eq_true h1, decide_eq_true h2, Bool.and_self]
      go_enter Try.func72, Try.ntmps72
      go_wp2_with (fail)
      go_returns
      exact ⟨rfl, (Below.refl _ _).alloc (Nat.le_refl _) _⟩
    · simp only [decide_eq_true h1, decide_eq_false h2, Bool.and_false]
      go_enter Try.func72, Try.ntmps72
      go_wp2_with (fail)
      go_returns
      exact ⟨rfl, (Below.refl _ _).alloc (Nat.le_refl _) _⟩
  · simp only [decide_eq_false h1, Bool.false_and]
    go_enter Try.func72, Try.ntmps72
    go_wp2_with (fail)
    go_returns
    exact ⟨rfl, (Below.refl _ _).alloc (Nat.le_refl _) _⟩

/-- Where a number is found, or nowhere. -/
def Found (L : List Rg) (x j : Int) : Prop := (0 ≤ j ∧ inB L x = true) ∨ (j = -1 ∧ inB L x = false)
theorem inB_of {L : List Rg} {k : Nat} {x : Int} (hk : k < L.length) (h : (decide ((L.getD k default).1 ≤ x) && decide (x < (L.getD k default).2)) = true) : inB L x = true := by
  rw [inB_iff]
  simp only [Bool.and_eq_true, decide_eq_true_eq] at h
  exact ⟨L.getD k default, by simp [hk], h.1, h.2⟩
theorem inB_not {L : List Rg} {x : Int} (h : ∀ i, i < L.length → (decide ((L.getD i default).1 ≤ x) && decide (x < (L.getD i default).2)) = false) : inB L x = false := by
  rw [← Bool.not_eq_true, inB_iff]
  rintro ⟨r, hr, h1, h2⟩
  obtain ⟨i, hi, rfl⟩ := List.getElem_of_mem hr
  have := h i hi
  simp [hi] at this
  omega

set_option maxRecDepth 100000 in
set_option maxHeartbeats 1000000 in
theorem indexh_any (q : Nat) (a : Option Addr) (n cap : Nat) (L : List Rg) (x : Int) (w : World) (hn : n = L.length) (hR : Rs w a cap L) (hq : q < w.heap.size) (hc : w.cell? ⟨q, 0, none⟩ = some (.int .u64 x)) :
    Calls Try.prog 95 #[.slice a n cap, .func (.func 72) #[] #[.pointer (some ⟨q, 0, none⟩)]] w fun e w' => Below w.heap.size w w' ∧ ∃ j : Int, e = .returned (.int .i64 j) ∧ Found L x j := by
  subst hn
  have hlen := hR.len
  unfold maxLen at hlen
  have HR := Lib.hid hR
  clear hR
  go_enter Try.func95, Try.ntmps95
  go_wp2_with (fail)
  go_loopw [5, 8] (fun _ i wr => ∃ k : Nat, i = .int .i64 k ∧ k ≤ L.length ∧ Below w.heap.size w wr ∧ Hid (∀ i, i < k → (decide ((L.getD i default).1 ≤ x) && decide (x < (L.getD i default).2)) = false)) (fun _ i _ => L.length - (intOf i).toNat)
  case atStart => exact ⟨0, rfl, by omega, Below.refl _ _, Lib.hid (fun i h => by omega)⟩
  case round =>
    obtain ⟨k, rfl, hk, bw, hok⟩ := hrel
    by_cases hlt : k < L.length
    · obtain ⟨b, off, ha, hb, c1, c2⟩ := (HR.out.below bw).at_ hlt
      subst ha
      have hH := has1_any q (L.getD k default) x wr (Nat.lt_of_lt_of_le hq bw.size) ((bw.cell (p := ⟨q, 0, none⟩) hq).trans hc)
      have hin := inB_of (x := x) hlt
      have hno := fun (h : (decide ((L.getD k default).1 ≤ x) && decide (x < (L.getD k default).2)) = false) (j : Nat) (hj : j < k + 1) => (show (decide ((L.getD j default).1 ≤ x) && decide (x < (L.getD j default).2)) = false by
        rcases Nat.lt_or_ge j k with h' | h'
        · exact hok.out j h'
        · obtain rfl : j = k := by omega
          exact h)
      obtain ⟨v, hv⟩ : ∃ v, (decide ((L.getD k default).1 ≤ x) && decide (x < (L.getD k default).2)) = v := ⟨_, rfl⟩
      rw [hv] at hH hin hno
      obtain ⟨r, hr⟩ : ∃ r, L.getD k default = r := ⟨_, rfl⟩
      rw [hr] at c1 c2 hH
      have HH := Lib.hid hH
      have HIN := Lib.hid hin
      have HNO := Lib.hid hno
      clear hH hin hno hv hr hok
      cases v with
      | true =>
        go_wp2_with (fail)
        refine HH.out.mono ?_
        rintro e w1 ⟨rfl, hb1⟩
        go_wp2_with (fail)
        go_returns
        exact ⟨below_on bw hb1 bw.size, k, rfl, .inl ⟨by omega, HIN.out (by trivial)⟩⟩
      | false =>
        go_wp2_with (fail)
        refine HH.out.mono ?_
        rintro e w1 ⟨rfl, hb1⟩
        go_wp2_with (fail)
        exact ⟨⟨k + 1, by go_num, by omega, below_on bw hb1 bw.size, Lib.hid (HNO.out (by trivial))⟩, by simp [intOf]; omega⟩
    · obtain rfl : k = L.length := by omega
      go_wp2_with (fail)
      go_returns
      exact ⟨bw, -1, rfl, .inr ⟨rfl, inB_not hok.out⟩⟩

set_option maxRecDepth 100000 in
theorem contains_any (q : Nat) (a : Option Addr) (n cap : Nat) (L : List Rg) (x : Int) (w : World) (hn : n = L.length) (hR : Rs w a cap L) (hq : q < w.heap.size) (hc : w.cell? ⟨q, 0, none⟩ = some (.int .u64 x)) :
    Calls Try.prog 71 #[.slice a n cap, .func (.func 72) #[] #[.pointer (some ⟨q, 0, none⟩)]] w fun e w' => Below w.heap.size w w' ∧ e = .returned (.bool (inB L x)) := by
  have hi := indexh_any q a n cap L x w hn hR hq hc
  have HI := Lib.hid hi
  clear hi hR hc hn
  go_enter Try.func71, Try.ntmps71
  go_wp2_with (fail)
  refine HI.out.mono ?_
  rintro e w1 ⟨hb1, j, rfl, hf⟩
  have HF := Lib.hid hf
  clear hf
  go_wp2_with (fail)
  go_returns
  refine ⟨hb1, ?_⟩
  rcases HF.out with ⟨h1, h2⟩ | ⟨h1, h2⟩
  · rw [h2]; simp [h1]
  · rw [h2]; subst h1; rfl

set_option maxRecDepth 100000 in
set_option maxHeartbeats 1000000 in
theorem has_any (a b : Option Addr) (n m cap cap' : Nat) (L : List Rg) (N : List Int) (w : World) (hn : n = L.length) (hm : m = N.length) (hR : Rs w a cap L) (hN : Sl .u64 w b cap' N) :
    Calls Try.prog 26 #[.slice a n cap, .slice b m cap'] w fun e w' => Below w.heap.size w w' ∧ e = .returned (.bool (N.all fun x => inB L x)) := by
  subst hn hm
  have hlen := hN.len
  unfold maxLen at hlen
  have HR := Lib.hid hR
  have HN := Lib.hid hN
  clear hR hN
  obtain ⟨v, hv⟩ : ∃ v, (N.all fun x => inB L x) = v := ⟨_, rfl⟩
  have HV := Lib.hid hv
  rw [hv]
  clear hv
  go_enter Try.func26, Try.ntmps26
  go_wp2_with (fail)
  go_loopw [6, 9] (fun _ i wr => ∃ k : Nat, i = .int .i64 k ∧ k ≤ N.length ∧ Below w.heap.size w wr ∧ Hid (∀ j, j < k → inB L (N.getD j 0) = true)) (fun _ i _ => N.length - (intOf i).toNat)
  case atStart => exact ⟨0, rfl, by omega, Below.refl _ _, Lib.hid (fun j h => by omega)⟩
  case round =>
    obtain ⟨k, rfl, hk, bw, hok⟩ := hrel
    by_cases hlt : k < N.length
    · obtain ⟨bb, off, ha, hb, c1, _⟩ := (HN.out.below bw).ints k hlt
      subst ha
      have hxm : N.getD k 0 ∈ N := mem_getD hlt 0
      obtain ⟨x, hx⟩ : ∃ x, N.getD k 0 = x := ⟨_, rfl⟩
      rw [hx] at c1 hxm
      have HX := Lib.hid hx
      have HXM := Lib.hid hxm
      have b1 : Below w.heap.size w (wr.alloc (.cells #[.int .u64 x] 28)) := bw.alloc bw.size _
      have hct := contains_any wr.heap.size a _ cap L x (wr.alloc (.cells #[.int .u64 x] 28)) rfl (HR.out.below b1) (by simp) ((Blk.new wr #[.int .u64 x] 28).cell 0 _ rfl)
      obtain ⟨u, hu⟩ : ∃ u, inB L x = u := ⟨_, rfl⟩
      rw [hu] at hct
      have HU := Lib.hid hu
      have HCT := Lib.hid hct
      have HB1 := Lib.hid b1
      clear hx hu hct hxm b1
      cases u with
      | true =>
        go_wp2_with (fail)
        refine HCT.out.mono ?_
        rintro e w1 ⟨hb1, rfl⟩
        go_wp2_with (fail)
        refine ⟨⟨k + 1, by go_num, by omega, below_on HB1.out hb1 HB1.out.size, Lib.hid (fun j hj => ?_)⟩, by simp [intOf]; omega⟩
        rcases Nat.lt_or_ge j k with h' | h'
        · exact hok.out j h'
        · obtain rfl : j = k := by omega
          rw [HX.out]; exact HU.out
      | false =>
        go_wp2_with (fail)
        refine HCT.out.mono ?_
        rintro e w1 ⟨hb1, rfl⟩
        go_wp2_with (fail)
        go_returns
        refine ⟨below_on HB1.out hb1 HB1.out.size, ?_⟩
        have : v = false := by
          rw [← HV.out, ← Bool.not_eq_true, List.all_eq_true]
          intro h
          have := h x HXM.out
          rw [HU.out] at this
          cases this
        rw [this]; rfl
    · obtain rfl : k = N.length := by omega
      go_wp2_with (fail)
      go_returns
      refine ⟨bw, ?_⟩
      have : v = true := by
        rw [← HV.out, List.all_eq_true]
        intro x hx
        obtain ⟨j, hj, rfl⟩ := List.getElem_of_mem hx
        have := hok.out j hj
        simpa [hj] using this
      rw [this]; rfl

/-- The end of the range that has a number, or the number. -/
def gapP : List Rg → Int → Int
  | [], x => x
  | r :: l, x => if r.1 ≤ x ∧ x < r.2 then r.2 else gapP l x
theorem gapP_drop {L : List Rg} {k : Nat} (hk : k < L.length) (x : Int) : gapP (L.drop k) x = if (L.getD k default).1 ≤ x ∧ x < (L.getD k default).2 then (L.getD k default).2 else gapP (L.drop (k + 1)) x := by
  rw [List.drop_eq_getElem_cons hk]
  simp [gapP, hk]
theorem gapP_snoc : ∀ (A : List Rg) (r : Rg) (b x : Int), NeatFrom b (A ++ [r]) → gapP (A ++ [r]) x = if r.1 ≤ gapP A x ∧ gapP A x < r.2 then r.2 else gapP A x
  | [], r, b, x, _ => rfl
  | q :: A, r, b, x, h => by
    have h3 : NeatFrom q.2 (A ++ [r]) := h.2.2
    simp only [List.cons_append, gapP]
    split
    · have := ((neatFrom_append A q.2 [r]).1 h3).2
      have h5 := neatFrom_le_end ((neatFrom_append A q.2 [r]).1 h3).1
      simp only [NeatFrom] at this
      rw [if_neg (by omega)]
    · exact gapP_snoc A r q.2 x h3
theorem gapP_in : ∀ {M : List Rg} {b x : Int}, NeatFrom b M → inB M x = true → x < gapP M x ∧ inB M (gapP M x) = false
  | [], b, x, _, h => by simp [inB] at h
  | r :: l, b, x, h, hi => by
    have h3 : NeatFrom r.2 l := h.2.2
    simp only [gapP]
    split
    · rename_i h4
      refine ⟨h4.2, ?_⟩
      rw [← Bool.not_eq_true, inB_iff, memR_cons]
      rintro (h5 | h5)
      · omega
      · have := neatFrom_low h3 h5; omega
    · rename_i h4
      have hi2 : inB l x = true := by
        rw [inB_iff, memR_cons] at hi
        rw [inB_iff]
        exact hi.resolve_left h4
      obtain ⟨h5, h6⟩ := gapP_in h3 hi2
      refine ⟨h5, ?_⟩
      rw [← Bool.not_eq_true, inB_iff, memR_cons]
      rw [← Bool.not_eq_true, inB_iff] at h6
      rintro (h7 | h7)
      · have := neatFrom_low h3 ((inB_iff _ _).1 hi2); omega
      · exact h6 h7
theorem gapP_out : ∀ {M : List Rg} {x : Int}, inB M x = false → gapP M x = x
  | [], x, _ => rfl
  | r :: l, x, h => by
    rw [← Bool.not_eq_true, inB_iff, memR_cons] at h
    simp only [gapP]
    rw [if_neg (fun h' => h (.inl h')), gapP_out]
    rw [← Bool.not_eq_true, inB_iff]
    exact fun h' => h (.inr h')
theorem gapP_bnd : ∀ {M : List Rg} {x : Int}, Bnd M → (0 ≤ x ∧ x ≤ 18446744073709551615) → 0 ≤ gapP M x ∧ gapP M x ≤ 18446744073709551615
  | [], x, _, h => h
  | r :: l, x, hb, h => by
    simp only [gapP]
    split
    · exact (hb r (by simp)).2
    · exact gapP_bnd (fun s hs => hb s (by simp [hs])) h
theorem mk_exists (kind : Int) {a b : List Rg} (ha : Bnd a) (hb : Bnd b) : ∃ M, IsNf (fun n => opR kind (inB a n) (inB b n) = true) M := by
  have key : ∀ k, k ≤ (endsR a b).length - 1 → ∃ out, MkInv kind a b k out := by
    intro k
    induction k with
    | zero => exact fun _ => ⟨_, MkInv.start kind ha hb⟩
    | succ k ih =>
      intro hk
      obtain ⟨out, h⟩ := ih (by omega)
      exact ⟨_, h.step ha hb (by omega) rfl rfl⟩
  obtain ⟨out, h⟩ := key _ (Nat.le_refl _)
  exact ⟨out, h.done rfl⟩
theorem nf_exists {a : List Rg} (ha : Bnd a) : ∃ M, IsNf (MemR a) M := by
  obtain ⟨M, h⟩ := mk_exists 0 (b := []) ha (fun r hr => by cases hr)
  exact ⟨M, h.congr fun n => by rw [← inB_iff]; simp [opR, inB]⟩

set_option maxRecDepth 100000 in
set_option maxHeartbeats 1000000 in
theorem gap_any (a : Option Addr) (n cap : Nat) (L : List Rg) (x : Int) (w : World) (hn : n = L.length) (hx : 0 ≤ x ∧ x ≤ 18446744073709551615) (hR : Rs w a cap L) (hbig : L.length ≤ 800000) :
    Calls Try.prog 27 #[.slice a n cap, .int .u64 x] w fun e w' => Below w.heap.size w w' ∧ ∃ M, IsNf (MemR L) M ∧ e = .returned (.int .u64 (gapP M x)) := by
  subst hn
  have HR := Lib.hid hR
  clear hR
  go_enter Try.func27, Try.ntmps27
  go_wp2_with (fail)
  refine (neat11_any a _ cap L w rfl HR.out hbig).mono ?_
  rintro e w1 ⟨hb1, a1, c1, M, rfl, ho1, hM, hnf, hl⟩
  have H1 := Lib.hid (ho1.rs hM).2
  have HN := Lib.hid hnf
  have HM := Lib.hid hM
  have HB1 := Lib.hid hb1
  clear ho1 hM hnf hb1
  obtain ⟨g, hg⟩ : ∃ g, gapP M x = g := ⟨_, rfl⟩
  have HG := Lib.hid hg
  clear hg
  go_wp2_with (fail)
  go_loopw [6, 10] (fun _ i wr => ∃ k : Nat, i = .int .i64 k ∧ k ≤ M.length ∧ Below w1.heap.size w1 wr ∧ Hid (gapP (M.drop k) x = g)) (fun _ i _ => M.length - (intOf i).toNat)
  case atStart => exact ⟨0, rfl, by omega, Below.refl _ _, Lib.hid (by rw [← HG.out]; rfl)⟩
  case round =>
    obtain ⟨k, rfl, hk, bw, hok⟩ := hrel
    by_cases hlt : k < M.length
    · obtain ⟨bb, off, ha, hb, c1, c2⟩ := (H1.out.below bw).at_ hlt
      subst ha
      have hst := gapP_drop hlt x
      rw [hok.out] at hst
      obtain ⟨f, hf⟩ : ∃ f, (M.getD k default).1 = f := ⟨_, rfl⟩
      obtain ⟨t, ht⟩ : ∃ t, (M.getD k default).2 = t := ⟨_, rfl⟩
      rw [hf] at c1 hst
      rw [ht] at c2 hst
      clear hf ht hok
      have b1 : Below w1.heap.size w1 (wr.alloc (.cells #[.int .u64 f, .int .u64 t] 31)) := bw.alloc bw.size _
      by_cases h1 : f ≤ x
      · by_cases h2 : x < t
        · rw [if_pos ⟨h1, h2⟩] at hst
          subst hst
          go_wp2_with (fail)
          go_returns
          exact ⟨below_on HB1.out b1 HB1.out.size, M, HN.out, by rw [HG.out]; rfl⟩
        · rw [if_neg (by omega)] at hst
          have HST := Lib.hid hst
          clear hst
          go_wp2_with (fail)
          exact ⟨⟨k + 1, by go_num, by omega, b1, Lib.hid HST.out.symm⟩, by simp [intOf]; omega⟩
      · rw [if_neg (by omega)] at hst
        have HST := Lib.hid hst
        clear hst
        go_wp2_with (fail)
        exact ⟨⟨k + 1, by go_num, by omega, b1, Lib.hid HST.out.symm⟩, by simp [intOf]; omega⟩
    · obtain rfl : k = M.length := by omega
      have hst := hok.out
      rw [List.drop_length] at hst
      have hst2 : x = g := hst
      have HST := Lib.hid hst2
      clear hst hst2 hok
      go_wp2_with (fail)
      go_returns
      exact ⟨below_on HB1.out bw HB1.out.size, M, HN.out, by rw [HG.out, ← HST.out]; rfl⟩
end Go.Proofs.Ytidfimpchbkppaa
