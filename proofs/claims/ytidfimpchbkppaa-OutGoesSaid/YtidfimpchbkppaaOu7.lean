/- OutGoes: the plain law. -/
import Derived.Test.YtidfimpchbkppaaOu3
import Derived.Test.YtidfimpchbkppaaOu6
namespace Go.Proofs.Ytidfimpchbkppaa
open Go.RowKit
set_option linter.unusedVariables false

/-! ### Which bytes came -/
def G (got : List Bool) (x : Int) : Prop := 0 ≤ x ∧ got[x.toNat]? = some true
def setR (got : List Bool) (o : Nat) : Nat → List Bool
  | 0 => got
  | j + 1 => (setR got o j).set (o + j) true
theorem setR_length (got : List Bool) (o : Nat) : ∀ j, (setR got o j).length = got.length
  | 0 => rfl
  | j + 1 => by simp [setR, setR_length got o j]
theorem setR_get (got : List Bool) (o : Nat) : ∀ (j : Nat), o + j ≤ got.length → ∀ i : Nat, (setR got o j)[i]? = some true ↔ (o ≤ i ∧ i < o + j) ∨ got[i]? = some true
  | 0, _, i => by simp [setR]; intro h1 h2; omega
  | j + 1, h, i => by
    have ih := setR_get got o j (by omega) i
    have hl := setR_length got o j
    simp only [setR]
    rw [List.getElem?_set]
    by_cases e : o + j = i
    · subst e
      simp [show o + j < (setR got o j).length by omega]
    · rw [if_neg e, ih]
      constructor
      · rintro (h1 | h1)
        · exact .inl ⟨h1.1, by omega⟩
        · exact .inr h1
      · rintro (h1 | h1)
        · exact .inl ⟨h1.1, by omega⟩
        · exact .inr h1
theorem count_set : ∀ (l : List Bool) (i : Nat), i < l.length → l[i]? ≠ some true → (l.set i true).count true = l.count true + 1
  | [], i, h, _ => by simp at h
  | x :: l, 0, _, h => by
    have : x = false := by cases x; rfl; simp at h
    subst this
    simp
  | x :: l, i + 1, h, h2 => by
    have ih := count_set l i (by simpa using h) (by simpa using h2)
    simp only [List.set_cons_succ, List.count_cons, ih]
    omega
theorem count_setR (got : List Bool) (o : Nat) : ∀ (j : Nat), o + j ≤ got.length → (∀ i, o ≤ i → i < o + j → got[i]? ≠ some true) → (setR got o j).count true = got.count true + j
  | 0, _, _ => rfl
  | j + 1, h, hf => by
    have ih := count_setR got o j (by omega) (fun i h1 h2 => hf i h1 (by omega))
    have hl := setR_length got o j
    simp only [setR]
    rw [count_set _ _ (by omega) (fun h9 => ?_), ih]
    · omega
    · rcases (setR_get got o j (by omega) (o + j)).1 h9 with h8 | h8
      · omega
      · exact hf _ (by omega) (by omega) h8
theorem G_set {got : List Bool} {o j : Nat} (h : o + j ≤ got.length) (x : Int) : G (setR got o j) x ↔ ((o : Int) ≤ x ∧ x < o + j) ∨ G got x := by
  unfold G
  rw [setR_get got o j h]
  constructor
  · rintro ⟨h1, h2 | h2⟩
    · exact .inl (by omega)
    · exact .inr ⟨h1, h2⟩
  · rintro (h1 | h1)
    · exact ⟨by omega, .inl (by omega)⟩
    · exact ⟨h1.1, .inr h1.2⟩

/-! ### The gap -/
theorem gapP_spec : ∀ (M : List Rg) (b x : Int), NeatFrom b M → x ≤ gapP M x ∧ (∀ y, x ≤ y → y < gapP M x → MemR M y) ∧ ¬ MemR M (gapP M x)
  | [], b, x, _ => ⟨Int.le_refl _, fun y h1 h2 => by simp only [gapP] at h2; omega, memR_nil _⟩
  | r :: l, b, x, ⟨h1, h2, h3⟩ => by
    obtain ⟨i1, i2, i3⟩ := gapP_spec l r.2 x h3
    simp only [gapP]
    by_cases hr : r.1 ≤ x ∧ x < r.2
    · rw [if_pos hr]
      refine ⟨by omega, fun y h4 h5 => (memR_cons _ _ _).2 (.inl (by omega)), fun h4 => ?_⟩
      rcases (memR_cons _ _ _).1 h4 with h5 | h5
      · omega
      · have := neatFrom_low h3 h5
        omega
    · rw [if_neg hr]
      refine ⟨i1, fun y h4 h5 => (memR_cons _ _ _).2 (.inr (i2 y h4 h5)), fun h4 => ?_⟩
      rcases (memR_cons _ _ _).1 h4 with h5 | h5
      · by_cases h6 : x < gapP l x
        · have h7 := neatFrom_low h3 (i2 (gapP l x - 1) (by omega) (by omega))
          omega
        · have h8 : gapP l x = x := by omega
          rw [h8] at h5
          exact hr h5
      · exact i3 h5
theorem neat_len : ∀ (M : List Rg) (b : Int), NeatFrom b M → b + 2 * M.length ≤ endOf b M
  | [], b, _ => by simp [endOf]
  | r :: l, b, ⟨h1, h2, h3⟩ => by
    have := neat_len l r.2 h3
    simp only [endOf, List.length_cons]
    omega
theorem nf_top16 {p : Int → Prop} {M : List Rg} (h : IsNf p M) (h0 : M ≠ []) : p (endOf (-1) M - 1) := by
  rw [← h.mem]
  have hn := h.neat
  clear h
  suffices ∀ (M : List Rg) (b : Int), NeatFrom b M → M ≠ [] → MemR M (endOf b M - 1) from this M _ hn h0
  intro M
  induction M with
  | nil => intro b _ h; exact absurd rfl h
  | cons r M ih =>
    intro b hb _
    cases M with
    | nil =>
      rw [memR_cons]
      have := hb.2.1
      simp only [endOf]
      omega
    | cons s M =>
      rw [memR_cons]
      exact .inr (ih r.2 hb.2.2 (by simp))
theorem nf_len {p : Int → Prop} {M : List Rg} {n : Nat} (h : IsNf p M) (hp : ∀ x, p x → x < n) : M.length ≤ n + 1 := by
  rcases M with _ | ⟨r, l⟩
  · simp
  · have h1 := neat_len _ _ h.neat
    have h2 := hp _ (nf_top16 h (by simp))
    omega
theorem nf_empty {p : Int → Prop} (h : IsNf p []) (x : Int) : ¬ p x := fun hx => memR_nil x ((h.mem x).2 hx)
theorem nf_head {p : Int → Prop} {r : Rg} {l : List Rg} (h : IsNf p (r :: l)) : r.1 < r.2 ∧ ∀ x, r.1 ≤ x → x < r.2 → p x := by
  have h1 : -1 < r.1 ∧ r.1 < r.2 ∧ NeatFrom r.2 l := h.neat
  exact ⟨h1.2.1, fun x h2 h3 => (h.mem x).1 ((memR_cons _ _ _).2 (.inl ⟨h2, h3⟩))⟩
theorem memR_one (a b x : Int) : MemR [(a, b)] x ↔ a ≤ x ∧ x < b := by simp [MemR]

/-! ### What stays true -/
structure OutI (n : Nat) (got : List Bool) (s : OSt) (LA LL : List Rg) : Prop where
  gl : got.length = n
  nb : n ≤ 3000
  bas : 0 ≤ s.base ∧ s.base ≤ s.next ∧ s.next ≤ n
  bn : s.base + s.bn = n
  mx : s.next ≤ s.mx
  low : ∀ x, 0 ≤ x → x < s.base → G got x
  high : ∀ x, s.next ≤ x → ¬ G got x
  at_ : s.base < s.next → ¬ G got s.base
  la : IsNf (fun x => s.base ≤ x ∧ x < s.next ∧ G got x) LA
  ll : IsNf (fun x => 0 ≤ x ∧ x < s.next ∧ ¬ G got x) LL
  sa : s.sent = s.ack
  fin : s.fin = true
  end_ : s.ack = true → s.next = n ∧ (0 < n → G got ((n : Int) - 1))
/-- What is picked. -/
structure Pkd (n : Nat) (got : List Bool) (s : OSt) (LL : List Rg) (off : Int) (m : Nat) (fv : Bool) : Prop where
  o1 : s.base ≤ off
  o2 : off + m ≤ n
  o3 : off + m ≤ s.mx
  o4 : off ≤ s.next
  no : ∀ x, off ≤ x → x < off + m → ¬ G got x
  fv1 : fv = decide (off + (m : Int) = n)
  fv2 : fv = true → s.ack = false
  m0 : m = 0 → LL = [] ∧ fv = true
section
variable {n : Nat} {got : List Bool} {s : OSt} {LA LL : List Rg} {off : Int} {m : Nat} {fv : Bool}
theorem OutI.lens (h : OutI n got s LA LL) : LA.length ≤ 3001 ∧ LL.length ≤ 3001 := by
  have h1 := nf_len (n := n) h.la (fun x hx => by have := h.bas; omega)
  have h2 := nf_len (n := n) h.ll (fun x hx => by have := h.bas; omega)
  have := h.nb
  omega
theorem OutI.ok (h : OutI n got s LA LL) (hm : s.mx ≤ 100000000000) : OOk s := by
  have h1 := h.bas
  have h2 := h.nb
  have h3 := h.bn
  have h4 := h.mx
  exact ⟨by omega, by omega, by omega, by omega⟩
/-- Something that was lost is picked. -/
theorem OutI.again (h : OutI n got s LA LL) {r : Rg} {l : List Rg} (hL : LL = r :: l) {room : Nat} (hr : 1 ≤ room) (hm : (m : Int) = min (room : Int) (r.2 - r.1)) (hfv : fv = (decide (r.1 + m = (n : Int)) && !s.ack)) :
    Pkd n got s LL r.1 m fv ∧ 1 ≤ m ∧ r.1 ≤ r.2 ∧ r.2 ≤ 200000 ∧ 0 ≤ r.1 := by
  have h0 := h.ll
  rw [hL] at h0
  obtain ⟨h1, h2⟩ := nf_head h0
  obtain ⟨h3, h4, h5⟩ := h2 r.1 (Int.le_refl _) h1
  obtain ⟨_, h6, _⟩ := h2 (r.2 - 1) (by omega) (by omega)
  have hb := h.bas
  have hnb := h.nb
  have hmx := h.mx
  have hbase : s.base ≤ r.1 := by
    by_cases hc : s.base ≤ r.1
    · exact hc
    · exact absurd (h.low r.1 h3 (by omega)) h5
  have hm1 : 1 ≤ m := by omega
  have hmr : r.1 + m ≤ r.2 := by omega
  have hno : ∀ x, r.1 ≤ x → x < r.1 + m → ¬ G got x := fun x h7 h8 => (h2 x h7 (by omega)).2.2
  have hna : r.1 + (m : Int) = n → s.ack = false := fun he => by
    cases hA : s.ack with
    | false => rfl
    | true =>
      have h9 := (h.end_ hA).2 (by omega)
      exact absurd h9 (hno _ (by omega) (by omega))
  have hf : fv = decide (r.1 + (m : Int) = n) := by
    rw [hfv]
    by_cases he : r.1 + (m : Int) = n
    · rw [hna he]; simp
    · rw [decide_eq_false he]; rfl
  refine ⟨⟨hbase, by omega, by omega, by omega, hno, hf, fun h9 => ?_, fun h9 => by omega⟩, hm1, by omega, by omega, h3⟩
  rw [hf] at h9
  exact hna (of_decide_eq_true h9)
theorem OutI.all_got (h : OutI n got s LA []) (hn : s.next = n) : (s.bn : Int) = 0 := by
  have hb := h.bas
  have hbn := h.bn
  by_cases hc : s.base < s.next
  · have h1 := h.at_ hc
    exact absurd ⟨hb.1, hc, h1⟩ (nf_empty h.ll s.base)
  · omega
/-- Something fresh is picked, or it is blocked. -/
theorem OutI.fresh (h : OutI n got s LA []) {room : Nat} (hr : 1 ≤ room) (hover : overB s = false) (hm : (m : Int) = min (room : Int) (min 4611686018427387904 (min (s.base + s.bn - s.next) (max s.mx s.next - s.next)))) (hfv : fv = (decide (s.next + m = (n : Int)) && !s.ack)) :
    (m = 0 ∧ fv = false ∧ s.next < n ∧ s.mx ≤ s.next ∧ (s.next = s.base + s.bn → s.ack = true)) ∨ ((m ≠ 0 ∨ fv = true) ∧ Pkd n got s [] s.next m fv) := by
  have hb := h.bas
  have hbn := h.bn
  have hmx := h.mx
  have hnb := h.nb
  by_cases h0 : m = 0 ∧ fv = false
  · obtain ⟨rfl, h1⟩ := h0
    have hne : s.next ≠ n := fun he => by
      have h2 := h.all_got he
      rw [hfv] at h1
      have h3 : s.ack = true := by
        cases hA : s.ack with
        | true => rfl
        | false => rw [hA] at h1; simp [he] at h1
      unfold overB at hover
      rw [h.fin, h3] at hover
      have h4 : s.bn = 0 := by omega
      simp [h4] at hover
    exact .inl ⟨rfl, h1, by omega, by omega, fun he => by omega⟩
  · have hgo : m ≠ 0 ∨ fv = true := by
      rcases Nat.eq_zero_or_pos m with h1 | h1
      · right
        cases fv with
        | true => rfl
        | false => exact absurd ⟨h1, rfl⟩ h0
      · left; omega
    have hna : s.next + (m : Int) = n → s.ack = false := fun he => by
      cases hA : s.ack with
      | false => rfl
      | true =>
        have h9 := (h.end_ hA).1
        rcases hgo with h1 | h1
        · omega
        · rw [hfv, hA] at h1
          simp at h1
    have hf : fv = decide (s.next + (m : Int) = n) := by
      rw [hfv]
      by_cases he : s.next + (m : Int) = n
      · rw [hna he]; simp
      · rw [decide_eq_false he]; rfl
    refine .inr ⟨hgo, ⟨hb.2.1, by omega, by omega, by omega, fun x h1 h2 => h.high x h1, hf, fun h9 => ?_, fun h1 => ⟨rfl, ?_⟩⟩⟩
    · rw [hf] at h9
      exact hna (of_decide_eq_true h9)
    · rcases hgo with h2 | h2
      · exact absurd h1 h2
      · exact h2
/-- It is missed. -/
theorem OutI.missed (h : OutI n got s LA LL) (hp : Pkd n got s LL off m fv) {M MO ML : List Rg} {s2 : OSt} (hM : IsNf (fun x => (inB LL x && !inB [(off, off + (m : Int))] x) = true) M)
    (hMO : IsNf (fun x => (inB [(off, off + (m : Int))] x && !inB (LA ++ [(0, s.base)]) x) = true) MO) (hML : IsNf (MemR (M ++ MO)) ML)
    (e1 : s2.base = s.base) (e2 : s2.bn = s.bn) (e3 : s2.next = max s.next (off + m)) (e4 : s2.mx = s.mx) (e5 : s2.fin = s.fin) (e6 : s2.ack = s.ack) (e7 : s2.sent = ((s.sent || fv) && !(fv && !s.ack))) : OutI n got s2 LA ML := by
  have hb := h.bas
  have hbn := h.bn
  have hmx := h.mx
  have o1 := hp.o1
  have o2 := hp.o2
  have o3 := hp.o3
  have o4 := hp.o4
  refine ⟨h.gl, h.nb, by rw [e1, e3]; omega, by rw [e1, e2]; exact hbn, by rw [e3, e4]; omega, by rw [e1]; exact h.low, fun x hx => h.high x (by rw [e3] at hx; omega), ?_, ?_, ?_, ?_, by rw [e5]; exact h.fin, ?_⟩
  · rw [e1, e3]
    intro hlt
    by_cases hc : s.base < s.next
    · exact h.at_ hc
    · exact h.high _ (by omega)
  · refine h.la.congr fun x => ?_
    rw [e1, e3]
    constructor
    · rintro ⟨h1, h2, h3⟩; exact ⟨h1, by omega, h3⟩
    · rintro ⟨h1, h2, h3⟩
      refine ⟨h1, ?_, h3⟩
      by_cases hc : x < s.next
      · exact hc
      · exact absurd h3 (h.high x (by omega))
  · refine hML.congr fun x => ?_
    rw [memR_append, hM.mem, hMO.mem, e3]
    simp only [Bool.and_eq_true, Bool.not_eq_true', ← Bool.not_eq_true, inB_iff, memR_one, h.ll.mem, memR_append, h.la.mem]
    constructor
    · rintro (⟨⟨h1, h2, h3⟩, h4⟩ | ⟨⟨h1, h2⟩, h4⟩)
      · exact ⟨h1, by omega, h3⟩
      · exact ⟨by omega, by omega, hp.no x h1 h2⟩
    · rintro ⟨h1, h2, h3⟩
      by_cases hc : off ≤ x ∧ x < off + m
      · refine .inr ⟨hc, ?_⟩
        rintro (h4 | h4)
        · exact h3 h4.2.2
        · omega
      · refine .inl ⟨⟨h1, by omega, h3⟩, hc⟩
  · rw [e7, e6, h.sa]
    cases s.ack <;> cases fv <;> rfl
  · rw [e6, e3]
    intro hA
    have h1 := h.end_ hA
    exact ⟨by omega, h1.2⟩
/-- It is acknowledged. -/
theorem OutI.acked (h : OutI n got s LA LL) (hp : Pkd n got s LL off m fv) {M all MA ML : List Rg} {s2 : OSt} (hM : IsNf (fun x => (inB LL x && !inB [(off, off + (m : Int))] x) = true) M)
    (hall : IsNf (MemR (LA ++ [(off, off + (m : Int))])) all) (hMA : IsNf (fun x => (inB all x && !inB [(0, gapP all s.base)] x) = true) MA) (hML : IsNf (fun x => (inB M x && !inB (all ++ [(0, gapP all s.base)]) x) = true) ML)
    (e1 : s2.base = gapP all s.base) (e2 : s2.bn = s.bn - (gapP all s.base - s.base).toNat) (e3 : s2.next = max s.next (off + m)) (e4 : s2.mx = s.mx) (e5 : s2.fin = s.fin) (e6 : s2.ack = (s.ack || fv)) (e7 : s2.sent = (s.sent || fv)) :
    OutI n (setR got off.toNat m) s2 MA ML ∧ (got.count true + (if s.ack = true then 1 else 0) < (setR got off.toNat m).count true + (if s2.ack = true then 1 else 0)) := by
  have hb := h.bas
  have hbn := h.bn
  have hmx := h.mx
  have o1 := hp.o1
  have o2 := hp.o2
  have o3 := hp.o3
  have o4 := hp.o4
  have hgl := h.gl
  have ho : (off.toNat : Int) = off := by omega
  have hG : ∀ x, G (setR got off.toNat m) x ↔ (off ≤ x ∧ x < off + m) ∨ G got x := fun x => by
    rw [G_set (by omega), ho]
  have hA : ∀ x, MemR all x ↔ s.base ≤ x ∧ x < max s.next (off + m) ∧ G (setR got off.toNat m) x := fun x => by
    rw [hall.mem, memR_append, h.la.mem, hG]
    constructor
    · rintro (⟨h1, h2, h3⟩ | ⟨r, hr, h5, h6⟩)
      · exact ⟨h1, by omega, .inr h3⟩
      · rw [List.mem_singleton.1 hr] at h5 h6
        simp only at h5 h6
        exact ⟨by omega, by omega, .inl ⟨h5, h6⟩⟩
    · rintro ⟨h1, h2, h3 | h3⟩
      · exact .inr ⟨_, List.mem_singleton.2 rfl, h3.1, h3.2⟩
      · refine .inl ⟨h1, ?_, h3⟩
        by_cases hc : x < s.next
        · exact hc
        · exact absurd h3 (h.high x (by omega))
  obtain ⟨p1, p2, p3⟩ := gapP_spec all (-1) s.base hall.neat
  obtain ⟨bp, hbp⟩ : ∃ x, gapP all s.base = x := ⟨_, rfl⟩
  rw [hbp] at p1 p2 p3 e1 e2 hMA hML
  have p4 : bp ≤ max s.next (off + m) := by
    by_cases hc : s.base < bp
    · have := ((hA _).1 (p2 (bp - 1) (by omega) (by omega))).2.1
      omega
    · omega
  have hlow : ∀ x, 0 ≤ x → x < bp → G (setR got off.toNat m) x := fun x h1 h2 => by
    by_cases hc : x < s.base
    · exact (hG x).2 (.inr (h.low x h1 hc))
    · exact ((hA x).1 (p2 x (by omega) h2)).2.2
  refine ⟨⟨by rw [setR_length]; exact hgl, h.nb, by rw [e1, e3]; omega, by rw [e1, e2]; omega, by rw [e3, e4]; omega, by rw [e1]; exact hlow, ?_, ?_, ?_, ?_, by rw [e6, e7, h.sa], by rw [e5]; exact h.fin, ?_⟩, ?_⟩
  · intro x hx
    rw [e3] at hx
    rw [hG]
    rintro (h1 | h1)
    · omega
    · exact h.high x (by omega) h1
  · rw [e1, e3]
    intro hlt h1
    exact p3 ((hA bp).2 ⟨by omega, hlt, h1⟩)
  · refine hMA.congr fun x => ?_
    simp only [Bool.and_eq_true, Bool.not_eq_true', ← Bool.not_eq_true, inB_iff, memR_one, hA]
    rw [e1, e3]
    constructor
    · rintro ⟨⟨h1, h2, h3⟩, h4⟩; exact ⟨by omega, h2, h3⟩
    · rintro ⟨h1, h2, h3⟩; exact ⟨⟨by omega, h2, h3⟩, by omega⟩
  · refine hML.congr fun x => ?_
    simp only [Bool.and_eq_true, Bool.not_eq_true', ← Bool.not_eq_true, inB_iff, memR_one, memR_append, hA, hM.mem, h.ll.mem]
    rw [e3]
    constructor
    · rintro ⟨⟨⟨h1, h2, h3⟩, h4⟩, h5⟩
      refine ⟨h1, by omega, fun h6 => ?_⟩
      rcases (hG x).1 h6 with h7 | h7
      · exact h4 h7
      · exact h3 h7
    · rintro ⟨h1, h2, h3⟩
      have h4 : ¬ (off ≤ x ∧ x < off + m) := fun h5 => h3 ((hG x).2 (.inl h5))
      have h5 : ¬ G got x := fun h6 => h3 ((hG x).2 (.inr h6))
      refine ⟨⟨⟨h1, by omega, h5⟩, h4⟩, ?_⟩
      rintro (h6 | ⟨h7, h8⟩)
      · exact h3 h6.2.2
      · exact h3 (hlow x h7 h8)
  · rw [e6, e3]
    intro hAk
    rcases (by simpa using hAk : s.ack = true ∨ fv = true) with h1 | h1
    · obtain ⟨h2, h3⟩ := h.end_ h1
      exact ⟨by omega, fun h4 => (hG _).2 (.inr (h3 h4))⟩
    · have h2 : off + (m : Int) = n := of_decide_eq_true (hp.fv1 ▸ h1)
      refine ⟨by omega, fun h4 => (hG _).2 ?_⟩
      by_cases hm0 : m = 0
      · right
        obtain ⟨rfl, _⟩ := hp.m0 hm0
        have hnot := nf_empty h.ll ((n : Int) - 1)
        have h6 : s.next = n := by omega
        by_cases h7 : G got ((n : Int) - 1)
        · exact h7
        · exact absurd ⟨by omega, by omega, h7⟩ hnot
      · left; omega
  · have hc : (setR got off.toNat m).count true = got.count true + m := count_setR got off.toNat m (by omega) (fun i h1 h2 h3 => hp.no i (by omega) (by omega) ⟨by omega, by simpa using h3⟩)
    rw [hc, e6]
    by_cases hm0 : m = 0
    · obtain ⟨_, hf⟩ := hp.m0 hm0
      rw [hf, hp.fv2 hf]
      simp
      omega
    · cases s.ack <;> cases fv <;> simp <;> omega
/-- The gap lies within what was written. -/
theorem OutI.gap (h : OutI n got s LA LL) (hp : Pkd n got s LL off m fv) {all : List Rg} (hall : IsNf (MemR (LA ++ [(off, off + (m : Int))])) all) : s.base ≤ gapP all s.base ∧ gapP all s.base ≤ s.base + s.bn := by
  obtain ⟨p1, p2, p3⟩ := gapP_spec all (-1) s.base hall.neat
  have hb := h.bas
  have hbn := h.bn
  have o2 := hp.o2
  refine ⟨p1, ?_⟩
  by_cases hc : s.base < gapP all s.base
  · have h1 := (hall.mem _).1 (p2 (gapP all s.base - 1) (by omega) (by omega))
    rw [memR_append, h.la.mem] at h1
    rcases h1 with h1 | ⟨r, hr, h5, h6⟩
    · omega
    · rw [List.mem_singleton.1 hr] at h5 h6
      simp only at h5 h6
      omega
  · omega
/-- All came. -/
theorem OutI.done (h : OutI n got s LA LL) (hov : overB s = true) : s.ack = true ∧ ∀ i, i < n → got[i]? = some true := by
  unfold overB at hov
  simp only [Bool.and_eq_true, decide_eq_true_eq] at hov
  refine ⟨hov.2.1, fun i hi => ?_⟩
  have hbn := h.bn
  have := (h.low i (by omega) (by omega)).2
  simpa using this
theorem count_le (h : OutI n got s LA LL) : got.count true ≤ 3000 := by
  have h1 := List.count_le_length (a := true) (l := got)
  have := h.gl
  have := h.nb
  omega
end
end Go.Proofs.Ytidfimpchbkppaa
