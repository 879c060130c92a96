/- Sent: what the law keeps, in memory. -/
import Derived.Test.YtidfimpchbkppaaSt9
import Derived.Test.YtidfimpchbkppaaSt10
namespace Go.Proofs.Ytidfimpchbkppaa
open Go.RowKit
set_option linter.unusedVariables false

theorem OwnS.cutk {w : World} {base : Nat} {e : TypeId} {size n cap : Nat} {a : Option Addr} {xs : List Value} (h : OwnS w base e size a n cap xs) {m : Nat} (hm : m ≤ n) : OwnS w base e size a m cap (xs.take (m * size)) := by
  obtain ⟨hl, h2⟩ := h
  have hmul : m * size ≤ n * size := Nat.mul_le_mul_right size hm
  refine ⟨by simp; omega, ?_⟩
  rcases h2 with ⟨h1, h3⟩ | ⟨g, c, cur, h1, h3, h4, h5, h6, h7, h8⟩
  · cases h1
    have : m = 0 := by omega
    exact .inl ⟨by rw [this], this⟩
  · cases h1
    refine .inr ⟨g, cap, cur, rfl, h3, h4, by omega, h6, h7, ?_⟩
    rw [← h8, List.take_take, Nat.min_eq_left hmul]
section
variable {P : Program} {ops : Array Oper} {rest : List Oper} {o : Oper} {a : Act} {w : World} {Q : Exit → Act → World → Prop}
theorem wpList_cut_own {t e : TypeId} {bytes : Nat} (hE : ET P t e 1 bytes) (hgd : o.guard = none) {x hi : Operand} (ho : o.op = .slice t x none (some hi) none)
    {base : Nat} {av : Option Addr} {n cap : Nat} {xs : List Value} {kh : IntKind} {hj : Int} (hx : a.eval x = .slice av n cap) (hhi : a.eval hi = .int kh hj)
    (hs : OwnS w base e 1 av n cap xs) (m : Nat) (e2 : hj = m) (h2 : m ≤ n)
    (h : wpList P ops Q rest (a.put o.dst (.slice av m cap)) w) : wpList P ops Q (o :: rest) a w := by
  refine wpList_plain hgd fun K hK' => ?_
  have hle := hs.caps.1
  subst e2
  unfold Oper.wp
  obtain ⟨ht, hz⟩ := hE.elem
  have hr : (Instr.sliceAt t (.slice av n cap) none (some (.int kh m)) none).run P w = .ok (sliced av 0 m cap 1) w := by
    rw [run_sliceAt_slice (h := ht), run_slice_h (ht := ht) (h0 := by omega) (h2 := by omega), hz]
    simp [Result.andThen]
  have hv : sliced av 0 m cap 1 = .slice av m cap := by
    unfold sliced
    cases av with
    | none => simp
    | some y => by_cases hc : cap = 0 <;> simp [hc, Addr.add]
  rw [hv] at hr
  simp [execOp, ho, hx, hhi, hr, Result.andThen]
  exact hK' _ _ (by simpa using h)
end
/-- None of the blocks of the law's own lists. -/
def Far2 (a t : Option Addr) (z : Nat) : Prop := ∀ y, (a = some y ∨ t = some y) → z ≠ y.block
def Bk (t : Option Addr) (z : Nat) : Prop := ∃ y, t = some y ∧ y.block = z
theorem SS.turn {w w' : World} {b : Nat} {F F' S : Nat → Prop} {L : List Pk} {has : Bool} {lg la lt top : Int} (h : SS w b F L has lg la lt top) (ho : Only S w w') (hb : ¬ S b) (hS : ∀ z, F z → z < w.heap.size → ¬ S z) (hF : ∀ z, F z → z < w.heap.size → F' z) : SS w' b F' L has lg la lt top := by
  obtain ⟨a, n, c, h1, h2, h3, h4⟩ := h
  have lt : ∀ x, a = some x → 0 < L.length → x.block < w.heap.size := fun x hx h0 => by
    obtain ⟨g, off, ha, hlt, _⟩ := h3.cells 0 h0
    rw [hx] at ha
    cases ha
    exact hlt
  exact ⟨a, n, c, ho.blk h1 hb, h2, h3.only2 ho (fun x hx h0 => hS _ (h4 x hx h0).2 (lt x hx h0)), fun x hx h0 => ⟨(h4 x hx h0).1, hF _ (h4 x hx h0).2 (lt x hx h0)⟩⟩
def ints (A : List Int) : List Value := A.map (Value.int .u64)
/-- What the law's loop keeps. -/
structure SentInv (w : World) (base b : Nat) (aa : Option Addr) (na ca : Nat) (ta : Option Addr) (nt ct : Nat) (L : List Pk) (has : Bool) (lg la lt top : Int) (A T : List Int) (k : Nat) : Prop where
  ss : SS w b (Far2 aa ta) L has lg la lt top
  ad : OwnS w base 28 1 aa na ca (ints A)
  td : OwnS w base 28 1 ta nt ct (ints T)
  ne : ∀ x y, aa = some x → ta = some y → x.block ≠ y.block
  bb : b < base
  bw : base ≤ w.heap.size
  si : SI L lg top A T
  cnt : A.length ≤ k
/-- What stands when a call's answer is gone through. -/
structure Mid (w : World) (base b : Nat) (aa : Option Addr) (na ca : Nat) (ta : Option Addr) (nt ct : Nat) (ao : Option Addr) (no co : Nat) (L out : List Pk) (has : Bool) (lg la lt top : Int) (A T : List Int) (k : Nat) : Prop where
  ss : SS w b (Far2 aa ta) L has lg la lt top
  ad : OwnS w base 28 1 aa na ca (ints A)
  td : OwnS w base 28 1 ta nt ct (ints T)
  ne : ∀ x y, aa = some x → ta = some y → x.block ≠ y.block
  bb : b < base
  bw : base ≤ w.heap.size
  on : no = out.length
  op : Ps w ao co out
  ot : ∀ x, ao = some x → ¬ Bk ta x.block
  si : SI L lg top A (T ++ pns out)
  oa : (pns out).Pairwise (· < ·)
  cnt : A.length ≤ k
section
variable {w w' : World} {base b : Nat} {aa ta : Option Addr} {na ca nt ct : Nat} {L : List Pk} {has : Bool} {lg la lt top : Int} {A T : List Int} {k : Nat}
theorem ints_len (h : OwnS w base 28 1 aa na ca (ints A)) : na = A.length := by
  have := h.length
  simp [ints] at this
  omega
theorem SentInv.far (h : SentInv w base b aa na ca ta nt ct L has lg la lt top A T k) : ∀ z, w.heap.size ≤ z → Far2 aa ta z := by
  intro z hz y hy
  rcases hy with hy | hy
  · have := (h.ad.block hy).2.1; omega
  · have := (h.td.block hy).2.1; omega
theorem SentInv.below (h : SentInv w base b aa na ca ta nt ct L has lg la lt top A T k) (hb : Below w.heap.size w w') : SentInv w' base b aa na ca ta nt ct L has lg la lt top A T k :=
  ⟨h.ss.only hb, h.ad.below hb, h.td.below hb, h.ne, h.bb, Nat.le_trans h.bw hb.size, h.si, h.cnt⟩
theorem SentInv.mid0 (h : SentInv w base b aa na ca ta nt ct L has lg la lt top A T k) : Mid w base b aa na ca ta nt ct none 0 0 L [] has lg la lt top A T (k + 1) :=
  ⟨h.ss, h.ad, h.td, h.ne, h.bb, h.bw, rfl, Ps.nil _, (fun x hx => nomatch hx), by simpa [pns] using h.si, by simp [pns], by have := h.cnt; omega⟩
theorem SentInv.lens (h : SentInv w base b aa na ca ta nt ct L has lg la lt top A T k) : na = A.length ∧ nt = T.length ∧ T.length + L.length = A.length ∧ A.length ≤ k := ⟨ints_len h.ad, ints_len h.td, h.si.len, h.cnt⟩
theorem Mid.below {ao : Option Addr} {no co : Nat} {out : List Pk} (h : Mid w base b aa na ca ta nt ct ao no co L out has lg la lt top A T k) (hb : Below w.heap.size w w') : Mid w' base b aa na ca ta nt ct ao no co L out has lg la lt top A T k :=
  ⟨h.ss.only hb, h.ad.below hb, h.td.below hb, h.ne, h.bb, Nat.le_trans h.bw hb.size, h.on, h.op.below hb, h.ot, h.si, h.oa, h.cnt⟩
/-- A call that takes packets. -/
theorem SentInv.takes (h : SentInv w base b aa na ca ta nt ct L has lg la lt top A T k) (ho : Only (· = b) w w') {v : Value} {q : Pk → Bool} {f : Pk → Pk} {has' : Bool} {lg' la' : Int} (hv : Told15 w w' v (L.filter q))
    (hs : SS w' b (Far2 aa ta) ((L.filter fun p => !q p).map f) has' lg' la' lt top) (hg : u64b' lg') (hf : ∀ p, (f p).pn = p.pn ∧ (f p).at_ = p.at_ ∧ (f p).after ≤ p.after + (L.filter q).length) :
    ∃ (ao : Option Addr) (no co : Nat), v = .slice ao no co ∧ Mid w' base b aa na ca ta nt ct ao no co ((L.filter fun p => !q p).map f) (L.filter q) has' lg' la' lt top A T (k + 1) := by
  obtain ⟨a, n, c, rfl, h1, h2, h3⟩ := hv
  have ha : ∀ x, aa = some x → ¬ x.block = b := fun x hx e => by have := (h.ad.block hx).1; have := h.bb; omega
  have ht : ∀ x, ta = some x → ¬ x.block = b := fun x hx e => by have := (h.td.block hx).1; have := h.bb; omega
  refine ⟨a, n, c, rfl, hs, h.ad.only ho ha, h.td.only ho ht, h.ne, h.bb, Nat.le_trans h.bw ho.size, h1, h2, ?_, h.si.take q f hf hg, h.si.out q, by have := h.cnt; omega⟩
  rintro x hx ⟨y, hy, he⟩
  have := h3 x hx
  have := (h.td.block hy).2.1
  omega
/-- A packet that was added. -/
theorem SentInv.adds (h : SentInv w base b aa na ca ta nt ct L has lg la lt top A T k) (ho : Only (· = b) w w') (p : Pk) {a' : Option Addr} {n' c' : Nat} {lt' : Int} (hs : SB w' b a' n' c' has lg la lt' (p.pn + 1)) (hn : n' = L.length + 1) (ha' : ∀ x, a' = some x → x.block ≠ b ∧ w.heap.size ≤ x.block) (hP : Ps w' a' c' (L ++ [p]))
    (h1 : ¬ p.pn < top) (h2 : ¬ 4611686018427387903 < p.pn) (h3 : p.at_ ≤ 4611686018427387904) (h0 : p.after = 0)
    {w2 w3 : World} (hw2 : Below w'.heap.size w' w2) {ab : Option Addr} {cb : Nat} (own : OwnS w3 base 28 1 ab (na + 1) cb (ints A ++ ints [p.pn])) (on3 : Only (fun z => ∃ y, aa = some y ∧ y.block = z) w2 w3) (hat : ∀ y, ab = some y → (∃ z, aa = some z ∧ y.block = z.block) ∨ y.block = w2.heap.size) :
    Mid w3 base b ab (na + 1) cb ta nt ct none 0 0 (L ++ [p]) [] has lg la lt' (p.pn + 1) (A ++ [p.pn]) T (k + 1) := by
  have ha : ∀ x, aa = some x → ¬ x.block = b := fun x hx e => by have := (h.ad.block hx).1; have := h.bb; omega
  have ht : ∀ x, ta = some x → ¬ x.block = b := fun x hx e => by have := (h.td.block hx).1; have := h.bb; omega
  have s1 : SS w' b (Far2 aa ta) (L ++ [p]) has lg la lt' (p.pn + 1) := ⟨a', n', c', hs, by simp [hn], hP, fun x hx _ => ⟨(ha' x hx).1, h.far _ (ha' x hx).2⟩⟩
  have s2 := s1.only hw2
  have hsz := ho.size
  have hsz2 := hw2.size
  have t3 := ((h.td.only ho ht).below hw2).only on3 (by
    rintro x hx ⟨y, hy, he⟩
    exact h.ne y x hy hx he)
  refine ⟨s2.turn on3 (by rintro ⟨y, hy, he⟩; exact ha y hy he) ?_ ?_, by simpa [ints] using own, t3, ?_, h.bb, Nat.le_trans h.bw (Nat.le_trans hsz (Nat.le_trans hsz2 on3.size)), rfl, Ps.nil _, (fun x hx => nomatch hx), ?_, by simp [pns], by have := h.cnt; simp; omega⟩
  · rintro z hz _ ⟨y, hy, he⟩
    exact hz y (.inl hy) he.symm
  · intro z hz hlt y hy
    rcases hy with hy | hy
    · rcases hat y hy with ⟨x, hx, he⟩ | he
      · rw [he]; exact hz x (.inl hx)
      · omega
    · exact hz y (.inr hy)
  · intro x y hx hy
    rcases hat x hx with ⟨z, hz, he⟩ | he
    · rw [he]; exact h.ne z y hz hy
    · have := (h.td.block hy).2.1
      omega
  · have := h.si.add p h1 h2 h3 h0
    simpa [pns] using this
/-- The list of what was told, while it grows. -/
def TL (w0 w : World) (base : Nat) (ta tb : Option Addr) (nb cb : Nat) (X : List Int) : Prop :=
  OwnS w base 28 1 tb nb cb (ints X) ∧ Only (Bk ta) w0 w ∧ ∀ y, tb = some y → Bk ta y.block ∨ w0.heap.size ≤ y.block
theorem TL.start (h : OwnS w base 28 1 ta nt ct (ints T)) : TL w w base ta ta nt ct T := ⟨h, Only.refl _ _, fun y hy => .inl ⟨y, hy, rfl⟩⟩
theorem TL.app {w0 w1 w2 w3 : World} {tb tc : Option Addr} {nb cb cc : Nat} {X : List Int} {x : Int} (h : TL w0 w1 base ta tb nb cb X) (h2 : Below w1.heap.size w1 w2) (own : OwnS w3 base 28 1 tc (nb + 1) cc (ints X ++ [.int .u64 x]))
    (on3 : Only (fun z => ∃ y, tb = some y ∧ y.block = z) w2 w3) (hat : ∀ y, tc = some y → (∃ z, tb = some z ∧ y.block = z.block) ∨ y.block = w2.heap.size) : TL w0 w3 base ta tc (nb + 1) cc (X ++ [x]) := by
  obtain ⟨g1, g2, g3⟩ := h
  have hs := g2.size
  have hs2 := h2.size
  refine ⟨by simpa [ints] using own, ?_, fun y hy => ?_⟩
  · have g4 : Only (Bk ta) w0 w2 := g2.trans (only_of_below h2 _)
    refine ⟨on3.os.trans g4.os, on3.tape.trans g4.tape, on3.output.trans g4.output, Nat.le_trans g4.size on3.size, fun z hz hn => (on3.block z (Nat.lt_of_lt_of_le hz g4.size) ?_).trans (g4.block z hz hn)⟩
    rintro ⟨y, hy, he⟩
    rcases g3 y hy with h5 | h5
    · exact hn (he ▸ h5)
    · omega
  · rcases hat y hy with ⟨z, hz, he⟩ | he
    · rw [he]; exact g3 z hz
    · right; omega
theorem Mid.done {ao : Option Addr} {no co : Nat} {out : List Pk} {w0 w1 w2 : World} {tb : Option Addr} {nb cb : Nat} (h : Mid w0 base b aa na ca ta nt ct ao no co L out has lg la lt top A T k) (ht : TL w0 w1 base ta tb nb cb (T ++ pns out ++ pns L)) (h2 : Below w1.heap.size w1 w2) {m : Nat} (hm : m = T.length + out.length) :
    SentInv w2 base b aa na ca tb m cb L has lg la lt top A (T ++ pns out) k := by
  obtain ⟨g1, g2, g3⟩ := ht
  have hbt : ¬ Bk ta b := fun ⟨y, hy, he⟩ => by have := (h.td.block hy).1; have := h.bb; omega
  have s1 : SS w1 b (Far2 aa tb) L has lg la lt top := h.ss.turn g2 hbt (fun z hz _ ⟨y, hy, he⟩ => hz y (.inr hy) he.symm) (fun z hz hlt y hy => by
    rcases hy with hy | hy
    · exact hz y (.inl hy)
    · rcases g3 y hy with ⟨x, hx, he⟩ | h5
      · rw [← he]; exact hz x (.inr hx)
      · omega)
  have hl := ints_len g1
  simp [pns] at hl
  have c1 := (g1.cutk (m := m) (by omega)).below h2
  have e1 : (ints (T ++ pns out ++ pns L)).take (m * 1) = ints (T ++ pns out) := by
    unfold ints
    rw [List.map_append, List.take_append_of_le_length (by simp [pns]; omega), List.take_of_length_le (by simp [pns]; omega)]
  rw [e1] at c1
  refine ⟨s1.only h2, (h.ad.only g2 (fun x hx ⟨y, hy, he⟩ => h.ne x y hx hy he.symm)).below h2, c1, fun x y hx hy => ?_, h.bb, Nat.le_trans h.bw (Nat.le_trans g2.size h2.size), h.si, h.cnt⟩
  rcases g3 y hy with ⟨z, hz, he⟩ | h5
  · rw [← he]; exact h.ne x z hx hz
  · have := (h.ad.block hx).2.1; omega
theorem TL.below0 {ao : Option Addr} {no co : Nat} {out : List Pk} {ww w0 w1 : World} {tb : Option Addr} {nb cb : Nat} {X : List Int} (h : Mid w0 base b aa na ca ta nt ct ao no co L out has lg la lt top A T k) (ht : TL w0 w1 base ta tb nb cb X) (hw : Below ww.heap.size ww w0) (hb : ww.heap.size ≤ b) : Below ww.heap.size ww w1 :=
  below_onto hw ht.2.1 hw.size (fun z hz ⟨y, hy, he⟩ => by have := (h.td.block hy).1; have := h.bb; omega)
end
end Go.Proofs.Ytidfimpchbkppaa
