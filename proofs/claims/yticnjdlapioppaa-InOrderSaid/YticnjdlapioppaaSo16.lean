/- In: the law's state; what Put makes of it. -/
import Derived.Test.YticnjdlapioppaaSo15
namespace Go.Proofs.Yticnjdlapioppaa
open Go.RowKit
set_option linter.unusedVariables false

structure InM (w : World) (T : List Int) (q : Nat) (Z : Nat → Prop) (s : ISt) (L : List Pc) : Prop where
  blk : IB w q s
  ok : IOk s
  buf : Sl .u8 w s.ba s.bc (sub T s.rd s.bn)
  bq : ∀ x, s.ba = some x → 0 < s.bn → x.block ≠ q ∧ ¬ Z x.block
  le : s.rd + s.bn ≤ T.length
  row : Qs w s.la s.lc L
  ln : s.ln = L.length
  lq : ∀ x, s.la = some x → 0 < L.length → x.block ≠ q ∧ ¬ Z x.block
  gp : ∀ p ∈ L, GP w T (s.rd + s.bn + 1) p
  pq : ∀ p ∈ L, ∀ x, p.a = some x → x.block ≠ q ∧ ¬ Z x.block
  apart : Apart L
  mx : s.mx = T.length
  top : s.top ≤ T.length
  fin : s.hf = true → s.fin = T.length
  frr : s.fr = true → s.rd = T.length ∧ s.hf = true
def KV (s : ISt) (L : List Pc) (x : Nat) : Prop := x < s.rd + s.bn ∨ CovL L x
theorem GP.only {S : Nat → Prop} {w w' : World} {T : List Int} {E : Nat} {p : Pc} (h : GP w T E p) (hb : Only S w w') (hs : ∀ x, p.a = some x → ¬ S x.block) : GP w' T E p := by
  obtain ⟨o, h1, h2, h3, h4, h5⟩ := h
  exact ⟨o, h1, h2, h3, h4, h5.only hb (fun x hx _ => hs x hx)⟩
theorem GP.mono {w : World} {T : List Int} {E E' : Nat} {p : Pc} (h : GP w T E p) (hE : E' ≤ E) : GP w T E' p := by
  obtain ⟨o, h1, h2, h3, h4, h5⟩ := h
  exact ⟨o, h1, by omega, h3, h4, h5⟩
theorem GP.num {w : World} {T : List Int} {E : Nat} {p : Pc} (h : GP w T E p) : ∃ o : Nat, p.off = (o : Int) ∧ E ≤ o ∧ o + p.n ≤ T.length ∧ 0 < p.n := by
  obtain ⟨o, h1, h2, h3, h4, h5⟩ := h
  exact ⟨o, h1, h2, h3, h4⟩
section
variable {w w' : World} {T : List Int} {q : Nat} {Z : Nat → Prop} {s s' : ISt} {L : List Pc}
theorem InM.cnt (h : InM w T q Z s L) : L.length ≤ T.length := by
  have := apart_len (T := T) h.apart (fun p hp => (h.gp p hp).num)
  omega
/-- Other blocks are written. -/
theorem InM.only {S : Nat → Prop} (h : InM w T q Z s L) (hb : Only S w w') (hq : ¬ S q) (hS : ∀ b, S b → Z b) : InM w' T q Z s L :=
  ⟨hb.blk h.blk hq, h.ok, h.buf.only hb (fun x hx h0 hx2 => (h.bq x hx (by rw [sub_length h.le] at h0; exact h0)).2 (hS _ hx2)), h.bq, h.le, h.row.only hb (fun x hx h0 hx2 => (h.lq x hx h0).2 (hS _ hx2)), h.ln, h.lq,
    fun p hp => (h.gp p hp).only hb (fun x hx hx2 => (h.pq p hp x hx).2 (hS _ hx2)), h.pq, h.apart, h.mx, h.top, h.fin, h.frr⟩
theorem InM.below (h : InM w T q Z s L) (hb : Below w.heap.size w w') : InM w' T q Z s L :=
  ⟨h.blk.below hb, h.ok, h.buf.below hb, h.bq, h.le, h.row.below hb, h.ln, h.lq, fun p hp => (h.gp p hp).below hb, h.pq, h.apart, h.mx, h.top, h.fin, h.frr⟩
/-- The block itself is written: what it points at stays. -/
theorem InM.own (h : InM w T q Z s L) (hb : Only (· = q) w w') : Sl .u8 w' s.ba s.bc (sub T s.rd s.bn) ∧ Qs w' s.la s.lc L ∧ ∀ p ∈ L, GP w' T (s.rd + s.bn + 1) p :=
  ⟨h.buf.only hb (fun x hx h0 => (h.bq x hx (by rw [sub_length h.le] at h0; exact h0)).1), h.row.only hb (fun x hx h0 => (h.lq x hx h0).1), fun p hp => (h.gp p hp).only hb (fun x hx => (h.pq p hp x hx).1)⟩
end
def comesS (s : ISt) (e0 : Nat) (fl : Bool) : ISt := { s with top := max s.top e0, hf := s.hf || fl, fin := bif fl then e0 else s.fin }
theorem icomes_all (q : Nat) (s : ISt) (e0 : Nat) (fl : Bool) (w : World) (h : IB w q s) (hs : IOk s) (h0 : e0 ≤ 100000) :
    Calls Try.prog 50 #[.pointer (some ⟨q, 0, none⟩), .int .u64 e0, .bool fl] w fun e w' => Only (· = q) w w' ∧ IB w' q (comesS s e0 fl) ∧ ∃ v : Int, e = .returned (.int .u64 v) := by
  cases fl with
  | false =>
    refine (icomes_any q s e0 _ w h hs h0 rfl).mono ?_
    rintro e w1 ⟨h1, h2, h3⟩
    refine ⟨h1, ?_, h3⟩
    simpa [comesS] using h2
  | true =>
    refine (icomes_fin q s e0 _ w h hs h0 rfl).mono ?_
    rintro e w1 ⟨h1, h2, h3⟩
    refine ⟨h1, ?_, h3⟩
    simpa [comesS] using h2
theorem InM.comes {w w' : World} {T : List Int} {q : Nat} {Z : Nat → Prop} {s : ISt} {L : List Pc} {e0 : Nat} {fl : Bool} (h : InM w T q Z s L) (hb : Only (· = q) w w') (hI : IB w' q (comesS s e0 fl)) (he : e0 ≤ T.length) (hT : T.length ≤ 3000) (hf : fl = true → e0 = T.length) : InM w' T q Z (comesS s e0 fl) L := by
  obtain ⟨k1, k2, k3⟩ := h.own hb
  have hok := h.ok
  unfold IOk at hok
  have htop := h.top
  refine ⟨hI, ?_, k1, h.bq, h.le, k2, h.ln, h.lq, k3, h.pq, h.apart, h.mx, ?_, fun h9 => ?_, fun h9 => ?_⟩
  · unfold IOk comesS
    simp only
    refine ⟨hok.1, hok.2.1, hok.2.2.1, by omega, hok.2.2.2.2.1, ?_⟩
    cases fl <;> simp <;> omega
  · simp only [comesS]; omega
  · cases fl with
    | true => simpa [comesS] using hf rfl
    | false => simp [comesS] at h9 ⊢; exact h.fin h9
  · obtain ⟨h1, h2⟩ := h.frr h9
    exact ⟨h1, by simp [comesS, h2]⟩
def PutP (T : List Int) (q : Nat) (Z : Nat → Prop) (s : ISt) (L : List Pc) (off len : Nat) (fl : Bool) (w w' : World) (e : Ending) : Prop :=
  Only (· = q) w w' ∧ (∃ v : Int, e = .returned (.tuple #[.int .u64 v, .int .i64 0])) ∧ ∃ s' L', InM w' T q Z s' L' ∧ s'.rd = s.rd ∧ s'.fr = s.fr ∧ (fl = true → s'.hf = true) ∧ (s.hf = true → s'.hf = true) ∧
    (s.fr = false → ∀ x : Nat, KV s L x → KV s' L' x) ∧ (s.fr = false → ∀ x : Nat, off ≤ x → x < off + len → KV s' L' x)
end Go.Proofs.Yticnjdlapioppaa
