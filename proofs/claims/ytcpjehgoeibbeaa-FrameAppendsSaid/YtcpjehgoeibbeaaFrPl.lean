import Derived.Test.YtcpjehgoeibbeaaVarP
/- Frames in plain Lean: which may be, their bytes, what is read. -/
namespace Go.Proofs.Ytcpjehgoeibbeaa
set_option linter.unusedVariables false
namespace Frm
open Var
structure Fr where
  kind : Int
  id : Int
  off : Int
  max : Int
  code : Int
  n : Int
  fin : Bool
  data : List Int
  cid : List Int
  tok : List Int
  acks : List (Int × Int)
  delay : Int
  e0 : Int
  e1 : Int
  e2 : Int
def tok0 : List Int := List.replicate 16 0
def fr0 (k : Int) : Fr := ⟨k, 0, 0, 0, 0, 0, false, [], [], tok0, [], 0, 0, 0, 0⟩
instance : Inhabited Fr := ⟨fr0 0⟩
def U64 (x : Int) : Prop := 0 ≤ x ∧ x ≤ 18446744073709551615
/-- What the types hold. -/
structure FrOk (f : Fr) : Prop where
  kind : U64 f.kind
  id : U64 f.id
  off : U64 f.off
  max : U64 f.max
  code : U64 f.code
  n : U64 f.n
  data : ∀ x ∈ f.data, Byte x
  cid : ∀ x ∈ f.cid, Byte x
  tok : ∀ x ∈ f.tok, Byte x
  tok16 : f.tok.length = 16
  acks : ∀ r ∈ f.acks, U64 r.1 ∧ U64 r.2
  delay : U64 f.delay
  e0 : U64 f.e0
  e1 : U64 f.e1
  e2 : U64 f.e2
def M62 : Int := 4611686018427387903
/-! ### What a kind has -/
def hId (k : Int) : Bool := [4, 5, 8, 17, 21, 24, 25].contains k
def hOff (k : Int) : Bool := [6, 8].contains k
def hMax (k : Int) : Bool := [4, 16, 17, 18, 19, 20, 21, 22, 23, 24, 28].contains k
def hCode (k : Int) : Bool := [4, 5, 28, 29].contains k
def hN (k : Int) : Bool := [0].contains k
def hFin (k : Int) : Bool := [8].contains k
def hData (k : Int) : Bool := [6, 7, 8, 26, 27, 28, 29].contains k
def hCid (k : Int) : Bool := [24].contains k
def hAck (k : Int) : Bool := [2, 3].contains k
def hEcn (k : Int) : Bool := [3].contains k
def isFr (k : Int) : Bool := decide (0 ≤ k) && decide (k ≤ 30) && !(decide (8 < k) && decide (k < 16))
/-- A frame without what its kind has. -/
def bareF (f : Fr) : Fr :=
  { f with
    id := if hId f.kind then 0 else f.id
    off := if hOff f.kind then 0 else f.off
    max := if hMax f.kind then 0 else f.max
    code := if hCode f.kind then 0 else f.code
    n := if hN f.kind then 0 else f.n
    fin := if hFin f.kind then false else f.fin
    data := if hData f.kind then [] else f.data
    cid := if hCid f.kind then [] else f.cid
    tok := if hCid f.kind then tok0 else f.tok
    acks := if hAck f.kind then [] else f.acks
    delay := if hAck f.kind then 0 else f.delay
    e0 := if hEcn f.kind then 0 else f.e0
    e1 := if hEcn f.kind then 0 else f.e1
    e2 := if hEcn f.kind then 0 else f.e2 }
def nothing (g : Fr) : Bool := decide (g.id = 0) && decide (g.off = 0) && decide (g.max = 0) && decide (g.code = 0) && decide (g.n = 0) && !g.fin && decide (g.delay = 0) && (decide (g.e0 = 0) && decide (g.e1 = 0) && decide (g.e2 = 0)) && decide (g.tok = tok0) && decide (g.data.length + g.cid.length + g.acks.length = 0)
def acksOkG : Option Int → List (Int × Int) → Bool
  | _, [] => true
  | p, (a, b) :: r => decide (a < b) && decide (b ≤ M62 + 1) && (match p with | none => true | some q => decide (q < a)) && acksOkG (some b) r
def acksOk (l : List (Int × Int)) : Bool := acksOkG none l && decide (0 < l.length)
def kindOk (f : Fr) : Bool :=
  if f.kind = 0 then decide (1 ≤ f.n) && decide (f.n ≤ 65536)
  else if f.kind = 2 ∨ f.kind = 3 then acksOk f.acks
  else if f.kind = 6 ∨ f.kind = 8 then decide ((f.data.length : Int) ≤ M62 - f.off)
  else if f.kind = 7 then decide (0 < f.data.length)
  else if f.kind = 24 then decide (1 ≤ f.cid.length) && decide (f.cid.length ≤ 20) && decide (f.max ≤ f.id)
  else if f.kind = 26 ∨ f.kind = 27 then decide (f.data.length = 8)
  else if f.kind = 18 ∨ f.kind = 19 ∨ f.kind = 22 ∨ f.kind = 23 then decide (f.max ≤ 1152921504606846976)
  else true
def smallOk (f : Fr) : Bool := decide (f.id ≤ M62) && decide (f.max ≤ M62) && decide (f.code ≤ M62) && decide (f.delay ≤ M62) && decide (f.e0 ≤ M62) && decide (f.e1 ≤ M62) && decide (f.e2 ≤ M62) && decide (f.off ≤ M62)
def mayF (f : Fr) : Bool := isFr f.kind && nothing (bareF f) && smallOk f && kindOk f
/-! ### Bytes -/
def sizedB (l : List Int) : List Int := enc l.length ++ l
/-- The ranges below one, the greatest first. -/
def gapsB : Int → List (Int × Int) → List Int
  | _, [] => []
  | above, (a, b) :: r => enc (above - b - 1) ++ enc (b - a - 1) ++ gapsB a r
def acksB (f : Fr) : List Int := match f.acks.reverse with
  | [] => []
  | (a, b) :: r => enc (b - 1) ++ enc f.delay ++ enc r.length ++ enc (b - a - 1) ++ gapsB a r
def putF (f : Fr) : List Int :=
  if f.kind = 0 then List.replicate f.n.toNat 0
  else if f.kind = 2 then enc 2 ++ acksB f
  else if f.kind = 3 then enc 3 ++ acksB f ++ enc f.e0 ++ enc f.e1 ++ enc f.e2
  else if f.kind = 4 then enc 4 ++ enc f.id ++ enc f.code ++ enc f.max
  else if f.kind = 5 then enc 5 ++ enc f.id ++ enc f.code
  else if f.kind = 6 then enc 6 ++ enc f.off ++ sizedB f.data
  else if f.kind = 7 then enc 7 ++ sizedB f.data
  else if f.kind = 8 then enc (10 + (if f.fin then 1 else 0) + (if f.off > 0 then 4 else 0)) ++ enc f.id ++ (if f.off > 0 then enc f.off else []) ++ sizedB f.data
  else if f.kind = 17 ∨ f.kind = 21 then enc f.kind ++ enc f.id ++ enc f.max
  else if f.kind = 24 then enc 24 ++ enc f.id ++ enc f.max ++ [(f.cid.length : Int)] ++ f.cid ++ f.tok
  else if f.kind = 25 then enc 25 ++ enc f.id
  else if f.kind = 26 ∨ f.kind = 27 then enc f.kind ++ f.data
  else if f.kind = 28 then enc 28 ++ enc f.code ++ enc f.max ++ sizedB f.data
  else if f.kind = 29 then enc 29 ++ enc f.code ++ sizedB f.data
  else if f.kind = 1 ∨ f.kind = 30 then enc f.kind
  else enc f.kind ++ enc f.max
/-! ### What is read -/
/-- A reader: what it yields, and what is left. -/
abbrev Rd (α : Type) := List Int → Option (α × List Int)
def rp {α : Type} (x : α) : Rd α := fun b => some (x, b)
def rno {α : Type} : Rd α := fun _ => none
def rb {α β : Type} (F : Rd α) (G : α → Rd β) : Rd β := fun b => match F b with
  | none => none
  | some x => G x.1 x.2
def tk : Rd Int := fun b => (takeF b).map fun x => (x.1, b.drop x.2)
def someB (n : Int) : Rd (List Int) := fun b => if n ≤ b.length then some (b.take n.toNat, b.drop n.toNat) else none
def szd : Rd (List Int) := rb tk someB
/-- Ranges below those that are read, the least first. -/
def ackG : Nat → List (Int × Int) → Rd (List (Int × Int))
  | 0, acc => rp acc
  | k + 1, acc => rb tk fun gap => rb tk fun less => match acc with
    | [] => rno
    | (above, t) :: r => if 2 ≤ above ∧ gap ≤ above - 2 ∧ less ≤ above - 2 - gap then ackG k ((above - 2 - gap - less, above - 1 - gap) :: (above, t) :: r) else rno
def readAck (k : Int) : Rd Fr := rb tk fun top => rb tk fun dl => rb tk fun more => rb tk fun less =>
  if less ≤ top then rb (ackG more.toNat [(top - less, top + 1)]) fun l =>
    if k = 3 then rb tk fun x => rb tk fun y => rb tk fun z => rp { fr0 k with acks := l, delay := dl, e0 := x, e1 := y, e2 := z }
    else rp { fr0 k with acks := l, delay := dl }
  else rno
def readAll : Rd (List Int) := fun b => some (b, [])
def readStream (bits : Int) : Rd Fr := rb tk fun id => rb (if 4 ≤ bits then tk else rp 0) fun off =>
  rb (if bits / 2 % 2 = 0 then readAll else szd) fun d => rp { fr0 8 with id := id, off := off, fin := decide (bits % 2 = 1), data := d }
def zeros (b : List Int) : Nat := (b.takeWhile (fun x => decide (x = 0))).length
def readPad : Rd Fr := fun b => some ({ fr0 0 with n := ((1 + min (zeros b) 65535 : Nat) : Int) }, b.drop (min (zeros b) 65535))
def readK (k : Int) : Rd Fr :=
  if k = 0 then readPad
  else if k = 1 ∨ k = 30 then rp (fr0 k)
  else if k = 2 ∨ k = 3 then readAck k
  else if k = 4 then rb tk fun i => rb tk fun c => rb tk fun m => rp { fr0 4 with id := i, code := c, max := m }
  else if k = 5 then rb tk fun i => rb tk fun c => rp { fr0 5 with id := i, code := c }
  else if k = 6 then rb tk fun o => rb szd fun d => rp { fr0 6 with off := o, data := d }
  else if k = 7 then rb szd fun d => rp { fr0 7 with data := d }
  else if 8 ≤ k ∧ k < 16 then readStream (k - 8)
  else if k = 17 ∨ k = 21 then rb tk fun i => rb tk fun m => rp { fr0 k with id := i, max := m }
  else if k = 24 then rb tk fun i => rb tk fun m => rb (someB 1) fun c => rb (someB (c.getD 0 0)) fun d => rb (someB 16) fun t => rp { fr0 24 with id := i, max := m, cid := d, tok := t }
  else if k = 25 then rb tk fun i => rp { fr0 25 with id := i }
  else if k = 26 ∨ k = 27 then rb (someB 8) fun d => rp { fr0 k with data := d }
  else if k = 28 then rb tk fun c => rb tk fun m => rb szd fun d => rp { fr0 28 with code := c, max := m, data := d }
  else if k = 29 then rb tk fun c => rb szd fun d => rp { fr0 29 with code := c, data := d }
  else if k ≤ 30 then rb tk fun m => rp { fr0 k with max := m }
  else rno
def readF : Rd Fr := fun b => match tk b with
  | none => none
  | some x => if (b.length : Int) - x.2.length = sizeF x.1 then (match readK x.1 x.2 with
    | none => none
    | some y => if mayF y.1 then some y else none) else none
def listG : Nat → List Int → List Fr → Option (List Fr)
  | _, [], acc => some acc
  | 0, _ :: _, _ => none
  | f + 1, x :: b, acc => match readF (x :: b) with
    | none => none
    | some y => listG f y.2 (acc ++ [y.1])
def listF (b : List Int) : Option (List Fr) := if b = [] then none else listG b.length b []
end Frm
end Go.Proofs.Ytcpjehgoeibbeaa

/- Frames in plain Lean: what was put is read as it was; what is cut short is none. -/
namespace Go.Proofs.Ytcpjehgoeibbeaa
set_option linter.unusedVariables false
namespace Frm
open Var
/-! ### Readers -/
/-- It reads just these bytes. -/
def Reads {α : Type} (F : Rd α) (l : List Int) (x : α) : Prop := ∀ r, F (l ++ r) = some (x, r)
/-- Bytes behind make no difference. -/
def Mono {α : Type} (F : Rd α) : Prop := ∀ b x r, F b = some (x, r) → ∀ e, F (b ++ e) = some (x, r ++ e)
/-- What is left stood at the end. -/
def Tail {α : Type} (F : Rd α) : Prop := ∀ b x r, F b = some (x, r) → ∃ l, b = l ++ r
theorem Reads.bind {α β : Type} {F : Rd α} {G : α → Rd β} {l m : List Int} {x : α} {y : β} (h : Reads F l x) (h2 : Reads (G x) m y) : Reads (rb F G) (l ++ m) y := fun r => by
  unfold rb
  rw [List.append_assoc, h (m ++ r)]
  exact h2 r
theorem Reads.pure {α : Type} (x : α) : Reads (rp x) [] x := fun r => rfl
theorem Mono.bind {α β : Type} {F : Rd α} {G : α → Rd β} (h : Mono F) (h2 : ∀ x, Mono (G x)) : Mono (rb F G) := fun b y r hy e => by
  unfold rb at hy ⊢
  cases hf : F b with
  | none => rw [hf] at hy; cases hy
  | some p =>
    obtain ⟨x, q⟩ := p
    rw [hf] at hy
    rw [h b x q hf e]
    exact h2 x q y r hy e
theorem Mono.pure {α : Type} (x : α) : Mono (rp x) := fun b y r h e => by
  simp only [rp, Option.some.injEq, Prod.mk.injEq] at h ⊢
  exact ⟨h.1, by rw [h.2]⟩
theorem Mono.no {α : Type} : Mono (rno : Rd α) := fun b y r h e => by cases h
theorem Mono.ite {α : Type} {c : Prop} [Decidable c] {F G : Rd α} (h : Mono F) (h2 : Mono G) : Mono (if c then F else G) := by
  split
  · exact h
  · exact h2
theorem Tail.bind {α β : Type} {F : Rd α} {G : α → Rd β} (h : Tail F) (h2 : ∀ x, Tail (G x)) : Tail (rb F G) := fun b y r hy => by
  unfold rb at hy
  cases hf : F b with
  | none => rw [hf] at hy; cases hy
  | some p =>
    obtain ⟨x, q⟩ := p
    rw [hf] at hy
    obtain ⟨l, hl⟩ := h b x q hf
    obtain ⟨m, hm⟩ := h2 x q y r hy
    exact ⟨l ++ m, by rw [hl, hm, List.append_assoc]⟩
theorem Tail.pure {α : Type} (x : α) : Tail (rp x) := fun b y r h => by
  simp only [rp, Option.some.injEq, Prod.mk.injEq] at h
  exact ⟨[], by rw [h.2]; rfl⟩
theorem Tail.no {α : Type} : Tail (rno : Rd α) := fun b y r h => by cases h
theorem Tail.ite {α : Type} {c : Prop} [Decidable c] {F G : Rd α} (h : Tail F) (h2 : Tail G) : Tail (if c then F else G) := by
  split
  · exact h
  · exact h2
theorem tk_reads (n : Int) (h0 : 0 ≤ n) (h1 : n ≤ M62) : Reads tk (enc n) n := fun r => by
  unfold tk
  rw [take_enc n h0 h1 r, Option.map_some, ← enc_length n h0, List.drop_left]
theorem takeF_app {b : List Int} {n : Int} {u : Nat} (h : takeF b = some (n, u)) (e : List Int) : takeF (b ++ e) = some (n, u) ∧ u ≤ b.length := by
  cases b with
  | nil => cases h
  | cons x r =>
    simp only [takeF] at h
    split at h
    · cases h
    · rename_i hl
      simp only [Option.some.injEq, Prod.mk.injEq] at h
      obtain ⟨h1, h2⟩ := h
      have h3 : 2 ^ (x / 64).toNat - 1 ≤ r.length := by omega
      refine ⟨?_, by rw [← h2]; simp only [List.length_cons]; omega⟩
      rw [List.cons_append]
      simp only [takeF]
      rw [if_neg (by simp only [List.length_append]; omega), List.take_append_of_le_length h3, h1, h2]
theorem tk_some {b r : List Int} {n : Int} (h : tk b = some (n, r)) : ∃ u, takeF b = some (n, u) ∧ r = b.drop u := by
  unfold tk at h
  cases ht : takeF b with
  | none => rw [ht] at h; cases h
  | some x =>
    obtain ⟨m, u⟩ := x
    rw [ht] at h
    simp only [Option.map_some, Option.some.injEq, Prod.mk.injEq] at h
    exact ⟨u, by rw [h.1], h.2.symm⟩
theorem tk_mono : Mono tk := fun b n r h e => by
  obtain ⟨u, h1, rfl⟩ := tk_some h
  obtain ⟨h2, h3⟩ := takeF_app h1 e
  unfold tk
  rw [h2, Option.map_some, List.drop_append_of_le_length h3]
theorem tk_tail : Tail tk := fun b n r h => by
  obtain ⟨u, h1, rfl⟩ := tk_some h
  exact ⟨b.take u, (List.take_append_drop u b).symm⟩
theorem someB_reads (l : List Int) (n : Int) (hn : n = l.length) : Reads (someB n) l l := fun r => by
  subst hn
  unfold someB
  rw [if_pos (by simp only [List.length_append]; omega)]
  simp
theorem someB_mono (n : Int) : Mono (someB n) := fun b l r h e => by
  unfold someB at h ⊢
  split at h
  · rename_i hn
    simp only [Option.some.injEq, Prod.mk.injEq] at h
    obtain ⟨rfl, rfl⟩ := h
    rw [if_pos (by simp only [List.length_append]; omega), List.take_append_of_le_length (by omega), List.drop_append_of_le_length (by omega)]
  · cases h
theorem someB_tail (n : Int) : Tail (someB n) := fun b l r h => by
  unfold someB at h
  split at h
  · simp only [Option.some.injEq, Prod.mk.injEq] at h
    obtain ⟨rfl, rfl⟩ := h
    exact ⟨_, (List.take_append_drop _ b).symm⟩
  · cases h
theorem szd_reads (l : List Int) (h : (l.length : Int) ≤ M62) : Reads szd (sizedB l) l := (tk_reads _ (by omega) h).bind (someB_reads l _ rfl)
theorem szd_mono : Mono szd := tk_mono.bind someB_mono
theorem szd_tail : Tail szd := tk_tail.bind someB_tail
theorem ackG_mono : ∀ (k : Nat) (acc : List (Int × Int)), Mono (ackG k acc)
  | 0, acc => Mono.pure acc
  | k + 1, acc => by
    rw [ackG]
    refine tk_mono.bind fun gap => tk_mono.bind fun less => ?_
    cases acc with
    | nil => exact Mono.no
    | cons a r => exact Mono.ite (ackG_mono k _) Mono.no
theorem ackG_tail : ∀ (k : Nat) (acc : List (Int × Int)), Tail (ackG k acc)
  | 0, acc => Tail.pure acc
  | k + 1, acc => by
    rw [ackG]
    refine tk_tail.bind fun gap => tk_tail.bind fun less => ?_
    cases acc with
    | nil => exact Tail.no
    | cons a r => exact Tail.ite (ackG_tail k _) Tail.no
theorem readAck_mono (k : Int) : Mono (readAck k) :=
  tk_mono.bind fun _ => tk_mono.bind fun _ => tk_mono.bind fun _ => tk_mono.bind fun _ => Mono.ite ((ackG_mono _ _).bind fun _ => Mono.ite (tk_mono.bind fun _ => tk_mono.bind fun _ => tk_mono.bind fun _ => Mono.pure _) (Mono.pure _)) Mono.no
theorem readAck_tail (k : Int) : Tail (readAck k) :=
  tk_tail.bind fun _ => tk_tail.bind fun _ => tk_tail.bind fun _ => tk_tail.bind fun _ => Tail.ite ((ackG_tail _ _).bind fun _ => Tail.ite (tk_tail.bind fun _ => tk_tail.bind fun _ => tk_tail.bind fun _ => Tail.pure _) (Tail.pure _)) Tail.no
theorem readAll_tail : Tail readAll := fun b x r h => by
  simp only [readAll, Option.some.injEq, Prod.mk.injEq] at h
  exact ⟨b, by rw [← h.2]; simp⟩
theorem readStream_mono (bits : Int) (h : bits / 2 % 2 ≠ 0) : Mono (readStream bits) := by
  unfold readStream
  rw [if_neg h]
  exact tk_mono.bind fun _ => (Mono.ite tk_mono (Mono.pure _)).bind fun _ => szd_mono.bind fun _ => Mono.pure _
theorem readStream_tail (bits : Int) : Tail (readStream bits) :=
  tk_tail.bind fun _ => (Tail.ite tk_tail (Tail.pure _)).bind fun _ => (Tail.ite readAll_tail szd_tail).bind fun _ => Tail.pure _
theorem readPad_tail : Tail readPad := fun b x r h => by
  simp only [readPad, Option.some.injEq, Prod.mk.injEq] at h
  exact ⟨_, by rw [← h.2]; exact (List.take_append_drop _ b).symm⟩
theorem readK_mono (k : Int) (h0 : k ≠ 0) (h8 : 8 ≤ k ∧ k < 16 → (k - 8) / 2 % 2 ≠ 0) : Mono (readK k) := by
  unfold readK
  rw [if_neg h0]
  refine Mono.ite (Mono.pure _) (Mono.ite (readAck_mono k) (Mono.ite (tk_mono.bind fun _ => tk_mono.bind fun _ => tk_mono.bind fun _ => Mono.pure _) (Mono.ite (tk_mono.bind fun _ => tk_mono.bind fun _ => Mono.pure _) (Mono.ite (tk_mono.bind fun _ => szd_mono.bind fun _ => Mono.pure _) (Mono.ite (szd_mono.bind fun _ => Mono.pure _) ?_)))))
  by_cases hs : 8 ≤ k ∧ k < 16
  · rw [if_pos hs]; exact readStream_mono _ (h8 hs)
  · rw [if_neg hs]
    exact Mono.ite (tk_mono.bind fun _ => tk_mono.bind fun _ => Mono.pure _) (Mono.ite (tk_mono.bind fun _ => tk_mono.bind fun _ => (someB_mono 1).bind fun _ => (someB_mono _).bind fun _ => (someB_mono 16).bind fun _ => Mono.pure _) (Mono.ite (tk_mono.bind fun _ => Mono.pure _) (Mono.ite ((someB_mono 8).bind fun _ => Mono.pure _) (Mono.ite (tk_mono.bind fun _ => tk_mono.bind fun _ => szd_mono.bind fun _ => Mono.pure _) (Mono.ite (tk_mono.bind fun _ => szd_mono.bind fun _ => Mono.pure _) (Mono.ite (tk_mono.bind fun _ => Mono.pure _) Mono.no))))))
theorem readK_tail (k : Int) : Tail (readK k) := by
  unfold readK
  exact Tail.ite readPad_tail (Tail.ite (Tail.pure _) (Tail.ite (readAck_tail k) (Tail.ite (tk_tail.bind fun _ => tk_tail.bind fun _ => tk_tail.bind fun _ => Tail.pure _) (Tail.ite (tk_tail.bind fun _ => tk_tail.bind fun _ => Tail.pure _) (Tail.ite (tk_tail.bind fun _ => szd_tail.bind fun _ => Tail.pure _) (Tail.ite (szd_tail.bind fun _ => Tail.pure _) (Tail.ite (readStream_tail _)
    (Tail.ite (tk_tail.bind fun _ => tk_tail.bind fun _ => Tail.pure _) (Tail.ite (tk_tail.bind fun _ => tk_tail.bind fun _ => (someB_tail 1).bind fun _ => (someB_tail _).bind fun _ => (someB_tail 16).bind fun _ => Tail.pure _) (Tail.ite (tk_tail.bind fun _ => Tail.pure _) (Tail.ite ((someB_tail 8).bind fun _ => Tail.pure _) (Tail.ite (tk_tail.bind fun _ => tk_tail.bind fun _ => szd_tail.bind fun _ => Tail.pure _) (Tail.ite (tk_tail.bind fun _ => szd_tail.bind fun _ => Tail.pure _) (Tail.ite (tk_tail.bind fun _ => Tail.pure _) Tail.no))))))))))))))
end Frm
end Go.Proofs.Ytcpjehgoeibbeaa

/- Frames in plain Lean: what was put is read as it was, kind by kind (written by gen_frp3.py). -/
namespace Go.Proofs.Ytcpjehgoeibbeaa
set_option linter.unusedVariables false
namespace Frm
open Var
theorem Reads.as {α : Type} {F : Rd α} {l m : List Int} {x y : α} (h : Reads F l x) (e : l = m) (e2 : x = y) : Reads F m y := by subst e e2; exact h
theorem readF_of {k : Int} {body : List Int} {f : Fr} (h0 : 0 ≤ k) (h1 : k ≤ M62) (h : Reads (readK k) body f) (hm : mayF f = true) : Reads readF (enc k ++ body) f := fun r => by
  unfold readF
  rw [List.append_assoc, tk_reads k h0 h1 (body ++ r)]
  simp only
  rw [if_pos (by simp only [List.length_append]; rw [enc_length k h0]; omega), h r]
  simp only
  rw [if_pos hm]
/-! ### Ranges -/
theorem acksOkG_app : ∀ (l : List (Int × Int)) (p : Option Int) (c d a t : Int), acksOkG p (l ++ [(c, d), (a, t)]) = true → c < d ∧ d ≤ M62 + 1 ∧ d < a ∧ a < t ∧ t ≤ M62 + 1 ∧ acksOkG p (l ++ [(c, d)]) = true
  | [], p, c, d, a, t, h => by
    simp only [List.nil_append, acksOkG, Bool.and_eq_true, decide_eq_true_eq, Bool.and_true] at h ⊢
    obtain ⟨⟨⟨h1, h2⟩, h3⟩, ⟨h4, h5⟩, h6⟩ := h
    exact ⟨h1, h2, h6, h4, h5, ⟨h1, h2⟩, h3⟩
  | (x, y) :: l, p, c, d, a, t, h => by
    simp only [List.cons_append, acksOkG, Bool.and_eq_true] at h ⊢
    obtain ⟨h1, h2⟩ := h
    obtain ⟨g1, g2, g3, g4, g5, g6⟩ := acksOkG_app l (some y) c d a t h2
    exact ⟨g1, g2, g3, g4, g5, h1, g6⟩
theorem ackG_reads (p : Option Int) : ∀ (n : Nat) (l : List (Int × Int)) (above t : Int) (acc : List (Int × Int)), l.length = n → (∀ r ∈ l, U64 r.1 ∧ U64 r.2) → acksOkG p (l ++ [(above, t)]) = true →
    Reads (ackG l.length ((above, t) :: acc)) (gapsB above l.reverse) (l ++ (above, t) :: acc) := by
  intro n
  induction n with
  | zero =>
    intro l above t acc hl _ _
    obtain rfl : l = [] := List.length_eq_zero_iff.1 hl
    exact Reads.pure _
  | succ n ih =>
    intro l above t acc hl hb hok
    obtain ⟨l0, ⟨c, d⟩, rfl⟩ : ∃ l0 x, l = l0 ++ [x] := ⟨l.dropLast, l.getLast (by intro e; rw [e] at hl; simp at hl), (List.dropLast_concat_getLast _).symm⟩
    rw [List.append_assoc] at hok
    obtain ⟨h1, h2, h3, h4, h5, h6⟩ := acksOkG_app l0 p c d above t hok
    have hc := (hb (c, d) (by simp)).1
    unfold U64 at hc
    simp only at hc
    have hl0 : l0.length = n := by simpa using hl
    have hlen : (l0 ++ [(c, d)]).length = l0.length + 1 := by simp
    rw [hlen, ackG, List.reverse_append, List.reverse_singleton, List.singleton_append, gapsB, List.append_assoc]
    refine (tk_reads _ (by omega) (by simp only [M62] at *; omega)).bind ((tk_reads _ (by omega) (by simp only [M62] at *; omega)).bind ?_)
    simp only
    rw [if_pos ⟨by omega, by omega, by omega⟩]
    have := ih l0 c d ((above, t) :: acc) hl0 (fun r hr => hb r (by simp [hr])) h6
    rw [show above - 2 - (above - d - 1) - (d - c - 1) = c by omega, show above - 1 - (above - d - 1) = d by omega]
    exact this.as rfl (by simp)

theorem put_1 : Reads (readK 1) ([]) (fr0 1 : Fr) := by
  unfold readK
  rw [if_neg (by decide), if_pos (by decide)]
  exact Reads.pure _
theorem put_30 : Reads (readK 30) ([]) (fr0 30 : Fr) := by
  unfold readK
  rw [if_neg (by decide), if_pos (by decide)]
  exact Reads.pure _
theorem put_4 (i : Int) (hi : 0 ≤ i ∧ i ≤ M62) (c : Int) (hc : 0 ≤ c ∧ c ≤ M62) (m : Int) (hm : 0 ≤ m ∧ m ≤ M62) : Reads (readK 4) (enc i ++ (enc c ++ (enc m))) ({ fr0 4 with id := i, code := c, max := m } : Fr) := by
  unfold readK
  rw [if_neg (by decide), if_neg (by decide), if_neg (by decide), if_pos (by decide)]
  refine Reads.as (l := enc i ++ (enc c ++ (enc m ++ []))) ?_ (by simp) rfl
  refine (tk_reads i hi.1 hi.2).bind ?_
  refine (tk_reads c hc.1 hc.2).bind ?_
  refine (tk_reads m hm.1 hm.2).bind ?_
  exact Reads.pure _
theorem put_5 (i : Int) (hi : 0 ≤ i ∧ i ≤ M62) (c : Int) (hc : 0 ≤ c ∧ c ≤ M62) : Reads (readK 5) (enc i ++ (enc c)) ({ fr0 5 with id := i, code := c } : Fr) := by
  unfold readK
  rw [if_neg (by decide), if_neg (by decide), if_neg (by decide), if_neg (by decide), if_pos (by decide)]
  refine Reads.as (l := enc i ++ (enc c ++ [])) ?_ (by simp) rfl
  refine (tk_reads i hi.1 hi.2).bind ?_
  refine (tk_reads c hc.1 hc.2).bind ?_
  exact Reads.pure _
theorem put_6 (i : Int) (hi : 0 ≤ i ∧ i ≤ M62) (d : List Int) (hd : (d.length : Int) ≤ M62) : Reads (readK 6) (enc i ++ (sizedB d)) ({ fr0 6 with off := i, data := d } : Fr) := by
  unfold readK
  rw [if_neg (by decide), if_neg (by decide), if_neg (by decide), if_neg (by decide), if_neg (by decide), if_pos (by decide)]
  refine Reads.as (l := enc i ++ (sizedB d ++ [])) ?_ (by simp) rfl
  refine (tk_reads i hi.1 hi.2).bind ?_
  refine (szd_reads d hd).bind ?_
  exact Reads.pure _
theorem put_7 (d : List Int) (hd : (d.length : Int) ≤ M62) : Reads (readK 7) (sizedB d) ({ fr0 7 with data := d } : Fr) := by
  unfold readK
  rw [if_neg (by decide), if_neg (by decide), if_neg (by decide), if_neg (by decide), if_neg (by decide), if_neg (by decide), if_pos (by decide)]
  refine Reads.as (l := sizedB d ++ []) ?_ (by simp) rfl
  refine (szd_reads d hd).bind ?_
  exact Reads.pure _
theorem put_17 (i : Int) (hi : 0 ≤ i ∧ i ≤ M62) (m : Int) (hm : 0 ≤ m ∧ m ≤ M62) : Reads (readK 17) (enc i ++ (enc m)) ({ fr0 17 with id := i, max := m } : Fr) := by
  unfold readK
  rw [if_neg (by decide), if_neg (by decide), if_neg (by decide), if_neg (by decide), if_neg (by decide), if_neg (by decide), if_neg (by decide), if_neg (by decide), if_pos (by decide)]
  refine Reads.as (l := enc i ++ (enc m ++ [])) ?_ (by simp) rfl
  refine (tk_reads i hi.1 hi.2).bind ?_
  refine (tk_reads m hm.1 hm.2).bind ?_
  exact Reads.pure _
theorem put_21 (i : Int) (hi : 0 ≤ i ∧ i ≤ M62) (m : Int) (hm : 0 ≤ m ∧ m ≤ M62) : Reads (readK 21) (enc i ++ (enc m)) ({ fr0 21 with id := i, max := m } : Fr) := by
  unfold readK
  rw [if_neg (by decide), if_neg (by decide), if_neg (by decide), if_neg (by decide), if_neg (by decide), if_neg (by decide), if_neg (by decide), if_neg (by decide), if_pos (by decide)]
  refine Reads.as (l := enc i ++ (enc m ++ [])) ?_ (by simp) rfl
  refine (tk_reads i hi.1 hi.2).bind ?_
  refine (tk_reads m hm.1 hm.2).bind ?_
  exact Reads.pure _
theorem put_25 (i : Int) (hi : 0 ≤ i ∧ i ≤ M62) : Reads (readK 25) (enc i) ({ fr0 25 with id := i } : Fr) := by
  unfold readK
  rw [if_neg (by decide), if_neg (by decide), if_neg (by decide), if_neg (by decide), if_neg (by decide), if_neg (by decide), if_neg (by decide), if_neg (by decide), if_neg (by decide), if_neg (by decide), if_pos (by decide)]
  refine Reads.as (l := enc i ++ []) ?_ (by simp) rfl
  refine (tk_reads i hi.1 hi.2).bind ?_
  exact Reads.pure _
theorem put_26 (d : List Int) (hd : (8 : Int) = d.length) : Reads (readK 26) (d) ({ fr0 26 with data := d } : Fr) := by
  unfold readK
  rw [if_neg (by decide), if_neg (by decide), if_neg (by decide), if_neg (by decide), if_neg (by decide), if_neg (by decide), if_neg (by decide), if_neg (by decide), if_neg (by decide), if_neg (by decide), if_neg (by decide), if_pos (by decide)]
  refine Reads.as (l := d ++ []) ?_ (by simp) rfl
  refine (someB_reads d 8 hd).bind ?_
  exact Reads.pure _
theorem put_27 (d : List Int) (hd : (8 : Int) = d.length) : Reads (readK 27) (d) ({ fr0 27 with data := d } : Fr) := by
  unfold readK
  rw [if_neg (by decide), if_neg (by decide), if_neg (by decide), if_neg (by decide), if_neg (by decide), if_neg (by decide), if_neg (by decide), if_neg (by decide), if_neg (by decide), if_neg (by decide), if_neg (by decide), if_pos (by decide)]
  refine Reads.as (l := d ++ []) ?_ (by simp) rfl
  refine (someB_reads d 8 hd).bind ?_
  exact Reads.pure _
theorem put_28 (c : Int) (hc : 0 ≤ c ∧ c ≤ M62) (m : Int) (hm : 0 ≤ m ∧ m ≤ M62) (d : List Int) (hd : (d.length : Int) ≤ M62) : Reads (readK 28) (enc c ++ (enc m ++ (sizedB d))) ({ fr0 28 with code := c, max := m, data := d } : Fr) := by
  unfold readK
  rw [if_neg (by decide), if_neg (by decide), if_neg (by decide), if_neg (by decide), if_neg (by decide), if_neg (by decide), if_neg (by decide), if_neg (by decide), if_neg (by decide), if_neg (by decide), if_neg (by decide), if_neg (by decide), if_pos (by decide)]
  refine Reads.as (l := enc c ++ (enc m ++ (sizedB d ++ []))) ?_ (by simp) rfl
  refine (tk_reads c hc.1 hc.2).bind ?_
  refine (tk_reads m hm.1 hm.2).bind ?_
  refine (szd_reads d hd).bind ?_
  exact Reads.pure _
theorem put_29 (c : Int) (hc : 0 ≤ c ∧ c ≤ M62) (d : List Int) (hd : (d.length : Int) ≤ M62) : Reads (readK 29) (enc c ++ (sizedB d)) ({ fr0 29 with code := c, data := d } : Fr) := by
  unfold readK
  rw [if_neg (by decide), if_neg (by decide), if_neg (by decide), if_neg (by decide), if_neg (by decide), if_neg (by decide), if_neg (by decide), if_neg (by decide), if_neg (by decide), if_neg (by decide), if_neg (by decide), if_neg (by decide), if_neg (by decide), if_pos (by decide)]
  refine Reads.as (l := enc c ++ (sizedB d ++ [])) ?_ (by simp) rfl
  refine (tk_reads c hc.1 hc.2).bind ?_
  refine (szd_reads d hd).bind ?_
  exact Reads.pure _
theorem put_16 (m : Int) (hm : 0 ≤ m ∧ m ≤ M62) : Reads (readK 16) (enc m) ({ fr0 16 with max := m } : Fr) := by
  unfold readK
  rw [if_neg (by decide), if_neg (by decide), if_neg (by decide), if_neg (by decide), if_neg (by decide), if_neg (by decide), if_neg (by decide), if_neg (by decide), if_neg (by decide), if_neg (by decide), if_neg (by decide), if_neg (by decide), if_neg (by decide), if_neg (by decide), if_pos (by decide)]
  refine Reads.as (l := enc m ++ []) ?_ (by simp) rfl
  refine (tk_reads m hm.1 hm.2).bind ?_
  exact Reads.pure _
theorem put_18 (m : Int) (hm : 0 ≤ m ∧ m ≤ M62) : Reads (readK 18) (enc m) ({ fr0 18 with max := m } : Fr) := by
  unfold readK
  rw [if_neg (by decide), if_neg (by decide), if_neg (by decide), if_neg (by decide), if_neg (by decide), if_neg (by decide), if_neg (by decide), if_neg (by decide), if_neg (by decide), if_neg (by decide), if_neg (by decide), if_neg (by decide), if_neg (by decide), if_neg (by decide), if_pos (by decide)]
  refine Reads.as (l := enc m ++ []) ?_ (by simp) rfl
  refine (tk_reads m hm.1 hm.2).bind ?_
  exact Reads.pure _
theorem put_19 (m : Int) (hm : 0 ≤ m ∧ m ≤ M62) : Reads (readK 19) (enc m) ({ fr0 19 with max := m } : Fr) := by
  unfold readK
  rw [if_neg (by decide), if_neg (by decide), if_neg (by decide), if_neg (by decide), if_neg (by decide), if_neg (by decide), if_neg (by decide), if_neg (by decide), if_neg (by decide), if_neg (by decide), if_neg (by decide), if_neg (by decide), if_neg (by decide), if_neg (by decide), if_pos (by decide)]
  refine Reads.as (l := enc m ++ []) ?_ (by simp) rfl
  refine (tk_reads m hm.1 hm.2).bind ?_
  exact Reads.pure _
theorem put_20 (m : Int) (hm : 0 ≤ m ∧ m ≤ M62) : Reads (readK 20) (enc m) ({ fr0 20 with max := m } : Fr) := by
  unfold readK
  rw [if_neg (by decide), if_neg (by decide), if_neg (by decide), if_neg (by decide), if_neg (by decide), if_neg (by decide), if_neg (by decide), if_neg (by decide), if_neg (by decide), if_neg (by decide), if_neg (by decide), if_neg (by decide), if_neg (by decide), if_neg (by decide), if_pos (by decide)]
  refine Reads.as (l := enc m ++ []) ?_ (by simp) rfl
  refine (tk_reads m hm.1 hm.2).bind ?_
  exact Reads.pure _
theorem put_22 (m : Int) (hm : 0 ≤ m ∧ m ≤ M62) : Reads (readK 22) (enc m) ({ fr0 22 with max := m } : Fr) := by
  unfold readK
  rw [if_neg (by decide), if_neg (by decide), if_neg (by decide), if_neg (by decide), if_neg (by decide), if_neg (by decide), if_neg (by decide), if_neg (by decide), if_neg (by decide), if_neg (by decide), if_neg (by decide), if_neg (by decide), if_neg (by decide), if_neg (by decide), if_pos (by decide)]
  refine Reads.as (l := enc m ++ []) ?_ (by simp) rfl
  refine (tk_reads m hm.1 hm.2).bind ?_
  exact Reads.pure _
theorem put_23 (m : Int) (hm : 0 ≤ m ∧ m ≤ M62) : Reads (readK 23) (enc m) ({ fr0 23 with max := m } : Fr) := by
  unfold readK
  rw [if_neg (by decide), if_neg (by decide), if_neg (by decide), if_neg (by decide), if_neg (by decide), if_neg (by decide), if_neg (by decide), if_neg (by decide), if_neg (by decide), if_neg (by decide), if_neg (by decide), if_neg (by decide), if_neg (by decide), if_neg (by decide), if_pos (by decide)]
  refine Reads.as (l := enc m ++ []) ?_ (by simp) rfl
  refine (tk_reads m hm.1 hm.2).bind ?_
  exact Reads.pure _
theorem put_24 (i : Int) (hi : 0 ≤ i ∧ i ≤ M62) (m : Int) (hm : 0 ≤ m ∧ m ≤ M62) (d t : List Int) (ht : (16 : Int) = t.length) : Reads (readK 24) (enc i ++ (enc m ++ ([(d.length : Int)] ++ (d ++ (t))))) ({ fr0 24 with id := i, max := m, cid := d, tok := t } : Fr) := by
  unfold readK
  rw [if_neg (by decide), if_neg (by decide), if_neg (by decide), if_neg (by decide), if_neg (by decide), if_neg (by decide), if_neg (by decide), if_neg (by decide), if_neg (by decide), if_pos (by decide)]
  refine Reads.as (l := enc i ++ (enc m ++ ([(d.length : Int)] ++ (d ++ (t ++ []))))) ?_ (by simp) rfl
  refine (tk_reads i hi.1 hi.2).bind ?_
  refine (tk_reads m hm.1 hm.2).bind ?_
  refine (someB_reads [(d.length : Int)] 1 rfl).bind ?_
  refine (someB_reads d _ rfl).bind ?_
  refine (someB_reads t 16 ht).bind ?_
  exact Reads.pure _
end Frm
end Go.Proofs.Ytcpjehgoeibbeaa

/- Frames in plain Lean: any frame that may be is read as it was put (written by gen_frp4.py). -/
namespace Go.Proofs.Ytcpjehgoeibbeaa
set_option linter.unusedVariables false
namespace Frm
open Var
theorem may_parts {f : Fr} (h : mayF f = true) : isFr f.kind = true ∧ nothing (bareF f) = true ∧ smallOk f = true ∧ kindOk f = true := by
  simp only [mayF, Bool.and_eq_true] at h
  exact ⟨h.1.1.1, h.1.1.2, h.1.2, h.2⟩
structure Small (f : Fr) : Prop where
  id : f.id ≤ M62
  max : f.max ≤ M62
  code : f.code ≤ M62
  delay : f.delay ≤ M62
  e0 : f.e0 ≤ M62
  e1 : f.e1 ≤ M62
  e2 : f.e2 ≤ M62
  off : f.off ≤ M62
theorem small_of {f : Fr} (h : smallOk f = true) : Small f := by
  simp only [smallOk, Bool.and_eq_true, decide_eq_true_eq] at h
  exact ⟨h.1.1.1.1.1.1.1, h.1.1.1.1.1.1.2, h.1.1.1.1.1.2, h.1.1.1.1.2, h.1.1.1.2, h.1.1.2, h.1.2, h.2⟩
theorem acks_reads (f : Fr) (ok : FrOk f) (h : acksOk f.acks = true) (sm : Small f) (hl : f.acks.length ≤ 1000000) (k : Int) :
    ∀ (G : Int → List (Int × Int) → Rd Fr) (m : List Int) (g : Fr), Reads (G f.delay f.acks) m g →
      Reads (rb tk fun top => rb tk fun dl => rb tk fun more => rb tk fun less => if less ≤ top then rb (ackG more.toNat [(top - less, top + 1)]) (G dl) else rno) (acksB f ++ m) g := by
  intro G m g hG
  simp only [acksOk, Bool.and_eq_true, decide_eq_true_eq] at h
  obtain ⟨h1, h2⟩ := h
  obtain ⟨l, ⟨a, b⟩, hf⟩ : ∃ l x, f.acks = l ++ [x] := ⟨f.acks.dropLast, f.acks.getLast (by intro e; rw [e] at h2; simp at h2), (List.dropLast_concat_getLast _).symm⟩
  have hab := ok.acks (a, b) (by rw [hf]; simp)
  have hub : ∀ r ∈ l, U64 r.1 ∧ U64 r.2 := fun r hr => ok.acks r (by rw [hf]; simp [hr])
  rw [hf] at h1
  have hlast : a < b ∧ b ≤ M62 + 1 := by
    have key : ∀ (l : List (Int × Int)) (p : Option Int), acksOkG p (l ++ [(a, b)]) = true → a < b ∧ b ≤ M62 + 1 := by
      intro l
      induction l with
      | nil => intro p h; simp only [List.nil_append, acksOkG, Bool.and_eq_true, decide_eq_true_eq] at h; exact ⟨h.1.1.1, h.1.1.2⟩
      | cons x l ih => intro p h; obtain ⟨x1, x2⟩ := x; simp only [List.cons_append, acksOkG, Bool.and_eq_true] at h; exact ih _ h.2
    exact key l none h1
  unfold U64 at hab
  simp only at hab
  have hg := ackG_reads none l.length l a b [] rfl hub h1
  have hB : acksB f = enc (b - 1) ++ (enc f.delay ++ (enc l.length ++ (enc (b - a - 1) ++ gapsB a l.reverse))) := by
    unfold acksB
    rw [hf, List.reverse_append, List.reverse_singleton, List.singleton_append]
    simp
  have hlen : (l.length : Int) ≤ M62 := by rw [hf] at hl; simp only [List.length_append, List.length_cons, List.length_nil] at hl; simp only [M62]; omega
  refine Reads.as (l := enc (b - 1) ++ (enc f.delay ++ (enc l.length ++ (enc (b - a - 1) ++ (gapsB a l.reverse ++ m))))) ?_ (by rw [hB]; simp) rfl
  refine (tk_reads _ (by omega) (by simp only [M62] at *; omega)).bind ?_
  refine (tk_reads _ ok.delay.1 sm.delay).bind ?_
  refine (tk_reads _ (by omega) hlen).bind ?_
  refine (tk_reads _ (by omega) (by simp only [M62] at *; omega)).bind ?_
  rw [if_pos (by omega), show b - 1 - (b - a - 1) = a by omega, show b - 1 + 1 = b by omega, Int.toNat_natCast]
  refine hg.bind ?_
  rw [← hf]
  exact hG
theorem zero_kinds (k : Int) (h : isFr k = true) : k = 0 ∨ k = 1 ∨ k = 2 ∨ k = 3 ∨ k = 4 ∨ k = 5 ∨ k = 6 ∨ k = 7 ∨ k = 8 ∨ k = 16 ∨ k = 17 ∨ k = 18 ∨ k = 19 ∨ k = 20 ∨ k = 21 ∨ k = 22 ∨ k = 23 ∨ k = 24 ∨ k = 25 ∨ k = 26 ∨ k = 27 ∨ k = 28 ∨ k = 29 ∨ k = 30 := by
  simp only [isFr, Bool.and_eq_true, Bool.not_eq_true', Bool.and_eq_false_iff, decide_eq_true_eq, decide_eq_false_iff_not] at h
  omega
theorem form_1 (f : Fr) (hk : f.kind = 1) (hn : nothing (bareF f) = true) : f = fr0 1 := by
  obtain ⟨kind, id, off, max, code, n, fin, data, cid, tok, acks, delay, e0, e1, e2⟩ := f
  simp only at hk
  subst hk
  simp [nothing, bareF, hId, hOff, hMax, hCode, hN, hFin, hData, hCid, hAck, hEcn] at hn
  simp [fr0, hn]
theorem read_1 (f : Fr) (ok : FrOk f) (h : mayF f = true) (hk : f.kind = 1) (hd : (f.data.length : Int) ≤ M62) : Reads readF (putF f) f := by
  obtain ⟨_, hn, hs, hko⟩ := may_parts h
  have sm := small_of hs
  have e := form_1 f hk hn
  have h' := h
  rw [e] at h'
  have hp : putF f = enc 1 ++ ([]) := by unfold putF; rw [hk]; simp
  rw [hp]
  exact (readF_of (k := 1) (by omega) (by simp only [M62]; omega) (put_1 ) h').as rfl e.symm
theorem form_4 (f : Fr) (hk : f.kind = 4) (hn : nothing (bareF f) = true) : f = { fr0 4 with id := f.id, code := f.code, max := f.max } := by
  obtain ⟨kind, id, off, max, code, n, fin, data, cid, tok, acks, delay, e0, e1, e2⟩ := f
  simp only at hk
  subst hk
  simp [nothing, bareF, hId, hOff, hMax, hCode, hN, hFin, hData, hCid, hAck, hEcn] at hn
  simp [fr0, hn]
theorem read_4 (f : Fr) (ok : FrOk f) (h : mayF f = true) (hk : f.kind = 4) (hd : (f.data.length : Int) ≤ M62) : Reads readF (putF f) f := by
  obtain ⟨_, hn, hs, hko⟩ := may_parts h
  have sm := small_of hs
  have e := form_4 f hk hn
  have h' := h
  rw [e] at h'
  have hp : putF f = enc 4 ++ (enc f.id ++ (enc f.code ++ (enc f.max))) := by unfold putF; rw [hk]; simp
  rw [hp]
  exact (readF_of (k := 4) (by omega) (by simp only [M62]; omega) (put_4 f.id ⟨ok.id.1, sm.id⟩ f.code ⟨ok.code.1, sm.code⟩ f.max ⟨ok.max.1, sm.max⟩) h').as rfl e.symm
theorem form_5 (f : Fr) (hk : f.kind = 5) (hn : nothing (bareF f) = true) : f = { fr0 5 with id := f.id, code := f.code } := by
  obtain ⟨kind, id, off, max, code, n, fin, data, cid, tok, acks, delay, e0, e1, e2⟩ := f
  simp only at hk
  subst hk
  simp [nothing, bareF, hId, hOff, hMax, hCode, hN, hFin, hData, hCid, hAck, hEcn] at hn
  simp [fr0, hn]
theorem read_5 (f : Fr) (ok : FrOk f) (h : mayF f = true) (hk : f.kind = 5) (hd : (f.data.length : Int) ≤ M62) : Reads readF (putF f) f := by
  obtain ⟨_, hn, hs, hko⟩ := may_parts h
  have sm := small_of hs
  have e := form_5 f hk hn
  have h' := h
  rw [e] at h'
  have hp : putF f = enc 5 ++ (enc f.id ++ (enc f.code)) := by unfold putF; rw [hk]; simp
  rw [hp]
  exact (readF_of (k := 5) (by omega) (by simp only [M62]; omega) (put_5 f.id ⟨ok.id.1, sm.id⟩ f.code ⟨ok.code.1, sm.code⟩) h').as rfl e.symm
theorem form_6 (f : Fr) (hk : f.kind = 6) (hn : nothing (bareF f) = true) : f = { fr0 6 with off := f.off, data := f.data } := by
  obtain ⟨kind, id, off, max, code, n, fin, data, cid, tok, acks, delay, e0, e1, e2⟩ := f
  simp only at hk
  subst hk
  simp [nothing, bareF, hId, hOff, hMax, hCode, hN, hFin, hData, hCid, hAck, hEcn] at hn
  simp [fr0, hn]
theorem read_6 (f : Fr) (ok : FrOk f) (h : mayF f = true) (hk : f.kind = 6) (hd : (f.data.length : Int) ≤ M62) : Reads readF (putF f) f := by
  obtain ⟨_, hn, hs, hko⟩ := may_parts h
  have sm := small_of hs
  have e := form_6 f hk hn
  have h' := h
  rw [e] at h'
  have hp : putF f = enc 6 ++ (enc f.off ++ (sizedB f.data)) := by unfold putF; rw [hk]; simp
  rw [hp]
  exact (readF_of (k := 6) (by omega) (by simp only [M62]; omega) (put_6 f.off ⟨ok.off.1, sm.off⟩ f.data hd) h').as rfl e.symm
theorem form_7 (f : Fr) (hk : f.kind = 7) (hn : nothing (bareF f) = true) : f = { fr0 7 with data := f.data } := by
  obtain ⟨kind, id, off, max, code, n, fin, data, cid, tok, acks, delay, e0, e1, e2⟩ := f
  simp only at hk
  subst hk
  simp [nothing, bareF, hId, hOff, hMax, hCode, hN, hFin, hData, hCid, hAck, hEcn] at hn
  simp [fr0, hn]
theorem read_7 (f : Fr) (ok : FrOk f) (h : mayF f = true) (hk : f.kind = 7) (hd : (f.data.length : Int) ≤ M62) : Reads readF (putF f) f := by
  obtain ⟨_, hn, hs, hko⟩ := may_parts h
  have sm := small_of hs
  have e := form_7 f hk hn
  have h' := h
  rw [e] at h'
  have hp : putF f = enc 7 ++ (sizedB f.data) := by unfold putF; rw [hk]; simp
  rw [hp]
  exact (readF_of (k := 7) (by omega) (by simp only [M62]; omega) (put_7 f.data hd) h').as rfl e.symm
theorem form_16 (f : Fr) (hk : f.kind = 16) (hn : nothing (bareF f) = true) : f = { fr0 16 with max := f.max } := by
  obtain ⟨kind, id, off, max, code, n, fin, data, cid, tok, acks, delay, e0, e1, e2⟩ := f
  simp only at hk
  subst hk
  simp [nothing, bareF, hId, hOff, hMax, hCode, hN, hFin, hData, hCid, hAck, hEcn] at hn
  simp [fr0, hn]
theorem read_16 (f : Fr) (ok : FrOk f) (h : mayF f = true) (hk : f.kind = 16) (hd : (f.data.length : Int) ≤ M62) : Reads readF (putF f) f := by
  obtain ⟨_, hn, hs, hko⟩ := may_parts h
  have sm := small_of hs
  have e := form_16 f hk hn
  have h' := h
  rw [e] at h'
  have hp : putF f = enc 16 ++ (enc f.max) := by unfold putF; rw [hk]; simp
  rw [hp]
  exact (readF_of (k := 16) (by omega) (by simp only [M62]; omega) (put_16 f.max ⟨ok.max.1, sm.max⟩) h').as rfl e.symm
theorem form_17 (f : Fr) (hk : f.kind = 17) (hn : nothing (bareF f) = true) : f = { fr0 17 with id := f.id, max := f.max } := by
  obtain ⟨kind, id, off, max, code, n, fin, data, cid, tok, acks, delay, e0, e1, e2⟩ := f
  simp only at hk
  subst hk
  simp [nothing, bareF, hId, hOff, hMax, hCode, hN, hFin, hData, hCid, hAck, hEcn] at hn
  simp [fr0, hn]
theorem read_17 (f : Fr) (ok : FrOk f) (h : mayF f = true) (hk : f.kind = 17) (hd : (f.data.length : Int) ≤ M62) : Reads readF (putF f) f := by
  obtain ⟨_, hn, hs, hko⟩ := may_parts h
  have sm := small_of hs
  have e := form_17 f hk hn
  have h' := h
  rw [e] at h'
  have hp : putF f = enc 17 ++ (enc f.id ++ (enc f.max)) := by unfold putF; rw [hk]; simp
  rw [hp]
  exact (readF_of (k := 17) (by omega) (by simp only [M62]; omega) (put_17 f.id ⟨ok.id.1, sm.id⟩ f.max ⟨ok.max.1, sm.max⟩) h').as rfl e.symm
theorem form_18 (f : Fr) (hk : f.kind = 18) (hn : nothing (bareF f) = true) : f = { fr0 18 with max := f.max } := by
  obtain ⟨kind, id, off, max, code, n, fin, data, cid, tok, acks, delay, e0, e1, e2⟩ := f
  simp only at hk
  subst hk
  simp [nothing, bareF, hId, hOff, hMax, hCode, hN, hFin, hData, hCid, hAck, hEcn] at hn
  simp [fr0, hn]
theorem read_18 (f : Fr) (ok : FrOk f) (h : mayF f = true) (hk : f.kind = 18) (hd : (f.data.length : Int) ≤ M62) : Reads readF (putF f) f := by
  obtain ⟨_, hn, hs, hko⟩ := may_parts h
  have sm := small_of hs
  have e := form_18 f hk hn
  have h' := h
  rw [e] at h'
  have hp : putF f = enc 18 ++ (enc f.max) := by unfold putF; rw [hk]; simp
  rw [hp]
  exact (readF_of (k := 18) (by omega) (by simp only [M62]; omega) (put_18 f.max ⟨ok.max.1, sm.max⟩) h').as rfl e.symm
theorem form_19 (f : Fr) (hk : f.kind = 19) (hn : nothing (bareF f) = true) : f = { fr0 19 with max := f.max } := by
  obtain ⟨kind, id, off, max, code, n, fin, data, cid, tok, acks, delay, e0, e1, e2⟩ := f
  simp only at hk
  subst hk
  simp [nothing, bareF, hId, hOff, hMax, hCode, hN, hFin, hData, hCid, hAck, hEcn] at hn
  simp [fr0, hn]
theorem read_19 (f : Fr) (ok : FrOk f) (h : mayF f = true) (hk : f.kind = 19) (hd : (f.data.length : Int) ≤ M62) : Reads readF (putF f) f := by
  obtain ⟨_, hn, hs, hko⟩ := may_parts h
  have sm := small_of hs
  have e := form_19 f hk hn
  have h' := h
  rw [e] at h'
  have hp : putF f = enc 19 ++ (enc f.max) := by unfold putF; rw [hk]; simp
  rw [hp]
  exact (readF_of (k := 19) (by omega) (by simp only [M62]; omega) (put_19 f.max ⟨ok.max.1, sm.max⟩) h').as rfl e.symm
theorem form_20 (f : Fr) (hk : f.kind = 20) (hn : nothing (bareF f) = true) : f = { fr0 20 with max := f.max } := by
  obtain ⟨kind, id, off, max, code, n, fin, data, cid, tok, acks, delay, e0, e1, e2⟩ := f
  simp only at hk
  subst hk
  simp [nothing, bareF, hId, hOff, hMax, hCode, hN, hFin, hData, hCid, hAck, hEcn] at hn
  simp [fr0, hn]
theorem read_20 (f : Fr) (ok : FrOk f) (h : mayF f = true) (hk : f.kind = 20) (hd : (f.data.length : Int) ≤ M62) : Reads readF (putF f) f := by
  obtain ⟨_, hn, hs, hko⟩ := may_parts h
  have sm := small_of hs
  have e := form_20 f hk hn
  have h' := h
  rw [e] at h'
  have hp : putF f = enc 20 ++ (enc f.max) := by unfold putF; rw [hk]; simp
  rw [hp]
  exact (readF_of (k := 20) (by omega) (by simp only [M62]; omega) (put_20 f.max ⟨ok.max.1, sm.max⟩) h').as rfl e.symm
theorem form_21 (f : Fr) (hk : f.kind = 21) (hn : nothing (bareF f) = true) : f = { fr0 21 with id := f.id, max := f.max } := by
  obtain ⟨kind, id, off, max, code, n, fin, data, cid, tok, acks, delay, e0, e1, e2⟩ := f
  simp only at hk
  subst hk
  simp [nothing, bareF, hId, hOff, hMax, hCode, hN, hFin, hData, hCid, hAck, hEcn] at hn
  simp [fr0, hn]
theorem read_21 (f : Fr) (ok : FrOk f) (h : mayF f = true) (hk : f.kind = 21) (hd : (f.data.length : Int) ≤ M62) : Reads readF (putF f) f := by
  obtain ⟨_, hn, hs, hko⟩ := may_parts h
  have sm := small_of hs
  have e := form_21 f hk hn
  have h' := h
  rw [e] at h'
  have hp : putF f = enc 21 ++ (enc f.id ++ (enc f.max)) := by unfold putF; rw [hk]; simp
  rw [hp]
  exact (readF_of (k := 21) (by omega) (by simp only [M62]; omega) (put_21 f.id ⟨ok.id.1, sm.id⟩ f.max ⟨ok.max.1, sm.max⟩) h').as rfl e.symm
theorem form_22 (f : Fr) (hk : f.kind = 22) (hn : nothing (bareF f) = true) : f = { fr0 22 with max := f.max } := by
  obtain ⟨kind, id, off, max, code, n, fin, data, cid, tok, acks, delay, e0, e1, e2⟩ := f
  simp only at hk
  subst hk
  simp [nothing, bareF, hId, hOff, hMax, hCode, hN, hFin, hData, hCid, hAck, hEcn] at hn
  simp [fr0, hn]
theorem read_22 (f : Fr) (ok : FrOk f) (h : mayF f = true) (hk : f.kind = 22) (hd : (f.data.length : Int) ≤ M62) : Reads readF (putF f) f := by
  obtain ⟨_, hn, hs, hko⟩ := may_parts h
  have sm := small_of hs
  have e := form_22 f hk hn
  have h' := h
  rw [e] at h'
  have hp : putF f = enc 22 ++ (enc f.max) := by unfold putF; rw [hk]; simp
  rw [hp]
  exact (readF_of (k := 22) (by omega) (by simp only [M62]; omega) (put_22 f.max ⟨ok.max.1, sm.max⟩) h').as rfl e.symm
theorem form_23 (f : Fr) (hk : f.kind = 23) (hn : nothing (bareF f) = true) : f = { fr0 23 with max := f.max } := by
  obtain ⟨kind, id, off, max, code, n, fin, data, cid, tok, acks, delay, e0, e1, e2⟩ := f
  simp only at hk
  subst hk
  simp [nothing, bareF, hId, hOff, hMax, hCode, hN, hFin, hData, hCid, hAck, hEcn] at hn
  simp [fr0, hn]
theorem read_23 (f : Fr) (ok : FrOk f) (h : mayF f = true) (hk : f.kind = 23) (hd : (f.data.length : Int) ≤ M62) : Reads readF (putF f) f := by
  obtain ⟨_, hn, hs, hko⟩ := may_parts h
  have sm := small_of hs
  have e := form_23 f hk hn
  have h' := h
  rw [e] at h'
  have hp : putF f = enc 23 ++ (enc f.max) := by unfold putF; rw [hk]; simp
  rw [hp]
  exact (readF_of (k := 23) (by omega) (by simp only [M62]; omega) (put_23 f.max ⟨ok.max.1, sm.max⟩) h').as rfl e.symm
theorem form_24 (f : Fr) (hk : f.kind = 24) (hn : nothing (bareF f) = true) : f = { fr0 24 with id := f.id, max := f.max, cid := f.cid, tok := f.tok } := by
  obtain ⟨kind, id, off, max, code, n, fin, data, cid, tok, acks, delay, e0, e1, e2⟩ := f
  simp only at hk
  subst hk
  simp [nothing, bareF, hId, hOff, hMax, hCode, hN, hFin, hData, hCid, hAck, hEcn] at hn
  simp [fr0, hn]
theorem read_24 (f : Fr) (ok : FrOk f) (h : mayF f = true) (hk : f.kind = 24) (hd : (f.data.length : Int) ≤ M62) : Reads readF (putF f) f := by
  obtain ⟨_, hn, hs, hko⟩ := may_parts h
  have sm := small_of hs
  have e := form_24 f hk hn
  have h' := h
  rw [e] at h'
  have hp : putF f = enc 24 ++ (enc f.id ++ (enc f.max ++ (([(f.cid.length : Int)] ++ (f.cid ++ f.tok))))) := by unfold putF; rw [hk]; simp
  rw [hp]
  exact (readF_of (k := 24) (by omega) (by simp only [M62]; omega) (put_24 f.id ⟨ok.id.1, sm.id⟩ f.max ⟨ok.max.1, sm.max⟩ f.cid f.tok (by rw [ok.tok16]; rfl)) h').as rfl e.symm
theorem form_25 (f : Fr) (hk : f.kind = 25) (hn : nothing (bareF f) = true) : f = { fr0 25 with id := f.id } := by
  obtain ⟨kind, id, off, max, code, n, fin, data, cid, tok, acks, delay, e0, e1, e2⟩ := f
  simp only at hk
  subst hk
  simp [nothing, bareF, hId, hOff, hMax, hCode, hN, hFin, hData, hCid, hAck, hEcn] at hn
  simp [fr0, hn]
theorem read_25 (f : Fr) (ok : FrOk f) (h : mayF f = true) (hk : f.kind = 25) (hd : (f.data.length : Int) ≤ M62) : Reads readF (putF f) f := by
  obtain ⟨_, hn, hs, hko⟩ := may_parts h
  have sm := small_of hs
  have e := form_25 f hk hn
  have h' := h
  rw [e] at h'
  have hp : putF f = enc 25 ++ (enc f.id) := by unfold putF; rw [hk]; simp
  rw [hp]
  exact (readF_of (k := 25) (by omega) (by simp only [M62]; omega) (put_25 f.id ⟨ok.id.1, sm.id⟩) h').as rfl e.symm
theorem form_26 (f : Fr) (hk : f.kind = 26) (hn : nothing (bareF f) = true) : f = { fr0 26 with data := f.data } := by
  obtain ⟨kind, id, off, max, code, n, fin, data, cid, tok, acks, delay, e0, e1, e2⟩ := f
  simp only at hk
  subst hk
  simp [nothing, bareF, hId, hOff, hMax, hCode, hN, hFin, hData, hCid, hAck, hEcn] at hn
  simp [fr0, hn]
theorem kindOk_8_26 (f : Fr) (hk : f.kind = 26) (h : kindOk f = true) : f.data.length = 8 := by
  unfold kindOk at h
  rw [hk] at h
  simpa using h
theorem read_26 (f : Fr) (ok : FrOk f) (h : mayF f = true) (hk : f.kind = 26) (hd : (f.data.length : Int) ≤ M62) : Reads readF (putF f) f := by
  obtain ⟨_, hn, hs, hko⟩ := may_parts h
  have sm := small_of hs
  have e := form_26 f hk hn
  have h' := h
  rw [e] at h'
  have hp : putF f = enc 26 ++ (f.data) := by unfold putF; rw [hk]; simp
  rw [hp]
  exact (readF_of (k := 26) (by omega) (by simp only [M62]; omega) (put_26 f.data (by have h8 := kindOk_8_26 f hk hko; omega)) h').as rfl e.symm
theorem form_27 (f : Fr) (hk : f.kind = 27) (hn : nothing (bareF f) = true) : f = { fr0 27 with data := f.data } := by
  obtain ⟨kind, id, off, max, code, n, fin, data, cid, tok, acks, delay, e0, e1, e2⟩ := f
  simp only at hk
  subst hk
  simp [nothing, bareF, hId, hOff, hMax, hCode, hN, hFin, hData, hCid, hAck, hEcn] at hn
  simp [fr0, hn]
theorem kindOk_8_27 (f : Fr) (hk : f.kind = 27) (h : kindOk f = true) : f.data.length = 8 := by
  unfold kindOk at h
  rw [hk] at h
  simpa using h
theorem read_27 (f : Fr) (ok : FrOk f) (h : mayF f = true) (hk : f.kind = 27) (hd : (f.data.length : Int) ≤ M62) : Reads readF (putF f) f := by
  obtain ⟨_, hn, hs, hko⟩ := may_parts h
  have sm := small_of hs
  have e := form_27 f hk hn
  have h' := h
  rw [e] at h'
  have hp : putF f = enc 27 ++ (f.data) := by unfold putF; rw [hk]; simp
  rw [hp]
  exact (readF_of (k := 27) (by omega) (by simp only [M62]; omega) (put_27 f.data (by have h8 := kindOk_8_27 f hk hko; omega)) h').as rfl e.symm
theorem form_28 (f : Fr) (hk : f.kind = 28) (hn : nothing (bareF f) = true) : f = { fr0 28 with code := f.code, max := f.max, data := f.data } := by
  obtain ⟨kind, id, off, max, code, n, fin, data, cid, tok, acks, delay, e0, e1, e2⟩ := f
  simp only at hk
  subst hk
  simp [nothing, bareF, hId, hOff, hMax, hCode, hN, hFin, hData, hCid, hAck, hEcn] at hn
  simp [fr0, hn]
theorem read_28 (f : Fr) (ok : FrOk f) (h : mayF f = true) (hk : f.kind = 28) (hd : (f.data.length : Int) ≤ M62) : Reads readF (putF f) f := by
  obtain ⟨_, hn, hs, hko⟩ := may_parts h
  have sm := small_of hs
  have e := form_28 f hk hn
  have h' := h
  rw [e] at h'
  have hp : putF f = enc 28 ++ (enc f.code ++ (enc f.max ++ (sizedB f.data))) := by unfold putF; rw [hk]; simp
  rw [hp]
  exact (readF_of (k := 28) (by omega) (by simp only [M62]; omega) (put_28 f.code ⟨ok.code.1, sm.code⟩ f.max ⟨ok.max.1, sm.max⟩ f.data hd) h').as rfl e.symm
theorem form_29 (f : Fr) (hk : f.kind = 29) (hn : nothing (bareF f) = true) : f = { fr0 29 with code := f.code, data := f.data } := by
  obtain ⟨kind, id, off, max, code, n, fin, data, cid, tok, acks, delay, e0, e1, e2⟩ := f
  simp only at hk
  subst hk
  simp [nothing, bareF, hId, hOff, hMax, hCode, hN, hFin, hData, hCid, hAck, hEcn] at hn
  simp [fr0, hn]
theorem read_29 (f : Fr) (ok : FrOk f) (h : mayF f = true) (hk : f.kind = 29) (hd : (f.data.length : Int) ≤ M62) : Reads readF (putF f) f := by
  obtain ⟨_, hn, hs, hko⟩ := may_parts h
  have sm := small_of hs
  have e := form_29 f hk hn
  have h' := h
  rw [e] at h'
  have hp : putF f = enc 29 ++ (enc f.code ++ (sizedB f.data)) := by unfold putF; rw [hk]; simp
  rw [hp]
  exact (readF_of (k := 29) (by omega) (by simp only [M62]; omega) (put_29 f.code ⟨ok.code.1, sm.code⟩ f.data hd) h').as rfl e.symm
theorem form_30 (f : Fr) (hk : f.kind = 30) (hn : nothing (bareF f) = true) : f = fr0 30 := by
  obtain ⟨kind, id, off, max, code, n, fin, data, cid, tok, acks, delay, e0, e1, e2⟩ := f
  simp only at hk
  subst hk
  simp [nothing, bareF, hId, hOff, hMax, hCode, hN, hFin, hData, hCid, hAck, hEcn] at hn
  simp [fr0, hn]
theorem read_30 (f : Fr) (ok : FrOk f) (h : mayF f = true) (hk : f.kind = 30) (hd : (f.data.length : Int) ≤ M62) : Reads readF (putF f) f := by
  obtain ⟨_, hn, hs, hko⟩ := may_parts h
  have sm := small_of hs
  have e := form_30 f hk hn
  have h' := h
  rw [e] at h'
  have hp : putF f = enc 30 ++ ([]) := by unfold putF; rw [hk]; simp
  rw [hp]
  exact (readF_of (k := 30) (by omega) (by simp only [M62]; omega) (put_30 ) h').as rfl e.symm
end Frm
end Go.Proofs.Ytcpjehgoeibbeaa

/- Frames in plain Lean: ACKs, streams, paddings; any frame; frames that are cut short. -/
namespace Go.Proofs.Ytcpjehgoeibbeaa
set_option linter.unusedVariables false
namespace Frm
open Var
theorem form_2 (f : Fr) (hk : f.kind = 2) (hn : nothing (bareF f) = true) : f = { fr0 2 with acks := f.acks, delay := f.delay } := by
  obtain ⟨kind, id, off, max, code, n, fin, data, cid, tok, acks, delay, e0, e1, e2⟩ := f
  simp only at hk
  subst hk
  simp [nothing, bareF, hId, hOff, hMax, hCode, hN, hFin, hData, hCid, hAck, hEcn] at hn
  simp [fr0, hn]
theorem form_3 (f : Fr) (hk : f.kind = 3) (hn : nothing (bareF f) = true) : f = { fr0 3 with acks := f.acks, delay := f.delay, e0 := f.e0, e1 := f.e1, e2 := f.e2 } := by
  obtain ⟨kind, id, off, max, code, n, fin, data, cid, tok, acks, delay, e0, e1, e2⟩ := f
  simp only at hk
  subst hk
  simp [nothing, bareF, hId, hOff, hMax, hCode, hN, hFin, hData, hCid, hAck, hEcn] at hn
  simp [fr0, hn]
theorem form_8 (f : Fr) (hk : f.kind = 8) (hn : nothing (bareF f) = true) : f = { fr0 8 with id := f.id, off := f.off, fin := f.fin, data := f.data } := by
  obtain ⟨kind, id, off, max, code, n, fin, data, cid, tok, acks, delay, e0, e1, e2⟩ := f
  simp only at hk
  subst hk
  simp [nothing, bareF, hId, hOff, hMax, hCode, hN, hFin, hData, hCid, hAck, hEcn] at hn
  simp [fr0, hn]
theorem form_0 (f : Fr) (hk : f.kind = 0) (hn : nothing (bareF f) = true) : f = { fr0 0 with n := f.n } := by
  obtain ⟨kind, id, off, max, code, n, fin, data, cid, tok, acks, delay, e0, e1, e2⟩ := f
  simp only at hk
  subst hk
  simp [nothing, bareF, hId, hOff, hMax, hCode, hN, hFin, hData, hCid, hAck, hEcn] at hn
  simp [fr0, hn]
theorem acks_ok {f : Fr} (hk : f.kind = 2 ∨ f.kind = 3) (h : kindOk f = true) : acksOk f.acks = true := by
  unfold kindOk at h
  rw [if_neg (by omega), if_pos hk] at h
  exact h
theorem read_2 (f : Fr) (ok : FrOk f) (h : mayF f = true) (hk : f.kind = 2) (hl : f.acks.length ≤ 1000000) : Reads readF (putF f) f := by
  obtain ⟨_, hn, hs, hko⟩ := may_parts h
  have sm := small_of hs
  have e := form_2 f hk hn
  have h' := h
  rw [e] at h'
  have hp : putF f = enc 2 ++ (acksB f ++ []) := by unfold putF; rw [hk]; simp
  rw [hp]
  refine (readF_of (k := 2) (by omega) (by simp only [M62]; omega) ?_ h').as rfl e.symm
  unfold readK
  rw [if_neg (by decide), if_neg (by decide), if_pos (by decide)]
  unfold readAck
  refine acks_reads f ok (acks_ok (.inl hk) hko) sm hl 2 (fun dl l => if (2 : Int) = 3 then rb tk fun x => rb tk fun y => rb tk fun z => rp { fr0 2 with acks := l, delay := dl, e0 := x, e1 := y, e2 := z } else rp { fr0 2 with acks := l, delay := dl }) [] _ ?_
  rw [if_neg (by decide)]
  exact Reads.pure _
theorem read_3 (f : Fr) (ok : FrOk f) (h : mayF f = true) (hk : f.kind = 3) (hl : f.acks.length ≤ 1000000) : Reads readF (putF f) f := by
  obtain ⟨_, hn, hs, hko⟩ := may_parts h
  have sm := small_of hs
  have e := form_3 f hk hn
  have h' := h
  rw [e] at h'
  have hp : putF f = enc 3 ++ (acksB f ++ (enc f.e0 ++ (enc f.e1 ++ (enc f.e2 ++ [])))) := by unfold putF; rw [hk]; simp
  rw [hp]
  refine (readF_of (k := 3) (by omega) (by simp only [M62]; omega) ?_ h').as rfl e.symm
  unfold readK
  rw [if_neg (by decide), if_neg (by decide), if_pos (by decide)]
  unfold readAck
  refine acks_reads f ok (acks_ok (.inr hk) hko) sm hl 3 (fun dl l => if (3 : Int) = 3 then rb tk fun x => rb tk fun y => rb tk fun z => rp { fr0 3 with acks := l, delay := dl, e0 := x, e1 := y, e2 := z } else rp { fr0 3 with acks := l, delay := dl }) _ _ ?_
  rw [if_pos rfl]
  exact (tk_reads _ ok.e0.1 sm.e0).bind ((tk_reads _ ok.e1.1 sm.e1).bind ((tk_reads _ ok.e2.1 sm.e2).bind (Reads.pure _)))
/-- The kind with which a stream's bytes begin. -/
def strK (f : Fr) : Int := 10 + (if f.fin then 1 else 0) + (if f.off > 0 then 4 else 0)
theorem strK_cases (f : Fr) : (strK f = 10 ∧ f.fin = false ∧ ¬ f.off > 0) ∨ (strK f = 11 ∧ f.fin = true ∧ ¬ f.off > 0) ∨ (strK f = 14 ∧ f.fin = false ∧ f.off > 0) ∨ (strK f = 15 ∧ f.fin = true ∧ f.off > 0) := by
  unfold strK
  cases f.fin <;> by_cases h : f.off > 0 <;> simp [h]
theorem read_8 (f : Fr) (ok : FrOk f) (h : mayF f = true) (hk : f.kind = 8) (hd : (f.data.length : Int) ≤ M62) : Reads readF (putF f) f := by
  obtain ⟨_, hn, hs, hko⟩ := may_parts h
  have sm := small_of hs
  have e := form_8 f hk hn
  have h' := h
  rw [e] at h'
  have hp : putF f = enc (strK f) ++ (enc f.id ++ ((if f.off > 0 then enc f.off else []) ++ (sizedB f.data ++ []))) := by unfold putF strK; rw [hk]; simp
  rw [hp]
  have hb : 8 ≤ strK f ∧ strK f < 16 := by rcases strK_cases f with ⟨h, _⟩ | ⟨h, _⟩ | ⟨h, _⟩ | ⟨h, _⟩ <;> omega
  refine (readF_of (k := strK f) (by omega) (by simp only [M62]; omega) ?_ h').as rfl e.symm
  unfold readK
  rw [if_neg (by omega), if_neg (by omega), if_neg (by omega), if_neg (by omega), if_neg (by omega), if_neg (by omega), if_neg (by omega), if_pos hb]
  unfold readStream
  refine (tk_reads _ ok.id.1 sm.id).bind ?_
  have hoff := ok.off
  unfold U64 at hoff
  rcases strK_cases f with ⟨h1, h2, h3⟩ | ⟨h1, h2, h3⟩ | ⟨h1, h2, h3⟩ | ⟨h1, h2, h3⟩
  · rw [h1, if_neg (by decide), if_neg h3, if_neg (by decide)]
    refine (Reads.pure (0 : Int)).bind ((szd_reads f.data hd).bind ((Reads.pure _).as rfl ?_))
    rw [h2, show f.off = 0 by omega]; rfl
  · rw [h1, if_neg (by decide), if_neg h3, if_neg (by decide)]
    refine (Reads.pure (0 : Int)).bind ((szd_reads f.data hd).bind ((Reads.pure _).as rfl ?_))
    rw [h2, show f.off = 0 by omega]; rfl
  · rw [h1, if_pos (by decide), if_pos h3, if_neg (by decide)]
    refine (tk_reads _ hoff.1 sm.off).bind ((szd_reads f.data hd).bind ((Reads.pure _).as rfl ?_))
    rw [h2]; rfl
  · rw [h1, if_pos (by decide), if_pos h3, if_neg (by decide)]
    refine (tk_reads _ hoff.1 sm.off).bind ((szd_reads f.data hd).bind ((Reads.pure _).as rfl ?_))
    rw [h2]; rfl
/-- Any frame that may be, but a padding. -/
theorem readF_put (f : Fr) (ok : FrOk f) (h : mayF f = true) (h0 : f.kind ≠ 0) (hd : (f.data.length : Int) ≤ M62) (hl : f.acks.length ≤ 1000000) : Reads readF (putF f) f := by
  obtain ⟨hi, _⟩ := may_parts h
  rcases zero_kinds _ hi with e | e | e | e | e | e | e | e | e | e | e | e | e | e | e | e | e | e | e | e | e | e | e | e
  · exact absurd e h0
  · exact read_1 f ok h e hd
  · exact read_2 f ok h e hl
  · exact read_3 f ok h e hl
  · exact read_4 f ok h e hd
  · exact read_5 f ok h e hd
  · exact read_6 f ok h e hd
  · exact read_7 f ok h e hd
  · exact read_8 f ok h e hd
  · exact read_16 f ok h e hd
  · exact read_17 f ok h e hd
  · exact read_18 f ok h e hd
  · exact read_19 f ok h e hd
  · exact read_20 f ok h e hd
  · exact read_21 f ok h e hd
  · exact read_22 f ok h e hd
  · exact read_23 f ok h e hd
  · exact read_24 f ok h e hd
  · exact read_25 f ok h e hd
  · exact read_26 f ok h e hd
  · exact read_27 f ok h e hd
  · exact read_28 f ok h e hd
  · exact read_29 f ok h e hd
  · exact read_30 f ok h e hd
/-! ### Paddings -/
theorem enc_zero : enc 0 = [0] := rfl
theorem zeros_rep (n : Nat) (r : List Int) (h : r.head? ≠ some 0) : zeros (List.replicate n 0 ++ r) = n := by
  unfold zeros
  induction n with
  | zero =>
    cases r with
    | nil => rfl
    | cons x r =>
      have : x ≠ 0 := fun e => h (by rw [e]; rfl)
      simp [this]
  | succ n ih =>
    rw [List.replicate_succ, List.cons_append, List.takeWhile_cons, if_pos (by simp), List.length_cons, ih]
theorem readF_pad (f : Fr) (h : mayF f = true) (hk : f.kind = 0) (r : List Int) (hr : r.head? ≠ some 0) : readF (putF f ++ r) = some (f, r) := by
  obtain ⟨_, hn, _, hko⟩ := may_parts h
  have e := form_0 f hk hn
  have hb : 1 ≤ f.n ∧ f.n ≤ 65536 := by
    unfold kindOk at hko
    rw [if_pos hk] at hko
    simpa using hko
  have hp : putF f ++ r = enc 0 ++ (List.replicate (f.n.toNat - 1) 0 ++ r) := by
    unfold putF
    rw [if_pos hk, enc_zero, show f.n.toNat = (f.n.toNat - 1) + 1 by omega, List.replicate_succ]
    simp
  rw [hp]
  have hz := zeros_rep (f.n.toNat - 1) r hr
  have hmin : min (zeros (List.replicate (f.n.toNat - 1) 0 ++ r)) 65535 = f.n.toNat - 1 := by rw [hz]; omega
  unfold readF
  rw [tk_reads 0 (by omega) (by simp only [M62]; omega) _]
  simp only
  rw [if_pos (by simp only [List.length_append]; rw [enc_length 0 (by omega)]; omega)]
  have hk0 : readK 0 (List.replicate (f.n.toNat - 1) 0 ++ r) = some (f, r) := by
    unfold readK
    rw [if_pos rfl]
    unfold readPad
    rw [hmin]
    have e2 : ({ fr0 0 with n := ((1 + (f.n.toNat - 1) : Nat) : Int) } : Fr) = f := by
      rw [show ((1 + (f.n.toNat - 1) : Nat) : Int) = f.n by omega]; exact e.symm
    rw [e2, List.drop_left' (by simp)]
  rw [hk0]
  simp only
  rw [if_pos h]
/-! ### Cut short -/
theorem readF_mono {b r : List Int} {f : Fr} {k : Int} {q : List Int} (h : readF b = some (f, r)) (hk : tk b = some (k, q)) (h0 : k ≠ 0) (h8 : 8 ≤ k ∧ k < 16 → (k - 8) / 2 % 2 ≠ 0) (e : List Int) : readF (b ++ e) = some (f, r ++ e) := by
  unfold readF at h ⊢
  rw [hk] at h
  rw [tk_mono b k q hk e]
  simp only at h ⊢
  split at h
  · rename_i hs
    rw [if_pos (by simp only [List.length_append]; omega)]
    cases hr : readK k q with
    | none => rw [hr] at h; cases h
    | some y =>
      obtain ⟨g, s⟩ := y
      rw [hr] at h
      rw [readK_mono k h0 h8 q g s hr e]
      simp only at h ⊢
      split at h
      · rename_i hm
        rw [if_pos hm]
        cases h
        rfl
      · cases h
  · cases h
/-- The kind with which a frame's bytes begin. -/
def headK (f : Fr) : Int := if f.kind = 8 then strK f else f.kind
theorem putF_head (f : Fr) (h : mayF f = true) (h0 : f.kind ≠ 0) : ∃ body, putF f = enc (headK f) ++ body ∧ 0 ≤ headK f ∧ headK f ≤ 30 ∧ headK f ≠ 0 ∧ (8 ≤ headK f ∧ headK f < 16 → (headK f - 8) / 2 % 2 ≠ 0) := by
  obtain ⟨hi, _⟩ := may_parts h
  by_cases h8 : f.kind = 8
  · have hh : headK f = strK f := if_pos h8
    rw [hh]
    refine ⟨enc f.id ++ ((if f.off > 0 then enc f.off else []) ++ sizedB f.data), by unfold putF strK; rw [h8]; simp, ?_⟩
    rcases strK_cases f with ⟨e, _⟩ | ⟨e, _⟩ | ⟨e, _⟩ | ⟨e, _⟩ <;> rw [e] <;> decide
  · have hh : headK f = f.kind := if_neg h8
    rw [hh]
    rcases zero_kinds _ hi with e | e | e | e | e | e | e | e | e | e | e | e | e | e | e | e | e | e | e | e | e | e | e | e
    · exact absurd e h0
    all_goals first | exact absurd e h8 | (refine ⟨_, by unfold putF; rw [e]; simp only [reduceIte, Int.reduceEq, or_self, or_true, or_false, List.append_assoc]; first | rfl | exact (List.append_nil _).symm, ?_⟩; rw [e]; decide)
theorem tk_cut {k : Int} (h0 : 0 ≤ k) (h1 : k ≤ M62) (body : List Int) (c : Nat) : (∃ q, tk ((enc k ++ body).take c) = some (k, q)) ∨ tk ((enc k ++ body).take c) = none := by
  by_cases hc : sizeF k ≤ c
  · left
    have hl := enc_length k h0
    refine ⟨body.take (c - (enc k).length), ?_⟩
    rw [List.take_append, List.take_of_length_le (by omega)]
    exact tk_reads k h0 h1 _
  · right
    have hl := enc_length k h0
    have e : (enc k ++ body).take c = ((enc k ++ body).take (sizeF k - 1)).take c := by rw [List.take_take, Nat.min_eq_left (by omega)]
    have hn := cut_enc k h0 h1 body
    cases ht : tk ((enc k ++ body).take c) with
    | none => rfl
    | some x =>
      obtain ⟨n, q⟩ := x
      exfalso
      rw [e] at ht
      have hm := tk_mono _ _ _ ht (((enc k ++ body).take (sizeF k - 1)).drop c)
      rw [List.take_append_drop] at hm
      unfold tk at hm
      rw [hn] at hm
      cases hm
theorem readF_cut (f : Fr) (ok : FrOk f) (h : mayF f = true) (h0 : f.kind ≠ 0) (hd : (f.data.length : Int) ≤ M62) (hl : f.acks.length ≤ 1000000) (c : Nat) (hc : c < (putF f).length) : readF ((putF f).take c) = none := by
  obtain ⟨body, hp, hb0, hb1, hb2, hb3⟩ := putF_head f h h0
  have hfull := readF_put f ok h h0 hd hl []
  rw [List.append_nil] at hfull
  cases hr : readF ((putF f).take c) with
  | none => rfl
  | some y =>
    exfalso
    obtain ⟨g, r⟩ := y
    have htk : ∃ q, tk ((putF f).take c) = some (headK f, q) := by
      rw [hp]
      rcases tk_cut hb0 (by simp only [M62]; omega) body c with h2 | h2
      · exact h2
      · exfalso
        rw [hp] at hr
        unfold readF at hr
        rw [h2] at hr
        cases hr
    obtain ⟨q, hq⟩ := htk
    have hm := readF_mono hr hq hb2 hb3 ((putF f).drop c)
    rw [List.take_append_drop, hfull] at hm
    simp only [Option.some.injEq, Prod.mk.injEq] at hm
    have := congrArg List.length hm.2
    simp only [List.length_append, List.length_drop, List.length_nil] at this
    omega
end Frm
end Go.Proofs.Ytcpjehgoeibbeaa

/- Frames in plain Lean: lists of them. -/
namespace Go.Proofs.Ytcpjehgoeibbeaa
set_option linter.unusedVariables false
namespace Frm
open Var
/-- What is asked of a frame that is put. -/
structure Put (f : Fr) : Prop where
  ok : FrOk f
  may : mayF f = true
  data : (f.data.length : Int) ≤ M62
  acks : f.acks.length ≤ 1000000
def putL (l : List Fr) : List Int := l.flatMap putF
theorem putL_cons (f : Fr) (l : List Fr) : putL (f :: l) = putF f ++ putL l := by simp [putL]
theorem enc_ne {k : Int} (h0 : 0 ≤ k) (h1 : k ≤ M62) : enc k ≠ [] := fun e => by
  have h := tk_reads k h0 h1 []
  rw [e] at h
  cases h
theorem enc_head {k : Int} (h0 : 0 < k) (h1 : k ≤ M62) (r : List Int) : (enc k ++ r).head? ≠ some 0 := fun e => by
  have h := tk_reads k (by omega) h1 r
  cases hq : enc k ++ r with
  | nil => rw [hq] at e; cases e
  | cons x t =>
    rw [hq] at e h
    simp only [List.head?_cons, Option.some.injEq] at e
    subst e
    have h2 : tk ((0 : Int) :: t) = some (0, t) := by
      simp [tk, takeF]
    rw [h2] at h
    simp only [Option.some.injEq, Prod.mk.injEq] at h
    omega
theorem putF_ne (f : Fr) (h : mayF f = true) : putF f ≠ [] := by
  by_cases h0 : f.kind = 0
  · obtain ⟨_, hn, _, hko⟩ := may_parts h
    have hb : 1 ≤ f.n ∧ f.n ≤ 65536 := by
      unfold kindOk at hko
      rw [if_pos h0] at hko
      simpa using hko
    unfold putF
    rw [if_pos h0]
    intro e
    have := congrArg List.length e
    simp at this
    omega
  · obtain ⟨body, hp, hb0, hb1, hb2, _⟩ := putF_head f h h0
    rw [hp]
    intro e
    exact enc_ne hb0 (by simp only [M62]; omega) (List.append_eq_nil_iff.1 e).1
theorem putF_nz (f : Fr) (h : mayF f = true) (h0 : f.kind ≠ 0) (r : List Int) : (putF f ++ r).head? ≠ some 0 := by
  obtain ⟨body, hp, hb0, hb1, hb2, _⟩ := putF_head f h h0
  rw [hp, List.append_assoc]
  exact enc_head (by omega) (by simp only [M62]; omega) _
/-- No padding follows a padding. -/
def apart : List Fr → Bool
  | [] => true
  | [_] => true
  | f :: g :: r => !(decide (f.kind = 0) && decide (g.kind = 0)) && apart (g :: r)
theorem readF_puts (f : Fr) (l : List Fr) (h : Put f) (hl : ∀ g ∈ l, Put g) (ha : apart (f :: l) = true) : readF (putF f ++ putL l) = some (f, putL l) := by
  by_cases h0 : f.kind = 0
  · refine readF_pad f h.may h0 _ ?_
    cases l with
    | nil => simp [putL]
    | cons g r =>
      rw [putL_cons]
      have hg : g.kind ≠ 0 := fun e => by simp [apart, h0, e] at ha
      exact putF_nz g (hl g (List.mem_cons_self ..)).may hg _
  · exact readF_put f h.ok h.may h0 h.data h.acks _
theorem apart_tail {f : Fr} {l : List Fr} (h : apart (f :: l) = true) : apart l = true := by
  cases l with
  | nil => rfl
  | cons g r => simp only [apart, Bool.and_eq_true] at h; exact h.2
theorem listG_put : ∀ (l : List Fr) (n : Nat) (acc : List Fr), (∀ g ∈ l, Put g) → apart l = true → (putL l).length ≤ n → listG n (putL l) acc = some (acc ++ l)
  | [], n, acc, _, _, _ => by simp [putL, listG]
  | f :: l, n, acc, h, ha, hn => by
    have hf := h f (List.mem_cons_self ..)
    have hl := fun g hg => h g (List.mem_cons_of_mem _ hg)
    have hr := readF_puts f l hf hl ha
    rw [putL_cons] at hn ⊢
    have hne := putF_ne f hf.may
    cases hq : putF f with
    | nil => exact absurd hq hne
    | cons x t =>
      rw [hq] at hr hn
      rw [List.cons_append] at hr ⊢
      simp only [List.cons_append, List.length_cons, List.length_append] at hn
      cases n with
      | zero => omega
      | succ n =>
        rw [listG, hr]
        simp only
        rw [listG_put l n (acc ++ [f]) hl (apart_tail ha) (by omega)]
        simp
theorem listF_put (l : List Fr) (h : ∀ g ∈ l, Put g) (ha : apart l = true) (hne : l ≠ []) : listF (putL l) = some l := by
  have h1 : putL l ≠ [] := by
    cases l with
    | nil => exact absurd rfl hne
    | cons f r =>
      rw [putL_cons]
      intro e
      exact putF_ne f (h f (List.mem_cons_self ..)).may (List.append_eq_nil_iff.1 e).1
  unfold listF
  rw [if_neg h1, listG_put l _ [] h ha (Nat.le_refl _)]
  rfl
/-! ### Paddings that follow one another -/
/-- One frame more, a padding behind a padding as one with it. -/
def addJ (out : List Fr) (f : Fr) : List Fr := match out.getLast? with
  | none => [f]
  | some g => if f.kind = 0 ∧ g.kind = 0 then out.dropLast ++ [{ g with n := g.n + f.n }] else out ++ [f]
def joined (l : List Fr) : List Fr := l.foldl addJ []
def fitsJ (l : List Fr) : Bool := l.all fun f => !decide (f.kind = 0) || decide (f.n ≤ 65536)
theorem addJ_nil (f : Fr) : addJ [] f = [f] := rfl
theorem addJ_snoc (o : List Fr) (g f : Fr) : addJ (o ++ [g]) f = if f.kind = 0 ∧ g.kind = 0 then o ++ [{ g with n := g.n + f.n }] else o ++ [g] ++ [f] := by
  unfold addJ
  simp
theorem apart_kinds : ∀ (a b : List Fr), a.map (·.kind) = b.map (·.kind) → apart a = apart b
  | [], [], _ => rfl
  | [], _ :: _, h => by simp at h
  | _ :: _, [], h => by simp at h
  | [x], [y], _ => rfl
  | [x], _ :: _ :: _, h => by simp at h
  | _ :: _ :: _, [y], h => by simp at h
  | x :: x2 :: a, y :: y2 :: b, h => by
    simp only [List.map_cons, List.cons.injEq] at h
    obtain ⟨h1, h2, h3⟩ := h
    have ih := apart_kinds (x2 :: a) (y2 :: b) (by simp [h2, h3])
    simp only [apart, h1, h2, ih]
theorem apart_snoc : ∀ (o : List Fr) (g f : Fr), apart (o ++ [g]) = true → ¬ (f.kind = 0 ∧ g.kind = 0) → apart (o ++ [g] ++ [f]) = true
  | [], g, f, _, h => by
    simp only [List.nil_append, List.cons_append, apart, Bool.and_true, Bool.not_eq_true', Bool.and_eq_false_iff, decide_eq_false_iff_not]
    by_cases hg : g.kind = 0
    · exact .inr fun hf => h ⟨hf, hg⟩
    · exact .inl hg
  | [x], g, f, h1, h => by
    have ih := apart_snoc [] g f (by rfl) h
    simp only [List.nil_append, List.cons_append, apart, Bool.and_true] at h1 ih ⊢
    rw [h1, ih]; rfl
  | x :: y :: o, g, f, h1, h => by
    simp only [List.cons_append, apart, Bool.and_eq_true] at h1 ⊢
    exact ⟨h1.1, apart_snoc (y :: o) g f h1.2 h⟩
theorem pad_may {f : Fr} (hk : f.kind = 0) (h : mayF f = true) (n : Int) (h1 : 1 ≤ n) (h2 : n ≤ 65536) : mayF { f with n := n } = true := by
  obtain ⟨h3, h4, h5, h6⟩ := may_parts h
  have e := form_0 f hk h4
  rw [e]
  simp [mayF, isFr, nothing, bareF, fr0, smallOk, kindOk, hId, hOff, hMax, hCode, hN, hFin, hData, hCid, hAck, hEcn, M62, h1, h2]
theorem putF_pad {f : Fr} (hk : f.kind = 0) : putF f = List.replicate f.n.toNat 0 := by unfold putF; rw [if_pos hk]
theorem pad_n {f : Fr} (hk : f.kind = 0) (h : mayF f = true) : 1 ≤ f.n ∧ f.n ≤ 65536 := by
  obtain ⟨_, _, _, hko⟩ := may_parts h
  unfold kindOk at hko
  rw [if_pos hk] at hko
  simpa using hko
/-- It may be, but for how long a padding is. -/
structure PutJ (f : Fr) : Prop where
  ok : FrOk { f with n := 0 }
  may : mayF { f with n := if f.kind = 0 then 1 else f.n } = true
  pos : f.kind = 0 → 1 ≤ f.n
  zero : f.kind ≠ 0 → f.n = 0
  data : (f.data.length : Int) ≤ M62
  acks : f.acks.length ≤ 1000000
theorem PutJ.of {f : Fr} (h : Put f) : PutJ f := by
  obtain ⟨h1, h2, h3, h4⟩ := h
  refine ⟨⟨h1.kind, h1.id, h1.off, h1.max, h1.code, ⟨by simp, by simp⟩, h1.data, h1.cid, h1.tok, h1.tok16, h1.acks, h1.delay, h1.e0, h1.e1, h1.e2⟩, ?_, fun hk => (pad_n hk h2).1, fun hk => ?_, h3, h4⟩
  · by_cases hk : f.kind = 0
    · rw [if_pos hk]; exact pad_may hk h2 1 (by omega) (by omega)
    · rw [if_neg hk]; exact h2
  · obtain ⟨_, hn, _, _⟩ := may_parts h2
    simp only [nothing, Bool.and_eq_true, decide_eq_true_eq] at hn
    have h5 : (bareF f).n = 0 := hn.1.1.1.1.1.2
    have h6 : hN f.kind = false := by
      unfold hN
      simp only [List.contains_cons, List.contains_nil, Bool.or_false, beq_eq_false_iff_ne]
      exact hk
    simpa [bareF, h6] using h5
theorem PutJ.put {f : Fr} (h : PutJ f) (hn : f.kind = 0 → f.n ≤ 65536) : Put f := by
  obtain ⟨h1, h2, h3, h4, h5, h6⟩ := h
  by_cases hk : f.kind = 0
  · have hb := h3 hk
    have hb2 := hn hk
    rw [if_pos hk] at h2
    have h7 := pad_may (f := { f with n := 1 }) hk h2 f.n hb hb2
    refine ⟨⟨h1.kind, h1.id, h1.off, h1.max, h1.code, ⟨by omega, by omega⟩, h1.data, h1.cid, h1.tok, h1.tok16, h1.acks, h1.delay, h1.e0, h1.e1, h1.e2⟩, h7, h5, h6⟩
  · rw [if_neg hk] at h2
    have hz := h4 hk
    refine ⟨⟨h1.kind, h1.id, h1.off, h1.max, h1.code, by rw [hz]; exact ⟨by simp, by simp⟩, h1.data, h1.cid, h1.tok, h1.tok16, h1.acks, h1.delay, h1.e0, h1.e1, h1.e2⟩, h2, h5, h6⟩
theorem putL_app (a b : List Fr) : putL (a ++ b) = putL a ++ putL b := by simp [putL]
theorem addJ_ok (out : List Fr) (f : Fr) (h1 : ∀ g ∈ out, PutJ g) (h2 : PutJ f) (h3 : apart out = true) :
    (∀ g ∈ addJ out f, PutJ g) ∧ apart (addJ out f) = true ∧ putL (addJ out f) = putL out ++ putF f ∧ addJ out f ≠ [] := by
  rcases List.eq_nil_or_concat out with rfl | ⟨o, g, rfl⟩
  · rw [addJ_nil]
    exact ⟨fun x hx => by rw [List.mem_singleton] at hx; subst hx; exact h2, rfl, by simp [putL], by simp⟩
  · rw [List.concat_eq_append] at h1 h3 ⊢
    rw [addJ_snoc]
    by_cases hk : f.kind = 0 ∧ g.kind = 0
    · rw [if_pos hk]
      have hg := h1 g (by simp)
      have hgp := hg.pos hk.2
      have hfp := h2.pos hk.1
      refine ⟨fun x hx => ?_, ?_, ?_, by simp⟩
      · rcases List.mem_append.1 hx with hx | hx
        · exact h1 x (by simp [hx])
        · rw [List.mem_singleton] at hx
          subst hx
          refine ⟨hg.ok, ?_, fun _ => by show 1 ≤ g.n + f.n; omega, fun e => absurd hk.2 e, hg.data, hg.acks⟩
          have := hg.may
          rw [if_pos hk.2] at this
          show mayF { g with n := if g.kind = 0 then 1 else _ } = true
          rw [if_pos hk.2]; exact this
      · rw [← h3]
        exact apart_kinds _ _ (by simp)
      · rw [putL_app, putL_app]
        simp only [putL, List.flatMap_cons, List.flatMap_nil, List.append_nil]
        rw [putF_pad hk.1, putF_pad hk.2, putF_pad (f := { g with n := g.n + f.n }) hk.2, List.append_assoc, List.replicate_append_replicate]
        rw [show (g.n + f.n).toNat = g.n.toNat + f.n.toNat by omega]
    · rw [if_neg hk]
      refine ⟨fun x hx => ?_, apart_snoc o g f h3 hk, by rw [putL_app]; simp [putL], by simp⟩
      rcases List.mem_append.1 hx with hx | hx
      · exact h1 x hx
      · rw [List.mem_singleton] at hx; subst hx; exact h2
theorem joinedG_ok : ∀ (l out : List Fr), (∀ g ∈ out, PutJ g) → (∀ g ∈ l, PutJ g) → apart out = true →
    (∀ g ∈ l.foldl addJ out, PutJ g) ∧ apart (l.foldl addJ out) = true ∧ putL (l.foldl addJ out) = putL out ++ putL l ∧ (l ≠ [] ∨ out ≠ [] → l.foldl addJ out ≠ [])
  | [], out, h1, _, h3 => ⟨h1, h3, by simp [putL], fun h => by
    rcases h with h | h
    · exact absurd rfl h
    · exact h⟩
  | f :: l, out, h1, h2, h3 => by
    obtain ⟨g1, g2, g3, g4⟩ := addJ_ok out f h1 (h2 f (List.mem_cons_self ..)) h3
    obtain ⟨k1, k2, k3, k4⟩ := joinedG_ok l (addJ out f) g1 (fun g hg => h2 g (List.mem_cons_of_mem _ hg)) g2
    rw [List.foldl_cons]
    exact ⟨k1, k2, by rw [k3, g3, putL_cons, List.append_assoc], fun _ => k4 (.inr g4)⟩
/-- What was put is listed as it was, paddings that follow one another as one. -/
theorem listF_joined (l : List Fr) (h : ∀ g ∈ l, Put g) (hne : l ≠ []) (hf : fitsJ (joined l) = true) : listF (putL l) = some (joined l) := by
  obtain ⟨h1, h2, h3, h4⟩ := joinedG_ok l [] (by simp) (fun g hg => PutJ.of (h g hg)) rfl
  have h3' : putL (joined l) = putL l := by rw [joined, h3]; simp [putL]
  rw [← h3']
  refine listF_put (joined l) (fun g hg => (h1 g hg).put fun hk => ?_) h2 (h4 (.inl hne))
  have := List.all_eq_true.1 hf g hg
  simpa [hk] using this
end Frm
end Go.Proofs.Ytcpjehgoeibbeaa

/- Frames in plain Lean: what is read may be, and is read the same when it is put again. -/
namespace Go.Proofs.Ytcpjehgoeibbeaa
set_option linter.unusedVariables false
namespace Frm
open Var
def Bys (b : List Int) : Prop := ∀ y ∈ b, Byte y
/-- Of bytes it leaves bytes, at least n of them being gone, and what it yields is so. -/
def Gives {α : Type} (F : Rd α) (Q : α → Nat → Prop) : Prop := ∀ b x r, F b = some (x, r) → Bys b → Bys r ∧ ∃ n, r.length + n ≤ b.length ∧ Q x n
theorem Gives.bind {α β : Type} {F : Rd α} {G : α → Rd β} {Q : α → Nat → Prop} {R : β → Nat → Prop} (h : Gives F Q) (h2 : ∀ x n, Q x n → Gives (G x) (fun y m => R y (n + m))) : Gives (rb F G) R := fun b y r hy hb => by
  unfold rb at hy
  cases hf : F b with
  | none => rw [hf] at hy; cases hy
  | some p =>
    obtain ⟨x, q⟩ := p
    rw [hf] at hy
    obtain ⟨h3, n, h4, h5⟩ := h b x q hf hb
    obtain ⟨h6, m, h7, h8⟩ := h2 x n h5 q y r hy h3
    exact ⟨h6, n + m, by omega, h8⟩
theorem Gives.pure {α : Type} {x : α} {Q : α → Nat → Prop} (h : Q x 0) : Gives (rp x) Q := fun b y r hy hb => by
  simp only [rp, Option.some.injEq, Prod.mk.injEq] at hy
  obtain ⟨rfl, rfl⟩ := hy
  exact ⟨hb, 0, by omega, h⟩
theorem Gives.no {α : Type} {Q : α → Nat → Prop} : Gives (rno : Rd α) Q := fun b y r hy hb => by cases hy
theorem Gives.mono {α : Type} {F : Rd α} {Q R : α → Nat → Prop} (h : Gives F Q) (h2 : ∀ x n, Q x n → R x n) : Gives F R := fun b x r hx hb => by
  obtain ⟨h3, n, h4, h5⟩ := h b x r hx hb
  exact ⟨h3, n, h4, h2 x n h5⟩
theorem tk_gives : Gives tk (fun x n => 0 ≤ x ∧ x ≤ M62 ∧ n = sizeF x) := fun b x r h hb => by
  obtain ⟨u, h1, rfl⟩ := tk_some h
  cases b with
  | nil => cases h1
  | cons y t =>
    have hy := hb y (List.mem_cons_self ..)
    obtain ⟨h2, h3, h4, h5, h6, _⟩ := take_bd y t hy (fun z hz => hb z (List.mem_cons_of_mem _ hz)) x u h1
    refine ⟨fun z hz => hb z (List.mem_of_mem_drop hz), sizeF x, ?_, h4, h5, rfl⟩
    simp only [List.length_drop, List.length_cons]
    omega
theorem someB_gives (k : Int) (hk : 0 ≤ k) : Gives (someB k) (fun l n => (l.length : Int) = k ∧ n = l.length ∧ Bys l) := fun b l r h hb => by
  unfold someB at h
  split at h
  · simp only [Option.some.injEq, Prod.mk.injEq] at h
    obtain ⟨rfl, rfl⟩ := h
    refine ⟨fun z hz => hb z (List.mem_of_mem_drop hz), (b.take k.toNat).length, ?_, ?_, rfl, fun z hz => hb z (List.mem_of_mem_take hz)⟩
    · simp only [List.length_drop, List.length_take]; omega
    · simp only [List.length_take]; omega
  · cases h
theorem szd_gives : Gives szd (fun l n => n = (sizedB l).length ∧ (l.length : Int) ≤ M62 ∧ Bys l ∧ l.length ≤ n) :=
  tk_gives.bind fun x n hx => (someB_gives x hx.1).mono fun l m hl => by
    refine ⟨?_, by rw [hl.1]; exact hx.2.1, hl.2.2, by omega⟩
    unfold sizedB
    rw [List.length_append, enc_length _ (by omega), hl.1, hx.2.2, hl.2.1]
theorem ackG_gives : ∀ (k : Nat) (acc : List (Int × Int)), (∀ r ∈ acc, U64 r.1 ∧ U64 r.2) → (∀ x, acc.head? = some x → x.1 ≤ M62) →
    Gives (ackG k acc) (fun l n => ∃ l', l = l' ++ acc ∧ l'.length = k ∧ (∀ r ∈ l, U64 r.1 ∧ U64 r.2) ∧ (∀ x t, acc = x :: t → n = (gapsB x.1 l'.reverse).length) ∧ l'.length ≤ n)
  | 0, acc, h, _ => Gives.pure ⟨[], rfl, rfl, h, fun x t _ => rfl, by simp⟩
  | k + 1, acc, h, hh => by
    rw [ackG]
    refine tk_gives.bind fun gap n1 h1 => tk_gives.bind fun less n2 h2 => ?_
    cases acc with
    | nil => exact Gives.no
    | cons a r =>
      obtain ⟨above, t⟩ := a
      simp only
      by_cases hc : 2 ≤ above ∧ gap ≤ above - 2 ∧ less ≤ above - 2 - gap
      · rw [if_pos hc]
        have ha := h (above, t) (List.mem_cons_self ..)
        have hm := hh (above, t) rfl
        unfold U64 at ha
        simp only [M62] at *
        refine (ackG_gives k _ (fun x hx => ?_) (fun x hx => ?_)).mono fun l n hl => ?_
        · rcases List.mem_cons.1 hx with rfl | hx
          · unfold U64; simp only; omega
          · exact h x hx
        · simp only [List.head?_cons, Option.some.injEq] at hx
          subst hx
          simp only [M62]; omega
        · obtain ⟨l', e1, e2, e3, e4, e5⟩ := hl
          have h4 := e4 _ _ rfl
          have s1 : 1 ≤ sizeF gap := by
            have := enc_ne (k := gap) h1.1 (by simp only [M62]; omega)
            rw [← enc_length gap h1.1]
            exact List.length_pos_iff.2 this
          refine ⟨l' ++ [(above - 2 - gap - less, above - 1 - gap)], by rw [e1]; simp, by simp [e2], e3, fun x u he => ?_, by simp; omega⟩
          simp only [List.cons.injEq] at he
          obtain ⟨rfl, _⟩ := he
          simp only [List.reverse_append, List.reverse_singleton, List.singleton_append, gapsB, List.length_append]
          rw [show above - (above - 1 - gap) - 1 = gap by omega, show above - 1 - gap - (above - 2 - gap - less) - 1 = less by omega, enc_length gap h1.1, enc_length less h2.1, h4, h1.2.2, h2.2.2]
          simp only
          omega
      · rw [if_neg hc]; exact Gives.no
/-- A stream that tells no length. -/
def unl (k : Int) : Prop := 8 ≤ k ∧ k < 16 ∧ (k - 8) / 2 % 2 = 0
instance (k : Int) : Decidable (unl k) := by unfold unl; exact inferInstance
/-- What is read behind a kind. -/
structure Res (k : Int) (f : Fr) (n : Nat) : Prop where
  ok : FrOk f
  len : (putF f).length ≤ sizeF k + n + (if unl k then 8 else 0)
  data : f.data.length ≤ n
  acks : f.acks.length ≤ n + 1
  kind : f.kind = 0 ↔ k = 0
theorem u64_of {x : Int} (h : 0 ≤ x ∧ x ≤ M62) : U64 x := by unfold U64; simp only [M62] at h; omega
theorem tok0_byte : ∀ x ∈ tok0, Byte x := by
  intro x hx
  unfold tok0 at hx
  obtain ⟨_, rfl⟩ := List.mem_replicate.1 hx
  unfold Byte; omega
theorem fr0_ok (k : Int) (h : 0 ≤ k ∧ k ≤ 30) : FrOk (fr0 k) := by
  have z : U64 0 := by unfold U64; omega
  exact ⟨by unfold U64; simp only [fr0]; omega, z, z, z, z, z, by simp [fr0], by simp [fr0], tok0_byte, rfl, by simp [fr0], z, z, z, z⟩
theorem readPad_gives : Gives readPad (Res 0) := fun b f r h hb => by
  simp only [readPad, Option.some.injEq, Prod.mk.injEq] at h
  obtain ⟨rfl, rfl⟩ := h
  have hz : zeros b ≤ b.length := (List.takeWhile_sublist _).length_le
  refine ⟨fun y hy => hb y (List.mem_of_mem_drop hy), min (zeros b) 65535, by rw [List.length_drop]; omega, ?_⟩
  have h0 := fr0_ok 0 (by omega)
  refine ⟨⟨h0.kind, h0.id, h0.off, h0.max, h0.code, by unfold U64; simp only; omega, h0.data, h0.cid, h0.tok, h0.tok16, h0.acks, h0.delay, h0.e0, h0.e1, h0.e2⟩, ?_, by simp [fr0], by simp [fr0], by simp [fr0]⟩
  rw [putF_pad rfl, List.length_replicate]
  have : sizeF 0 = 1 := rfl
  rw [this]
  simp only
  omega
theorem readAck_gives (k : Int) (hk : k = 2 ∨ k = 3) : Gives (readAck k) (Res k) := by
  unfold readAck
  refine tk_gives.bind fun top n1 h1 => tk_gives.bind fun dl n2 h2 => tk_gives.bind fun more n3 h3 => tk_gives.bind fun less n4 h4 => ?_
  by_cases hc : less ≤ top
  · rw [if_pos hc]
    have hM : M62 = 4611686018427387903 := rfl
    refine (ackG_gives more.toNat [(top - less, top + 1)] (fun r hr => ?_) (fun x hx => ?_)).bind fun l n5 h5 => ?_
    · rw [List.mem_singleton] at hr; subst hr; unfold U64; simp only; omega
    · simp only [List.head?_cons, Option.some.injEq] at hx; subst hx; simp only; omega
    · obtain ⟨l', e1, e2, e3, e4, e5⟩ := h5
      have h6 := e4 _ _ rfl
      have hkk : 0 ≤ k ∧ k ≤ 30 := by omega
      have h0 := fr0_ok k hkk
      have hB : ∀ f : Fr, f.acks = l → f.delay = dl → (acksB f).length = n1 + n2 + n3 + n4 + n5 := by
        intro f hf hd
        unfold acksB
        rw [hf, e1, List.reverse_append, List.reverse_singleton, List.singleton_append]
        simp only [List.length_append, List.length_reverse]
        rw [hd, show top + 1 - 1 = top by omega, show top + 1 - (top - less) - 1 = less by omega, e2, enc_length top h1.1, enc_length dl h2.1, enc_length less h4.1, show ((more.toNat : Nat) : Int) = more by omega, enc_length more h3.1, h1.2.2, h2.2.2, h3.2.2, h4.2.2, h6]
      have hll : l.length ≤ n5 + 1 := by rw [e1]; simp; omega
      have hnu : ¬ unl k := by unfold unl; omega
      by_cases h3k : k = 3
      · rw [if_pos h3k]
        subst h3k
        refine tk_gives.bind fun x m1 g1 => tk_gives.bind fun y m2 g2 => tk_gives.bind fun z m3 g3 => Gives.pure ?_
        refine ⟨⟨h0.kind, h0.id, h0.off, h0.max, h0.code, h0.n, h0.data, h0.cid, h0.tok, h0.tok16, e3, u64_of ⟨h2.1, h2.2.1⟩, u64_of ⟨g1.1, g1.2.1⟩, u64_of ⟨g2.1, g2.2.1⟩, u64_of ⟨g3.1, g3.2.1⟩⟩, ?_, by simp [fr0], by simp only; omega, by simp [fr0]⟩
        rw [if_neg hnu]
        unfold putF
        rw [if_neg (by simp [fr0]), if_neg (by simp [fr0]), if_pos (by simp [fr0])]
        simp only [List.length_append]
        rw [hB _ rfl rfl, enc_length _ (by omega), enc_length x g1.1, enc_length y g2.1, enc_length z g3.1, ← g1.2.2, ← g2.2.2, ← g3.2.2]
        omega
      · rw [if_neg h3k]
        obtain rfl : k = 2 := by omega
        refine Gives.pure ?_
        refine ⟨⟨h0.kind, h0.id, h0.off, h0.max, h0.code, h0.n, h0.data, h0.cid, h0.tok, h0.tok16, e3, u64_of ⟨h2.1, h2.2.1⟩, h0.e0, h0.e1, h0.e2⟩, ?_, by simp [fr0], by simp only; omega, by simp [fr0]⟩
        rw [if_neg hnu]
        unfold putF
        rw [if_neg (by simp [fr0]), if_pos (by simp [fr0])]
        simp only [List.length_append]
        rw [hB _ rfl rfl, enc_length _ (by omega)]
        omega
  · rw [if_neg hc]; exact Gives.no
theorem size_le8 (n : Int) : sizeF n ≤ 8 := by
  unfold sizeF
  have : classF n ≤ 4 := by
    unfold classF
    repeat' split
    all_goals omega
  split
  · rename_i h
    have h2 : classF n = 0 ∨ classF n = 1 ∨ classF n = 2 ∨ classF n = 3 := by omega
    rcases h2 with h2 | h2 | h2 | h2 <;> rw [h2] <;> decide
  · omega
theorem readAll_gives : Gives readAll (fun l n => n = l.length ∧ Bys l) := fun b l r h hb => by
  simp only [readAll, Option.some.injEq, Prod.mk.injEq] at h
  obtain ⟨rfl, rfl⟩ := h
  exact ⟨fun y hy => (by cases hy), b.length, by simp, rfl, hb⟩
theorem readStream_gives (k : Int) (hk : 8 ≤ k ∧ k < 16) : Gives (readStream (k - 8)) (Res k) := by
  have hsz : sizeF k = 1 := by
    unfold sizeF
    rw [show classF k = 0 by unfold classF; rw [if_pos (by omega)]]; rfl
  have h0 := fr0_ok 8 (by omega)
  have fin : ∀ (id off : Int) (b : Bool) (d : List Int) (n1 n2 n3 : Nat), 0 ≤ id ∧ id ≤ M62 ∧ n1 = sizeF id → 0 ≤ off ∧ off ≤ M62 ∧ (off > 0 → n2 = sizeF off) → Bys d → d.length ≤ n3 → (sizedB d).length ≤ n3 + (if unl k then 8 else 0) →
      Res k { fr0 8 with id := id, off := off, fin := b, data := d } (n1 + (n2 + n3)) := by
    intro id off b d n1 n2 n3 h1 h2 h3 h4 h5
    refine ⟨⟨h0.kind, u64_of ⟨h1.1, h1.2.1⟩, u64_of ⟨h2.1, h2.2.1⟩, h0.max, h0.code, h0.n, h3, h0.cid, h0.tok, h0.tok16, h0.acks, h0.delay, h0.e0, h0.e1, h0.e2⟩, ?_, by simp only; omega, by simp [fr0], ?_⟩
    · have hp : putF { fr0 8 with id := id, off := off, fin := b, data := d } = enc (10 + (if b then 1 else 0) + (if off > 0 then 4 else 0)) ++ enc id ++ (if off > 0 then enc off else []) ++ sizedB d := by
        unfold putF
        simp [fr0]
      have hs : ∀ x : Int, 10 ≤ x ∧ x ≤ 15 → (enc x).length = 1 := by
        intro x hx
        rw [enc_length x (by omega)]
        unfold sizeF
        rw [show classF x = 0 by unfold classF; rw [if_pos (by omega)]]; rfl
      rw [hp]
      simp only [List.length_append]
      rw [hs _ (by cases b <;> by_cases ho : off > 0 <;> simp [ho]), hsz, enc_length id h1.1]
      by_cases ho : off > 0
      · rw [if_pos ho, enc_length off h2.1]
        have := h2.2.2 ho
        omega
      · rw [if_neg ho]
        simp only [List.length_nil]
        omega
    · simp only [fr0]
      omega
  unfold readStream
  refine tk_gives.bind fun id n1 h1 => ?_
  have hoff : Gives (if 4 ≤ k - 8 then tk else rp 0) (fun off n => 0 ≤ off ∧ off ≤ M62 ∧ (off > 0 → n = sizeF off)) := by
    split
    · exact tk_gives.mono fun x n h => ⟨h.1, h.2.1, fun _ => h.2.2⟩
    · exact Gives.pure ⟨by omega, by simp only [M62]; omega, fun h => by omega⟩
  refine hoff.bind fun off n2 h2 => ?_
  by_cases hu : (k - 8) / 2 % 2 = 0
  · rw [if_pos hu]
    have hul : unl k := ⟨hk.1, hk.2, hu⟩
    refine readAll_gives.bind fun d n3 h3 => Gives.pure ?_
    have := fin id off (decide ((k - 8) % 2 = 1)) d n1 n2 n3 h1 h2 h3.2 (by omega) (by
      rw [if_pos hul]
      unfold sizedB
      rw [List.length_append, enc_length _ (by omega)]
      have := size_le8 (d.length : Int)
      omega)
    simpa using this
  · rw [if_neg hu]
    have hul : ¬ unl k := fun h => hu h.2.2
    refine szd_gives.bind fun d n3 h3 => Gives.pure ?_
    have := fin id off (decide ((k - 8) % 2 = 1)) d n1 n2 n3 h1 h2 h3.2.2.1 h3.2.2.2 (by rw [if_neg hul]; omega)
    simpa using this
theorem rb_some {α β : Type} {F : Rd α} {G : α → Rd β} {b r : List Int} {y : β} (h : rb F G b = some (y, r)) : ∃ x q, F b = some (x, q) ∧ G x q = some (y, r) := by
  unfold rb at h
  cases hf : F b with
  | none => rw [hf] at h; cases h
  | some p => rw [hf] at h; exact ⟨p.1, p.2, rfl, h⟩
theorem readStream_end (k : Int) (hu : unl k) : ∀ b f r, readStream (k - 8) b = some (f, r) → r = [] := by
  intro b f r h
  unfold readStream at h
  rw [if_pos hu.2.2] at h
  obtain ⟨id, q1, _, h⟩ := rb_some h
  obtain ⟨off, q2, _, h⟩ := rb_some h
  obtain ⟨d, q3, h3, h⟩ := rb_some h
  simp only [readAll, Option.some.injEq, Prod.mk.injEq] at h3
  simp only [rp, Option.some.injEq, Prod.mk.injEq] at h
  rw [← h.2, ← h3.2]
theorem Res.of {k : Int} {f : Fr} {n : Nat} (ok : FrOk f) (hk : f.kind = k) (hl : (putF f).length ≤ sizeF k + n) (hd : f.data.length ≤ n) (ha : f.acks.length ≤ n + 1) : Res k f n :=
  ⟨ok, by split <;> omega, hd, ha, by rw [hk]⟩
theorem len_1 (k : Int) (f : Fr) (body : List Int) (h0 : 0 ≤ k) (h : putF f = enc k ++ body) : (putF f).length = sizeF k + body.length := by
  rw [h, List.length_append, enc_length k h0]
theorem readK_gives (k : Int) (hk : 0 ≤ k) : Gives (readK k) (Res k) := by
  by_cases h30 : 30 < k
  · unfold readK
    rw [if_neg (by omega), if_neg (by omega), if_neg (by omega), if_neg (by omega), if_neg (by omega), if_neg (by omega), if_neg (by omega), if_neg (by omega), if_neg (by omega), if_neg (by omega), if_neg (by omega), if_neg (by omega), if_neg (by omega), if_neg (by omega), if_neg (by omega)]
    exact Gives.no
  have h0 := fr0_ok k ⟨hk, by omega⟩
  unfold readK
  by_cases c0 : k = 0
  · rw [if_pos c0]; subst c0; exact readPad_gives
  rw [if_neg c0]
  by_cases c1 : k = 1 ∨ k = 30
  · rw [if_pos c1]
    refine Gives.pure (Res.of h0 rfl ?_ (by simp [fr0]) (by simp [fr0]))
    rw [len_1 k (fr0 k) [] hk (by unfold putF; rcases c1 with rfl | rfl <;> simp [fr0])]
    simp
  rw [if_neg c1]
  by_cases c2 : k = 2 ∨ k = 3
  · rw [if_pos c2]; exact readAck_gives k c2
  rw [if_neg c2]
  by_cases c4 : k = 4
  · rw [if_pos c4]
    subst c4
    refine tk_gives.bind fun i n1 h1 => tk_gives.bind fun c n2 h2 => tk_gives.bind fun m n3 h3 => Gives.pure (Res.of ⟨h0.kind, u64_of ⟨h1.1, h1.2.1⟩, h0.off, u64_of ⟨h3.1, h3.2.1⟩, u64_of ⟨h2.1, h2.2.1⟩, h0.n, h0.data, h0.cid, h0.tok, h0.tok16, h0.acks, h0.delay, h0.e0, h0.e1, h0.e2⟩ rfl ?_ (by simp [fr0]) (by simp [fr0]))
    rw [len_1 4 _ (enc i ++ (enc c ++ enc m)) hk (by unfold putF; simp [fr0])]
    simp only [List.length_append]
    rw [enc_length i h1.1, enc_length c h2.1, enc_length m h3.1]; omega
  rw [if_neg c4]
  by_cases c5 : k = 5
  · rw [if_pos c5]
    subst c5
    refine tk_gives.bind fun i n1 h1 => tk_gives.bind fun c n2 h2 => Gives.pure (Res.of ⟨h0.kind, u64_of ⟨h1.1, h1.2.1⟩, h0.off, h0.max, u64_of ⟨h2.1, h2.2.1⟩, h0.n, h0.data, h0.cid, h0.tok, h0.tok16, h0.acks, h0.delay, h0.e0, h0.e1, h0.e2⟩ rfl ?_ (by simp [fr0]) (by simp [fr0]))
    rw [len_1 5 _ (enc i ++ enc c) hk (by unfold putF; simp [fr0])]
    simp only [List.length_append]
    rw [enc_length i h1.1, enc_length c h2.1]; omega
  rw [if_neg c5]
  by_cases c6 : k = 6
  · rw [if_pos c6]
    subst c6
    refine tk_gives.bind fun o n1 h1 => szd_gives.bind fun d n2 h2 => Gives.pure (Res.of ⟨h0.kind, h0.id, u64_of ⟨h1.1, h1.2.1⟩, h0.max, h0.code, h0.n, h2.2.2.1, h0.cid, h0.tok, h0.tok16, h0.acks, h0.delay, h0.e0, h0.e1, h0.e2⟩ rfl ?_ (by simp only; omega) (by simp [fr0]))
    rw [len_1 6 _ (enc o ++ sizedB d) hk (by unfold putF; simp [fr0])]
    simp only [List.length_append]
    rw [enc_length o h1.1]; omega
  rw [if_neg c6]
  by_cases c7 : k = 7
  · rw [if_pos c7]
    subst c7
    refine szd_gives.bind fun d n2 h2 => Gives.pure (Res.of ⟨h0.kind, h0.id, h0.off, h0.max, h0.code, h0.n, h2.2.2.1, h0.cid, h0.tok, h0.tok16, h0.acks, h0.delay, h0.e0, h0.e1, h0.e2⟩ rfl ?_ (by simp only; omega) (by simp [fr0]))
    rw [len_1 7 _ (sizedB d) hk (by unfold putF; simp [fr0])]
    omega
  rw [if_neg c7]
  by_cases c8 : 8 ≤ k ∧ k < 16
  · rw [if_pos c8]; exact readStream_gives k c8
  rw [if_neg c8]
  by_cases c17 : k = 17 ∨ k = 21
  · rw [if_pos c17]
    refine tk_gives.bind fun i n1 h1 => tk_gives.bind fun m n2 h2 => Gives.pure (Res.of ⟨h0.kind, u64_of ⟨h1.1, h1.2.1⟩, h0.off, u64_of ⟨h2.1, h2.2.1⟩, h0.code, h0.n, h0.data, h0.cid, h0.tok, h0.tok16, h0.acks, h0.delay, h0.e0, h0.e1, h0.e2⟩ rfl ?_ (by simp [fr0]) (by simp [fr0]))
    rw [len_1 k _ (enc i ++ enc m) hk (by unfold putF; rcases c17 with rfl | rfl <;> simp [fr0])]
    simp only [List.length_append]
    rw [enc_length i h1.1, enc_length m h2.1]; omega
  rw [if_neg c17]
  by_cases c24 : k = 24
  · rw [if_pos c24]
    subst c24
    refine tk_gives.bind fun i n1 h1 => tk_gives.bind fun m n2 h2 => (someB_gives 1 (by omega)).bind fun c n3 h3 => ?_
    have hc : 0 ≤ c.getD 0 0 := by
      obtain ⟨x, rfl⟩ : ∃ x, c = [x] := by
        have h := h3.1
        match c, h with
        | [x], _ => exact ⟨x, rfl⟩
        | [], h => simp at h
        | x :: y :: t, h => simp at h; omega
      exact (h3.2.2 x (List.mem_cons_self ..)).1
    refine (someB_gives _ hc).bind fun d n4 h4 => (someB_gives 16 (by omega)).bind fun t n5 h5 => Gives.pure (Res.of ⟨h0.kind, u64_of ⟨h1.1, h1.2.1⟩, h0.off, u64_of ⟨h2.1, h2.2.1⟩, h0.code, h0.n, h0.data, h4.2.2, h5.2.2, by have := h5.1; simp only; omega, h0.acks, h0.delay, h0.e0, h0.e1, h0.e2⟩ rfl ?_ (by simp [fr0]) (by simp [fr0]))
    rw [len_1 24 _ (enc i ++ (enc m ++ ([(d.length : Int)] ++ (d ++ t)))) hk (by unfold putF; simp [fr0])]
    simp only [List.length_append, List.length_cons, List.length_nil]
    rw [enc_length i h1.1, enc_length m h2.1]; have := h3.1; omega
  rw [if_neg c24]
  by_cases c25 : k = 25
  · rw [if_pos c25]
    subst c25
    refine tk_gives.bind fun i n1 h1 => Gives.pure (Res.of ⟨h0.kind, u64_of ⟨h1.1, h1.2.1⟩, h0.off, h0.max, h0.code, h0.n, h0.data, h0.cid, h0.tok, h0.tok16, h0.acks, h0.delay, h0.e0, h0.e1, h0.e2⟩ rfl ?_ (by simp [fr0]) (by simp [fr0]))
    rw [len_1 25 _ (enc i) hk (by unfold putF; simp [fr0])]
    rw [enc_length i h1.1]; omega
  rw [if_neg c25]
  by_cases c26 : k = 26 ∨ k = 27
  · rw [if_pos c26]
    refine (someB_gives 8 (by omega)).bind fun d n4 h4 => Gives.pure (Res.of ⟨h0.kind, h0.id, h0.off, h0.max, h0.code, h0.n, h4.2.2, h0.cid, h0.tok, h0.tok16, h0.acks, h0.delay, h0.e0, h0.e1, h0.e2⟩ rfl ?_ (by simp only; omega) (by simp [fr0]))
    rw [len_1 k _ d hk (by unfold putF; rcases c26 with rfl | rfl <;> simp [fr0])]
    omega
  rw [if_neg c26]
  by_cases c28 : k = 28
  · rw [if_pos c28]
    subst c28
    refine tk_gives.bind fun c n1 h1 => tk_gives.bind fun m n2 h2 => szd_gives.bind fun d n3 h3 => Gives.pure (Res.of ⟨h0.kind, h0.id, h0.off, u64_of ⟨h2.1, h2.2.1⟩, u64_of ⟨h1.1, h1.2.1⟩, h0.n, h3.2.2.1, h0.cid, h0.tok, h0.tok16, h0.acks, h0.delay, h0.e0, h0.e1, h0.e2⟩ rfl ?_ (by simp only; omega) (by simp [fr0]))
    rw [len_1 28 _ (enc c ++ (enc m ++ sizedB d)) hk (by unfold putF; simp [fr0])]
    simp only [List.length_append]
    rw [enc_length c h1.1, enc_length m h2.1]; omega
  rw [if_neg c28]
  by_cases c29 : k = 29
  · rw [if_pos c29]
    subst c29
    refine tk_gives.bind fun c n1 h1 => szd_gives.bind fun d n3 h3 => Gives.pure (Res.of ⟨h0.kind, h0.id, h0.off, h0.max, u64_of ⟨h1.1, h1.2.1⟩, h0.n, h3.2.2.1, h0.cid, h0.tok, h0.tok16, h0.acks, h0.delay, h0.e0, h0.e1, h0.e2⟩ rfl ?_ (by simp only; omega) (by simp [fr0]))
    rw [len_1 29 _ (enc c ++ sizedB d) hk (by unfold putF; simp [fr0])]
    simp only [List.length_append]
    rw [enc_length c h1.1]; omega
  rw [if_neg c29, if_pos (by omega)]
  refine tk_gives.bind fun m n1 h1 => Gives.pure (Res.of ⟨h0.kind, h0.id, h0.off, u64_of ⟨h1.1, h1.2.1⟩, h0.code, h0.n, h0.data, h0.cid, h0.tok, h0.tok16, h0.acks, h0.delay, h0.e0, h0.e1, h0.e2⟩ rfl ?_ (by simp [fr0]) (by simp [fr0]))
  have hkk : k = 16 ∨ k = 18 ∨ k = 19 ∨ k = 20 ∨ k = 22 ∨ k = 23 := by omega
  rw [len_1 k _ (enc m) hk (by unfold putF; rcases hkk with rfl | rfl | rfl | rfl | rfl | rfl <;> simp [fr0])]
  rw [enc_length m h1.1]; omega
end Frm
end Go.Proofs.Ytcpjehgoeibbeaa

/- Frames in plain Lean: any bytes that are listed are listed the same when they are put again. -/
namespace Go.Proofs.Ytcpjehgoeibbeaa
set_option linter.unusedVariables false
namespace Frm
open Var
theorem zeros_end : ∀ b : List Int, (b.drop (zeros b)).head? ≠ some 0
  | [] => by simp [zeros]
  | x :: b => by
    unfold zeros
    rw [List.takeWhile_cons]
    by_cases h : x = 0
    · rw [if_pos (by simpa using h)]
      rw [List.length_cons, List.drop_succ_cons]
      exact zeros_end b
    · rw [if_neg (by simpa using h)]
      simp [h]
theorem tk_zero {b q : List Int} (h : tk b = some (0, q)) (hb : Bys b) (hs : (b.length : Int) - q.length = 1) : b.head? = some 0 := by
  obtain ⟨u, h1, rfl⟩ := tk_some h
  cases b with
  | nil => cases h1
  | cons x t =>
    have hx := hb x (List.mem_cons_self ..)
    unfold Byte at hx
    simp only [takeF] at h1
    split at h1
    · cases h1
    · rename_i hl
      simp only [Option.some.injEq, Prod.mk.injEq] at h1
      obtain ⟨h2, h3⟩ := h1
      have hu : u = 1 := by
        simp only [List.length_drop, List.length_cons] at hs
        have : u ≤ t.length + 1 := by omega
        omega
      have hx64 : (x / 64).toNat = 0 := by
        rw [hu] at h3
        have hc : (x / 64).toNat = 0 ∨ (x / 64).toNat = 1 ∨ (x / 64).toNat = 2 ∨ (x / 64).toNat = 3 := by omega
        rcases hc with hc | hc | hc | hc
        · exact hc
        all_goals (rw [hc] at h3; simp at h3)
      rw [hx64] at h2
      simp at h2
      simp
      omega
/-- What is read of any bytes. -/
structure Facts (b : List Int) (f : Fr) (r : List Int) : Prop where
  put : Put f
  bys : Bys r
  less : r.length < b.length
  len : (putF f).length + r.length ≤ b.length ∨ ((putF f).length ≤ b.length + 8 ∧ r = [])
  after : f.kind = 0 → r.head? ≠ some 0
  first : f.kind = 0 → b.head? = some 0
theorem readF_facts {b r : List Int} {f : Fr} (h : readF b = some (f, r)) (hb : Bys b) (hl : b.length ≤ 60000) : Facts b f r := by
  unfold readF at h
  cases ht : tk b with
  | none => rw [ht] at h; cases h
  | some p =>
    obtain ⟨k, q⟩ := p
    rw [ht] at h
    simp only at h
    split at h
    · rename_i hs
      cases hr : readK k q with
      | none => rw [hr] at h; cases h
      | some y =>
        obtain ⟨g, s⟩ := y
        rw [hr] at h
        simp only at h
        split at h
        · rename_i hm
          cases h
          obtain ⟨hq, n1, hn1, hk⟩ := tk_gives b k q ht hb
          obtain ⟨hr1, n2, hn2, res⟩ := readK_gives k hk.1 q f r hr hq
          have hs1 : 1 ≤ sizeF k := by
            rw [← enc_length k hk.1]
            exact List.length_pos_iff.2 (enc_ne hk.1 hk.2.1)
          refine ⟨⟨res.ok, hm, by have := res.data; simp only [M62]; omega, by have := res.acks; omega⟩, hr1, by omega, ?_, fun h0 => ?_, fun h0 => ?_⟩
          · by_cases hu : unl k
            · right
              have hlen := res.len
              rw [if_pos hu] at hlen
              have hk' : readK k q = readStream (k - 8) q := by
                unfold readK
                have := hu.1
                have := hu.2.1
                rw [if_neg (by omega), if_neg (by omega), if_neg (by omega), if_neg (by omega), if_neg (by omega), if_neg (by omega), if_neg (by omega), if_pos ⟨hu.1, hu.2.1⟩]
              rw [hk'] at hr
              exact ⟨by omega, readStream_end k hu q f r hr⟩
            · left
              have hlen := res.len
              rw [if_neg hu] at hlen
              omega
          · have hk0 := res.kind.1 h0
            subst hk0
            unfold readK at hr
            rw [if_pos rfl] at hr
            simp only [readPad, Option.some.injEq, Prod.mk.injEq] at hr
            rw [← hr.2]
            have hz : zeros q ≤ q.length := (List.takeWhile_sublist _).length_le
            rw [Nat.min_eq_left (by omega)]
            exact zeros_end q
          · have hk0 := res.kind.1 h0
            subst hk0
            exact tk_zero ht hb hs
        · cases h
    · cases h
theorem listG_facts : ∀ (n : Nat) (b : List Int) (acc m : List Fr), listG n b acc = some m → Bys b → b.length ≤ 60000 →
    ∃ l, m = acc ++ l ∧ (∀ g ∈ l, Put g) ∧ apart l = true ∧ (putL l).length ≤ b.length + 8 ∧ (∀ f t, l = f :: t → f.kind = 0 → b.head? = some 0) ∧ (b ≠ [] → l ≠ [])
  | n, [], acc, m, h, _, _ => by
    have : m = acc := by cases n <;> (simp only [listG, Option.some.injEq] at h; exact h.symm)
    exact ⟨[], by simp [this], by simp, rfl, by simp [putL], by simp, fun h => absurd rfl h⟩
  | 0, x :: b, acc, m, h, _, _ => by cases h
  | n + 1, x :: b, acc, m, h, hb, hl => by
    rw [listG] at h
    cases hr : readF (x :: b) with
    | none => rw [hr] at h; cases h
    | some y =>
      obtain ⟨f, r⟩ := y
      rw [hr] at h
      have fa := readF_facts hr hb hl
      have hless := fa.less
      obtain ⟨l, h1, h2, h3, h4, h5, h6⟩ := listG_facts n r (acc ++ [f]) m h fa.bys (by omega)
      refine ⟨f :: l, by rw [h1]; simp, fun g hg => ?_, ?_, ?_, fun f' t he hk => ?_, fun _ => by simp⟩
      · rcases List.mem_cons.1 hg with rfl | hg
        · exact fa.put
        · exact h2 g hg
      · cases l with
        | nil => rfl
        | cons g t =>
          simp only [apart, Bool.and_eq_true, Bool.not_eq_true', Bool.and_eq_false_iff, decide_eq_false_iff_not]
          refine ⟨?_, h3⟩
          by_cases hk : f.kind = 0
          · exact .inr fun hg => fa.after hk (h5 g t rfl hg)
          · exact .inl hk
      · rw [putL_cons, List.length_append]
        rcases fa.len with hlen | ⟨hlen, rfl⟩
        · omega
        · have : l = [] := by
            have : m = acc ++ [f] := by cases n <;> (simp only [listG, Option.some.injEq] at h; exact h.symm)
            rw [this] at h1
            have := congrArg List.length h1
            simp at this
            exact this
          subst this
          simp [putL]
          simpa using hlen
      · simp only [List.cons.injEq] at he
        obtain ⟨rfl, _⟩ := he
        exact fa.first hk
/-- What is listed may be, and, put again, is listed as the same, in at most 8 bytes more. -/
theorem listF_back {b : List Int} {m : List Fr} (h : listF b = some m) (hb : Bys b) (hl : b.length ≤ 60000) : (∀ g ∈ m, Put g) ∧ listF (putL m) = some m ∧ (putL m).length ≤ b.length + 8 := by
  unfold listF at h
  split at h
  · cases h
  · rename_i hne
    obtain ⟨l, h1, h2, h3, h4, _, h6⟩ := listG_facts _ b [] m h hb hl
    rw [List.nil_append] at h1
    subst h1
    exact ⟨h2, listF_put m h2 h3 (h6 hne), h4⟩
end Frm
end Go.Proofs.Ytcpjehgoeibbeaa
