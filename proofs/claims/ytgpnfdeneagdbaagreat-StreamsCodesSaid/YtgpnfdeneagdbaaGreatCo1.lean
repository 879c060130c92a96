/- Streams that are opened, in plain Lean: whose number is whose. No program here. -/
import Derived.Test.YtgpnfdeneagdbaaGreatPr1
namespace Go.Proofs.YtgpnfdeneagdbaaGreat
set_option linter.unusedVariables false
/-- A stream: 'urg' stands for what may be sent, 'served' for what may come. -/
def mkS (id om im : Nat) : Strm := ⟨id, om, false, false, im⟩
/-- How many of a class (number mod 4) are open. -/
def bump (cn : Nat → Nat) (c n : Nat) (d : Nat) : Nat := if d = c then n else cn d
/-- What is open: the list, and how many of each class. -/
structure OpI (cn : Nat → Nat) (L : List Strm) : Prop where
  asc : Asc L
  has : ∀ id, hasL id L = decide (id / 4 < cn (id % 4))
  len : L.length = cn 0 + cn 1 + cn 2 + cn 3
theorem OpI.nil : OpI (fun _ => 0) [] := ⟨List.Pairwise.nil, fun id => by simp [hasL], rfl⟩
theorem hasL_ins {x : Strm} {L : List Strm} (id : Nat) : hasL id (insL x L) = (x.id == id || hasL id L) := by
  rw [Bool.eq_iff_iff]
  unfold hasL
  simp only [List.any_eq_true, Bool.or_eq_true, beq_iff_eq]
  constructor
  · rintro ⟨y, hy, e⟩
    rcases List.mem_cons.1 ((insL_perm x L).mem_iff.1 hy) with rfl | h
    · exact .inl e
    · exact .inr ⟨y, h, e⟩
  · rintro (h | ⟨y, hy, e⟩)
    · exact ⟨x, (insL_perm x L).mem_iff.2 (List.mem_cons_self ..), h⟩
    · exact ⟨y, (insL_perm x L).mem_iff.2 (List.mem_cons_of_mem _ hy), e⟩
theorem OpI.new {cn : Nat → Nat} {L : List Strm} (h : OpI cn L) {c : Nat} (hc : c < 4) (om im : Nat) : OpI (bump cn c (cn c + 1)) (insL (mkS (4 * cn c + c) om im) L) := by
  have hno : hasL (4 * cn c + c) L = false := by
    rw [h.has, decide_eq_false_iff_not]
    have e1 : (4 * cn c + c) / 4 = cn c := by omega
    have e2 : (4 * cn c + c) % 4 = c := by omega
    rw [e1, e2]; omega
  refine ⟨insL_asc h.asc hno, fun id => ?_, ?_⟩
  · rw [hasL_ins, h.has, Bool.eq_iff_iff]
    rw [Bool.or_eq_true, beq_iff_eq, decide_eq_true_iff, decide_eq_true_iff]
    simp only [mkS, bump]
    by_cases hd : id % 4 = c
    · rw [if_pos hd, hd]; omega
    · rw [if_neg hd]
      constructor
      · rintro (e | h1)
        · omega
        · exact h1
      · exact .inr
  · rw [insL_len, h.len]
    unfold bump
    rcases (by omega : c = 0 ∨ c = 1 ∨ c = 2 ∨ c = 3) with rfl | rfl | rfl | rfl <;> simp <;> omega
/-- One stream's limit turns. -/
theorem OpI.upd {cn : Nat → Nat} {L : List Strm} (h : OpI cn L) (id : Nat) (f : Strm → Strm) (hf : ∀ x, (f x).id = x.id) : OpI cn (updL id f L) := by
  refine ⟨updL_asc hf h.asc, fun j => ?_, by rw [updL_len]; exact h.len⟩
  rw [← h.has j, Bool.eq_iff_iff]
  unfold hasL updL
  simp only [List.any_eq_true, List.mem_map, beq_iff_eq]
  constructor
  · rintro ⟨y, ⟨x, hx, rfl⟩, e⟩
    refine ⟨x, hx, ?_⟩
    split at e
    · rw [hf] at e; exact e
    · exact e
  · rintro ⟨x, hx, e⟩
    refine ⟨_, ⟨x, hx, rfl⟩, ?_⟩
    split
    · rw [hf]; exact e
    · exact e
theorem bump_self (cn : Nat → Nat) (c n : Nat) : bump cn c n c = n := by simp [bump]
theorem bump_bump (cn : Nat → Nat) (c n m : Nat) : bump (bump cn c n) c m = bump cn c m := by
  funext d; unfold bump; split <;> rfl
theorem bump_same (cn : Nat → Nat) (c : Nat) : bump cn c (cn c) = cn := by
  funext d; unfold bump; split
  · rename_i h; rw [h]
  · rfl
/-- What the document says is wrong with a frame of a stream; s: the side's number, may: how many of a class there may be; rc: of what it receives. -/
def sendsL (s id : Nat) : Bool := decide (id / 2 % 2 = 0) || decide (id % 2 = s)
def codeL (s : Nat) (may cn : Nat → Nat) (rc : Bool) (id : Nat) : Nat :=
  if !sendsL (if rc then 1 - s else s) id then 5
  else if id % 2 = s then if cn (id % 4) ≤ id / 4 then 5 else 0
  else if may (id % 4) ≤ id / 4 then 4 else 0
/-- What is open behind it. -/
def openL (s : Nat) (may cn : Nat → Nat) (rc : Bool) (id : Nat) : Nat → Nat :=
  if codeL s may cn rc id = 0 then bump cn (id % 4) (max (cn (id % 4)) (id / 4 + 1)) else cn
end Go.Proofs.YtgpnfdeneagdbaaGreat
