/- How the machine's memory stands for a world: blocks have places of their own; values, cells and maps are related. -/
import Derived.Test.YtgpnfdeneagdbaaGreatRf1
import Derived.Deep.MidRow
import Derived.Below
import Derived.WalkKit
namespace Go.Proofs.YtgpnfdeneagdbaaGreat.Rf
open Go Go.RowKit
set_option linter.unusedVariables false
set_option linter.unusedSimpArgs false

/-- Where a block of the machine's lies in the world: its block there, from which cell on; room: how many cells the world's block has, and how many an element has, where the machine knows but a part. -/
structure PB where
  blk : Nat
  sh : Nat
  room : Option (Nat × Nat)

abbrev Ren := Nat → Option PB

mutual
inductive VR (ρ : Ren) : Value → Value → Prop
  | flat (v : Value) (h : flat v = true) : VR ρ v v
  | ptr (b o : Nat) (p : PB) (h : ρ b = some p) : VR ρ (.pointer (some ⟨b, o, none⟩)) (.pointer (some ⟨p.blk, o + p.sh, none⟩))
  | sl (b o l c : Nat) (p : PB) (h : ρ b = some p) : VR ρ (.slice (some ⟨b, o, none⟩) l c) (.slice (some ⟨p.blk, o + p.sh, none⟩) l c)
  | slk (b o l c c' N es : Nat) (p : PB) (h : ρ b = some p) (hr : p.room = some (N, es)) (hc : c ≤ c') (hN : o + p.sh + c' * es ≤ N) :
      VR ρ (.slice (some ⟨b, o, some 0⟩) l c) (.slice (some ⟨p.blk, o + p.sh, none⟩) l c')
  | emp (a' : Addr) (c' : Nat) (hs : a'.spot = none) : VR ρ (.slice (some ⟨0, 0, some 1⟩) 0 0) (.slice (some a') 0 c')
  | mp (b : Nat) (p : PB) (h : ρ b = some p) : VR ρ (.map (some b)) (.map (some p.blk))
  | fn (g : Fn) (f f' c c' : List Value) (h1 : VRs ρ f f') (h2 : VRs ρ c c') : VR ρ (.func g ⟨f⟩ ⟨c⟩) (.func g ⟨f'⟩ ⟨c'⟩)
  | ifc (t : TypeId) (v v' : Value) (h : VR ρ v v') : VR ρ (.iface t v) (.iface t v')
  | ag (c c' : List Value) (h : VRs ρ c c') : VR ρ (.agg ⟨c⟩) (.agg ⟨c'⟩)
  | tu (c c' : List Value) (h : VRs ρ c c') : VR ρ (.tuple ⟨c⟩) (.tuple ⟨c'⟩)
  | glob (g o : Nat) : VR ρ (.pointer (some ⟨g, o, some 2⟩)) (.pointer (some ⟨g, o, none⟩))
  | any (k : IntKind) (x : Int) : VR ρ (.chan (some 0)) (.int k x)
inductive VRs (ρ : Ren) : List Value → List Value → Prop
  | nil : VRs ρ [] []
  | cons (v v' : Value) (vs vs' : List Value) (h : VR ρ v v') (hs : VRs ρ vs vs') : VRs ρ (v :: vs) (v' :: vs')
end

variable {P : Program} {ρ ρ' : Ren}

mutual
theorem VR.mono (hr : ∀ b p, ρ b = some p → ρ' b = some p) : ∀ {v v' : Value}, VR ρ v v' → VR ρ' v v'
  | _, _, .flat v h => .flat v h
  | _, _, .ptr b o p h => .ptr b o p (hr b p h)
  | _, _, .sl b o l c p h => .sl b o l c p (hr b p h)
  | _, _, .slk b o l c c' N es p h h1 h2 h3 => .slk b o l c c' N es p (hr b p h) h1 h2 h3
  | _, _, .emp a c h => .emp a c h
  | _, _, .mp b p h => .mp b p (hr b p h)
  | _, _, .fn g f f' c c' h1 h2 => .fn g f f' c c' (VRs.mono hr h1) (VRs.mono hr h2)
  | _, _, .ifc t v v' h => .ifc t v v' (VR.mono hr h)
  | _, _, .ag c c' h => .ag c c' (VRs.mono hr h)
  | _, _, .tu c c' h => .tu c c' (VRs.mono hr h)
  | _, _, .glob g o => .glob g o
  | _, _, .any k x => .any k x
theorem VRs.mono (hr : ∀ b p, ρ b = some p → ρ' b = some p) : ∀ {v v' : List Value}, VRs ρ v v' → VRs ρ' v v'
  | _, _, .nil => .nil
  | _, _, .cons v v' vs vs' h hs => .cons v v' vs vs' (VR.mono hr h) (VRs.mono hr hs)
end

theorem VRs.length {vs vs' : List Value} (h : VRs ρ vs vs') : vs.length = vs'.length := by
  induction vs generalizing vs' with
  | nil => cases h; rfl
  | cons v vs ih => cases h with | cons _ _ _ _ h hs => simp [ih hs]

theorem VRs.append {a a' b b' : List Value} (h : VRs ρ a a') (k : VRs ρ b b') : VRs ρ (a ++ b) (a' ++ b') := by
  induction a generalizing a' with
  | nil => cases h; exact k
  | cons v vs ih => cases h with | cons _ v' _ vs' h hs => exact .cons _ _ _ _ h (ih hs)

theorem VRs.drop {a a' : List Value} (h : VRs ρ a a') : ∀ n, VRs ρ (a.drop n) (a'.drop n)
  | 0 => h
  | n + 1 => match h with
    | .nil => .nil
    | .cons _ _ _ _ _ hs => VRs.drop hs n

theorem VRs.take {a a' : List Value} (h : VRs ρ a a') : ∀ n, VRs ρ (a.take n) (a'.take n)
  | 0 => .nil
  | n + 1 => match h with
    | .nil => .nil
    | .cons _ _ _ _ h hs => .cons _ _ _ _ h (VRs.take hs n)

theorem revOnto_eq : ∀ (a b : List Value), revOnto a b = a.reverse ++ b
  | [], b => rfl
  | x :: a, b => by rw [revOnto, revOnto_eq a]; simp

theorem takeAcc_eq : ∀ (n : Nat) (l acc r : List Value), takeAcc n l acc = some r → r = acc.reverse ++ l.take n ∧ n ≤ l.length
  | 0, l, acc, r, h => by simp [takeAcc, revOnto_eq] at h; simp [← h]
  | n + 1, [], acc, r, h => by simp [takeAcc] at h
  | n + 1, v :: vs, acc, r, h => by
    obtain ⟨rfl, hl⟩ := takeAcc_eq n vs (v :: acc) r h
    exact ⟨by simp, by simpa using hl⟩

theorem takeN_eq (n : Nat) (l r : List Value) (h : takeN n l = some r) : r = l.take n ∧ n ≤ l.length := by
  have := takeAcc_eq n l [] r h
  simpa using this

/-- What is without an address stands for itself. -/
theorem VR.of_flat {v v' : Value} (hf : Rf.flat v = true) (h : VR ρ v v') : v' = v := by
  cases h <;> first | rfl | (simp [Rf.flat] at hf)

theorem VRs.of_flat : ∀ {vs vs' : List Value}, vs.all Rf.flat = true → VRs ρ vs vs' → vs' = vs
  | [], _, _, .nil => rfl
  | v :: vs, _, hf, .cons _ _ _ _ h hs => by
    simp only [List.all_cons, Bool.and_eq_true] at hf
    rw [VR.of_flat hf.1 h, VRs.of_flat hf.2 hs]

theorem VRs.flat : ∀ {vs : List Value}, vs.all Rf.flat = true → VRs ρ vs vs
  | [], _ => .nil
  | v :: vs, hf => by
    simp only [List.all_cons, Bool.and_eq_true] at hf
    exact .cons _ _ _ _ (.flat v hf.1) (VRs.flat hf.2)

theorem VR.of_plain2 {v v' : Value} (hf : plain2 v = true) (h : VR ρ v v') : v' = v := by
  cases h with
  | flat v h => rfl
  | ptr b o p h => simp [plain2, Rf.flat] at hf
  | sl b o l c p h => simp [plain2, Rf.flat] at hf
  | slk b o l c c' N es p h => simp [plain2, Rf.flat] at hf
  | emp a c => simp [plain2, Rf.flat] at hf
  | mp b p h => simp [plain2, Rf.flat] at hf
  | fn g f f' c c' h1 h2 =>
    cases f <;> cases c <;> simp [plain2, Rf.flat] at hf
    cases h1; cases h2; rfl
  | ifc t v v' h => rw [VR.of_flat hf h]
  | ag c c' h => rw [VRs.of_flat hf h]
  | tu c c' h => simp [plain2, Rf.flat] at hf
  | glob g o => simp [plain2, Rf.flat] at hf
  | any k x => simp [plain2, Rf.flat] at hf

theorem VR.plain2 {v : Value} (hf : Rf.plain2 v = true) : VR ρ v v := by
  unfold Rf.plain2 at hf
  split at hf
  · exact .ifc _ _ _ (.flat _ hf)
  · exact .ag _ _ (VRs.flat hf)
  · exact .fn _ _ _ _ _ .nil .nil
  · exact .flat _ hf

theorem VRs.of_plain2 : ∀ {vs vs' : List Value}, vs.all Rf.plain2 = true → VRs ρ vs vs' → vs' = vs
  | [], _, _, .nil => rfl
  | v :: vs, _, hf, .cons _ _ _ _ h hs => by
    simp only [List.all_cons, Bool.and_eq_true] at hf
    rw [VR.of_plain2 hf.1 h, VRs.of_plain2 hf.2 hs]

theorem VRs.plain2 : ∀ {vs : List Value}, vs.all Rf.plain2 = true → VRs ρ vs vs
  | [], _ => .nil
  | v :: vs, hf => by
    simp only [List.all_cons, Bool.and_eq_true] at hf
    exact .cons _ _ _ _ (.plain2 hf.1) (VRs.plain2 hf.2)

theorem VR.of_plain {v v' : Value} (hf : plain v = true) (h : VR ρ v v') : v' = v := by
  unfold plain at hf
  split at hf
  · cases h with
    | flat v h => rfl
    | tu c c' h => rw [VRs.of_plain2 hf h]
  · exact VR.of_plain2 hf h

theorem VR.plain {v : Value} (hf : Rf.plain v = true) : VR ρ v v := by
  unfold Rf.plain at hf
  split at hf
  · exact .tu _ _ (VRs.plain2 hf)
  · exact .plain2 hf

theorem VR.one {v v' : Value} (h : VR ρ v v') : Rf.one v = Rf.one v' := by cases h <;> rfl
theorem one_cell {v : Value} (h : Rf.one v = true) : v.oneCell' = true := by cases v <;> simp_all [Rf.one, Value.oneCell']

theorem VRs.one : ∀ {vs vs' : List Value}, VRs ρ vs vs' → vs.all Rf.one = true → ∀ v ∈ vs', v.oneCell' = true
  | _, _, .nil, _ => fun v h => by cases h
  | _, _, .cons _ _ _ _ h hs, ha => fun v hm => by
    simp only [List.all_cons, Bool.and_eq_true] at ha
    cases hm with
    | head => exact one_cell (h.one ▸ ha.1)
    | tail _ hm => exact VRs.one hs ha.2 v hm

theorem VR.listOf {v v' : Value} (h : VR ρ v v') : VRs ρ (Rf.listOf v) (Rf.listOf v') := by
  cases h with
  | ag c c' h => exact h
  | flat v h => cases v <;> simp [Rf.flat] at h <;> exact .cons _ _ _ _ (.flat _ (by simp [Rf.flat, h])) .nil
  | glob g o => exact .cons _ _ _ _ (.glob g o) .nil
  | any k x => exact .cons _ _ _ _ (.any k x) .nil
  | _ => exact .cons _ _ _ _ (by constructor <;> assumption) .nil

theorem listOf_cells (v : Value) : v.cells.toList = Rf.listOf v := by cases v <;> rfl

inductive MRs (ρ : Ren) : List MapEntry → List MapEntry → Prop
  | nil : MRs ρ [] []
  | cons (k v v' : Value) (n : Nat) (es es' : List MapEntry) (hk : Rf.flat k = true) (h : VR ρ v v') (hs : MRs ρ es es') : MRs ρ (⟨k, v, n⟩ :: es) (⟨k, v', n⟩ :: es')

theorem MRs.mono (hr : ∀ b p, ρ b = some p → ρ' b = some p) : ∀ {es es' : List MapEntry}, MRs ρ es es' → MRs ρ' es es'
  | _, _, .nil => .nil
  | _, _, .cons k v v' n es es' hk h hs => .cons k v v' n es es' hk (h.mono hr) (MRs.mono hr hs)

def Blk.live : Option Blk → Bool
  | some (.cells ..) | some (.map ..) => true
  | _ => false

/-- What is known of the world's row: where it is known at all, its element's type, and how long it is; whether the machine has the whole of it. -/
def RoomOk (W : World) (p : PB) (g : Option Row) (L : Nat) : Prop := ∀ es e x, g = some (es, e, x) → ∃ N, p.room = some (N, es) ∧ W.there p.blk 0 N ∧ W.shape? p.blk = some (e, N) ∧ (x = true → p.sh = 0 ∧ N = L)
theorem RoomOk.none {W : World} {p : PB} {L : Nat} : RoomOk W p none L := fun _ _ _ h => by cases h

structure WR (W0 : World) (ρ : Ren) (hp : Tr Blk) (n : Nat) (W : World) : Prop where
  pos : 0 < n
  dom : ∀ b p, ρ b = some p → 0 < b ∧ b < n ∧ W0.heap.size ≤ p.blk ∧ p.blk < W.heap.size
  fresh : ∀ b, n ≤ b → hp.get b = none
  zero : hp.get 0 = none
  inj : ∀ b b' p p', b ≠ b' → ρ b = some p → ρ b' = some p' → Blk.live (hp.get b) = true → Blk.live (hp.get b') = true → p.blk ≠ p'.blk
  cells : ∀ b p c g, ρ b = some p → hp.get b = some (.cells c g) → ∃ c', VRs ρ c c' ∧ W.rangeAt p.blk p.sh c' ∧ W.there p.blk p.sh c.length ∧ c.all Rf.one = true ∧ RoomOk W p g c.length
  maps : ∀ b p es k, ρ b = some p → hp.get b = some (.map es k) → ∃ es', MRs ρ es es' ∧ W.heap[p.blk]? = some (.map ⟨es'⟩ k)
  below : Below W0.heap.size W0 W
  froz : ∀ b p, ρ b = some p → Blk.live (hp.get b) = true → ∀ C e fz, W.heap[p.blk]? = some (.cells C e fz) → fz.1 = fz.2 ∨ C.size ≤ fz.1
  ro : ∀ g c, hp.get (g + 1) = some (.ro c) → W0.rangeAt g 0 c ∧ g < W0.heap.size ∧ c.all Rf.flat = true

/-- What a run leaves: old blocks keep their places; what has none is as it was. -/
structure Ext (ρ : Ren) (hp : Tr Blk) (n : Nat) (ρ' : Ren) (hp' : Tr Blk) (n' : Nat) : Prop where
  le : n ≤ n'
  ren : ∀ b, b < n → ρ' b = ρ b
  keep : ∀ b, b < n → ρ b = none → hp'.get b = hp.get b

theorem Ext.refl (ρ : Ren) (hp : Tr Blk) (n : Nat) : Ext ρ hp n ρ hp n := ⟨Nat.le_refl _, fun _ _ => rfl, fun _ _ _ => rfl⟩
theorem Ext.trans {ρ1 ρ2 ρ3 : Ren} {h1 h2 h3 : Tr Blk} {n1 n2 n3 : Nat} (a : Ext ρ1 h1 n1 ρ2 h2 n2) (b : Ext ρ2 h2 n2 ρ3 h3 n3) : Ext ρ1 h1 n1 ρ3 h3 n3 :=
  ⟨Nat.le_trans a.le b.le, fun x hx => (b.ren x (Nat.lt_of_lt_of_le hx a.le)).trans (a.ren x hx),
   fun x hx hn => (b.keep x (Nat.lt_of_lt_of_le hx a.le) ((a.ren x hx).trans hn)).trans (a.keep x hx hn)⟩
theorem Ext.sub {W0 W : World} {ρ ρ' : Ren} {hp hp' : Tr Blk} {n n' : Nat} (h : Ext ρ hp n ρ' hp' n') (w : WR W0 ρ hp n W) : ∀ b p, ρ b = some p → ρ' b = some p :=
  fun b p hb => (h.ren b (w.dom b p hb).2.1).trans hb

theorem Tr.get_nil {α : Type} (n : Nat) : (Tr.nil : Tr α).get n = none := rfl

theorem beq_ne {n m : Nat} (h : n ≠ m) : n.beq m = false := by
  cases e : n.beq m
  · rfl
  · exact absurd (Nat.eq_of_beq_eq_true e) h

theorem nat_two (n m : Nat) (hn : n ≠ 0) (hm : m ≠ 0) (h2 : n % 2 = m % 2) : (if n % 2 = 1 then n / 2 = m / 2 else n / 2 - 1 = m / 2 - 1) ↔ n = m := by
  split <;> omega

theorem Tr.putK_ok {α : Type} : ∀ (f : Nat) (t : Tr α) (n : Nat) (x : α) (K : Tr α → Bool), Tr.putK f t n x K = true →
    ∃ t', K t' = true ∧ ∀ m, t'.get m = if m = n then some x else t.get m
  | 0, t, n, x, K, h => by simp [Tr.putK] at h
  | f + 1, .nil, n, x, K, h => by
    unfold Tr.putK at h
    by_cases h0 : n = 0
    · subst h0
      refine ⟨_, by simpa using h, fun m => ?_⟩
      by_cases hm : m = 0
      · simp [Tr.get, hm]
      · simp [Tr.get, hm, beq_ne hm]
    · have e0 : n.beq 0 = false := beq_ne h0
      simp only [e0, cond_false] at h
      by_cases h1 : n % 2 = 1
      · have e1 : (n % 2).beq 1 = true := by simp [h1]
        simp only [e1, cond_true] at h
        obtain ⟨t', hk, hg⟩ := Tr.putK_ok f .nil _ x _ h
        refine ⟨_, hk, fun m => ?_⟩
        by_cases hm : m = 0
        · subst hm; simp [Tr.get, Ne.symm h0]
        · have em : m.beq 0 = false := beq_ne hm
          by_cases hm1 : m % 2 = 1
          · have := hg (m / 2)
            simp only [Tr.get, em, hm1, cond_false, Nat.beq_refl, cond_true, this]
            by_cases e : m = n
            · subst e; simp
            · rw [if_neg (by omega), if_neg e]
          · have em1 : (m % 2).beq 1 = false := beq_ne hm1
            simp only [Tr.get, em, em1, cond_false]
            rw [if_neg (by intro e; subst e; exact hm1 h1)]
      · have e1 : (n % 2).beq 1 = false := beq_ne h1
        simp only [e1, cond_false] at h
        obtain ⟨t', hk, hg⟩ := Tr.putK_ok f .nil _ x _ h
        refine ⟨_, hk, fun m => ?_⟩
        by_cases hm : m = 0
        · subst hm; simp [Tr.get, Ne.symm h0]
        · have em : m.beq 0 = false := beq_ne hm
          by_cases hm1 : m % 2 = 1
          · simp only [Tr.get, em, hm1, cond_false, Nat.beq_refl, cond_true]
            rw [if_neg (by intro e; subst e; exact h1 hm1)]
          · have em1 : (m % 2).beq 1 = false := beq_ne hm1
            have := hg (m / 2 - 1)
            simp only [Tr.get, em, em1, cond_false, this]
            by_cases e : m = n
            · subst e; simp
            · rw [if_neg (by omega), if_neg e]
  | f + 1, .node l v r, n, x, K, h => by
    unfold Tr.putK at h
    by_cases h0 : n = 0
    · subst h0
      refine ⟨_, by simpa using h, fun m => ?_⟩
      by_cases hm : m = 0
      · simp [Tr.get, hm]
      · simp [Tr.get, hm, beq_ne hm]
    · have e0 : n.beq 0 = false := beq_ne h0
      simp only [e0, cond_false] at h
      by_cases h1 : n % 2 = 1
      · have e1 : (n % 2).beq 1 = true := by simp [h1]
        simp only [e1, cond_true] at h
        obtain ⟨t', hk, hg⟩ := Tr.putK_ok f l _ x _ h
        refine ⟨_, hk, fun m => ?_⟩
        by_cases hm : m = 0
        · subst hm; simp [Tr.get, Ne.symm h0]
        · have em : m.beq 0 = false := beq_ne hm
          by_cases hm1 : m % 2 = 1
          · have := hg (m / 2)
            simp only [Tr.get, em, hm1, cond_false, Nat.beq_refl, cond_true, this]
            by_cases e : m = n
            · subst e; simp
            · rw [if_neg (by omega), if_neg e]
          · have em1 : (m % 2).beq 1 = false := beq_ne hm1
            simp only [Tr.get, em, em1, cond_false]
            rw [if_neg (by intro e; subst e; exact hm1 h1)]
      · have e1 : (n % 2).beq 1 = false := beq_ne h1
        simp only [e1, cond_false] at h
        obtain ⟨t', hk, hg⟩ := Tr.putK_ok f r _ x _ h
        refine ⟨_, hk, fun m => ?_⟩
        by_cases hm : m = 0
        · subst hm; simp [Tr.get, Ne.symm h0]
        · have em : m.beq 0 = false := beq_ne hm
          by_cases hm1 : m % 2 = 1
          · simp only [Tr.get, em, hm1, cond_false, Nat.beq_refl, cond_true]
            rw [if_neg (by intro e; subst e; exact h1 hm1)]
          · have em1 : (m % 2).beq 1 = false := beq_ne hm1
            have := hg (m / 2 - 1)
            simp only [Tr.get, em, em1, cond_false, this]
            by_cases e : m = n
            · subst e; simp
            · rw [if_neg (by omega), if_neg e]
end Go.Proofs.YtgpnfdeneagdbaaGreat.Rf
