/- Small laws of our own: min and max on integers, blocks known whole, frames. -/
import Derived.Test.YtgpnfdeneagdbaaGreatRows
import Derived.Test.YtgpnfdeneagdbaaGreatReg
import Derived.Handy
import Derived.Lib.Hide
import Derived.OpenShut
import Derived.WalkKit
import Derived.WalkSpells
import Derived.WalkLawsBesides
import Derived.BigQuiet
import Derived.Deep.QuietTactic
import Derived.RegionTactic
import Derived.Deep.RegionHeld3
namespace Go.Proofs.YtgpnfdeneagdbaaGreat
open Go.RowKit

theorem min2_int (P : Program) (k k' : IntKind) (x y : Int) (w : World) : (Builtin.min2 (.int k x) (.int k' y)).run P w = .ok (.int k (min x y)) w := by
  unfold Builtin.min2
  show Result.ok (Value.int k (if y < x then y else x)) w = _
  congr 2; omega
theorem run_min2 (P : Program) (t : Array TypeId) (ty : TypeId) (k k' : IntKind) (x y : Int) (w : World) :
    (Builtin.min_ t ty #[.int k x, .int k' y]).run P w = .ok (.int k (min x y)) w := by
  unfold Builtin.min_
  simp only [List.foldlM_cons, List.foldlM_nil, bind_pure]
  exact min2_int P k k' x y w
theorem max2_int (P : Program) (k k' : IntKind) (x y : Int) (w : World) : (Builtin.max2 (.int k x) (.int k' y)).run P w = .ok (.int k (max x y)) w := by
  unfold Builtin.max2
  show Result.ok (Value.int k (if x < y then y else x)) w = _
  congr 2; omega
theorem run_max2 (P : Program) (t : Array TypeId) (ty : TypeId) (k k' : IntKind) (x y : Int) (w : World) :
    (Builtin.max_ t ty #[.int k x, .int k' y]).run P w = .ok (.int k (max x y)) w := by
  unfold Builtin.max_
  simp only [List.foldlM_cons, List.foldlM_nil, bind_pure]
  exact max2_int P k k' x y w

theorem run_min3 (P : Program) (t : Array TypeId) (ty : TypeId) (k k' k'' : IntKind) (x y z : Int) (w : World) :
    (Builtin.min_ t ty #[.int k x, .int k' y, .int k'' z]).run P w = .ok (.int k (min (min x y) z)) w := by
  unfold Builtin.min_
  simp only [List.foldlM_cons, List.foldlM_nil, bind_pure]
  rw [show (Builtin.min2 (.int k x) (.int k' y) >>= fun s => Builtin.min2 s (.int k'' z)) = Sem.bind (Builtin.min2 (.int k x) (.int k' y)) (fun s => Builtin.min2 s (.int k'' z)) from rfl, Sem.run_bind', min2_int]
  exact min2_int P k k'' _ z w
theorem run_max3 (P : Program) (t : Array TypeId) (ty : TypeId) (k k' k'' : IntKind) (x y z : Int) (w : World) :
    (Builtin.max_ t ty #[.int k x, .int k' y, .int k'' z]).run P w = .ok (.int k (max (max x y) z)) w := by
  unfold Builtin.max_
  simp only [List.foldlM_cons, List.foldlM_nil, bind_pure]
  rw [show (Builtin.max2 (.int k x) (.int k' y) >>= fun s => Builtin.max2 s (.int k'' z)) = Sem.bind (Builtin.max2 (.int k x) (.int k' y)) (fun s => Builtin.max2 s (.int k'' z)) from rfl, Sem.run_bind', max2_int]
  exact max2_int P k k'' _ z w
attribute [go_sem ↓] run_min2 run_max2 run_min3 run_max3
attribute [go_sem] Cls

/-- Where a walk is to stand still: 'go_wp2_with (at_builtin; refine Stop.mk ?_)', then 'refine Stop.out ?_'. -/
def Stop (p : Prop) : Prop := p
theorem Stop.mk {p : Prop} (h : Stop p) : p := h
theorem Stop.out {p : Prop} (h : p) : Stop p := h

/-- Block b is this row of cells, and may be written. -/
def Blk (w : World) (b : Nat) (cs : Array Value) (T : TypeId) : Prop := w.heap[b]? = some (.cells cs T (0, 0))

theorem Blk.congr {w : World} {b : Nat} {cs cs' : Array Value} {T : TypeId} (h : Blk w b cs T) (e : cs = cs') : Blk w b cs' T := e ▸ h
theorem Blk.cell {w : World} {b : Nat} {cs : Array Value} {T : TypeId} (h : Blk w b cs T) (i : Nat) (v : Value) (hv : cs[i]? = some v) : w.cell? ⟨b, i, none⟩ = some v := by
  unfold Blk at h
  simp [World.cell?, h, hv]
theorem Blk.free {w : World} {b : Nat} {cs : Array Value} {T : TypeId} (h : Blk w b cs T) (i : Nat) : w.frozen? ⟨b, i, none⟩ = false := by
  unfold Blk at h
  simp [World.frozen?, h]
theorem Blk.lt {w : World} {b : Nat} {cs : Array Value} {T : TypeId} (h : Blk w b cs T) : b < w.heap.size := lt_of_block h
theorem Blk.set {w : World} {b : Nat} {cs : Array Value} {T : TypeId} (h : Blk w b cs T) (i : Nat) (u : Value) : Blk (w.setCell ⟨b, i, none⟩ u) b (cs.setIfInBounds i u) T := by
  have hlt := h.lt
  unfold Blk at h ⊢
  have h' : w.heap[b] = .cells cs T (0, 0) := by simpa [Array.getElem?_eq_getElem hlt] using h
  show (w.heap.modify b _)[b]? = _
  rw [Array.getElem?_eq_getElem (by simpa using hlt), Array.getElem_modify_self, h']
  rfl
theorem Blk.setOther {w : World} {b : Nat} {cs : Array Value} {T : TypeId} (h : Blk w b cs T) (a : Addr) (u : Value) (ha : b ≠ a.block) : Blk (w.setCell a u) b cs T := by
  unfold Blk at h ⊢
  rw [Below.heap_setCell _ _ _ _ ha]; exact h
theorem Blk.alloc {w : World} {b : Nat} {cs : Array Value} {T : TypeId} (h : Blk w b cs T) (o : Obj) : Blk (w.alloc o) b cs T := by
  have hlt := h.lt
  unfold Blk at h ⊢
  rw [Below.heap_alloc _ _ _ hlt]; exact h
theorem Blk.drew {w : World} {b : Nat} {cs : Array Value} {T : TypeId} (h : Blk w b cs T) : Blk w.drew b cs T := h
theorem Blk.new (w : World) (cs : Array Value) (T : TypeId) : Blk (w.alloc (.cells cs T)) w.heap.size cs T := by
  unfold Blk
  exact (MapKept.heap_alloc w _).1

theorem addr_add (b o n : Nat) : (⟨b, o, none⟩ : Addr).add n = ⟨b, o + n, none⟩ := by
  unfold Addr.add
  split
  · subst_vars; rfl
  · rfl

/-- The cells of a row, one by one, from offset o on. -/
def cellsAt (w : World) (b : Nat) : Nat → List Value → Prop
  | _, [] => True
  | o, v :: r => (w.cell? ⟨b, o, none⟩ = some v ∧ w.frozen? ⟨b, o, none⟩ = false) ∧ cellsAt w b (o + 1) r
theorem cellsAt_of {w : World} {b : Nat} {cs : Array Value} {T : TypeId} (h : Blk w b cs T) : ∀ (l : List Value) (o : Nat), (∀ i, i < l.length → cs[o + i]? = l[i]?) → cellsAt w b o l
  | [], _, _ => trivial
  | v :: r, o, hl => ⟨⟨h.cell o v (by simpa using hl 0 (by simp)), h.free o⟩, cellsAt_of h r (o + 1) (fun i hi => by
      have := hl (i + 1) (by simpa using hi)
      simpa [Nat.add_assoc, Nat.add_comm 1 i] using this)⟩
theorem Blk.all {w : World} {b : Nat} {l : List Value} {T : TypeId} (h : Blk w b l.toArray T) : cellsAt w b 0 l := cellsAt_of h l 0 (fun i _ => by simp)

/-- Of what was there, only the blocks of S may have turned. -/
structure Only (S : Nat → Prop) (w w' : World) : Prop where
  os : w'.os = w.os
  tape : w'.tape = w.tape
  output : w'.output = w.output
  size : w.heap.size ≤ w'.heap.size
  block : ∀ k, k < w.heap.size → ¬ S k → w'.heap[k]? = w.heap[k]?

theorem Only.refl (S : Nat → Prop) (w : World) : Only S w w := ⟨rfl, rfl, rfl, Nat.le_refl _, fun _ _ _ => rfl⟩
theorem Only.trans {S : Nat → Prop} {a b c : World} (h : Only S a b) (k : Only S b c) : Only S a c :=
  ⟨k.os.trans h.os, k.tape.trans h.tape, k.output.trans h.output, Nat.le_trans h.size k.size, fun i hi hs => (k.block i (Nat.lt_of_lt_of_le hi h.size) hs).trans (h.block i hi hs)⟩
theorem Only.mono {S S' : Nat → Prop} {w w' : World} (h : Only S w w') (hS : ∀ k, k < w.heap.size → S k → S' k) : Only S' w w' :=
  ⟨h.os, h.tape, h.output, h.size, fun k hk hs => h.block k hk (fun e => hs (hS k hk e))⟩
theorem Only.drew {S : Nat → Prop} {a w : World} (h : Only S a w) : Only S a w.drew := ⟨h.os, h.tape, h.output, h.size, h.block⟩
theorem Only.alloc {S : Nat → Prop} {a w : World} (h : Only S a w) (o : Obj) : Only S a (w.alloc o) :=
  h.trans ⟨rfl, rfl, rfl, by simp, fun k hk _ => Below.heap_alloc _ _ _ hk⟩
theorem Only.setCell {S : Nat → Prop} {a w : World} (h : Only S a w) {p : Addr} (hp : S p.block ∨ a.heap.size ≤ p.block) (u : Value) : Only S a (w.setCell p u) :=
  ⟨h.os, h.tape, h.output, by simpa [World.setCell] using h.size, fun k hk hs => by
    rw [Below.heap_setCell _ _ _ _ (by rintro rfl; rcases hp with hp | hp; exact hs hp; omega)]; exact h.block k hk hs⟩
theorem Only.set {b : Nat} {a w : World} (h : Only (· = b) a w) (i : Nat) (u : Value) : Only (· = b) a (w.setCell ⟨b, i, none⟩ u) := h.setCell (.inl rfl) u
theorem Only.blk {S : Nat → Prop} {w w' : World} (h : Only S w w') {b : Nat} {cs : Array Value} {T : TypeId} (hb : Blk w b cs T) (hs : ¬ S b) : Blk w' b cs T := by
  unfold Blk at *
  rw [h.block b (lt_of_block hb) hs]; exact hb
theorem Only.below {w w' : World} (h : Only (fun _ => False) w w') : Below w.heap.size w w' := ⟨h.os, h.tape, h.output, h.size, fun k hk => h.block k hk id⟩
theorem only_of_below {w w' : World} (h : Below w.heap.size w w') (S : Nat → Prop) : Only S w w' := ⟨h.os, h.tape, h.output, h.size, fun k hk _ => h.block k hk⟩
theorem Blk.below {w w' : World} {b : Nat} {cs : Array Value} {T : TypeId} (h : Blk w b cs T) (hb : Below w.heap.size w w') : Blk w' b cs T := by
  have hlt := h.lt
  unfold Blk at *
  rw [hb.block b hlt]; exact h
theorem below_of_only {S : Nat → Prop} {B : Nat} {w w' : World} (h : Only S w w') (hB : B ≤ w.heap.size) (hS : ∀ k, k < B → ¬ S k) : Below B w w' := ⟨h.os, h.tape, h.output, h.size, fun k hk => h.block k (by omega) (hS k hk)⟩
theorem Only.cell {S : Nat → Prop} {w w' : World} (h : Only S w w') {p : Addr} (hp : p.block < w.heap.size) (hs : ¬ S p.block) : w'.cell? p = w.cell? p := World.cell?_of_block (w := w) (h.block p.block hp hs)

/-- A slice (perhaps nil) whose elements are these integers. -/
def IntsAt (kd : IntKind) (w : World) (a : Option Addr) (L : List Int) : Prop :=
  ∀ i, i < L.length → ∃ b off, a = some ⟨b, off, none⟩ ∧ b < w.heap.size ∧ w.cell? ⟨b, off + i, none⟩ = some (.int kd (L.getD i 0)) ∧ (Lit.int kd (L.getD i 0)).wf = true
theorem IntsAt.wf {kd : IntKind} {w : World} {a : Option Addr} {L : List Int} (h : IntsAt kd w a L) : ∀ n ∈ L, (Lit.int kd n).wf = true := by
  intro n hn
  obtain ⟨i, hi, rfl⟩ := List.getElem_of_mem hn
  obtain ⟨_, _, _, _, _, hw⟩ := h i hi
  simpa [hi] using hw
theorem IntsAt.below {kd : IntKind} {w w' : World} {a : Option Addr} {L : List Int} (h : IntsAt kd w a L) (hb : Below w.heap.size w w') : IntsAt kd w' a L := fun i hi => by
  obtain ⟨b, off, rfl, hlt, hc, hw⟩ := h i hi
  exact ⟨b, off, rfl, Nat.lt_of_lt_of_le hlt hb.size, (hb.cell (p := ⟨b, off + i, none⟩) hlt).trans hc, hw⟩
theorem IntsAt.only {kd : IntKind} {S : Nat → Prop} {w w' : World} {a : Option Addr} {L : List Int} (h : IntsAt kd w a L) (hb : Only S w w') (hs : ∀ x, a = some x → 0 < L.length → ¬ S x.block) : IntsAt kd w' a L := fun i hi => by
  obtain ⟨b, off, rfl, hlt, hc, hw⟩ := h i hi
  exact ⟨b, off, rfl, Nat.lt_of_lt_of_le hlt hb.size, (hb.cell (p := ⟨b, off + i, none⟩) hlt (hs ⟨b, off, none⟩ rfl (by omega))).trans hc, hw⟩
theorem IntsAt.lt {kd : IntKind} {w : World} {a : Option Addr} {L : List Int} (h : IntsAt kd w a L) : ∀ x, a = some x → 0 < L.length → x.block < w.heap.size := fun x hx h0 => by
  obtain ⟨b, off, hx', hlt, _⟩ := h 0 h0
  rw [hx] at hx'; cases hx'; exact hlt
theorem IntsAt.nil (kd : IntKind) (w : World) (a : Option Addr) : IntsAt kd w a [] := fun i hi => by simp at hi
/-- A slice over a block of its own. -/
theorem IntsAt.of_blk {kd : IntKind} {w : World} {b : Nat} {L : List Int} {cs : Array Value} {T : TypeId} (h : Blk w b cs T) (hcs : ∀ i, i < L.length → cs[i]? = some (.int kd (L.getD i 0))) (hw : ∀ n ∈ L, (Lit.int kd n).wf = true) : IntsAt kd w (some ⟨b, 0, none⟩) L := fun i hi =>
  ⟨b, 0, rfl, h.lt, by rw [Nat.zero_add]; exact h.cell i _ (hcs i hi), by rw [List.getD_eq_getElem?_getD, List.getElem?_eq_getElem hi]; exact hw _ (List.getElem_mem hi)⟩

theorem IntsAt.of_map {kd : IntKind} {w : World} {b : Nat} {L : List Int} {T : TypeId} (h : Blk w b (L.map (Value.int kd)).toArray T) (hw : ∀ n ∈ L, (Lit.int kd n).wf = true) : IntsAt kd w (some ⟨b, 0, none⟩) L :=
  IntsAt.of_blk h (fun i hi => by simp [hi]) hw

/-- Onwards: what is below B is as it was, and a call that only makes memory, or only turns block b. -/
theorem below_on {B : Nat} {w w1 w2 : World} (h : Below B w w1) (h2 : Below w1.heap.size w1 w2) (hB : B ≤ w1.heap.size) : Below B w w2 := h.trans (h2.mono hB)
theorem below_onto {B : Nat} {S : Nat → Prop} {w w1 w2 : World} (h : Below B w w1) (h2 : Only S w1 w2) (hB : B ≤ w1.heap.size) (hS : ∀ k, k < B → ¬ S k) : Below B w w2 := h.trans (below_of_only h2 hB hS)

end Go.Proofs.YtgpnfdeneagdbaaGreat
