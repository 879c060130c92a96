/- One operation of the machine's, and what it says of the run. -/
import Derived.Test.YtgpnfdeneagdbaaGreatRf8
import Derived.Lib.MakeNoZero
import Derived.Laws.Externs
import Derived.Lib.UnsafeStr
namespace Go.Proofs.YtgpnfdeneagdbaaGreat.Rf
open Go Go.RowKit
set_option linter.unusedVariables false
set_option linter.unusedSimpArgs false

variable {P : Program} {ρ : Ren} {W0 W W' : World} {hp hp' : Tr Blk} {n : Nat} {tm : Tr Value} {e : Operand → Value}

theorem freeze_heap (W : World) (k N j : Nat) : (W.freeze ⟨k, N, none⟩ 1).heap[j]? = if k = j then (W.heap[j]?).map (fun
      | .cells c elem (lo, hi) => .cells c elem (if lo == hi then (N, N + 1) else (min lo N, max hi (N + 1)))
      | o => o) else W.heap[j]? := by
  unfold World.freeze
  rw [if_neg (by decide)]
  simp only [Array.getElem?_modify]
  split <;> rfl

/-- the place behind a block's end is frozen -/
theorem WR.freeze (hw : WR W0 ρ hp n W) {b : Nat} {p : PB} (hb : ρ b = some p) {C : Array Value} {el : TypeId} {fz : Nat × Nat} (hl : Blk.live (hp.get b) = true) (hC : W.heap[p.blk]? = some (.cells C el fz)) : WR W0 ρ hp n (W.freeze ⟨p.blk, C.size, none⟩ 1) := by
  have hz := hw.froz b p hb hl C el fz hC
  obtain ⟨lo, hi⟩ := fz
  have hk : (W.freeze ⟨p.blk, C.size, none⟩ 1).heap[p.blk]? = some (.cells C el (if lo == hi then (C.size, C.size + 1) else (min lo C.size, max hi (C.size + 1)))) := by
    rw [freeze_heap, if_pos rfl, hC]; rfl
  have ho : ∀ j, j ≠ p.blk → (W.freeze ⟨p.blk, C.size, none⟩ 1).heap[j]? = W.heap[j]? := fun j hj => by rw [freeze_heap, if_neg (Ne.symm hj)]
  have hle : C.size ≤ (if lo == hi then (C.size, C.size + 1) else (min lo C.size, max hi (C.size + 1))).1 := by
    by_cases h : lo = hi
    · simp [h]
    · have : (lo == hi) = false := by simpa using h
      simp only [this, Bool.false_eq_true, if_false]
      rcases hz with hz | hz
      · exact absurd hz h
      · simp only at hz; omega
  have hcell : ∀ x, (W.freeze ⟨p.blk, C.size, none⟩ 1).cell? x = W.cell? x := fun x => by
    unfold World.cell?
    by_cases h : x.block = p.blk
    · rw [h, hk, hC]
    · rw [ho _ h]
  have hfr : ∀ x, (W.cell? x).isSome = true → W.frozen? x = false → (W.freeze ⟨p.blk, C.size, none⟩ 1).frozen? x = false := fun x h1 h2 => by
    by_cases h : x.block = p.blk
    · unfold World.frozen?
      rw [h, hk]
      have : x.off < C.size := by
        unfold World.cell? at h1
        rw [h, hC] at h1
        simp only at h1
        split at h1
        · cases h1
        · obtain ⟨v, hv⟩ := Option.isSome_iff_exists.1 h1
          exact (Array.getElem?_eq_some_iff.1 hv).1
      simp only [Bool.and_eq_false_imp, decide_eq_true_eq, decide_eq_false_iff_not]
      intro; omega
    · unfold World.frozen? at h2 ⊢
      rw [ho _ h]; exact h2
  have hth : ∀ {b o k}, W.there b o k → (W.freeze ⟨p.blk, C.size, none⟩ 1).there b o k := fun h j hj => ⟨by rw [hcell]; exact (h j hj).1, hfr _ (h j hj).1 (h j hj).2⟩
  have hshape : ∀ j, (W.freeze ⟨p.blk, C.size, none⟩ 1).shape? j = W.shape? j := fun j => by
    unfold World.shape?
    by_cases h : j = p.blk
    · rw [h, hk, hC]
    · rw [ho _ h]
  have hsz : (W.freeze ⟨p.blk, C.size, none⟩ 1).heap.size = W.heap.size := by
    unfold World.freeze
    rw [if_neg (by decide)]
    simp
  have hdom := hw.dom b p hb
  refine ⟨hw.pos, fun x q hx => by rw [hsz]; exact hw.dom x q hx, hw.fresh, hw.zero, hw.inj, fun x q c g hx hg => ?_, fun x q es k hx hg => ?_, hw.below.trans ⟨?_, ?_, ?_, by rw [hsz]; exact Nat.le_refl _, fun j hj => ho j (by omega)⟩, fun x q hx hl2 C2 e2 fz2 h2 => ?_, hw.ro⟩
  · obtain ⟨c', a1, a2, a3, a4, a5⟩ := hw.cells x q c g hx hg
    exact ⟨c', a1, fun j v hv => by rw [hcell]; exact a2 j v hv, hth a3, a4, fun es e x he => by obtain ⟨N, d1, d2, d3, d4⟩ := a5 es e x he; exact ⟨N, d1, hth d2, by rw [hshape]; exact d3, d4⟩⟩
  · obtain ⟨es', a1, a2⟩ := hw.maps x q es k hx hg
    refine ⟨es', a1, ?_⟩
    by_cases h : q.blk = p.blk
    · rw [h, hC] at a2; cases a2
    · rw [ho _ h]; exact a2
  · unfold World.freeze; rw [if_neg (by decide)]
  · unfold World.freeze; rw [if_neg (by decide)]
  · unfold World.freeze; rw [if_neg (by decide)]
  · by_cases h : q.blk = p.blk
    · rw [h, hk] at h2
      simp only [Option.some.injEq, Obj.cells.injEq] at h2
      obtain ⟨rfl, _, rfl⟩ := h2
      exact .inr hle
    · rw [ho _ h] at h2; exact hw.froz x q hx hl2 C2 e2 fz2 h2

theorem freeze_other (W : World) (a : Addr) (m j : Nat) (h : j ≠ a.block) : (W.freeze a m).heap[j]? = W.heap[j]? := by
  unfold World.freeze
  split
  · rfl
  · simp only [Array.getElem?_modify]
    rw [if_neg (Ne.symm h)]
theorem freeze_size (W : World) (a : Addr) (m : Nat) : (W.freeze a m).heap.size = W.heap.size := by
  unfold World.freeze
  split
  · rfl
  · simp
/-- a block that the machine has given up is frozen -/
theorem WR.freezeDead (hw : WR W0 ρ hp n W) {k : Nat} (hk : W0.heap.size ≤ k) (hfree : ∀ x q, ρ x = some q → Blk.live (hp.get x) = true → q.blk ≠ k) (o m : Nat) : WR W0 ρ hp n (W.freeze ⟨k, o, none⟩ m) := by
  have ho : ∀ j, j ≠ k → (W.freeze ⟨k, o, none⟩ m).heap[j]? = W.heap[j]? := fun j hj => freeze_other _ _ _ _ hj
  have hbe : Below W0.heap.size W (W.freeze ⟨k, o, none⟩ m) := Lib.below_freeze (Below.refl _ _) hk m
  refine ⟨hw.pos, fun x q hx => by rw [freeze_size]; exact hw.dom x q hx, hw.fresh, hw.zero, hw.inj, fun x q c g hx hg => ?_, fun x q es j hx hg => ?_, hw.below.trans hbe, fun x q hx hl C e fz hC => ?_, hw.ro⟩
  · have hne := hfree x q hx (by rw [hg]; rfl)
    obtain ⟨c', a1, a2, a3, a4, a5⟩ := hw.cells x q c g hx hg
    have hc : ∀ y : Addr, y.block = q.blk → (W.freeze ⟨k, o, none⟩ m).cell? y = W.cell? y := fun y hy => by unfold World.cell?; rw [hy, ho _ hne]
    have hf : ∀ y : Addr, y.block = q.blk → (W.freeze ⟨k, o, none⟩ m).frozen? y = W.frozen? y := fun y hy => by unfold World.frozen?; rw [hy, ho _ hne]
    have hth : ∀ {o' k'}, W.there q.blk o' k' → (W.freeze ⟨k, o, none⟩ m).there q.blk o' k' := fun h j hj => by rw [hc _ rfl, hf _ rfl]; exact h j hj
    exact ⟨c', a1, fun j v hv => by rw [hc _ rfl]; exact a2 j v hv, hth a3, a4, fun es e x he => by obtain ⟨N, d1, d2, d3, d4⟩ := a5 es e x he; exact ⟨N, d1, hth d2, by unfold World.shape? at d3 ⊢; rw [ho _ hne]; exact d3, d4⟩⟩
  · have hne := hfree x q hx (by rw [hg]; rfl)
    obtain ⟨es', a1, a2⟩ := hw.maps x q es j hx hg
    exact ⟨es', a1, by rw [ho _ hne]; exact a2⟩
  · have hne := hfree x q hx hl
    rw [ho _ hne] at hC
    exact hw.froz x q hx hl C e fz hC

theorem run_loadBytes_ns : ∀ (ns : List Int) (b o : Nat) (acc : ByteArray), W.rangeAt b o (ns.map (Value.int .u8)) → (loadBytes ⟨b, o, none⟩ acc ns.length).run P W = .ok (ns.foldl (fun r n => r.push (UInt8.ofNat n.toNat)) acc) W
  | [], b, o, acc, h => by simp [loadBytes, Sem.run_pure]
  | x :: ns, b, o, acc, h => by
    have h0 : W.cell? ⟨b, o, none⟩ = some (.int .u8 x) := h 0 _ rfl
    have ih := run_loadBytes_ns ns b (o + 1) (acc.push (UInt8.ofNat x.toNat)) (fun j v hv => by
      have := h (j + 1) v (by simpa using hv)
      rwa [show o + (j + 1) = o + 1 + j by omega] at this)
    simp only [List.length_cons, loadBytes, Sem.run_bind, run_load, h0, Result.andThen_ok]
    rw [show (⟨b, o, none⟩ : Addr).add 1 = ⟨b, o + 1, none⟩ from by simp [Addr.add]]
    exact ih
theorem liesAt_bytes_at {el : TypeId} (hc : P.cellsOf el = 1) (count o m : Nat) (hn : o + m ≤ count) : liesAt P P.depth el count o el m = true := by
  have hd : P.depth = (2 * (P.types.size + Made.depth) + 1) + 1 := rfl
  rw [hd]
  simp only [liesAt, Bool.or_eq_true]
  left
  rw [hd]
  simp [rowAt, hc, hn, sameLayout, Nat.mod_one]
theorem run_unsafeString_at (pt it ty el : TypeId) (hp : P.underlying pt = some (.pointer el)) (hc : P.cellsOf el = 1) (g o cells : Nat) (hsh : W.shape? g = some (el, cells)) (ns : List Int) (h0 : ns.length ≠ 0) (hn : o + ns.length ≤ cells) (h63 : ns.length ≤ 1000000) (hr : W.rangeAt g o (ns.map (Value.int .u8))) :
    (Builtin.unsafeString_ #[pt, it] ty #[.pointer (some ⟨g, o, none⟩), .int .i64 ns.length]).run P W = .ok (.string (ns.foldl (fun r n => r.push (UInt8.ofNat n.toNat)) ByteArray.empty)) (W.freeze ⟨g, o, none⟩ ns.length) := by
  have hlb := run_loadBytes_ns (P := P) ns g o ByteArray.empty hr
  have hlies := liesAt_bytes_at (P := P) hc (cells / P.cellsOf el) o ns.length (by rw [hc]; simpa using hn)
  have h63' : ¬ (9223372036854775807 : Int) < (ns.length : Int) := by omega
  obtain ⟨m1, m2, m3, hdef⟩ : ∃ m1 m2 m3, Builtin.unsafeString_ #[pt, it] ty #[.pointer (some ⟨g, o, none⟩), .int .i64 ns.length] =
      (do
        let n ← asInt (.int .i64 ns.length)
        if n < 0 then runtimePanic m1
        if n > IntKind.i64.max then unsupported m2
        if n = 0 then pure (.string .empty)
        else if ← variablesAt ⟨g, o, none⟩ (← elemOf pt) n.toNat then do
          let s ← loadBytes ⟨g, o, none⟩ .empty n.toNat
          freeze ⟨g, o, none⟩ n.toNat
          pure (.string s)
        else unsupported m3) := ⟨_, _, _, rfl⟩
  rw [hdef]
  have hmax : IntKind.i64.max = 9223372036854775807 := rfl
  have hneg : ¬ (ns.length : Int) < 0 := by omega
  simp [asInt, asIntOf, hmax, h63', hneg, h0, variablesAt, hsh, elemOf, run_underlying hp, hlies, hlb]

theorem unsafeStrA_sound {pt : TypeId} {x : Value} {m : Nat} {K : Value → Tr Blk → Bool} (h : unsafeStrA P hp pt x m K = true) :
    ∃ v hp2, K v hp2 = true ∧ Rf.flat v = true ∧ ∀ {ρ W0 W x' it ty}, WR W0 ρ hp n W → VR ρ x x' →
      ∃ W', (Builtin.unsafeString_ #[pt, it] ty #[x', .int .i64 m]).run P W = .ok v W' ∧ WR W0 ρ hp2 n W' ∧ Ext ρ hp n ρ hp2 n := by
  unfold unsafeStrA at h
  split at h
  · cases hm : m.beq 0 <;> simp only [hm, cond_true, cond_false] at h
    · cases h
    obtain rfl := Nat.eq_of_beq_eq_true hm
    refine ⟨_, _, h, rfl, fun {ρ W0 W x' it ty} hw hx => ⟨W, ?_, hw, Ext.refl _ _ _⟩⟩
    rw [VR.of_flat rfl hx]
    exact Lib.run_unsafeString_none W pt it ty none
  · rename_i b
    cases hm : m.beq 0 <;> simp only [hm, cond_true, cond_false] at h
    rotate_left
    · obtain rfl := Nat.eq_of_beq_eq_true hm
      refine ⟨_, _, h, rfl, fun {ρ W0 W x' it ty} hw hx => ⟨W, ?_, hw, Ext.refl _ _ _⟩⟩
      obtain ⟨_, rfl⟩ := hx.ptr_some
      exact Lib.run_unsafeString_none W pt it ty _
    split at h
    rotate_left
    · cases h
    rename_i c es el xb e' hg hpt
    have hq := bif_true h
    clear h
    obtain ⟨hcond, h⟩ := hq
    simp only [Bool.and_eq_true] at hcond
    obtain rfl := Nat.eq_of_beq_eq_true hcond.1.1
    have hc1 : P.cellsOf el = 1 := Nat.eq_of_beq_eq_true hcond.1.2
    have hm6 : m ≤ 1000000 := Nat.le_of_ble_eq_true hcond.2
    split at h
    rotate_left
    · cases h
    rename_i l0 hl0
    split at h
    rotate_left
    · cases h
    rename_i l hl
    obtain ⟨hp2, hK, hget⟩ := Tr.putK_ok _ _ _ _ _ h
    refine ⟨_, _, hK, rfl, fun {ρ W0 W x' it ty} hw hx => ?_⟩
    obtain ⟨_, _, p, e1, hρ, rfl⟩ := hx.ptr_inv
    simp only [Addr.mk.injEq] at e1
    obtain ⟨rfl, rfl, _⟩ := e1
    obtain ⟨cs', h1, h2, h3, _⟩ := cellsAt_sound hw (a := ⟨b, 0, none⟩) hρ (k := m) (cs := l0) (by unfold cellsAt; rw [hg]; simpa using hl0)
    obtain ⟨ns, rfl, hf⟩ := bytesOf_sound h1 hl
    have hnl : ns.length = m := by have := h1.length; simp at this; omega
    have hm0 : ns.length ≠ 0 := by intro e; rw [hnl] at e; rw [e] at hm; cases hm
    obtain ⟨c', a1, a2, a3, a4, a5⟩ := hw.cells _ p c _ hρ hg
    obtain ⟨N, d1, d2, d3, d4⟩ := a5 es el xb rfl
    have hle : 0 + p.sh + ns.length ≤ N := by
      have hlast := h2 (ns.length - 1) (.int .u8 (ns.getD (ns.length - 1) 0)) (by rw [List.getElem?_map]; simp [show ns.length - 1 < ns.length by omega])
      unfold World.shape? at d3
      unfold World.cell? at hlast
      simp only at hlast
      cases hh : W.heap[p.blk]? with
      | none => rw [hh] at d3; cases d3
      | some ob =>
        rw [hh] at d3 hlast
        cases ob with
        | cells C el2 fz =>
          simp only [Option.some.injEq, Prod.mk.injEq] at d3
          obtain ⟨_, rfl⟩ := d3
          simp only [Option.isSome_none, Bool.false_eq_true, if_false] at hlast
          have := (Array.getElem?_eq_some_iff.1 hlast).1
          omega
        | _ => cases d3
    have hrun := run_unsafeString_at (P := P) (W := W) pt it ty el hpt hc1 p.blk (0 + p.sh) N d3 ns hm0 hle (by omega) h2
    rw [hf ByteArray.empty, hnl] at hrun
    have hdom := hw.dom _ p hρ
    have hkill := hw.kill (b := b) hdom.1 hdom.2.1 hget
    have hfree : ∀ y q, ρ y = some q → Blk.live (hp2.get y) = true → q.blk ≠ p.blk := fun y q hy hl2 => by
      have hyb : y ≠ b := by intro e; subst e; rw [hget, if_pos rfl] at hl2; cases hl2
      rw [hget, if_neg hyb] at hl2
      exact hw.inj y b q p hyb hy hρ hl2 (by rw [hg]; rfl)
    refine ⟨_, ?_, hkill.freezeDead hdom.2.2.1 hfree (0 + p.sh) m, ⟨Nat.le_refl _, fun _ _ => rfl, fun y _ hyn => ?_⟩⟩
    · rw [hrun]; rfl
    · rw [hget, if_neg]
      intro e; subst e; rw [hρ] at hyn; cases hyn
  · cases h

theorem mark_sound (hw : WR W0 ρ hp n W) {b o : Nat} {p : PB} (hb : ρ b = some p) (hl : Blk.live (hp.get b) = true) : ∃ W', (markStringish ⟨p.blk, o, none⟩).run P W = .ok () W' ∧ WR W0 ρ hp n W' := by
  unfold markStringish
  by_cases h : ∃ C el fz, W.heap[p.blk]? = some (.cells C el fz)
  · obtain ⟨C, el, fz, hC⟩ := h
    have hs : W.shape? p.blk = some (el, C.size) := by simp [World.shape?, hC]
    refine ⟨_, ?_, hw.freeze hb hl hC⟩
    simp only [Sem.run_bind]
    have : (shape p.blk).run P W = .ok (some (el, C.size)) W := by simp [shape, Sem.run, hs]
    rw [this]
    rfl
  · have hs : W.shape? p.blk = none := by
      unfold World.shape?
      split
      · exact absurd ⟨_, _, _, ‹_›⟩ h
      · rfl
    refine ⟨W, ?_, hw⟩
    simp only [Sem.run_bind]
    have : (shape p.blk).run P W = .ok none W := by simp [shape, Sem.run, hs]
    rw [this]
    rfl

/-- What becomes of an operation's run: a value, nothing, or a call that ends in a value. -/
def ActRun (P : Program) (o : Oper) (e : Operand → Value) (W : World) (R : Value → World → Prop) : Prop :=
  (∃ v' W', (execOp e o).run P W = .ok (.value v') W' ∧ R v' W') ∨ (∃ W', (execOp e o).run P W = .ok .skip W' ∧ R undef W') ∨
  (∃ f args W', (execOp e o).run P W = .ok (.enter f args) W' ∧ Calls P f args W' fun en W'' => ∃ v', en = .returned v' ∧ R v' W'')

theorem ActRun.mono {o : Oper} {R R' : Value → World → Prop} (h : ActRun P o e W R) (hr : ∀ v w, R v w → R' v w) : ActRun P o e W R' := by
  rcases h with ⟨v, w, h1, h2⟩ | ⟨w, h1, h2⟩ | ⟨f, args, w, h1, h2⟩
  · exact .inl ⟨v, w, h1, hr _ _ h2⟩
  · exact .inr (.inl ⟨w, h1, hr _ _ h2⟩)
  · exact .inr (.inr ⟨f, args, w, h1, h2.mono fun en w' ⟨v, h3, h4⟩ => ⟨v, h3, hr _ _ h4⟩⟩)

theorem ActRun.wp {o : Oper} {a : Act} {R : Value → World → Prop} {K : Act → World → Prop} {Q : Exit → Act → World → Prop} (h : ActRun P o a.eval W R) (hr : ∀ v w, R v w → K (a.put o.dst v) w) : o.wp P a W K Q := by
  unfold Oper.wp
  rcases h with ⟨v, w, h1, h2⟩ | ⟨w, h1, h2⟩ | ⟨f, args, w, h1, h2⟩
  · rw [h1]; exact hr _ _ h2
  · rw [h1]; exact hr _ _ h2
  · rw [h1]
    exact h2.mono fun en w' ⟨v, h3, h4⟩ => by subst h3; exact hr _ _ h4

/-- one actor: from here, with all that stands for it, the run comes to there -/
def Acts (P : Program) (o : Oper) (tm : Tr Value) (hp : Tr Blk) (n : Nat) (v : Value) (hp2 : Tr Blk) (n2 : Nat) : Prop :=
  ∀ {ρ : Ren} {W0 W : World} {e : Operand → Value}, WR W0 ρ hp n W → EV ρ tm e (· ∈ o.op.operands) → ActRun P o e W fun v' W' => ∃ ρ', WR W0 ρ' hp2 n2 W' ∧ Ext ρ hp n ρ' hp2 n2 ∧ VR ρ' v v'

/-- the frame behind an operation -/
structure Put (sz : Nat) (tm : Tr Value) (d : Option Tmp) (v : Value) (tm' : Tr Value) : Prop where
  lt : ∀ t, d = some t → t < sz
  get : ∀ t, tm'.get t = if d = some t then some v else tm.get t

theorem putT_ok {sz : Nat} {st : St} {d : Option Tmp} {v : Value} {K : St → Bool} (h : putT sz st d v K = true) : ∃ tm', K { st with tm := tm' } = true ∧ Put sz st.tm d v tm' := by
  unfold putT at h
  split at h
  · exact ⟨st.tm, h, ⟨fun t ht => (by cases ht), fun t => (by simp)⟩⟩
  · rename_i d
    cases hlt : d.blt sz <;> simp only [hlt, cond_true, cond_false] at h
    · cases h
    obtain ⟨tm', hK, hg⟩ := Tr.putK_ok _ _ _ _ _ h
    refine ⟨tm', hK, fun t ht => ?_, fun t => ?_⟩
    · cases ht; exact Nat.le_of_ble_eq_true hlt
    · rw [hg]
      by_cases ht : t = d
      · subst ht; simp
      · rw [if_neg ht, if_neg (by intro e; cases e; exact ht rfl)]

theorem natK_eq (n : Nat) (K : Nat → Bool) : natK n K = K n := by cases n <;> rfl
theorem intK_eq (i : Int) (K : Int → Bool) : intK i K = K i := by cases i <;> simp [intK, natK_eq]
theorem addrK_eq (a : Addr) (K : Addr → Bool) : addrK a K = K a := by
  obtain ⟨b, o, s⟩ := a
  cases s <;> simp [addrK, natK_eq]
theorem valK_eq (v : Value) (K : Value → Bool) : valK v K = K v := by
  unfold valK
  split <;> simp [intK_eq, natK_eq, addrK_eq]

/-- What calls are said to do. -/
def SoundCall (P : Program) (S : Fns) : Prop := ∀ (f : FuncId) (args : List Value) (hp : Tr Blk) (n : Nat) (K : RetK), S.call f args hp n K = true →
  ∃ v hp2 n2, K v hp2 n2 = true ∧ ∀ {ρ : Ren} {W0 W : World} {args' : List Value}, WR W0 ρ hp n W → VRs ρ args args' →
    Calls P f ⟨args'⟩ W fun en W' => ∃ v', en = .returned v' ∧ ∃ ρ', WR W0 ρ' hp2 n2 W' ∧ Ext ρ hp n ρ' hp2 n2 ∧ VR ρ' v v'

theorem VRs.two {a b : Value} {l : List Value} (h : VRs ρ [a, b] l) : ∃ a' b', l = [a', b'] ∧ VR ρ a a' ∧ VR ρ b b' := by
  cases h with | cons _ a' _ _ h1 hs => cases hs with | cons _ b' _ _ h2 hs => cases hs; exact ⟨a', b', rfl, h1, h2⟩
theorem VRs.one' {a : Value} {l : List Value} (h : VRs ρ [a] l) : ∃ a', l = [a'] ∧ VR ρ a a' := by
  cases h with | cons _ a' _ _ h1 hs => cases hs; exact ⟨a', rfl, h1⟩

theorem undef_eq : (undef : Value) = .tuple #[] := rfl
theorem VR.undef : VR ρ (.tuple #[]) Go.undef := .tu [] [] .nil

theorem run_call_builtin {dst : Option Tmp} {b : Builtin} {args : Array Operand} {ats : Array TypeId} {type : TypeId} {pos : String} {after : Array Edge} {guard : Option (Nat × Bool)} {W : World} {l : List Value} (hl : args.toList.map e = l) :
    (execOp e ⟨dst, .call ⟨.builtin b, args, ats⟩, type, pos, after, guard⟩).run P W = (builtin b ats type (args.map fun | .const _ => true | _ => false) ⟨l⟩).run P W := by
  have harr : args.map e = ⟨l⟩ := by apply Array.ext'; simpa using hl
  rw [← harr]; exact resolve_builtin ⟨.builtin b, args, ats⟩ b rfl type W

theorem digits_any : ∀ (n t : Nat) (acc : Array Value), (∀ v ∈ acc.toList, ∃ x, v = .int .u8 x) → ∀ v ∈ (Extern.BytealgMakeNoZero.digits n t acc).toList, ∃ x, v = Value.int .u8 x
  | 0, _, acc, h => h
  | n + 1, t, acc, h => by
    rw [Extern.BytealgMakeNoZero.digits]
    refine digits_any n _ _ fun v hv => ?_
    simp at hv
    rcases hv with hv | rfl
    · exact h v (by simpa using hv)
    · exact ⟨_, rfl⟩
theorem run_noZero (W : World) (ps rs : Array TypeId) (t el : TypeId) (hr : rs[0]? = some t) (ht : P.underlying t = some (.slice el)) (n : Nat) (hn : n ≤ 1000000) :
    ∃ cs : List Value, (∀ v ∈ cs, ∃ x, v = .int .u8 x) ∧ n ≤ cs.length ∧ (Extern.BytealgMakeNoZero.makeNoZero ps rs #[.int .i64 n]).run P W = .ok (.slice (some ⟨W.heap.size, 0, none⟩) n cs.length) (World.alloc { W with drawn := W.drawn + 2 } (.cells ⟨cs⟩ el)) := by
  obtain ⟨m1, m2, m3, hdef⟩ : ∃ m1 m2 m3, Extern.BytealgMakeNoZero.makeNoZero ps rs #[.int .i64 n] =
      (do
        let some t := rs[0]? | stuck m1
        let .slice elem ← underlying t | stuck m2
        if (n : Int) < 0 || (n : Int) > 2 ^ 48 then runtimePanic m3
        let cap ← choose (.appendCap (n : Int).toNat 0 elem)
        askRoom cap
        let bytes ← choose (.extern "internal/bytealg.MakeNoZero.bytes" 0)
        let a ← newRow elem (Extern.BytealgMakeNoZero.digits cap bytes #[])
        pure (.slice (some a) (n : Int).toNat cap)) := ⟨_, _, _, rfl⟩
  refine ⟨(Extern.BytealgMakeNoZero.digits (grownCap W n 0 el) ((Question.extern "internal/bytealg.MakeNoZero.bytes" 0).cut (W.tape (W.drawn + 1) (.extern "internal/bytealg.MakeNoZero.bytes" 0))) #[]).toList, digits_any _ _ _ (by simp), ?_, ?_⟩
  · have := grownCap_ge W n 0 el
    simp [Lib.size_digits]
    simpa using this
  · rw [hdef, hr]
    have h1 : ¬ (n : Int) < 0 := by omega
    have h2 : ¬ (281474976710656 : Int) < (n : Int) := by omega
    show _ = Result.ok _ (W.drew.drew.alloc _)
    simp [run_underlying ht, h1, h2, Question.forced, newRow, Lib.size_digits, grownCap]
theorem noZero_find {f : FuncId} {el : TypeId} (h : isNoZero P f = some el) : ∃ fn t, P.funcs[f]? = some fn ∧ fn.body.isNone = true ∧ (fn.name == "runtime.NumGoroutine") = false ∧ Extern.findNext fn = none ∧ fn.resultTypes[0]? = some t ∧ P.underlying t = some (.slice el) ∧ Extern.find fn = some (Extern.BytealgMakeNoZero.makeNoZero fn.params fn.resultTypes) := by
  unfold isNoZero at h
  split at h
  · rename_i fn hfn
    cases hc : (fn.name == "internal/bytealg.MakeNoZero" && fn.body.isNone && (Extern.findNext fn).isNone) <;> simp only [hc, cond_true, cond_false] at h
    · cases h
    simp only [Bool.and_eq_true, beq_iff_eq] at hc
    obtain ⟨⟨hn, hb⟩, hx⟩ := hc
    split at h
    · rename_i t ht
      split at h
      · rename_i e he
        cases hq : ((P.cellsOf e).beq 1 && (P.bytesOf e).beq 1) <;> simp only [hq, cond_true, cond_false] at h
        · cases h
        cases h
        refine ⟨fn, t, hfn, hb, by rw [hn]; rfl, by simpa using hx, ht, he, ?_⟩
        unfold Extern.find
        simp only [hn]
        have a1 : Extern.allGenericRows.lookup "internal/bytealg.MakeNoZero" = none := by kernel_rfl
        have a2 : Extern.allTypedRows.lookup "internal/bytealg.MakeNoZero" = some Extern.BytealgMakeNoZero.makeNoZero := by kernel_rfl
        rw [a1, a2]
        rfl
      · cases h
    · cases h
  · cases h
theorem noEsc_run {f : FuncId} (h : isNoEsc P f = true) (x : Value) (W : World) : (callFunc f ⟨[x]⟩).run P W = .ok (.value x) W := by
  unfold isNoEsc at h
  split at h
  · rename_i fn hfn
    simp only [Bool.and_eq_true, beq_iff_eq] at h
    obtain ⟨⟨hn, hb⟩, hx⟩ := h
    have hfind : Extern.find fn = some Extern.AbiNoEscape.same := by
      unfold Extern.find
      simp only [hn]
      have a1 : Extern.allGenericRows.lookup "internal/abi.NoEscape" = none := by kernel_rfl
      have a2 : Extern.allTypedRows.lookup "internal/abi.NoEscape" = none := by kernel_rfl
      have a3 : Extern.allRows.lookup "internal/abi.NoEscape" = some Extern.AbiNoEscape.same := by kernel_rfl
      rw [a1, a2, a3]
      rfl
    rw [run_callFunc_extern hfn (by rw [hn]; rfl) hb (by simpa using hx) hfind]
    rfl
  · cases h
theorem VRs.of_plain : ∀ {vs vs' : List Value}, vs.all Rf.plain = true → VRs ρ vs vs' → vs' = vs
  | [], _, _, .nil => rfl
  | v :: vs, _, hf, .cons _ _ _ _ h hs => by
    simp only [List.all_cons, Bool.and_eq_true] at hf
    rw [VR.of_plain hf.1 h, VRs.of_plain hf.2 hs]
theorem rep_any : ∀ (n : Nat) (cs : List Value), (∀ v ∈ cs, ∃ x, v = .int .u8 x) → n ≤ cs.length → VRs ρ (rep n [anyByte]) (cs.take n)
  | 0, _, _, _ => .nil
  | n + 1, [], _, h => by simp at h
  | n + 1, v :: cs, h1, h2 => by
    obtain ⟨x, rfl⟩ := h1 v (by simp)
    exact .cons _ _ _ _ (.any .u8 x) (rep_any n cs (fun u hu => h1 u (by simp [hu])) (by simpa using h2))
theorem rep_any_len : ∀ (n : Nat), (rep n [anyByte]).length = n
  | 0 => rfl
  | n + 1 => by simp [rep, rep_any_len n]
theorem rep_any_one : ∀ (n : Nat), (rep n [anyByte]).all Rf.one = true
  | 0 => rfl
  | n + 1 => by simp only [rep, List.all_append, rep_any_one n]; rfl

set_option maxHeartbeats 1000000 in
/-- THE ACTORS. -/
theorem actA_ok {S : Fns} (hS : SoundCall P S) {sz : Nat} {st : St} (o : Oper) {K : St → Bool} (h : actA P S sz st o K = true) :
    ∃ v tm' hp2 n2, K ⟨tm', hp2, n2⟩ = true ∧ Put sz st.tm o.dst v tm' ∧ Acts P o st.tm st.hp st.n v hp2 n2 := by
  obtain ⟨dst, op, type, pos, after, guard⟩ := o
  unfold actA at h
  simp only at h
  cases op with
  | assign x =>
    simp only at h
    split at h
    · rename_i v hv
      obtain ⟨tm', hK, hput⟩ := putT_ok h
      exact ⟨v, tm', _, _, hK, hput, fun {ρ W0 W e} hw hE => .inl ⟨e x, W, rfl, ρ, hw, Ext.refl _ _ _, hE x (by simp [Op.operands]) v hv⟩⟩
    · cases h
  | convert src d x =>
    simp only at h
    split at h
    · rename_i b a l c el el2 hx hd hs
      split at h
      · rename_i he
        obtain ⟨hsd, h2⟩ := bif_true h
        clear h
        simp only [Bool.and_eq_true] at hsd
        have hlive : Blk.live (st.hp.get b) = true := by
          have h9 := hsd.2
          unfold liveB at h9
          split at h9
          · rename_i hq; rw [hq]; rfl
          · cases h9
        obtain rfl := Nat.eq_of_beq_eq_true hsd.1
        obtain ⟨tm', hK, hput⟩ := putT_ok h2
        refine ⟨_, tm', _, _, hK, hput, fun {ρ W0 W e} hw hE => ?_⟩
        have hv := hE x (by simp [Op.operands]) _ hx
        obtain ⟨a', c', hex, _, hcc, ⟨p, hρ, rfl, _⟩ | ⟨heq, _, _⟩⟩ := hv.slice_inv
        · obtain ⟨W', hr, hw'⟩ := mark_sound (P := P) (o := a + p.sh) hw hρ hlive
          refine .inl ⟨_, W', ?_, ρ, hw', Ext.refl _ _ _, hex ▸ hv⟩
          simp only [execOp, hex]
          have hcv : (convert src src (.slice (some ⟨p.blk, a + p.sh, none⟩) l c')).run P W = .ok (.slice (some ⟨p.blk, a + p.sh, none⟩) l c') W' := by
            have hee : el = el2 := by have := hd.symm.trans hs; simpa using this
            subst hee
            simp [convert, run_underlying hs, run_underlying he, hr]
          exact (Sem.run_bind _ _ _ _).trans (by rw [hcv]; rfl)
        · cases heq
      · cases h
    · cases h
  | store t a x =>
    simp only at h
    split at h
    · rename_i av xv ha hx
      obtain ⟨hp', h, hsound⟩ := storeA_sound h
      obtain ⟨tm', hK, hput⟩ := putT_ok h
      refine ⟨_, tm', _, _, hK, hput, fun {ρ W0 W e} hw hE => ?_⟩
      obtain ⟨W', h1, h2, h3⟩ := hsound hw (hE a (by simp [Op.operands]) _ ha) (hE x (by simp [Op.operands]) _ hx)
      refine .inr (.inl ⟨W', ?_, ρ, h2, h3, .undef⟩)
      simp only [execOp, Sem.run_bind, h1, Result.andThen_ok, Sem.run_pure]
    · cases h
  | call c =>
    obtain ⟨callee, args, ats⟩ := c
    cases callee with
    | builtin b =>
      have hops : ∀ x ∈ args.toList, x ∈ (Op.call ⟨.builtin b, args, ats⟩).operands := fun x hx => by simp [Op.operands, Call.operands]; simpa using hx
      simp only at h
      split at h
      · rename_i s x t tx hxs hats
        obtain ⟨v2, hp2, n2, h, hsound⟩ := appendA_sound h
        rw [valK_eq] at h
        obtain ⟨tm', hK, hput⟩ := putT_ok h
        refine ⟨_, tm', _, _, hK, hput, fun {ρ W0 W e} hw hE => ?_⟩
        obtain ⟨s', x', hl, hs, hx⟩ := (evs_sound hE hops hxs).two
        obtain ⟨v', W', ρ', h1, h2, h3, h4⟩ := hsound (ty := type) hw hs hx
        refine .inl ⟨v', W', ?_, ρ', h2, h3, h4⟩
        rw [run_call_builtin hl]
        have : ats = #[t, tx] := by apply Array.ext'; simpa using hats
        subst this
        exact (Sem.run_bind _ _ _ _).trans (by rw [h1]; rfl)
      · rename_i d x t tx hxs hats
        obtain ⟨v2, hp2, h, hfl, hsound⟩ := copyA_sound (tx := tx) h
        rw [valK_eq] at h
        obtain ⟨tm', hK, hput⟩ := putT_ok h
        refine ⟨_, tm', _, _, hK, hput, fun {ρ W0 W e} hw hE => ?_⟩
        obtain ⟨s', x', hl, hs, hx⟩ := (evs_sound hE hops hxs).two
        obtain ⟨W', h1, h2, h3⟩ := hsound (ty := type) hw hs hx
        refine .inl ⟨v2, W', ?_, ρ, h2, h3, .flat _ hfl⟩
        rw [run_call_builtin hl]
        have : ats = #[t, tx] := by apply Array.ext'; simpa using hats
        subst this
        exact (Sem.run_bind _ _ _ _).trans (by rw [h1]; rfl)
      · rename_i x m pt it hxs hats
        obtain ⟨v2, hp2, h, hfl, hsound⟩ := unsafeStrA_sound (n := st.n) h
        obtain ⟨tm', hK, hput⟩ := putT_ok h
        refine ⟨_, tm', _, _, hK, hput, fun {ρ W0 W e} hw hE => ?_⟩
        obtain ⟨x', k', hl, hx, hk⟩ := (evs_sound hE hops hxs).two
        obtain rfl := hk.int_inv
        obtain ⟨W', h1, h2, h3⟩ := hsound (it := it) (ty := type) hw hx
        refine .inl ⟨v2, W', ?_, ρ, h2, h3, .flat _ hfl⟩
        rw [run_call_builtin hl]
        have : ats = #[pt, it] := by apply Array.ext'; simpa using hats
        subst this
        exact (Sem.run_bind _ _ _ _).trans (by rw [show (Value.int .i64 (Int.ofNat m)) = .int .i64 (m : Int) from rfl, h1]; rfl)
      · rename_i d t hxs hats
        obtain ⟨hp2, h, hsound⟩ := clearA_sound h
        obtain ⟨tm', hK, hput⟩ := putT_ok h
        refine ⟨_, tm', _, _, hK, hput, fun {ρ W0 W e} hw hE => ?_⟩
        obtain ⟨d', hl, hd⟩ := (evs_sound hE hops hxs).one'
        obtain ⟨W', h1, h2, h3⟩ := hsound (ty := type) hw hd
        refine .inl ⟨.tuple #[], W', ?_, ρ, h2, h3, .undef⟩
        rw [run_call_builtin hl]
        have : ats = #[t] := by apply Array.ext'; simpa using hats
        subst this
        exact (Sem.run_bind _ _ _ _).trans (by rw [h1]; rfl)
      · cases h
    | value f =>
      simp only at h
      split at h
      · rename_i g first capt as hf hxs
        cases hent : enters P g <;> simp only [hent, cond_true, cond_false] at h
        · split at h
          · rename_i el n hz hl
            obtain ⟨hnb, h⟩ := bif_true h
            have hnb' : n ≤ 1000000 := by simpa using hnb
            obtain ⟨hp', hK1, hget⟩ := Tr.putK_ok _ _ _ _ _ h
            obtain ⟨tm', hK, hput⟩ := putT_ok hK1
            refine ⟨_, tm', _, _, hK, hput, fun {ρ W0 W e} hw hE => ?_⟩
            have hv := hE f (by simp [Op.operands, Call.operands]) _ hf
            have hargs := evs_sound hE (l := args.toList) (fun x hx => by simp [Op.operands, Call.operands]; right; simpa using hx) hxs
            have hy : ∃ f' c', e f = .func (.func g) ⟨f'⟩ ⟨c'⟩ ∧ VRs ρ first f' ∧ VRs ρ capt c' := by
              generalize e f = y at hv
              cases hv with
              | flat v h => simp [Rf.flat] at h
              | fn _ _ f' _ c' h1 h2 => exact ⟨f', c', rfl, h1, h2⟩
            obtain ⟨f', c', hy, hf', hc'⟩ := hy
            have harr : args.map e = ⟨args.toList.map e⟩ := by apply Array.ext'; simp
            have hall := (hf'.append hargs).append hc'
            rw [hl] at hall
            have hall' := VRs.of_flat (by rfl) hall
            obtain ⟨fn, t, hfn, hb, hnm, hnx, hr0, hr1, hfind⟩ := noZero_find hz
            obtain ⟨cs, hc1, hc2, hrun⟩ := run_noZero W fn.params fn.resultTypes t el hr0 hr1 n hnb'
            have hρn : ρ st.n = none := by
              cases hq : ρ st.n with
              | none => rfl
              | some q => exact absurd (hw.dom st.n q hq).2.1 (Nat.lt_irrefl _)
            have hlay := hw.lay hget
            have hcs : cs.take n ++ cs.drop n = cs := List.take_append_drop n cs
            have hbind := bind_row hlay (b := st.n) hw.pos (Nat.lt_succ_self _) hρn (by rw [hget, if_pos rfl]) (rep_any n cs hc1 hc2) (rep_any_one n) (rest := cs.drop n) (t := el) (fz := (0, 0)) (.inl rfl) (d := W.drawn + 2) (room := some ((cs.take n ++ cs.drop n).length, 1)) (fun es e x he => by cases he; exact ⟨rfl, rfl, fun h => by cases h⟩)
            rw [hcs] at hbind
            refine .inl ⟨_, _, ?_, _, hbind, ⟨Nat.le_succ _, fun b hb => Ren.set_other (by omega), fun b hb _ => by rw [hget, if_neg (by omega)]⟩, .slk st.n 0 n n cs.length cs.length 1 _ (Ren.set_same _ _ _) rfl hc2 (by simp)⟩
            have hcf := run_callFunc_extern (P := P) hfn hnm hb hnx hfind #[.int .i64 n] W
            rw [hrun] at hcf
            have harg : args.map e ++ (⟨c'⟩ : Array Value) = (⟨args.toList.map e ++ c'⟩ : Array Value) := by rw [harr]; simp
            have hinv : (⟨f'⟩ : Array Value) ++ args.map e ++ ⟨c'⟩ = #[.int .i64 n] := by
              rw [harr]; apply Array.ext'; simpa using hall'
            simp only [execOp, resolve, hy, Deferred.ofValue]
            simp [invoke, hinv, hcf, Result.andThen]
          · have hback : ∀ {ρ : Ren} {W0 W : World} {e : Operand → Value}, WR W0 ρ st.hp st.n W → EV ρ st.tm e (· ∈ (Op.call ⟨.value f, args, ats⟩).operands) → ∃ l', VRs ρ (first ++ as ++ capt) l' ∧ ∀ W', (execOp e ⟨dst, .call ⟨.value f, args, ats⟩, type, pos, after, guard⟩).run P W' = (callFunc g ⟨l'⟩).run P W' := fun {ρ W0 W e} hw hE => by
              have hv := hE f (by simp [Op.operands, Call.operands]) _ hf
              have hargs := evs_sound hE (l := args.toList) (fun x hx => by simp [Op.operands, Call.operands]; right; simpa using hx) hxs
              have hy : ∃ f' c', e f = .func (.func g) ⟨f'⟩ ⟨c'⟩ ∧ VRs ρ first f' ∧ VRs ρ capt c' := by
                generalize e f = y at hv
                cases hv with
                | flat v h => simp [Rf.flat] at h
                | fn _ _ f' _ c' h1 h2 => exact ⟨f', c', rfl, h1, h2⟩
              obtain ⟨f', c', hy, hf', hc'⟩ := hy
              have harr : args.map e = ⟨args.toList.map e⟩ := by apply Array.ext'; simp
              refine ⟨f' ++ args.toList.map e ++ c', (hf'.append hargs).append hc', fun W' => ?_⟩
              have hinv : (⟨f'⟩ : Array Value) ++ args.map e ++ ⟨c'⟩ = ⟨f' ++ args.toList.map e ++ c'⟩ := by
                rw [harr]; apply Array.ext'; simp
              simp only [execOp, resolve, hy, Deferred.ofValue]
              simp [invoke, hinv]
            split at h
            · rename_i v hev
              rw [valK_eq] at h
              obtain ⟨tm', hK, hput⟩ := putT_ok h
              refine ⟨_, tm', _, _, hK, hput, fun {ρ W0 W e} hw hE => ?_⟩
              obtain ⟨l', hl', hrun⟩ := hback hw hE
              unfold externV at hev
              cases hp : (first ++ as ++ capt).all Rf.plain <;> simp only [hp, cond_true, cond_false] at hev
              · cases hev
              rw [VRs.of_plain hp hl'] at hrun
              split at hev
              · rename_i u hu
                cases hq : Rf.plain u <;> simp only [hq, cond_true, cond_false] at hev
                · cases hev
                cases hev
                exact .inl ⟨v, W, (hrun W).trans (pureRun_run _ _ W hu), ρ, hw, Ext.refl _ _ _, .plain hq⟩
              · cases hev
            · split at h
              · rename_i x hx1
                obtain ⟨hne, h⟩ := bif_true h
                obtain ⟨tm', hK, hput⟩ := putT_ok h
                refine ⟨_, tm', _, _, hK, hput, fun {ρ W0 W e} hw hE => ?_⟩
                obtain ⟨l', hl', hrun⟩ := hback hw hE
                rw [hx1] at hl'
                obtain ⟨x', rfl, hx'⟩ := hl'.one'
                refine .inl ⟨x', W, (hrun W).trans ?_, ρ, hw, Ext.refl _ _ _, hx'⟩
                exact noEsc_run hne x' W
              · cases h
        · obtain ⟨v, hp2, n2, h, hsound⟩ := hS _ _ _ _ _ h
          obtain ⟨tm', hK, hput⟩ := putT_ok h
          refine ⟨_, tm', _, _, hK, hput, fun {ρ W0 W e} hw hE => ?_⟩
          have hv := hE f (by simp [Op.operands, Call.operands]) _ hf
          have hargs := evs_sound hE (l := args.toList) (fun x hx => by simp [Op.operands, Call.operands]; right; simpa using hx) hxs
          have hy : ∃ f' c', e f = .func (.func g) ⟨f'⟩ ⟨c'⟩ ∧ VRs ρ first f' ∧ VRs ρ capt c' := by
            generalize e f = y at hv
            cases hv with
            | flat v h => simp [Rf.flat] at h
            | fn _ _ f' _ c' h1 h2 => exact ⟨f', c', rfl, h1, h2⟩
          obtain ⟨f', c', hy, hf', hc'⟩ := hy
          have harr : args.map e = ⟨args.toList.map e⟩ := by apply Array.ext'; simp
          refine .inr (.inr ⟨g, ⟨f' ++ args.toList.map e ++ c'⟩, W, ?_, hsound hw ((hf'.append hargs).append hc')⟩)
          unfold enters at hent
          split at hent
          · rename_i fn hfn
            simp only [Bool.and_eq_true, Bool.not_eq_true'] at hent
            have hb : ¬ fn.body = none := by intro e; rw [e] at hent; simp at hent
            have hnm : ¬ fn.name = "runtime.NumGoroutine" := by simpa using hent.2
            simp [execOp, resolve, hy, Deferred.ofValue, invoke, callFunc, program, Sem.run, hfn, hnm, hb, harr]
          · cases hent
      · cases h
    | invoke r m => cases h
  | _ => cases h
end Go.Proofs.YtgpnfdeneagdbaaGreat.Rf
