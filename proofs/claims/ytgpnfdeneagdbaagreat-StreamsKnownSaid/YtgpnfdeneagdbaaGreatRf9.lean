/- One operation of the machine's, and what it says of the run. -/
import Derived.Test.YtgpnfdeneagdbaaGreatRf8
import Derived.Lib.MakeNoZero
import Derived.Laws.Externs
namespace Go.Proofs.YtgpnfdeneagdbaaGreat.Rf
open Go Go.RowKit
set_option linter.unusedVariables false
set_option linter.unusedSimpArgs false

variable {P : Program} {ρ : Ren} {W0 W W' : World} {hp hp' : Tr Blk} {n : Nat} {tm : Tr Value} {e : Operand → Value}

theorem freeze_heap (W : World) (k N j : Nat) : (W.freeze ⟨k, N, none⟩ 1).heap[j]? = if k = j then (W.heap[j]?).map (fun
      | .cells c elem (lo, hi) => .cells c elem (if lo == hi then (N, N + 1) else (min lo N, max hi (N + 1)))
      | o => o) else W.heap[j]? := by
  unfold World.freeze
  rw [if_neg (by decide)]
  simp only [Array.getElem?_modify]
  split <;> rfl

/-- the place behind a block's end is frozen -/
theorem WR.freeze (hw : WR W0 ρ hp n W) {b : Nat} {p : PB} (hb : ρ b = some p) {C : Array Value} {el : TypeId} {fz : Nat × Nat} (hC : W.heap[p.blk]? = some (.cells C el fz)) : WR W0 ρ hp n (W.freeze ⟨p.blk, C.size, none⟩ 1) := by
  have hz := hw.froz b p hb C el fz hC
  obtain ⟨lo, hi⟩ := fz
  have hk : (W.freeze ⟨p.blk, C.size, none⟩ 1).heap[p.blk]? = some (.cells C el (if lo == hi then (C.size, C.size + 1) else (min lo C.size, max hi (C.size + 1)))) := by
    rw [freeze_heap, if_pos rfl, hC]; rfl
  have ho : ∀ j, j ≠ p.blk → (W.freeze ⟨p.blk, C.size, none⟩ 1).heap[j]? = W.heap[j]? := fun j hj => by rw [freeze_heap, if_neg (Ne.symm hj)]
  have hle : C.size ≤ (if lo == hi then (C.size, C.size + 1) else (min lo C.size, max hi (C.size + 1))).1 := by
    by_cases h : lo = hi
    · simp [h]
    · have : (lo == hi) = false := by simpa using h
      simp only [this, Bool.false_eq_true, if_false]
      rcases hz with hz | hz
      · exact absurd hz h
      · simp only at hz; omega
  have hcell : ∀ x, (W.freeze ⟨p.blk, C.size, none⟩ 1).cell? x = W.cell? x := fun x => by
    unfold World.cell?
    by_cases h : x.block = p.blk
    · rw [h, hk, hC]
    · rw [ho _ h]
  have hfr : ∀ x, (W.cell? x).isSome = true → W.frozen? x = false → (W.freeze ⟨p.blk, C.size, none⟩ 1).frozen? x = false := fun x h1 h2 => by
    by_cases h : x.block = p.blk
    · unfold World.frozen?
      rw [h, hk]
      have : x.off < C.size := by
        unfold World.cell? at h1
        rw [h, hC] at h1
        simp only at h1
        split at h1
        · cases h1
        · obtain ⟨v, hv⟩ := Option.isSome_iff_exists.1 h1
          exact (Array.getElem?_eq_some_iff.1 hv).1
      simp only [Bool.and_eq_false_imp, decide_eq_true_eq, decide_eq_false_iff_not]
      intro; omega
    · unfold World.frozen? at h2 ⊢
      rw [ho _ h]; exact h2
  have hth : ∀ {b o k}, W.there b o k → (W.freeze ⟨p.blk, C.size, none⟩ 1).there b o k := fun h j hj => ⟨by rw [hcell]; exact (h j hj).1, hfr _ (h j hj).1 (h j hj).2⟩
  have hsz : (W.freeze ⟨p.blk, C.size, none⟩ 1).heap.size = W.heap.size := by
    unfold World.freeze
    rw [if_neg (by decide)]
    simp
  have hdom := hw.dom b p hb
  refine ⟨hw.pos, fun x q hx => by rw [hsz]; exact hw.dom x q hx, hw.fresh, hw.zero, hw.inj, fun x q c g hx hg => ?_, fun x q es k hx hg => ?_, hw.below.trans ⟨?_, ?_, ?_, by rw [hsz]; exact Nat.le_refl _, fun j hj => ho j (by omega)⟩, fun x q hx C2 e2 fz2 h2 => ?_⟩
  · obtain ⟨c', a1, a2, a3, a4, a5⟩ := hw.cells x q c g hx hg
    exact ⟨c', a1, fun j v hv => by rw [hcell]; exact a2 j v hv, hth a3, a4, fun es he => by obtain ⟨N, d1, d2⟩ := a5 es he; exact ⟨N, d1, hth d2⟩⟩
  · obtain ⟨es', a1, a2⟩ := hw.maps x q es k hx hg
    refine ⟨es', a1, ?_⟩
    by_cases h : q.blk = p.blk
    · rw [h, hC] at a2; cases a2
    · rw [ho _ h]; exact a2
  · unfold World.freeze; rw [if_neg (by decide)]
  · unfold World.freeze; rw [if_neg (by decide)]
  · unfold World.freeze; rw [if_neg (by decide)]
  · by_cases h : q.blk = p.blk
    · rw [h, hk] at h2
      simp only [Option.some.injEq, Obj.cells.injEq] at h2
      obtain ⟨rfl, _, rfl⟩ := h2
      exact .inr hle
    · rw [ho _ h] at h2; exact hw.froz x q hx C2 e2 fz2 h2

theorem mark_sound (hw : WR W0 ρ hp n W) {b o : Nat} {p : PB} (hb : ρ b = some p) : ∃ W', (markStringish ⟨p.blk, o, none⟩).run P W = .ok () W' ∧ WR W0 ρ hp n W' := by
  unfold markStringish
  by_cases h : ∃ C el fz, W.heap[p.blk]? = some (.cells C el fz)
  · obtain ⟨C, el, fz, hC⟩ := h
    have hs : W.shape? p.blk = some (el, C.size) := by simp [World.shape?, hC]
    refine ⟨_, ?_, hw.freeze hb hC⟩
    simp only [Sem.run_bind]
    have : (shape p.blk).run P W = .ok (some (el, C.size)) W := by simp [shape, Sem.run, hs]
    rw [this]
    rfl
  · have hs : W.shape? p.blk = none := by
      unfold World.shape?
      split
      · exact absurd ⟨_, _, _, ‹_›⟩ h
      · rfl
    refine ⟨W, ?_, hw⟩
    simp only [Sem.run_bind]
    have : (shape p.blk).run P W = .ok none W := by simp [shape, Sem.run, hs]
    rw [this]
    rfl

/-- What becomes of an operation's run: a value, nothing, or a call that ends in a value. -/
def ActRun (P : Program) (o : Oper) (e : Operand → Value) (W : World) (R : Value → World → Prop) : Prop :=
  (∃ v' W', (execOp e o).run P W = .ok (.value v') W' ∧ R v' W') ∨ (∃ W', (execOp e o).run P W = .ok .skip W' ∧ R undef W') ∨
  (∃ f args W', (execOp e o).run P W = .ok (.enter f args) W' ∧ Calls P f args W' fun en W'' => ∃ v', en = .returned v' ∧ R v' W'')

theorem ActRun.mono {o : Oper} {R R' : Value → World → Prop} (h : ActRun P o e W R) (hr : ∀ v w, R v w → R' v w) : ActRun P o e W R' := by
  rcases h with ⟨v, w, h1, h2⟩ | ⟨w, h1, h2⟩ | ⟨f, args, w, h1, h2⟩
  · exact .inl ⟨v, w, h1, hr _ _ h2⟩
  · exact .inr (.inl ⟨w, h1, hr _ _ h2⟩)
  · exact .inr (.inr ⟨f, args, w, h1, h2.mono fun en w' ⟨v, h3, h4⟩ => ⟨v, h3, hr _ _ h4⟩⟩)

theorem ActRun.wp {o : Oper} {a : Act} {R : Value → World → Prop} {K : Act → World → Prop} {Q : Exit → Act → World → Prop} (h : ActRun P o a.eval W R) (hr : ∀ v w, R v w → K (a.put o.dst v) w) : o.wp P a W K Q := by
  unfold Oper.wp
  rcases h with ⟨v, w, h1, h2⟩ | ⟨w, h1, h2⟩ | ⟨f, args, w, h1, h2⟩
  · rw [h1]; exact hr _ _ h2
  · rw [h1]; exact hr _ _ h2
  · rw [h1]
    exact h2.mono fun en w' ⟨v, h3, h4⟩ => by subst h3; exact hr _ _ h4

/-- one actor: from here, with all that stands for it, the run comes to there -/
def Acts (P : Program) (o : Oper) (tm : Tr Value) (hp : Tr Blk) (n : Nat) (v : Value) (hp2 : Tr Blk) (n2 : Nat) : Prop :=
  ∀ {ρ : Ren} {W0 W : World} {e : Operand → Value}, WR W0 ρ hp n W → EV ρ tm e (· ∈ o.op.operands) → ActRun P o e W fun v' W' => ∃ ρ', WR W0 ρ' hp2 n2 W' ∧ Ext ρ hp n ρ' hp2 n2 ∧ VR ρ' v v'

/-- the frame behind an operation -/
structure Put (sz : Nat) (tm : Tr Value) (d : Option Tmp) (v : Value) (tm' : Tr Value) : Prop where
  lt : ∀ t, d = some t → t < sz
  get : ∀ t, tm'.get t = if d = some t then some v else tm.get t

theorem putT_ok {sz : Nat} {st : St} {d : Option Tmp} {v : Value} {K : St → Bool} (h : putT sz st d v K = true) : ∃ tm', K { st with tm := tm' } = true ∧ Put sz st.tm d v tm' := by
  unfold putT at h
  split at h
  · exact ⟨st.tm, h, ⟨fun t ht => (by cases ht), fun t => (by simp)⟩⟩
  · rename_i d
    cases hlt : d.blt sz <;> simp only [hlt, cond_true, cond_false] at h
    · cases h
    obtain ⟨tm', hK, hg⟩ := Tr.putK_ok _ _ _ _ _ h
    refine ⟨tm', hK, fun t ht => ?_, fun t => ?_⟩
    · cases ht; exact Nat.le_of_ble_eq_true hlt
    · rw [hg]
      by_cases ht : t = d
      · subst ht; simp
      · rw [if_neg ht, if_neg (by intro e; cases e; exact ht rfl)]

theorem natK_eq (n : Nat) (K : Nat → Bool) : natK n K = K n := by cases n <;> rfl
theorem intK_eq (i : Int) (K : Int → Bool) : intK i K = K i := by cases i <;> simp [intK, natK_eq]
theorem addrK_eq (a : Addr) (K : Addr → Bool) : addrK a K = K a := by
  obtain ⟨b, o, s⟩ := a
  cases s <;> simp [addrK, natK_eq]
theorem valK_eq (v : Value) (K : Value → Bool) : valK v K = K v := by
  unfold valK
  split <;> simp [intK_eq, natK_eq, addrK_eq]

/-- What calls are said to do. -/
def SoundCall (P : Program) (S : Fns) : Prop := ∀ (f : FuncId) (args : List Value) (hp : Tr Blk) (n : Nat) (K : RetK), S.call f args hp n K = true →
  ∃ v hp2 n2, K v hp2 n2 = true ∧ ∀ {ρ : Ren} {W0 W : World} {args' : List Value}, WR W0 ρ hp n W → VRs ρ args args' →
    Calls P f ⟨args'⟩ W fun en W' => ∃ v', en = .returned v' ∧ ∃ ρ', WR W0 ρ' hp2 n2 W' ∧ Ext ρ hp n ρ' hp2 n2 ∧ VR ρ' v v'

theorem VRs.two {a b : Value} {l : List Value} (h : VRs ρ [a, b] l) : ∃ a' b', l = [a', b'] ∧ VR ρ a a' ∧ VR ρ b b' := by
  cases h with | cons _ a' _ _ h1 hs => cases hs with | cons _ b' _ _ h2 hs => cases hs; exact ⟨a', b', rfl, h1, h2⟩
theorem VRs.one' {a : Value} {l : List Value} (h : VRs ρ [a] l) : ∃ a', l = [a'] ∧ VR ρ a a' := by
  cases h with | cons _ a' _ _ h1 hs => cases hs; exact ⟨a', rfl, h1⟩

theorem undef_eq : (undef : Value) = .tuple #[] := rfl
theorem VR.undef : VR ρ (.tuple #[]) Go.undef := .tu [] [] .nil

theorem run_call_builtin {dst : Option Tmp} {b : Builtin} {args : Array Operand} {ats : Array TypeId} {type : TypeId} {pos : String} {after : Array Edge} {guard : Option (Nat × Bool)} {W : World} {l : List Value} (hl : args.toList.map e = l) :
    (execOp e ⟨dst, .call ⟨.builtin b, args, ats⟩, type, pos, after, guard⟩).run P W = (builtin b ats type (args.map fun | .const _ => true | _ => false) ⟨l⟩).run P W := by
  have harr : args.map e = ⟨l⟩ := by apply Array.ext'; simpa using hl
  rw [← harr]; exact resolve_builtin ⟨.builtin b, args, ats⟩ b rfl type W

theorem digits_any : ∀ (n t : Nat) (acc : Array Value), (∀ v ∈ acc.toList, ∃ x, v = .int .u8 x) → ∀ v ∈ (Extern.BytealgMakeNoZero.digits n t acc).toList, ∃ x, v = Value.int .u8 x
  | 0, _, acc, h => h
  | n + 1, t, acc, h => by
    rw [Extern.BytealgMakeNoZero.digits]
    refine digits_any n _ _ fun v hv => ?_
    simp at hv
    rcases hv with hv | rfl
    · exact h v (by simpa using hv)
    · exact ⟨_, rfl⟩
theorem run_noZero (W : World) (ps rs : Array TypeId) (t el : TypeId) (hr : rs[0]? = some t) (ht : P.underlying t = some (.slice el)) (n : Nat) (hn : n ≤ 1000000) :
    ∃ cs : List Value, (∀ v ∈ cs, ∃ x, v = .int .u8 x) ∧ n ≤ cs.length ∧ (Extern.BytealgMakeNoZero.makeNoZero ps rs #[.int .i64 n]).run P W = .ok (.slice (some ⟨W.heap.size, 0, none⟩) n cs.length) (World.alloc { W with drawn := W.drawn + 2 } (.cells ⟨cs⟩ el)) := by
  have hdef : Extern.BytealgMakeNoZero.makeNoZero ps rs #[.int .i64 n] =
      (do
        let some t := rs[0]? | stuck "bytealg.MakeNoZero: no result type"
        let .slice elem ← underlying t | stuck "bytealg.MakeNoZero: slice type expected"
        if (n : Int) < 0 || (n : Int) > 2 ^ 48 then runtimePanic (.error "makeslice: len out of range")
        let cap ← choose (.appendCap (n : Int).toNat 0 elem)
        askRoom cap
        let bytes ← choose (.extern "internal/bytealg.MakeNoZero.bytes" 0)
        let a ← newRow elem (Extern.BytealgMakeNoZero.digits cap bytes #[])
        pure (.slice (some a) (n : Int).toNat cap)) := rfl
  refine ⟨(Extern.BytealgMakeNoZero.digits (grownCap W n 0 el) ((Question.extern "internal/bytealg.MakeNoZero.bytes" 0).cut (W.tape (W.drawn + 1) (.extern "internal/bytealg.MakeNoZero.bytes" 0))) #[]).toList, digits_any _ _ _ (by simp), ?_, ?_⟩
  · have := grownCap_ge W n 0 el
    simp [Lib.size_digits]
    simpa using this
  · rw [hdef, hr]
    have h1 : ¬ (n : Int) < 0 := by omega
    have h2 : ¬ (281474976710656 : Int) < (n : Int) := by omega
    show _ = Result.ok _ (W.drew.drew.alloc _)
    simp [run_underlying ht, h1, h2, Question.forced, newRow, Lib.size_digits, grownCap]
theorem noZero_find {f : FuncId} {el : TypeId} (h : isNoZero P f = some el) : ∃ fn t, P.funcs[f]? = some fn ∧ fn.body.isNone = true ∧ (fn.name == "runtime.NumGoroutine") = false ∧ Extern.findNext fn = none ∧ fn.resultTypes[0]? = some t ∧ P.underlying t = some (.slice el) ∧ Extern.find fn = some (Extern.BytealgMakeNoZero.makeNoZero fn.params fn.resultTypes) := by
  unfold isNoZero at h
  split at h
  · rename_i fn hfn
    cases hc : (fn.name == "internal/bytealg.MakeNoZero" && fn.body.isNone && (Extern.findNext fn).isNone) <;> simp only [hc, cond_true, cond_false] at h
    · cases h
    simp only [Bool.and_eq_true, beq_iff_eq] at hc
    obtain ⟨⟨hn, hb⟩, hx⟩ := hc
    split at h
    · rename_i t ht
      split at h
      · rename_i e he
        cases hq : ((P.cellsOf e).beq 1 && (P.bytesOf e).beq 1) <;> simp only [hq, cond_true, cond_false] at h
        · cases h
        cases h
        refine ⟨fn, t, hfn, hb, by rw [hn]; rfl, by simpa using hx, ht, he, ?_⟩
        unfold Extern.find
        simp only [hn]
        have a1 : Extern.allGenericRows.lookup "internal/bytealg.MakeNoZero" = none := by kernel_rfl
        have a2 : Extern.allTypedRows.lookup "internal/bytealg.MakeNoZero" = some Extern.BytealgMakeNoZero.makeNoZero := by kernel_rfl
        rw [a1, a2]
        rfl
      · cases h
    · cases h
  · cases h
theorem rep_any : ∀ (n : Nat) (cs : List Value), (∀ v ∈ cs, ∃ x, v = .int .u8 x) → n ≤ cs.length → VRs ρ (rep n [anyByte]) (cs.take n)
  | 0, _, _, _ => .nil
  | n + 1, [], _, h => by simp at h
  | n + 1, v :: cs, h1, h2 => by
    obtain ⟨x, rfl⟩ := h1 v (by simp)
    exact .cons _ _ _ _ (.any .u8 x) (rep_any n cs (fun u hu => h1 u (by simp [hu])) (by simpa using h2))
theorem rep_any_len : ∀ (n : Nat), (rep n [anyByte]).length = n
  | 0 => rfl
  | n + 1 => by simp [rep, rep_any_len n]
theorem rep_any_one : ∀ (n : Nat), (rep n [anyByte]).all Rf.one = true
  | 0 => rfl
  | n + 1 => by simp only [rep, List.all_append, rep_any_one n]; rfl

set_option maxHeartbeats 1000000 in
/-- THE ACTORS. -/
theorem actA_ok {S : Fns} (hS : SoundCall P S) {sz : Nat} {st : St} (o : Oper) {K : St → Bool} (h : actA P S sz st o K = true) :
    ∃ v tm' hp2 n2, K ⟨tm', hp2, n2⟩ = true ∧ Put sz st.tm o.dst v tm' ∧ Acts P o st.tm st.hp st.n v hp2 n2 := by
  obtain ⟨dst, op, type, pos, after, guard⟩ := o
  unfold actA at h
  simp only at h
  cases op with
  | assign x =>
    simp only at h
    split at h
    · rename_i v hv
      obtain ⟨tm', hK, hput⟩ := putT_ok h
      exact ⟨v, tm', _, _, hK, hput, fun {ρ W0 W e} hw hE => .inl ⟨e x, W, rfl, ρ, hw, Ext.refl _ _ _, hE x (by simp [Op.operands]) v hv⟩⟩
    · cases h
  | convert src d x =>
    simp only at h
    split at h
    · rename_i b a l c el el2 hx hd hs
      split at h
      · rename_i he
        obtain ⟨hsd, h2⟩ := bif_true h
        clear h
        obtain rfl := Nat.eq_of_beq_eq_true hsd
        obtain ⟨tm', hK, hput⟩ := putT_ok h2
        refine ⟨_, tm', _, _, hK, hput, fun {ρ W0 W e} hw hE => ?_⟩
        have hv := hE x (by simp [Op.operands]) _ hx
        obtain ⟨a', c', hex, _, hcc, ⟨p, hρ, rfl, _⟩ | ⟨heq, _, _⟩⟩ := hv.slice_inv
        · obtain ⟨W', hr, hw'⟩ := mark_sound (P := P) (o := a + p.sh) hw hρ
          refine .inl ⟨_, W', ?_, ρ, hw', Ext.refl _ _ _, hex ▸ hv⟩
          simp only [execOp, hex]
          have hcv : (convert src src (.slice (some ⟨p.blk, a + p.sh, none⟩) l c')).run P W = .ok (.slice (some ⟨p.blk, a + p.sh, none⟩) l c') W' := by
            have hee : el = el2 := by have := hd.symm.trans hs; simpa using this
            subst hee
            simp [convert, run_underlying hs, run_underlying he, hr]
          exact (Sem.run_bind _ _ _ _).trans (by rw [hcv]; rfl)
        · cases heq
      · cases h
    · cases h
  | store t a x =>
    simp only at h
    split at h
    · rename_i av xv ha hx
      obtain ⟨hp', h, hsound⟩ := storeA_sound h
      obtain ⟨tm', hK, hput⟩ := putT_ok h
      refine ⟨_, tm', _, _, hK, hput, fun {ρ W0 W e} hw hE => ?_⟩
      obtain ⟨W', h1, h2, h3⟩ := hsound hw (hE a (by simp [Op.operands]) _ ha) (hE x (by simp [Op.operands]) _ hx)
      refine .inr (.inl ⟨W', ?_, ρ, h2, h3, .undef⟩)
      simp only [execOp, Sem.run_bind, h1, Result.andThen_ok, Sem.run_pure]
    · cases h
  | call c =>
    obtain ⟨callee, args, ats⟩ := c
    cases callee with
    | builtin b =>
      have hops : ∀ x ∈ args.toList, x ∈ (Op.call ⟨.builtin b, args, ats⟩).operands := fun x hx => by simp [Op.operands, Call.operands]; simpa using hx
      simp only at h
      split at h
      · rename_i s x t tx hxs hats
        obtain ⟨v2, hp2, n2, h, hsound⟩ := appendA_sound h
        rw [valK_eq] at h
        obtain ⟨tm', hK, hput⟩ := putT_ok h
        refine ⟨_, tm', _, _, hK, hput, fun {ρ W0 W e} hw hE => ?_⟩
        obtain ⟨s', x', hl, hs, hx⟩ := (evs_sound hE hops hxs).two
        obtain ⟨v', W', ρ', h1, h2, h3, h4⟩ := hsound (ty := type) hw hs hx
        refine .inl ⟨v', W', ?_, ρ', h2, h3, h4⟩
        rw [run_call_builtin hl]
        have : ats = #[t, tx] := by apply Array.ext'; simpa using hats
        subst this
        exact (Sem.run_bind _ _ _ _).trans (by rw [h1]; rfl)
      · rename_i d x t tx hxs hats
        obtain ⟨v2, hp2, h, hfl, hsound⟩ := copyA_sound (tx := tx) h
        rw [valK_eq] at h
        obtain ⟨tm', hK, hput⟩ := putT_ok h
        refine ⟨_, tm', _, _, hK, hput, fun {ρ W0 W e} hw hE => ?_⟩
        obtain ⟨s', x', hl, hs, hx⟩ := (evs_sound hE hops hxs).two
        obtain ⟨W', h1, h2, h3⟩ := hsound (ty := type) hw hs hx
        refine .inl ⟨v2, W', ?_, ρ, h2, h3, .flat _ hfl⟩
        rw [run_call_builtin hl]
        have : ats = #[t, tx] := by apply Array.ext'; simpa using hats
        subst this
        exact (Sem.run_bind _ _ _ _).trans (by rw [h1]; rfl)
      · rename_i d t hxs hats
        obtain ⟨hp2, h, hsound⟩ := clearA_sound h
        obtain ⟨tm', hK, hput⟩ := putT_ok h
        refine ⟨_, tm', _, _, hK, hput, fun {ρ W0 W e} hw hE => ?_⟩
        obtain ⟨d', hl, hd⟩ := (evs_sound hE hops hxs).one'
        obtain ⟨W', h1, h2, h3⟩ := hsound (ty := type) hw hd
        refine .inl ⟨.tuple #[], W', ?_, ρ, h2, h3, .undef⟩
        rw [run_call_builtin hl]
        have : ats = #[t] := by apply Array.ext'; simpa using hats
        subst this
        exact (Sem.run_bind _ _ _ _).trans (by rw [h1]; rfl)
      · cases h
    | value f =>
      simp only at h
      split at h
      · rename_i g first capt as hf hxs
        cases hent : enters P g <;> simp only [hent, cond_true, cond_false] at h
        · split at h
          · rename_i el n hz hl
            obtain ⟨hnb, h⟩ := bif_true h
            have hnb' : n ≤ 1000000 := by simpa using hnb
            obtain ⟨hp', hK1, hget⟩ := Tr.putK_ok _ _ _ _ _ h
            obtain ⟨tm', hK, hput⟩ := putT_ok hK1
            refine ⟨_, tm', _, _, hK, hput, fun {ρ W0 W e} hw hE => ?_⟩
            have hv := hE f (by simp [Op.operands, Call.operands]) _ hf
            have hargs := evs_sound hE (l := args.toList) (fun x hx => by simp [Op.operands, Call.operands]; right; simpa using hx) hxs
            have hy : ∃ f' c', e f = .func (.func g) ⟨f'⟩ ⟨c'⟩ ∧ VRs ρ first f' ∧ VRs ρ capt c' := by
              generalize e f = y at hv
              cases hv with
              | flat v h => simp [Rf.flat] at h
              | fn _ _ f' _ c' h1 h2 => exact ⟨f', c', rfl, h1, h2⟩
            obtain ⟨f', c', hy, hf', hc'⟩ := hy
            have harr : args.map e = ⟨args.toList.map e⟩ := by apply Array.ext'; simp
            have hall := (hf'.append hargs).append hc'
            rw [hl] at hall
            have hall' := VRs.of_flat (by rfl) hall
            obtain ⟨fn, t, hfn, hb, hnm, hnx, hr0, hr1, hfind⟩ := noZero_find hz
            obtain ⟨cs, hc1, hc2, hrun⟩ := run_noZero W fn.params fn.resultTypes t el hr0 hr1 n hnb'
            have hρn : ρ st.n = none := by
              cases hq : ρ st.n with
              | none => rfl
              | some q => exact absurd (hw.dom st.n q hq).2.1 (Nat.lt_irrefl _)
            have hlay := hw.lay hget
            have hcs : cs.take n ++ cs.drop n = cs := List.take_append_drop n cs
            have hbind := bind_row hlay (b := st.n) hw.pos (Nat.lt_succ_self _) hρn (by rw [hget, if_pos rfl]) (rep_any n cs hc1 hc2) (rep_any_one n) (rest := cs.drop n) (t := el) (fz := (0, 0)) (.inl rfl) (d := W.drawn + 2) (room := some ((cs.take n ++ cs.drop n).length, 1)) (fun es he => by cases he; rfl)
            rw [hcs] at hbind
            refine .inl ⟨_, _, ?_, _, hbind, ⟨Nat.le_succ _, fun b hb => Ren.set_other (by omega), fun b hb _ => by rw [hget, if_neg (by omega)]⟩, .slk st.n 0 n n cs.length cs.length 1 _ (Ren.set_same _ _ _) rfl hc2 (by simp)⟩
            have hcf := run_callFunc_extern (P := P) hfn hnm hb hnx hfind #[.int .i64 n] W
            rw [hrun] at hcf
            have harg : args.map e ++ (⟨c'⟩ : Array Value) = (⟨args.toList.map e ++ c'⟩ : Array Value) := by rw [harr]; simp
            have hinv : (⟨f'⟩ : Array Value) ++ args.map e ++ ⟨c'⟩ = #[.int .i64 n] := by
              rw [harr]; apply Array.ext'; simpa using hall'
            simp only [execOp, resolve, hy, Deferred.ofValue]
            simp [invoke, hinv, hcf, Result.andThen]
          · cases h
        · obtain ⟨v, hp2, n2, h, hsound⟩ := hS _ _ _ _ _ h
          obtain ⟨tm', hK, hput⟩ := putT_ok h
          refine ⟨_, tm', _, _, hK, hput, fun {ρ W0 W e} hw hE => ?_⟩
          have hv := hE f (by simp [Op.operands, Call.operands]) _ hf
          have hargs := evs_sound hE (l := args.toList) (fun x hx => by simp [Op.operands, Call.operands]; right; simpa using hx) hxs
          have hy : ∃ f' c', e f = .func (.func g) ⟨f'⟩ ⟨c'⟩ ∧ VRs ρ first f' ∧ VRs ρ capt c' := by
            generalize e f = y at hv
            cases hv with
            | flat v h => simp [Rf.flat] at h
            | fn _ _ f' _ c' h1 h2 => exact ⟨f', c', rfl, h1, h2⟩
          obtain ⟨f', c', hy, hf', hc'⟩ := hy
          have harr : args.map e = ⟨args.toList.map e⟩ := by apply Array.ext'; simp
          refine .inr (.inr ⟨g, ⟨f' ++ args.toList.map e ++ c'⟩, W, ?_, hsound hw ((hf'.append hargs).append hc')⟩)
          unfold enters at hent
          split at hent
          · rename_i fn hfn
            simp only [Bool.and_eq_true, Bool.not_eq_true'] at hent
            have hb : ¬ fn.body = none := by intro e; rw [e] at hent; simp at hent
            have hnm : ¬ fn.name = "runtime.NumGoroutine" := by simpa using hent.2
            simp [execOp, resolve, hy, Deferred.ofValue, invoke, callFunc, program, Sem.run, hfn, hnm, hb, harr]
          · cases hent
      · cases h
    | invoke r m => cases h
  | _ => cases h
end Go.Proofs.YtgpnfdeneagdbaaGreat.Rf
