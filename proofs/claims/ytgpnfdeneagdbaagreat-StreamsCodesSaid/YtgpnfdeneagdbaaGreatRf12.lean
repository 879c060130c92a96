/- A region that draws its order: what the machine does in its one order stands for every order. -/
import Derived.Test.YtgpnfdeneagdbaaGreatRf11
namespace Go.Proofs.YtgpnfdeneagdbaaGreat.Rf
open Go Go.RowKit
set_option linter.unusedVariables false
set_option linter.unusedSimpArgs false

variable {P : Program} {ρ : Ren} {W0 W W' : World} {hp hp' : Tr Blk} {n : Nat} {tm tm' : Tr Value} {e : Operand → Value}

def slot (tm : Tr Value) (t : Tmp) : Value := (tm.get t).getD undef

inductive AStep (P : Program) (sz : Nat) (ops : List Oper) (o : Oper) (st st2 : St) : Prop
  | skip (tm' : Tr Value) (hw : wantedA ops st.tm o = false) (hput : Put sz st.tm o.dst (.tuple #[]) tm') (he : st2 = { st with tm := tm' })
  | read (v : Value) (tm' : Tr Value) (hw : wantedA ops st.tm o = true) (hc : cls P o = .r) (h : evR P st.tm st.hp o = some v) (hput : Put sz st.tm o.dst v tm') (he : st2 = { st with tm := tm' })
  | make (x : Blk) (mk : Nat → Value) (tm' : Tr Value) (hp' : Tr Blk) (hw : wantedA ops st.tm o = true) (hc : cls P o = .n) (h : evN P st.tm o = some (x, mk)) (hg : ∀ m, hp'.get m = if m = st.n then some x else st.hp.get m)
      (hput : Put sz st.tm o.dst (mk st.n) tm') (he : st2 = ⟨tm', hp', st.n + 1⟩)
  | act (v : Value) (tm' : Tr Value) (hp2 : Tr Blk) (n2 : Nat) (hw : wantedA ops st.tm o = true) (hc : cls P o = .a) (h : Acts P o st.tm st.hp st.n v hp2 n2) (hput : Put sz st.tm o.dst v tm') (he : st2 = ⟨tm', hp2, n2⟩)

theorem evOp_ok {S : Fns} (hS : SoundCall P S) {sz : Nat} {ops : List Oper} {st : St} (o : Oper) {K : St → Bool} (h : evOp P S sz ops st o K = true) : ∃ st2, K st2 = true ∧ AStep P sz ops o st st2 := by
  unfold evOp at h
  cases hw : wantedA ops st.tm o <;> simp only [hw, cond_true, cond_false] at h
  · obtain ⟨tm', hK, hput⟩ := putT_ok h
    exact ⟨_, hK, .skip tm' hw hput rfl⟩
  · unfold doOp at h
    split at h
    · rename_i hc
      split at h
      · rename_i v hv
        rw [valK_eq] at h
        obtain ⟨tm', hK, hput⟩ := putT_ok h
        exact ⟨_, hK, .read v tm' hw hc hv hput rfl⟩
      · cases h
    · rename_i hc
      split at h
      · rename_i x mk hv
        obtain ⟨hp', h, hg⟩ := Tr.putK_ok _ _ _ _ _ h
        obtain ⟨tm', hK, hput⟩ := putT_ok h
        exact ⟨_, hK, .make x mk tm' hp' hw hc hv hg hput rfl⟩
      · cases h
    · rename_i hc
      obtain ⟨v, tm', hp2, n2, hK, hput, hacts⟩ := actA_ok hS o h
      exact ⟨_, hK, .act v tm' hp2 n2 hw hc hacts hput rfl⟩

theorem put_get (a : Act) (d : Option Tmp) (v : Value) (t : Tmp) (h : ∀ t, d = some t → t < a.tmps.size) : (a.put d v).tmps.getD t undef = if d = some t then v else a.tmps.getD t undef := by
  cases d with
  | none => simp [Act.put]
  | some d =>
    have hd := h d rfl
    simp only [Act.put]
    by_cases ht : d = t
    · subst ht
      simp [hd]
    · have : ¬ (some d = some t) := by simpa using ht
      rw [if_neg this]
      simp [Array.getElem?_setIfInBounds_ne ht]

theorem put_size (a : Act) (d : Option Tmp) (v : Value) : (a.put d v).tmps.size = a.tmps.size := by cases d <;> simp [Act.put]
theorem put_defers (a : Act) (d : Option Tmp) (v : Value) : (a.put d v).defers = a.defers := by cases d <;> rfl

theorem slot_put {sz : Nat} {d : Option Tmp} {v : Value} (h : Put sz tm d v tm') (t : Tmp) : slot tm' t = if d = some t then v else slot tm t := by
  unfold slot
  rw [h.get]
  split <;> rfl

theorem slot_ev {t : Tmp} {v : Value} (h : ev tm (.tmp t) = some v) : v = slot tm t := by
  simp only [ev] at h
  unfold slot
  split at h
  · rename_i u hu; rw [hu]; simp only [Option.some.injEq] at h; exact h.symm
  · rename_i hu; rw [hu]; simp only [Option.some.injEq] at h; exact h.symm

theorem EV_of {o : Oper} {ops : List Oper} {A : Act} (h : ∀ t ∈ namesOf ops o, VR ρ (slot tm t) (A.tmps.getD t undef)) : EV ρ tm A.eval (· ∈ o.op.operands) := fun x hx v hv => by
  cases x with
  | tmp t => rw [slot_ev hv]; exact h t (mem_names_operand hx)
  | const c =>
    simp only [ev] at hv
    cases hp : plain c <;> simp only [hp, cond_true, cond_false] at hv
    · cases hv
    · simp only [Option.some.injEq] at hv; subst hv; exact .plain hp
  | func f =>
    simp only [ev, Option.some.injEq] at hv
    subst hv
    exact .fn _ _ _ _ _ .nil .nil
  | global g =>
    simp only [ev, Option.some.injEq] at hv
    subst hv
    exact .glob g 0

theorem VR.bool_back {v : Value} {b : Bool} (h : VR ρ v (.bool b)) : v = .bool b := by cases h; rfl

theorem wanted_eq {ops : Array Oper} {o : Oper} {A : Act} (h : ∀ t ∈ namesOf ops.toList o, VR ρ (slot tm t) (A.tmps.getD t undef)) : Region.wanted o (yielded ops A.tmps) = wantedA ops.toList tm o := by
  unfold Region.wanted wantedA
  cases hg : o.guard with
  | none => rfl
  | some q =>
    obtain ⟨j, want⟩ := q
    simp only
    have hyj : yielded ops A.tmps j = yieldedA ops.toList tm j := by
      unfold yielded yieldedA
      rw [Array.getElem?_toList]
      cases hj : ops[j]? with
      | none => rfl
      | some g =>
        cases hd : g.dst with
        | none => simp [hd]
        | some d =>
          have hv := h d (by
            unfold namesOf
            rw [List.mem_append]
            refine .inr ?_
            simp [hg, hj, hd])
          simp only [Option.bind_some, hd]
          unfold slot at hv
          cases ht : tm.get d with
          | none =>
            rw [ht] at hv
            simp only [Option.getD_none] at hv
            cases hA : A.tmps[d]? with
            | none => rfl
            | some u =>
              have : A.tmps.getD d undef = u := by simp [hA]
              rw [this] at hv
              cases u with
              | bool b => have := hv.bool_back; cases this
              | _ => rfl
          | some u0 =>
            rw [ht] at hv
            simp only [Option.getD_some] at hv
            cases hA : A.tmps[d]? with
            | none =>
              have : A.tmps.getD d undef = undef := by simp [hA]
              rw [this] at hv
              cases u0 with
              | bool b => have := hv.bool_inv; cases this
              | _ => rfl
            | some u =>
              have : A.tmps.getD d undef = u := by simp [hA]
              rw [this] at hv
              cases u0 with
              | bool b => rw [hv.bool_inv]
              | _ => cases u with
                | bool b => have := hv.bool_back; cases this
                | _ => rfl
    rw [hyj]
    cases yieldedA ops.toList tm j with
    | none => rfl
    | some b => cases b <;> cases want <;> rfl

/-- an operation that the machine has done and the run has not -/
def Pend (P : Program) (ops : List Oper) (st : St) (ρ : Ren) (n0 b : Nat) (o : Oper) : Prop := isActor P o = false ∧ (
  (wantedA ops st.tm o = false ∧ ∀ d, o.dst = some d → st.tm.get d = some (.tuple #[])) ∨
  (wantedA ops st.tm o = true ∧ cls P o = .r ∧ ∃ v, evR P st.tm st.hp o = some v ∧ ∀ d, o.dst = some d → st.tm.get d = some v) ∨
  (wantedA ops st.tm o = true ∧ cls P o = .n ∧ ∃ x mk, evN P st.tm o = some (x, mk) ∧ (∀ d, o.dst = some d → st.tm.get d = some (mk b)) ∧ st.hp.get b = some x ∧ n0 ≤ b ∧ 0 < b ∧ b < st.n ∧ ρ b = none))

structure Inv (P : Program) (W0 : World) (ops : List Oper) (sz : Nat) (ρ0 : Ren) (hp0 : Tr Blk) (n0 : Nat) (done : Nat) (L : Nat → Bool) (st : St) (ρ : Ren) (A : Act) (W : World) (B : Nat → Nat) : Prop where
  sub : ∀ i, L i = true → done.testBit i = true
  lc : Closed ops (fun i => L i = true)
  dc : Closed ops (fun i => done.testBit i = true)
  wr : WR W0 ρ st.hp st.n W
  ext : Ext ρ0 hp0 n0 ρ st.hp st.n
  tm : ∀ t, (∀ i o, done.testBit i = true → L i = false → ops[i]? = some o → o.dst ≠ some t) → VR ρ (slot st.tm t) (A.tmps.getD t undef)
  size : A.tmps.size = sz
  df : A.defers = []
  pend : ∀ i o, done.testBit i = true → L i = false → ops[i]? = some o → Pend P ops st ρ n0 (B i) o
  dist : ∀ i i' o o', i ≠ i' → done.testBit i = true → L i = false → ops[i]? = some o → cls P o = .n → wantedA ops st.tm o = true → done.testBit i' = true → L i' = false → ops[i']? = some o' → cls P o' = .n → wantedA ops st.tm o' = true → B i ≠ B i'

section
variable {ops : List Oper} {sz : Nat} {ρ0 : Ren} {hp0 : Tr Blk} {n0 done : Nat} {L : Nat → Bool} {st st2 : St} {A : Act} {B : Nat → Nat}

theorem closed_or {k : Nat} {o : Oper} (hk : ops[k]? = some o) (hd : ∀ ed ∈ o.after, Region.binds .any ed = true → done.testBit ed.on = true) (h : Closed ops (fun i => done.testBit i = true)) : Closed ops (fun i => (done ||| 2 ^ k).testBit i = true) := by
  intro j oj hj hl ed he hb
  simp only [mask_or, Bool.or_eq_true, decide_eq_true_eq] at hl ⊢
  rcases hl with hl | hl
  · exact .inl (h j oj hj hl ed he hb)
  · subst hl
    rw [hk] at hj
    cases hj
    exact .inl (hd ed he hb)

theorem closed_set {k : Nat} {o : Oper} (hk : ops[k]? = some o) (hd : ∀ ed ∈ o.after, Region.binds .any ed = true → L ed.on = true) (h : Closed ops (fun i => L i = true)) : Closed ops (fun i => (if i = k then true else L i) = true) := by
  intro j oj hj hl ed he hb
  show (if ed.on = k then true else L ed.on) = true
  have hl : (if j = k then true else L j) = true := hl
  have : L ed.on = true := by
    split at hl
    · subst j; rw [hk] at hj; cases hj; exact hd ed he hb
    · exact h j oj hj hl ed he hb
  split
  · rfl
  · exact this

/-- the machine does what is no actor: the run stands still -/
theorem Inv.pass (h : Inv P W0 ops sz ρ0 hp0 n0 done L st ρ A W B) (hs : RSafe P ops) {j : Nat} {o : Oper} (hj : ops[j]? = some o) (hdj : done.testBit j = false) (hsub : ∀ ed ∈ o.after, Region.binds .any ed = true → done.testBit ed.on = true) (hna : isActor P o = false)
    (hst : AStep P sz ops o st st2) : Inv P W0 ops sz ρ0 hp0 n0 (done ||| 2 ^ j) L st2 ρ A W (fun i => if i = j then st.n else B i) := by
  have hLj : L j = false := by
    cases hl : L j with
    | false => rfl
    | true => rw [h.sub j hl] at hdj; cases hdj
  have hne : ∀ i, done.testBit i = true → i ≠ j := fun i hi e => by rw [e, hdj] at hi; cases hi
  -- what the others look at is as it was
  have hnames : ∀ i oi, done.testBit i = true → ops[i]? = some oi → ∀ t, o.dst = some t → t ∉ namesOf ops oi := fun i oi hi hoi t ht hm => by
    have := (hs.names j o i oi hj hna hoi t ht hm).2
    have := anc_sub h.dc i oi hoi (h.dc i oi hoi hi) j this
    rw [hdj] at this; cases this
  obtain ⟨v, hputv⟩ : ∃ v, Put sz st.tm o.dst v st2.tm := by
    cases hst with
    | skip tm' hw hput he => subst he; exact ⟨_, hput⟩
    | read v tm' hw hc h hput he => subst he; exact ⟨_, hput⟩
    | make x mk tm' hp' hw hc h hg hput he => subst he; exact ⟨_, hput⟩
    | act v tm' hp2 n2 hw hc h hput he => subst he; exact ⟨_, hput⟩
  have hheap : HSub st.hp st2.hp ∧ st.n ≤ st2.n ∧ WR W0 ρ st2.hp st2.n W ∧ Ext ρ0 hp0 n0 ρ st2.hp st2.n := by
    cases hst with
    | skip tm' hw hput he => subst he; exact ⟨fun _ _ h => h, Nat.le_refl _, h.wr, h.ext⟩
    | read v tm' hw hc h' hput he => subst he; exact ⟨fun _ _ h => h, Nat.le_refl _, h.wr, h.ext⟩
    | make x mk tm' hp' hw hc h' hg hput he =>
      subst he
      refine ⟨fun b y hb => ?_, Nat.le_succ _, h.wr.lay hg (evN_ro h'), ⟨Nat.le_succ_of_le h.ext.le, h.ext.ren, fun b hb hn => ?_⟩⟩
      · rw [hg, if_neg]
        · exact hb
        · intro e; subst e; rw [h.wr.fresh _ (Nat.le_refl _)] at hb; cases hb
      · rw [hg, if_neg (by have := h.ext.le; omega)]
        exact h.ext.keep b hb hn
    | act v tm' hp2 n2 hw hc h' hput he => simp [isActor, hc] at hna
  have hget : ∀ t, o.dst ≠ some t → st2.tm.get t = st.tm.get t := fun t ht => by rw [hputv.get, if_neg ht]
  have hsame : ∀ i oi, done.testBit i = true → ops[i]? = some oi → ∀ t ∈ namesOf ops oi, st.tm.get t = st2.tm.get t := fun i oi hi hoi t ht => by
    rw [hget t fun hd => hnames i oi hi hoi t hd ht]
  refine ⟨fun i hi => by rw [mask_or, h.sub i hi]; rfl, h.lc, closed_or hj hsub h.dc, hheap.2.2.1, hheap.2.2.2, fun t ht => ?_, h.size, h.df, fun i oi hi hl hoi => ?_, fun i i' oi oi' hii hi hl hoi hc hw hi' hl' hoi' hc' hw' => ?_⟩
  · have h1 : o.dst ≠ some t := ht j o (by rw [mask_or]; simp) hLj hj
    have : slot st2.tm t = slot st.tm t := by unfold slot; rw [hget t h1]
    rw [this]
    exact h.tm t fun i oi hi hl hoi => ht i oi (by rw [mask_or, hi]; rfl) hl hoi
  · rw [mask_or] at hi
    by_cases hij : i = j
    · subst hij
      rw [hj] at hoi
      cases hoi
      simp only [if_true]
      refine ⟨hna, ?_⟩
      have hself : ∀ t ∈ namesOf ops o, st2.tm.get t = st.tm.get t := fun t ht => hget t fun hd => (hs.names i o i o hj hna hj t hd ht).1 rfl
      have hw2 : wantedA ops st2.tm o = wantedA ops st.tm o := wantedA_same hself
      have hops : ∀ x ∈ o.op.operands, ev st2.tm x = ev st.tm x := operands_same hself
      cases hst with
      | skip tm' hw hput he => subst he; exact .inl ⟨hw2.trans hw, fun d hd => by rw [hput.get, if_pos hd]⟩
      | read v tm' hw hc h' hput he =>
        subst he
        exact .inr (.inl ⟨hw2.trans hw, hc, v, by rw [evR_congr o hops]; exact h', fun d hd => by rw [hput.get, if_pos hd]⟩)
      | make x mk tm' hp' hw hc h' hg hput he =>
        subst he
        refine .inr (.inr ⟨hw2.trans hw, hc, x, mk, by rw [evN_congr o hops]; exact h', fun d hd => by rw [hput.get, if_pos hd], by rw [hg, if_pos rfl], h.ext.le, h.wr.pos, Nat.lt_succ_self _, ?_⟩)
        cases hq : ρ st.n with
        | none => rfl
        | some q => exact absurd (h.wr.dom _ q hq).2.1 (Nat.lt_irrefl _)
      | act v tm' hp2 n2 hw hc h' hput he => simp [isActor, hc] at hna
    · have hi : done.testBit i = true := by
        simp only [Bool.or_eq_true, decide_eq_true_eq] at hi
        rcases hi with hi | hi
        · exact hi
        · exact absurd hi.symm hij
      simp only [if_neg hij]
      obtain ⟨hna', hp⟩ := h.pend i oi hi hl hoi
      have hsm := hsame i oi hi hoi
      have hw2 : wantedA ops st2.tm oi = wantedA ops st.tm oi := wantedA_same fun t ht => (hsm t ht).symm
      have hops : ∀ x ∈ oi.op.operands, ev st2.tm x = ev st.tm x := operands_same fun t ht => (hsm t ht).symm
      have hdst : ∀ d, oi.dst = some d → st2.tm.get d = st.tm.get d := fun d hd => hget d fun hod => hs.dsts j o i oi hj hna hoi hij d hd hod
      refine ⟨hna', ?_⟩
      rcases hp with ⟨hw, hv⟩ | ⟨hw, hc, v, hv, hd⟩ | ⟨hw, hc, x, mk, hv, hd, hx, hb1, hb2, hb3, hb4⟩
      · exact .inl ⟨hw2.trans hw, fun d hd => by rw [hdst d hd]; exact hv d hd⟩
      · exact .inr (.inl ⟨hw2.trans hw, hc, v, by rw [evR_congr oi hops]; exact evR_sub hheap.1 hv, fun d hd' => by rw [hdst d hd']; exact hd d hd'⟩)
      · exact .inr (.inr ⟨hw2.trans hw, hc, x, mk, by rw [evN_congr oi hops]; exact hv, fun d hd' => by rw [hdst d hd']; exact hd d hd', hheap.1 _ _ hx, hb1, hb2, Nat.lt_of_lt_of_le hb3 hheap.2.1, hb4⟩)
  · have hold : ∀ i oi, i ≠ j → (done ||| 2 ^ j).testBit i = true → ops[i]? = some oi → done.testBit i = true := fun i oi hij hi _ => by
      rw [mask_or] at hi
      simp only [Bool.or_eq_true, decide_eq_true_eq] at hi
      rcases hi with hi | hi
      · exact hi
      · exact absurd hi.symm hij
    have hlt : ∀ i oi, i ≠ j → (done ||| 2 ^ j).testBit i = true → L i = false → ops[i]? = some oi → cls P oi = .n → wantedA ops st2.tm oi = true → B i < st.n := fun i oi hij hi hl hoi hc hw => by
      have hi := hold i oi hij hi hoi
      have hw2 : wantedA ops st2.tm oi = wantedA ops st.tm oi := wantedA_same fun t ht => (hsame i oi hi hoi t ht).symm
      rw [hw2] at hw
      obtain ⟨_, hp⟩ := h.pend i oi hi hl hoi
      rcases hp with ⟨hw', _⟩ | ⟨_, hc', _⟩ | ⟨_, _, x, mk, _, _, _, _, _, hb3, _⟩
      · rw [hw] at hw'; cases hw'
      · rw [hc] at hc'; cases hc'
      · exact hb3
    by_cases h1 : i = j <;> by_cases h2 : i' = j
    · exact absurd (h1.trans h2.symm) hii
    · simp only [if_pos h1, if_neg h2]; have := hlt i' oi' h2 hi' hl' hoi' hc' hw'; omega
    · simp only [if_neg h1, if_pos h2]; have := hlt i oi h1 hi hl hoi hc hw; omega
    · simp only [if_neg h1, if_neg h2]
      have d1 := hold i oi h1 hi hoi
      have d2 := hold i' oi' h2 hi' hoi'
      have w1 : wantedA ops st2.tm oi = wantedA ops st.tm oi := wantedA_same fun t ht => (hsame i oi d1 hoi t ht).symm
      have w2 : wantedA ops st2.tm oi' = wantedA ops st.tm oi' := wantedA_same fun t ht => (hsame i' oi' d2 hoi' t ht).symm
      exact h.dist i i' oi oi' hii d1 hl hoi hc (w1 ▸ hw) d2 hl' hoi' hc' (w2 ▸ hw')
end
end Go.Proofs.YtgpnfdeneagdbaaGreat.Rf
