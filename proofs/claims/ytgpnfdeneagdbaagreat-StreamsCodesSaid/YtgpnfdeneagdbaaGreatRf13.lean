/- The run's own steps through a region, and the whole region. -/
import Derived.Test.YtgpnfdeneagdbaaGreatRf12
namespace Go.Proofs.YtgpnfdeneagdbaaGreat.Rf
open Go Go.RowKit
set_option linter.unusedVariables false
set_option linter.unusedSimpArgs false

variable {P : Program} {ρ : Ren} {W0 W W' : World} {hp hp' : Tr Blk} {n : Nat} {tm tm' : Tr Value} {e : Operand → Value}

section
variable {ops : List Oper} {sz : Nat} {ρ0 : Ren} {hp0 : Tr Blk} {n0 done : Nat} {L : Nat → Bool} {st st2 : St} {A : Act} {B : Nat → Nat} {opsA : Array Oper} {Q : Exit → Act → World → Prop} {K : Act → World → Prop}

/-- What an operation that may come now looks at is known. -/
theorem Inv.looks (h : Inv P W0 ops sz ρ0 hp0 n0 done L st ρ A W B) (hs : RSafe P ops) {k : Nat} {o : Oper} (hk : ops[k]? = some o) (hr : ∀ ed ∈ o.after, Region.binds .any ed = true → L ed.on = true) :
    ∀ t ∈ namesOf ops o, VR ρ (slot st.tm t) (A.tmps.getD t undef) := fun t ht => h.tm t fun i oi hi hl hoi hd => by
  have := (hs.names i oi k o hoi (h.pend i oi hi hl hoi).1 hk t hd ht).2
  have := anc_sub h.lc k o hk hr i this
  rw [hl] at this; cases this

theorem set_sub {k : Nat} (h : Inv P W0 ops sz ρ0 hp0 n0 done L st ρ A W B) (hd : done.testBit k = true) : ∀ i, (if i = k then true else L i) = true → done.testBit i = true := fun i hi => by
  split at hi
  · subst i; exact hd
  · exact h.sub i hi

theorem unset {k i : Nat} (h : (if i = k then true else L i) = false) : i ≠ k ∧ L i = false := by
  split at h
  · cases h
  · exact ⟨‹_›, h⟩

/-- The run does what the machine has done already. -/
theorem Inv.realPass (h : Inv P W0 ops sz ρ0 hp0 n0 done L st ρ A W B) (hs : RSafe P ops) (hops : opsA.toList = ops) {k : Nat} {o : Oper} (hk : ops[k]? = some o) (hdk : done.testBit k = true) (hlk : L k = false) (hr : ∀ ed ∈ o.after, Region.binds .any ed = true → L ed.on = true)
    (hK : ∀ ρ' A' W', Inv P W0 ops sz ρ0 hp0 n0 done (fun i => if i = k then true else L i) st ρ' A' W' B → K A' W') (hlt : ∀ t, o.dst = some t → t < sz) : wpOp P opsA Q k K A W := by
  have hkA : opsA[k]? = some o := by rw [← Array.getElem?_toList, hops]; exact hk
  have hlook := h.looks hs hk hr
  have hwant : Region.wanted o (yielded opsA A.tmps) = wantedA ops st.tm o := by
    have := wanted_eq (ops := opsA) (o := o) (A := A) (tm := st.tm) (ρ := ρ) (by rw [hops]; exact hlook)
    rwa [hops] at this
  obtain ⟨hna, hp⟩ := h.pend k o hdk hlk hk
  have hsz : ∀ t, o.dst = some t → t < A.tmps.size := fun t ht => by rw [h.size]; exact hlt t ht
  -- what stands behind, if the value is the machine's
  have fin : ∀ ρ' v' W', WR W0 ρ' st.hp st.n W' → Ext ρ0 hp0 n0 ρ' st.hp st.n → (∀ b p, ρ b = some p → ρ' b = some p) → (∀ d, o.dst = some d → VR ρ' (slot st.tm d) v') →
      (∀ i oi, i ≠ k → done.testBit i = true → L i = false → ops[i]? = some oi → Pend P ops st ρ' n0 (B i) oi) → K (A.put o.dst v') W' := fun ρ' v' W' hw hx hm hv hpend =>
    hK ρ' _ W' ⟨set_sub h hdk, closed_set hk hr h.lc, h.dc, hw, hx, fun t ht => by
      rw [put_get A o.dst v' t hsz]
      by_cases hd : o.dst = some t
      · rw [if_pos hd]; exact hv t hd
      · rw [if_neg hd]
        refine (h.tm t fun i oi hi hl hoi => ?_).mono hm
        by_cases hik : i = k
        · subst hik; rw [hk] at hoi; cases hoi; exact hd
        · exact ht i oi hi (by rw [if_neg hik]; exact hl) hoi, by rw [put_size]; exact h.size, by rw [put_defers]; exact h.df,
      fun i oi hi hl hoi => by obtain ⟨hik, hl⟩ := unset hl; exact hpend i oi hik hi hl hoi,
      fun i i' oi oi' hii hi hl hoi hc hw hi' hl' hoi' hc' hw' => by obtain ⟨_, hl⟩ := unset hl; obtain ⟨_, hl'⟩ := unset hl'; exact h.dist i i' oi oi' hii hi hl hoi hc hw hi' hl' hoi' hc' hw'⟩
  unfold wpOp
  simp only [hkA, hwant]
  rcases hp with ⟨hw, hd⟩ | ⟨hw, hc, v, hv, hd⟩ | ⟨hw, hc, x, mk, hv, hd, hx, hb1, hb2, hb3, hb4⟩
  · simp only [hw, Bool.false_eq_true, if_false]
    exact fin ρ _ W h.wr h.ext (fun _ _ h => h) (fun d hd' => by unfold slot; rw [hd d hd']; exact .undef) (fun i oi _ hi hl hoi => h.pend i oi hi hl hoi)
  · simp only [hw, if_true]
    refine .inl ?_
    obtain ⟨v', h1, h2⟩ := evR_sound o h.wr (EV_of hlook) hv
    unfold Oper.wp
    rw [h1]
    exact fin ρ v' W h.wr h.ext (fun _ _ h => h) (fun d hd' => by unfold slot; rw [hd d hd']; exact h2) (fun i oi _ hi hl hoi => h.pend i oi hi hl hoi)
  · simp only [hw, if_true]
    refine .inl ?_
    obtain ⟨v', W', p, h1, h2, h3⟩ := evN_sound o h.wr (EV_of hlook) hv hb2 hb3 hb4 hx
    unfold Oper.wp
    rw [h1]
    refine fin (ρ.set (B k) p) v' W' h2 ⟨h.ext.le, fun b hb => by rw [Ren.set_other (by omega)]; exact h.ext.ren b hb, h.ext.keep⟩ (Ren.set_mono hb4) (fun d hd' => by unfold slot; rw [hd d hd']; exact h3) (fun i oi hik hi hl hoi => ?_)
    obtain ⟨hna', hp⟩ := h.pend i oi hi hl hoi
    refine ⟨hna', ?_⟩
    rcases hp with hp | hp | ⟨hw', hc', x', mk', hv', hd', hx', a1, a2, a3, a4⟩
    · exact .inl hp
    · exact .inr (.inl hp)
    · exact .inr (.inr ⟨hw', hc', x', mk', hv', hd', hx', a1, a2, a3, by rw [Ren.set_other (h.dist i k oi o hik hi hl hoi hc' hw' hdk hlk hk hc hw)]; exact a4⟩)

/-- The machine and the run do an actor together. -/
theorem Inv.realAct (h : Inv P W0 ops sz ρ0 hp0 n0 done L st ρ A W B) (hs : RSafe P ops) (hops : opsA.toList = ops) {k : Nat} {o : Oper} (hk : ops[k]? = some o) (hdk : done.testBit k = false) (ha : isActor P o = true) (hr : ∀ ed ∈ o.after, Region.binds .any ed = true → L ed.on = true)
    (hst : AStep P sz ops o st st2) (hchk : ∀ i oi, done.testBit i = true → ops[i]? = some oi → isActor P oi = false → ((ancs ops []).getD k 0).testBit i = false → recheck P ops st2 i = true)
    (hK : ∀ ρ' A' W', Inv P W0 ops sz ρ0 hp0 n0 (done ||| 2 ^ k) (fun i => if i = k then true else L i) st2 ρ' A' W' B → K A' W') : wpOp P opsA Q k K A W := by
  have hkA : opsA[k]? = some o := by rw [← Array.getElem?_toList, hops]; exact hk
  have hlook := h.looks hs hk hr
  have hwant : Region.wanted o (yielded opsA A.tmps) = wantedA ops st.tm o := by
    have := wanted_eq (ops := opsA) (o := o) (A := A) (tm := st.tm) (ρ := ρ) (by rw [hops]; exact hlook)
    rwa [hops] at this
  have hlk : L k = false := by
    cases hl : L k with
    | false => rfl
    | true => rw [h.sub k hl] at hdk; cases hdk
  have hsub : ∀ ed ∈ o.after, Region.binds .any ed = true → done.testBit ed.on = true := fun ed he hb => h.sub _ (hr ed he hb)
  -- the pending ones are apart from k
  have hnotanc : ∀ i, L i = false → ((ancs ops []).getD k 0).testBit i = false := fun i hl => by
    cases hb : ((ancs ops []).getD k 0).testBit i with
    | false => rfl
    | true => have := anc_sub h.lc k o hk hr i hb; rw [hl] at this; cases this
  have hapart : ∀ i oi, done.testBit i = true → L i = false → ops[i]? = some oi → ∀ t, o.dst = some t → t ∉ namesOf ops oi ∧ oi.dst ≠ some t := fun i oi hi hl hoi t ht => by
    have hna := (h.pend i oi hi hl hoi).1
    have hik : k ≠ i := by intro e; subst e; rw [hdk] at hi; cases hi
    refine ⟨fun hm => ?_, hs.dsts i oi k o hoi hna hk hik t ht⟩
    rcases hs.acts i oi k o hoi hna hk t ht hm with h1 | h1
    · rw [hnotanc i hl] at h1; cases h1
    · have := anc_sub h.dc i oi hoi (h.dc i oi hoi hi) k h1
      rw [hdk] at this; cases this
  have hold : ∀ i, i ≠ k → (done ||| 2 ^ k).testBit i = true → done.testBit i = true := fun i hik hi => by
    rw [mask_or] at hi
    simp only [Bool.or_eq_true, decide_eq_true_eq] at hi
    rcases hi with hi | hi
    · exact hi
    · exact absurd hi.symm hik
  have fin : ∀ (v v' : Value) (ρ' : Ren) (W' : World), Put sz st.tm o.dst v st2.tm → WR W0 ρ' st2.hp st2.n W' → Ext ρ st.hp st.n ρ' st2.hp st2.n → VR ρ' v v' → K (A.put o.dst v') W' := fun v v' ρ' W' hput hw hx hv => by
    have hm := hx.sub h.wr
    have hsz : ∀ t, o.dst = some t → t < A.tmps.size := fun t ht => by rw [h.size]; exact hput.lt t ht
    have hget : ∀ t, o.dst ≠ some t → st2.tm.get t = st.tm.get t := fun t ht => by rw [hput.get, if_neg ht]
    have hsame : ∀ i oi, done.testBit i = true → L i = false → ops[i]? = some oi → ∀ t ∈ namesOf ops oi, st.tm.get t = st2.tm.get t := fun i oi hi hl hoi t ht => (hget t fun hd => (hapart i oi hi hl hoi t hd).1 ht).symm
    have hw2 : ∀ i oi, done.testBit i = true → L i = false → ops[i]? = some oi → wantedA ops st2.tm oi = wantedA ops st.tm oi := fun i oi hi hl hoi => wantedA_same fun t ht => (hsame i oi hi hl hoi t ht).symm
    have hdst : ∀ i oi, done.testBit i = true → L i = false → ops[i]? = some oi → ∀ d, oi.dst = some d → st2.tm.get d = st.tm.get d := fun i oi hi hl hoi d hd => hget d fun hod => (hapart i oi hi hl hoi d hod).2 hd
    refine hK ρ' _ W' ⟨fun i hi => ?_, closed_set hk hr h.lc, closed_or hk hsub h.dc, hw, h.ext.trans hx, fun t ht => ?_, by rw [put_size]; exact h.size, by rw [put_defers]; exact h.df, fun i oi hi hl hoi => ?_,
      fun i i' oi oi' hii hi hl hoi hc hw1 hi' hl' hoi' hc' hw1' => ?_⟩
    · rw [mask_or]
      split at hi
      · subst i; simp
      · rw [h.sub i hi]; rfl
    · rw [put_get A o.dst v' t hsz, slot_put hput t]
      by_cases hd : o.dst = some t
      · rw [if_pos hd, if_pos hd]; exact hv
      · rw [if_neg hd, if_neg hd]
        refine (h.tm t fun i oi hi hl hoi => ?_).mono hm
        have hik : i ≠ k := by intro e; subst e; rw [hdk] at hi; cases hi
        exact ht i oi (by rw [mask_or, hi]; rfl) (by rw [if_neg hik]; exact hl) hoi
    · obtain ⟨hik, hl⟩ := unset hl
      have hi := hold i hik hi
      obtain ⟨hna, hp⟩ := h.pend i oi hi hl hoi
      have e1 := hw2 i oi hi hl hoi
      have e2 := hdst i oi hi hl hoi
      have hops2 : ∀ x ∈ oi.op.operands, ev st2.tm x = ev st.tm x := operands_same fun t ht => (hsame i oi hi hl hoi t ht).symm
      refine ⟨hna, ?_⟩
      rcases hp with ⟨hw', hd'⟩ | ⟨hw', hc', u, hu, hd'⟩ | ⟨hw', hc', x', mk', hv', hd', hx', a1, a2, a3, a4⟩
      · exact .inl ⟨e1.trans hw', fun d hd => by rw [e2 d hd]; exact hd' d hd⟩
      · have hre := hchk i oi hi hoi hna (hnotanc i hl)
        unfold recheck at hre
        rw [hoi] at hre
        simp only [hc', e1, hw', cond_true] at hre
        split at hre
        · rename_i d hd
          split at hre
          · rename_i a b hta hrb
            have := veq_eq hre
            subst this
            rw [e2 d hd, hd' d hd] at hta
            cases hta
            exact .inr (.inl ⟨e1.trans hw', hc', u, hrb, fun d2 hd2 => by rw [e2 d2 hd2]; exact hd' d2 hd2⟩)
          · cases hre
        · cases hre
      · exact .inr (.inr ⟨e1.trans hw', hc', x', mk', by rw [evN_congr oi hops2]; exact hv', fun d hd => by rw [e2 d hd]; exact hd' d hd, by rw [hx.keep _ a3 a4]; exact hx', a1, a2, Nat.lt_of_lt_of_le a3 hx.le, by rw [hx.ren _ a3]; exact a4⟩)
    · obtain ⟨hik, hl⟩ := unset hl
      obtain ⟨hik', hl'⟩ := unset hl'
      have hi := hold i hik hi
      have hi' := hold i' hik' hi'
      exact h.dist i i' oi oi' hii hi hl hoi hc (hw2 i oi hi hl hoi ▸ hw1) hi' hl' hoi' hc' (hw2 i' oi' hi' hl' hoi' ▸ hw1')
  unfold wpOp
  simp only [hkA, hwant]
  cases hst with
  | skip tm' hw hput he =>
    subst he
    simp only [hw, Bool.false_eq_true, if_false]
    exact fin _ _ ρ W hput h.wr (Ext.refl _ _ _) .undef
  | read v tm' hw hc h' hput he => simp [isActor, hc] at ha
  | make x mk tm' hp' hw hc h' hg hput he => simp [isActor, hc] at ha
  | act v tm' hp2 n2 hw hc h' hput he =>
    subst he
    simp only [hw, if_true]
    exact .inl ((h' h.wr (EV_of hlook)).wp fun v' W' ⟨ρ', a1, a2, a3⟩ => fin v v' ρ' W' hput a1 a2 a3)

/-- The machine's way through a region from here on. -/
inductive Rest (P : Program) (sz : Nat) (ops : List Oper) : Nat → St → St → Prop
  | done (done : Nat) (st : St) (h : ∀ i, i < ops.length → done.testBit i = true) : Rest P sz ops done st st
  | pass (done j : Nat) (o : Oper) (st st1 stF : St) (hj : ops[j]? = some o) (hd : done.testBit j = false) (hs : ∀ ed ∈ o.after, Region.binds .any ed = true → done.testBit ed.on = true) (hna : isActor P o = false) (hst : AStep P sz ops o st st1)
      (hr : Rest P sz ops (done ||| 2 ^ j) st1 stF) : Rest P sz ops done st stF
  | act (done k : Nat) (o : Oper) (st st1 stF : St) (hk : ops[k]? = some o) (hd : done.testBit k = false) (ha : isActor P o = true) (hst : AStep P sz ops o st st1)
      (honly : ∀ i oi, ops[i]? = some oi → done.testBit i = false → (∀ ed ∈ oi.after, Region.binds .any ed = true → done.testBit ed.on = true) → i = k)
      (hchk : ∀ i oi, done.testBit i = true → ops[i]? = some oi → isActor P oi = false → ((ancs ops []).getD k 0).testBit i = false → recheck P ops st1 i = true)
      (hr : Rest P sz ops (done ||| 2 ^ k) st1 stF) : Rest P sz ops done st stF

/-- how many are not listed -/
def unl (L : Nat → Bool) : Nat → Nat
  | 0 => 0
  | m + 1 => unl L m + (if L m then 0 else 1)

theorem unl_set {L L' : Nat → Bool} {k : Nat} (hk : L k = false) (hk' : L' k = true) (ho : ∀ i, i ≠ k → L' i = L i) : ∀ m, k < m → unl L m = unl L' m + 1
  | 0, h => by omega
  | m + 1, h => by
    unfold unl
    by_cases hm : m = k
    · subst hm
      have : ∀ j, j ≤ m → unl L j = unl L' j := fun j => by
        induction j with
        | zero => intro _; rfl
        | succ j ih => intro hj; unfold unl; rw [ih (by omega), ho j (by omega)]
      rw [this m (Nat.le_refl _), hk, hk']
      simp
    · rw [unl_set hk hk' ho m (by omega), ho m hm]
      split <;> omega

theorem unl_zero {L : Nat → Bool} : ∀ {m : Nat}, unl L m = 0 → ∀ i, i < m → L i = true
  | 0, _, i, h => by omega
  | m + 1, h, i, hi => by
    unfold unl at h
    by_cases him : i = m
    · subst him
      cases hl : L i with
      | true => rfl
      | false => rw [hl] at h; simp at h
    · have h0 : unl L m = 0 := by omega
      exact unl_zero h0 i (by omega)

theorem mem_ready_any {listed : Array Bool} {i : Nat} (hsz : listed.size = opsA.size) (h : i ∈ Region.ready .any opsA listed) : ∃ o, opsA[i]? = some o ∧ listed.getD i false = false ∧ ∀ ed ∈ o.after, Region.binds .any ed = true → listed.getD ed.on false = true := by
  unfold Region.ready at h
  rw [List.mem_filter, List.mem_range] at h
  obtain ⟨hi, h⟩ := h
  simp only [Bool.and_eq_true, Bool.not_eq_true'] at h
  obtain ⟨h1, h2⟩ := h
  have ho : opsA[i]? = some opsA[i] := getElem?_pos opsA i hi
  rw [ho] at h2
  simp only [Option.map_some, Option.getD_some] at h2
  refine ⟨_, ho, ?_, fun ed he hb => ?_⟩
  · have hl : i < listed.size := by omega
    simp [hl] at h1 ⊢
    exact h1
  · have := Array.all_eq_true'.1 h2 ed he
    simpa [hb] using this

theorem getD_set_bool {listed : Array Bool} {k : Nat} (hk : k < listed.size) (i : Nat) : (listed.setIfInBounds k true).getD i false = if i = k then true else listed.getD i false := by
  by_cases hik : i = k
  · subst hik; simp [hk]
  · rw [if_neg hik]
    simp [Array.getElem?_setIfInBounds_ne (Ne.symm hik)]

theorem all_listed (hs : RSafe P ops) (hops : opsA.toList = ops) {listed : Array Bool} (hsz : listed.size = opsA.size) (hr : Region.ready .any opsA listed = []) : ∀ i, i < ops.length → listed.getD i false = true := by
  intro i
  induction i using Nat.strongRecOn with
  | _ i ih =>
    intro hi
    cases hl : listed.getD i false with
    | true => rfl
    | false =>
      have hlen : opsA.size = ops.length := by rw [← hops]; simp
      have hiA : i < opsA.size := by omega
      have ho : opsA[i]? = some opsA[i] := getElem?_pos opsA i hiA
      have ho' : ops[i]? = some opsA[i] := by rw [← hops, Array.getElem?_toList]; exact ho
      have : i ∈ Region.ready .any opsA listed := by
        unfold Region.ready
        rw [List.mem_filter, List.mem_range]
        refine ⟨hiA, ?_⟩
        rw [ho]
        simp only [Option.map_some, Option.getD_some, Bool.and_eq_true, Bool.not_eq_true']
        refine ⟨?_, Array.all_eq_true'.2 fun ed he => ?_⟩
        · have : i < listed.size := by omega
          simp [this] at hl ⊢
          exact hl
        · cases hb : Region.binds .any ed with
          | false => rfl
          | true =>
            have hlt := hs.edges i _ ho' ed he hb
            simp only [Bool.not_true, Bool.false_or]
            exact ih ed.on hlt (by omega)
      rw [hr] at this
      cases this

/-- THE REGION. -/
theorem region_any (hs : RSafe P ops) (hops : opsA.toList = ops) (hpass : ∀ (i : Nat) (oi : Oper) (t : Tmp), ops[i]? = some oi → oi.dst = some t → t < sz) {stF : St}
    (hQ : ∀ ρ' A' W', WR W0 ρ' stF.hp stF.n W' → Ext ρ0 hp0 n0 ρ' stF.hp stF.n → (∀ t, VR ρ' (slot stF.tm t) (A'.tmps.getD t undef)) → A'.tmps.size = sz → A'.defers = [] → Q .normal A' W')
    (hrest : Rest P sz ops done st stF) : ∀ (fuel : Nat) (listed : Array Bool) (ρ : Ren) (A : Act) (W : World) (B : Nat → Nat), listed.size = opsA.size → unl (fun i => listed.getD i false) ops.length ≤ fuel →
      Inv P W0 ops sz ρ0 hp0 n0 done (fun i => listed.getD i false) st ρ A W B → wpAny P .any opsA Q fuel listed A W := by
  have hlen : opsA.size = ops.length := by rw [← hops]; simp
  have hget : ∀ i o, opsA[i]? = some o → ops[i]? = some o := fun i o h => by rw [← hops, Array.getElem?_toList]; exact h
  have hltA : ∀ i o, opsA[i]? = some o → i < opsA.size := fun i o h => (Array.getElem?_eq_some_iff.1 h).1
  -- one step listed
  have step : ∀ {listed : Array Bool} {i fuel : Nat}, listed.size = opsA.size → i < opsA.size → listed.getD i false = false → unl (fun i => listed.getD i false) ops.length ≤ fuel + 1 →
      (listed.setIfInBounds i true).size = opsA.size ∧ unl (fun j => (listed.setIfInBounds i true).getD j false) ops.length ≤ fuel ∧ (fun j => (listed.setIfInBounds i true).getD j false) = fun j => if j = i then true else listed.getD j false := fun {listed i fuel} hsz hi hl hu => by
    have hfun : (fun j => (listed.setIfInBounds i true).getD j false) = fun j => if j = i then true else listed.getD j false := funext fun j => getD_set_bool (by omega) j
    refine ⟨by simpa using hsz, ?_, hfun⟩
    have := unl_set (L := fun j => listed.getD j false) (L' := fun j => (listed.setIfInBounds i true).getD j false) (k := i) hl (by show (listed.setIfInBounds i true).getD i false = true; rw [getD_set_bool (by omega), if_pos rfl]) (fun j hj => by show (listed.setIfInBounds i true).getD j false = _; rw [getD_set_bool (by omega), if_neg hj]) ops.length (by omega)
    omega
  induction hrest with
  | done done st hall =>
    intro fuel
    induction fuel with
    | zero =>
      intro listed ρ A W B hsz hu h
      have hl := unl_zero (L := fun i => listed.getD i false) (Nat.le_zero.1 hu)
      refine ⟨?_, hQ ρ A W h.wr h.ext (fun t => h.tm t fun i o hi hl' ho hd => ?_) h.size h.df⟩
      · cases hr : Region.ready .any opsA listed with
        | nil => rfl
        | cons i l =>
          obtain ⟨o, ho, hno, _⟩ := mem_ready_any hsz (i := i) (by rw [hr]; exact List.mem_cons_self ..)
          have := hl i (by have := hltA i o ho; omega)
          rw [hno] at this; cases this
      · have := hl i (List.getElem?_eq_some_iff.1 ho).1
        rw [hl'] at this; cases this
    | succ fuel ih =>
      intro listed ρ A W B hsz hu h
      refine ⟨fun hr => ?_, fun i hi => ?_⟩
      · have hl := all_listed hs hops hsz hr
        exact hQ ρ A W h.wr h.ext (fun t => h.tm t fun i o hi hl' ho hd => by
          have := hl i (List.getElem?_eq_some_iff.1 ho).1
          rw [hl'] at this; cases this) h.size h.df
      · obtain ⟨o, ho, hno, hr⟩ := mem_ready_any hsz hi
        have hi' := hltA i o ho
        obtain ⟨s1, s2, s3⟩ := step hsz hi' hno hu
        exact h.realPass hs hops (hget i o ho) (hall i (by omega)) hno hr (fun ρ' A' W' h' => ih _ ρ' A' W' B s1 s2 (by rw [s3]; exact h')) (fun t ht => hpass i o t (hget i o ho) ht)
  | pass done j o st st1 stF hj hd hsub hna hst hr ihr =>
    intro fuel listed ρ A W B hsz hu h
    exact ihr hQ fuel listed ρ A W _ hsz hu (h.pass hs hj hd hsub hna hst)
  | act done k o st st1 stF hk hd ha hst honly hchk hr ihr =>
    have hkl : k < ops.length := (List.getElem?_eq_some_iff.1 hk).1
    intro fuel
    induction fuel with
    | zero =>
      intro listed ρ A W B hsz hu h
      have := h.sub k (unl_zero (L := fun i => listed.getD i false) (Nat.le_zero.1 hu) k hkl)
      rw [hd] at this; cases this
    | succ fuel ih =>
      intro listed ρ A W B hsz hu h
      refine ⟨fun hr => ?_, fun i hi => ?_⟩
      · have := h.sub k (all_listed hs hops hsz hr k hkl)
        rw [hd] at this; cases this
      · obtain ⟨oi, ho, hno, hri⟩ := mem_ready_any hsz hi
        have hi' := hltA i oi ho
        obtain ⟨s1, s2, s3⟩ := step hsz hi' hno hu
        cases hdi : done.testBit i with
        | true => exact h.realPass hs hops (hget i oi ho) hdi hno hri (fun ρ' A' W' h' => ih _ ρ' A' W' B s1 s2 (by rw [s3]; exact h')) (fun t ht => hpass i oi t (hget i oi ho) ht)
        | false =>
          have hik := honly i oi (hget i oi ho) hdi (fun ed he hb => h.sub _ (hri ed he hb))
          subst hik
          have : oi = o := by have := (hget i oi ho).symm.trans hk; simpa using this
          subst this
          exact h.realAct hs hops hk hd ha hri hst hchk (fun ρ' A' W' h' => ihr hQ fuel _ ρ' A' W' B s1 s2 (by rw [s3]; exact h'))
end
end Go.Proofs.YtgpnfdeneagdbaaGreat.Rf
