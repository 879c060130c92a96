/- The machine's way through code and calls; what it says of a closed call. -/
import Derived.Test.YtgpnfdeneagdbaaGreatRf13
import Derived.LoopN
import Derived.Scope
namespace Go.Proofs.YtgpnfdeneagdbaaGreat.Rf
open Go Go.RowKit
set_option linter.unusedVariables false
set_option linter.unusedSimpArgs false

variable {P : Program} {ρ : Ren} {W0 W W' : World} {hp hp' : Tr Blk} {n : Nat} {tm tm' : Tr Value} {e : Operand → Value}

theorem fold_bit : ∀ (l : List Edge) (s j : Nat), (l.foldl (fun s e => bif Region.binds .any e then s ||| 2 ^ e.on else s) s).testBit j = true → s.testBit j = true ∨ ∃ e ∈ l, Region.binds .any e = true ∧ e.on = j
  | [], _, _, h => .inl h
  | x :: l, s, j, h => by
    rcases fold_bit l _ j h with h1 | ⟨e, he, h2⟩
    · cases hb : Region.binds .any x <;> simp only [hb, cond_true, cond_false] at h1
      · exact .inl h1
      · rw [mask_or] at h1
        simp only [Bool.or_eq_true, decide_eq_true_eq] at h1
        rcases h1 with h1 | h1
        · exact .inl h1
        · exact .inr ⟨x, List.mem_cons_self .., hb, h1⟩
    · exact .inr ⟨e, List.mem_cons_of_mem _ he, h2⟩

theorem subset_of {a b : Nat} (h : ∀ j, a.testBit j = true → b.testBit j = true) : subset a b = true := by
  unfold subset
  have : a &&& b = a := Nat.eq_of_testBit_eq fun j => by
    rw [Nat.testBit_and]
    cases ha : a.testBit j with
    | false => rfl
    | true => rw [h j ha]; rfl
  rw [this]
  exact Nat.beq_refl _

theorem subset_direct {o : Oper} {done : Nat} (h : ∀ ed ∈ o.after, Region.binds .any ed = true → done.testBit ed.on = true) : subset (direct o) done = true := subset_of fun j hj => by
  rcases fold_bit o.after.toList 0 j hj with h1 | ⟨ed, he, hb, rfl⟩
  · simp at h1
  · exact h ed (by simpa using he) hb

theorem direct_sub {o : Oper} {done : Nat} (h : subset (direct o) done = true) : ∀ ed ∈ o.after, Region.binds .any ed = true → done.testBit ed.on = true := fun ed he hb => subset_bit h (direct_bit he hb)

theorem firstReady_none {done : Nat} : ∀ {ops : List Oper} {s : Nat}, firstReady P done ops s = none → ∀ {i : Nat} {o : Oper}, ops[i]? = some o → done.testBit (s + i) = false → subset (direct o) done = true → isActor P o = true
  | [], _, _, _, _, h, _, _ => by simp at h
  | o' :: os, s, h, 0, o, hi, hd, hs => by
    simp only [List.getElem?_cons_zero, Option.some.injEq] at hi
    subst hi
    unfold firstReady at h
    rw [Nat.add_zero] at hd
    cases ha : isActor P o' with
    | true => rfl
    | false => simp [hd, hs, ha] at h
  | o' :: os, s, h, i + 1, o, hi, hd, hs => by
    unfold firstReady at h
    cases hc : (!(done.testBit s) && subset (direct o') done && !(isActor P o')) <;> simp only [hc, cond_true, cond_false] at h
    · exact firstReady_none h (i := i) (by simpa using hi) (by rwa [show s + 1 + i = s + (i + 1) by omega]) hs
    · cases h

theorem runOps_rest {S : Fns} (hS : SoundCall P S) {sz : Nat} {ops : List Oper} : ∀ (f done : Nat) (pend : List Nat) (pl : List (Nat × List Nat)) (st : St) (K : St → Bool), plan P ops (ancs ops []) f done pend = some pl → runOps P S sz ops pl st K = true →
    (∀ i o, done.testBit i = true → ops[i]? = some o → isActor P o = false → i ∈ pend) → ∃ stF, K stF = true ∧ Rest P sz ops done st stF
  | 0, done, pend, pl, st, K, hp, h, _ => by
    unfold plan at hp
    cases hd : done.beq (2 ^ ops.length - 1) <;> simp only [hd, cond_true, cond_false] at hp
    · cases hp
    simp only [Option.some.injEq] at hp
    subst hp
    refine ⟨st, h, .done done st fun i hi => ?_⟩
    rw [Nat.eq_of_beq_eq_true hd, Nat.testBit_two_pow_sub_one]
    simpa using hi
  | f + 1, done, pend, pl, st, K, hp, h, hpd => by
    unfold plan at hp
    split at hp
    · rename_i i hi
      split at hp
      · rename_i l hl
        simp only [Option.some.injEq] at hp
        subst hp
        obtain ⟨o, ho, _, hdi, hsub, hna⟩ := firstReady_some hi
        rw [Nat.sub_zero] at ho
        unfold runOps at h
        rw [ho] at h
        simp only at h
        obtain ⟨st1, h1, hst⟩ := evOp_ok hS o h
        simp only [List.all_nil, cond_true] at h1
        obtain ⟨stF, hK, hr⟩ := runOps_rest hS f _ _ l st1 K hl h1 (fun i' o' hd' ho' hna' => by
          rw [mask_or] at hd'
          simp only [Bool.or_eq_true, decide_eq_true_eq] at hd'
          rcases hd' with hd' | hd'
          · exact List.mem_cons_of_mem _ (hpd i' o' hd' ho' hna')
          · subst hd'; exact List.mem_cons_self ..)
        exact ⟨stF, hK, .pass done i o st st1 stF ho hdi (direct_sub hsub) hna hst hr⟩
      · cases hp
    · rename_i hnone
      split at hp
      · rename_i k hk
        split at hp
        · rename_i l hl
          simp only [Option.some.injEq] at hp
          subst hp
          obtain ⟨o, ho, _, hdk, hsub⟩ := mem_readyActs.1 (show k ∈ readyActs P done ops 0 by rw [hk]; exact List.mem_cons_self ..)
          rw [Nat.sub_zero] at ho
          have ha := firstReady_none hnone ho (by rw [Nat.zero_add]; exact hdk) hsub
          unfold runOps at h
          rw [ho] at h
          simp only at h
          obtain ⟨st1, h1, hst⟩ := evOp_ok hS o h
          obtain ⟨hchk, h1⟩ := bif_true h1
          obtain ⟨stF, hK, hr⟩ := runOps_rest hS f _ _ l st1 K hl h1 (fun i' o' hd' ho' hna' => by
            rw [mask_or] at hd'
            simp only [Bool.or_eq_true, decide_eq_true_eq] at hd'
            rcases hd' with hd' | hd'
            · exact hpd i' o' hd' ho' hna'
            · subst hd'; rw [ho] at ho'; cases ho'; rw [ha] at hna'; cases hna')
          refine ⟨stF, hK, .act done k o st st1 stF ho hdk ha hst (fun i oi hoi hdi hed => ?_) (fun i oi hdi hoi hna hanc => ?_) hr⟩
          · have : i ∈ readyActs P done ops 0 := mem_readyActs.2 ⟨oi, by rw [Nat.sub_zero]; exact hoi, Nat.zero_le _, hdi, subset_direct hed⟩
            rw [hk] at this
            simpa using this
          · exact List.all_eq_true.1 hchk i (List.mem_filter.2 ⟨hpd i oi hdi hoi hna, by rw [hanc]; rfl⟩)
        · cases hp
      · cases hp

structure Rel (W0 : World) (ρ : Ren) (sz : Nat) (st : St) (A : Act) (W : World) : Prop where
  wr : WR W0 ρ st.hp st.n W
  tm : ∀ t, VR ρ (slot st.tm t) (A.tmps.getD t undef)
  size : A.tmps.size = sz
  df : A.defers = []

/-- What stands at an exit. -/
def Post (W0 : World) (ρ : Ren) (sz : Nat) (st : St) (ex : Exit) (st2 : St) : Exit → Act → World → Prop := fun ex' A' W' => ex' = ex ∧ ∃ ρ', Rel W0 ρ' sz st2 A' W' ∧ Ext ρ st.hp st.n ρ' st2.hp st2.n

section
variable {sz : Nat} {st st2 : St} {A : Act} {ops : List Oper} {opsA : Array Oper} {Q : Exit → Act → World → Prop} {K : Act → World → Prop}

/-- one operation of a region that goes in the text's order -/
theorem AStep.wp {o : Oper} {i : Nat} (h : AStep P sz ops o st st2) (hops : opsA.toList = ops) (hi : ops[i]? = some o) (hr : Rel W0 ρ sz st A W) (hK : ∀ ρ' A' W', Rel W0 ρ' sz st2 A' W' → Ext ρ st.hp st.n ρ' st2.hp st2.n → K A' W') : wpOp P opsA Q i K A W := by
  have hiA : opsA[i]? = some o := by rw [← Array.getElem?_toList, hops]; exact hi
  have hlook : ∀ t ∈ namesOf ops o, VR ρ (slot st.tm t) (A.tmps.getD t undef) := fun t _ => hr.tm t
  have hwant : Region.wanted o (yielded opsA A.tmps) = wantedA ops st.tm o := by
    have := wanted_eq (ops := opsA) (o := o) (A := A) (tm := st.tm) (ρ := ρ) (by rw [hops]; exact hlook)
    rwa [hops] at this
  have fin : ∀ (v v' : Value) (ρ' : Ren) (W' : World), Put sz st.tm o.dst v st2.tm → WR W0 ρ' st2.hp st2.n W' → Ext ρ st.hp st.n ρ' st2.hp st2.n → VR ρ' v v' → K (A.put o.dst v') W' := fun v v' ρ' W' hput hw hx hv =>
    hK ρ' _ W' ⟨hw, fun t => by
      rw [put_get A o.dst v' t (fun t ht => by rw [hr.size]; exact hput.lt t ht), slot_put hput t]
      split
      · exact hv
      · exact (hr.tm t).mono (hx.sub hr.wr), by rw [put_size]; exact hr.size, by rw [put_defers]; exact hr.df⟩ hx
  unfold wpOp
  simp only [hiA, hwant]
  cases h with
  | skip tm' hw hput he =>
    subst he
    simp only [hw, Bool.false_eq_true, if_false]
    exact fin _ _ ρ W hput hr.wr (Ext.refl _ _ _) .undef
  | read v tm' hw hc h' hput he =>
    subst he
    simp only [hw, if_true]
    refine .inl ?_
    obtain ⟨v', h1, h2⟩ := evR_sound o hr.wr (EV_of hlook) h'
    unfold Oper.wp
    rw [h1]
    exact fin v v' ρ W hput hr.wr (Ext.refl _ _ _) h2
  | make x mk tm' hp' hw hc h' hg hput he =>
    subst he
    simp only [hw, if_true]
    refine .inl ?_
    have hρn : ρ st.n = none := by
      cases hq : ρ st.n with
      | none => rfl
      | some q => exact absurd (hr.wr.dom _ q hq).2.1 (Nat.lt_irrefl _)
    obtain ⟨v', W', p, h1, h2, h3⟩ := evN_sound o (hr.wr.lay hg (evN_ro h')) (EV_of hlook) h' hr.wr.pos (Nat.lt_succ_self _) hρn (by rw [hg, if_pos rfl])
    unfold Oper.wp
    rw [h1]
    exact fin _ v' _ W' hput h2 ⟨Nat.le_succ _, fun b hb => Ren.set_other (by omega), fun b hb _ => by rw [hg, if_neg (by omega)]⟩ h3
  | act v tm' hp2 n2 hw hc h' hput he =>
    subst he
    simp only [hw, if_true]
    exact .inl ((h' hr.wr (EV_of hlook)).wp fun v' W' ⟨ρ', a1, a2, a3⟩ => fin v v' ρ' W' hput a1 a2 a3)

theorem straight_ok {S : Fns} (hS : SoundCall P S) (hops : opsA.toList = ops) : ∀ (m s : Nat) (st : St) (K : St → Bool), runOps P S sz ops (straight m s) st K = true →
    ∃ stF, K stF = true ∧ ∀ {W0 ρ A W} {Q : Exit → Act → World → Prop}, Rel W0 ρ sz st A W → (∀ ρ' A' W', Rel W0 ρ' sz stF A' W' → Ext ρ st.hp st.n ρ' stF.hp stF.n → Q .normal A' W') → wpOps P opsA Q (List.range' s m) A W
  | 0, s, st, K, h => ⟨st, h, fun hr hq => hq _ _ _ hr (Ext.refl _ _ _)⟩
  | m + 1, s, st, K, h => by
    unfold straight runOps at h
    split at h
    · rename_i o ho
      obtain ⟨st1, h1, hst⟩ := evOp_ok hS o h
      simp only [List.all_nil, cond_true] at h1
      obtain ⟨stF, hK, hsound⟩ := straight_ok hS hops m (s + 1) st1 K h1
      refine ⟨stF, hK, fun {W0 ρ A W Q} hr hq => ?_⟩
      rw [List.range'_succ, wpOps_cons]
      exact hst.wp hops ho hr fun ρ' A' W' hr' hx => hsound hr' fun ρ2 A2 W2 hr2 hx2 => hq ρ2 A2 W2 hr2 (hx.trans hx2)
    · cases h

theorem region_ok {S : Fns} (hS : SoundCall P S) (hm : P.follows .mixedOrders = true) {id : Nat} {draw : Bool} {pl : List (Nat × List Nat)} (hpl : planOf P sz opsA.toList draw = some pl) {K : St → Bool} (h : runOps P S sz opsA.toList pl st K = true) :
    ∃ stF, K stF = true ∧ ∀ {W0 ρ A W}, Rel W0 ρ sz st A W → (Code.region id opsA draw).wp P (Post W0 ρ sz st .normal stF) A W := by
  unfold planOf at hpl
  cases draw with
  | false =>
    simp only [cond_false, Option.some.injEq] at hpl
    subst hpl
    obtain ⟨stF, hK, hsound⟩ := straight_ok hS (opsA := opsA) rfl _ _ st K h
    refine ⟨stF, hK, fun {W0 ρ A W} hr => wp_region ?_⟩
    rw [List.range_eq_range']
    have : opsA.toList.length = opsA.size := by simp
    rw [← this]
    exact hsound hr fun ρ' A' W' hr' hx => ⟨rfl, ρ', hr', hx⟩
  | true =>
    simp only [cond_true] at hpl
    cases hsafe : (safeAll P opsA.toList (ancs opsA.toList []) opsA.toList 0 && dstsLt sz opsA.toList) <;> simp only [hsafe, cond_true, cond_false] at hpl
    · cases hpl
    simp only [Bool.and_eq_true] at hsafe
    obtain ⟨stF, hK, hrest⟩ := runOps_rest hS _ 0 [] pl st K hpl h (fun i o hd => by simp at hd)
    refine ⟨stF, hK, fun {W0 ρ A W} hr => wp_region_any hm ?_⟩
    refine region_any (ρ0 := ρ) (hp0 := st.hp) (n0 := st.n) (W0 := W0) (safe_of hsafe.1) rfl (fun i oi t hi hd => ?_) (fun ρ' A' W' hw hx ht hs hdf => ⟨rfl, ρ', ⟨hw, ht, hs, hdf⟩, hx⟩) hrest opsA.size _ ρ A _ (fun _ => 0) (by simp) ?_ ?_
    · have := List.all_eq_true.1 hsafe.2 oi (List.mem_of_getElem? hi)
      rw [hd] at this
      exact Nat.le_of_ble_eq_true this
    · have key : ∀ (f : Nat → Bool) (m : Nat), unl f m ≤ m := fun f m => by
        induction m with
        | zero => exact Nat.le_refl _
        | succ m ih => unfold unl; split <;> omega
      have := key (fun i => (Array.replicate opsA.size false).getD i false) opsA.toList.length
      simpa using this
    · have hL : ∀ i, (Array.replicate opsA.size false).getD i false = false := fun i => by
        rcases Nat.lt_or_ge i opsA.size with h | h
        · simp [h]
        · simp [h]
      have h0 : ∀ i, ((0 : Nat).testBit i = true) → False := fun i h => by rw [Nat.zero_testBit] at h; cases h
      exact ⟨fun i hi => (by rw [hL] at hi; cases hi), fun j o _ hl => (by have hl' : (Array.replicate opsA.size false).getD j false = true := hl; rw [hL] at hl'; cases hl'), fun j o _ hl => (h0 j hl).elim, hr.wr.drew _, Ext.refl _ _ _, fun t _ => hr.tm t, hr.size, hr.df, fun i o hd => (h0 i hd).elim, fun i i' o o' _ hd => (h0 i hd).elim⟩
end

theorem rounds_mono {c : Code} {Q Q' : Exit → Act → World → Prop} (hq : ∀ e a w, Q e a w → Q' e a w) : ∀ (N : Nat) (a : Act) (w : World), Code.rounds P c Q N a w → Code.rounds P c Q' N a w
  | 0, _, _, h => h
  | N + 1, a, w, h => by
    rw [rounds_succ] at h ⊢
    refine wp_mono h fun e a w he => ?_
    cases e with
    | normal => exact rounds_mono hq N a w he
    | _ => exact hq _ _ _ he

def SoundCode (P : Program) (S : Fns) : Prop := ∀ (c : Code) (sz : Nat) (st : St) (K : CodeK), S.code c sz st K = true → ∃ ex st2 N, K ex st2 = true ∧ ∀ {W0 ρ A W}, Rel W0 ρ sz st A W →
  c.wp P (Post W0 ρ sz st ex st2) A W ∧ ∀ body, c = .loop body → Code.rounds P body (Post W0 ρ sz st ex st2) N A W

theorem Post.weaken {sz : Nat} {st st1 st2 : St} {ex : Exit} {ρ1 : Ren} (hx : Ext ρ st.hp st.n ρ1 st1.hp st1.n) : ∀ e a w, Post W0 ρ1 sz st1 ex st2 e a w → Post W0 ρ sz st ex st2 e a w :=
  fun e a w ⟨h1, ρ', h2, h3⟩ => ⟨h1, ρ', h2, hx.trans h3⟩

theorem eval_bool {st : St} {sz : Nat} {A : Act} {c : Operand} {b : Bool} (hr : Rel W0 ρ sz st A W) (h : ev st.tm c = some (.bool b)) : A.eval c = .bool b := by
  cases c with
  | tmp t =>
    have := hr.tm t
    rw [← slot_ev h] at this
    exact this.bool_inv
  | const v =>
    simp only [ev] at h
    cases hp : plain v <;> simp only [hp, cond_true, cond_false] at h
    · cases h
    · simp only [Option.some.injEq] at h; exact h
  | func f => simp [ev] at h
  | global g => simp [ev] at h

theorem wp_of {c : Code} {Q : Exit → Act → World → Prop} {a : Act} {w : World} (h : c.wp P Q a w) (hn : ∀ body, c ≠ .loop body) : ∀ N, c.wp P Q a w ∧ ∀ body, c = .loop body → Code.rounds P body Q N a w :=
  fun N =>
  ⟨h, fun body e => absurd e (hn body)⟩

theorem stepCode_ok {S : Fns} (hS : SoundCall P S) (hC : SoundCode P S) (hm : P.follows .mixedOrders = true) {c : Code} {sz : Nat} {st : St} {K : CodeK} (h : stepCode P S c sz st K = true) :
    ∃ ex st2 N, K ex st2 = true ∧ ∀ {W0 ρ A W}, Rel W0 ρ sz st A W → c.wp P (Post W0 ρ sz st ex st2) A W ∧ ∀ body, c = .loop body → Code.rounds P body (Post W0 ρ sz st ex st2) N A W := by
  unfold stepCode at h
  cases c with
  | skip => exact ⟨_, _, 0, h, fun hr => wp_of (wp_skip ⟨rfl, _, hr, Ext.refl _ _ _⟩) (by intro b e; cases e) _⟩
  | label l => exact ⟨_, _, 0, h, fun hr => wp_of (wp_label ⟨rfl, _, hr, Ext.refl _ _ _⟩) (by intro b e; cases e) _⟩
  | region id ops draw =>
    simp only at h
    split at h
    · rename_i pl hpl
      obtain ⟨stF, hK, hs⟩ := region_ok (st := st) hS hm (id := id) hpl h
      exact ⟨_, _, 0, hK, fun hr => wp_of (hs hr) (by intro b e; cases e) _⟩
    · cases h
  | seq a b =>
    simp only at h
    obtain ⟨ex1, st1, N1, h1, hs1⟩ := hC _ _ _ _ h
    cases ex1 with
    | normal =>
      obtain ⟨ex2, st2, N2, h2, hs2⟩ := hC _ _ _ _ h1
      refine ⟨_, _, 0, h2, fun hr => wp_of (wp_seq (wp_mono (hs1 hr).1 fun e a' w' he => ?_)) (by intro b e; cases e) _⟩
      obtain ⟨rfl, ρ', hr', hx⟩ := he
      exact wp_mono (hs2 hr').1 (Post.weaken hx)
    | _ => exact ⟨_, _, 0, h1, fun hr => wp_of (wp_seq (wp_mono (hs1 hr).1 fun e a' w' he => by obtain ⟨rfl, r⟩ := he; exact ⟨rfl, r⟩)) (by intro b e; cases e) _⟩
  | cond c t f =>
    simp only at h
    split at h
    · rename_i hc
      obtain ⟨ex1, st1, N1, h1, hs1⟩ := hC _ _ _ _ h
      exact ⟨_, _, 0, h1, fun hr => wp_of (wp_cond_true (eval_bool hr hc) (hs1 hr).1) (by intro b e; cases e) _⟩
    · rename_i hc
      obtain ⟨ex1, st1, N1, h1, hs1⟩ := hC _ _ _ _ h
      exact ⟨_, _, 0, h1, fun hr => wp_of (wp_cond_false (eval_bool hr hc) (hs1 hr).1) (by intro b e; cases e) _⟩
    · cases h
  | block id body =>
    simp only at h
    obtain ⟨ex1, st1, N1, h1, hs1⟩ := hC _ _ _ _ h
    cases ex1 with
    | exit id' =>
      cases hid : id'.beq id <;> simp only [hid, cond_true, cond_false] at h1
      · exact ⟨_, _, 0, h1, fun hr => wp_of (wp_block (wp_mono (hs1 hr).1 fun e a' w' he => by
          obtain ⟨rfl, r⟩ := he
          simp only [Exit.inBlock]
          rw [if_neg (by intro e; subst e; rw [Nat.beq_refl] at hid; cases hid)]
          exact ⟨rfl, r⟩)) (by intro b e; cases e) _⟩
      · exact ⟨_, _, 0, h1, fun hr => wp_of (wp_block (wp_mono (hs1 hr).1 fun e a' w' he => by
          obtain ⟨rfl, r⟩ := he
          simp only [Exit.inBlock]
          rw [if_pos (Nat.eq_of_beq_eq_true hid)]
          exact ⟨rfl, r⟩)) (by intro b e; cases e) _⟩
    | _ => exact ⟨_, _, 0, h1, fun hr => wp_of (wp_block (wp_mono (hs1 hr).1 fun e a' w' he => by obtain ⟨rfl, r⟩ := he; exact ⟨rfl, r⟩)) (by intro b e; cases e) _⟩
  | loop body =>
    simp only at h
    obtain ⟨ex1, st1, N1, h1, hs1⟩ := hC _ _ _ _ h
    have key : ∃ ex st2 N, K ex st2 = true ∧ ∀ {W0 ρ A W}, Rel W0 ρ sz st A W → Code.rounds P body (Post W0 ρ sz st ex st2) N A W := by
      cases ex1 with
      | normal =>
        obtain ⟨ex2, st2, N2, h2, hs2⟩ := hC _ _ _ _ h1
        refine ⟨_, _, N2 + 1, h2, fun {W0 ρ A W} hr => ?_⟩
        rw [rounds_succ]
        refine wp_mono (hs1 hr).1 fun e a' w' he => ?_
        obtain ⟨rfl, ρ', hr', hx⟩ := he
        exact rounds_mono (Post.weaken hx) N2 _ _ ((hs2 hr').2 body rfl)
      | _ => exact ⟨_, _, 1, h1, fun hr => by rw [rounds_succ]; exact wp_mono (hs1 hr).1 fun e a' w' he => by obtain ⟨rfl, r⟩ := he; exact ⟨rfl, r⟩⟩
    obtain ⟨ex, st2, N, hK, hs⟩ := key
    exact ⟨ex, st2, N, hK, fun hr => ⟨wp_loop_rounds N (hs hr), fun b e => by cases e; exact hs hr⟩⟩
  | exit id => exact ⟨_, _, 0, h, fun hr => wp_of (wp_exit ⟨rfl, _, hr, Ext.refl _ _ _⟩) (by intro b e; cases e) _⟩
  | ret => exact ⟨_, _, 0, h, fun hr => wp_of (wp_ret ⟨rfl, _, hr, Ext.refl _ _ _⟩) (by intro b e; cases e) _⟩
  | scope body =>
    simp only at h
    obtain ⟨ex1, st1, N1, h1, hs1⟩ := hC _ _ _ _ h
    cases ex1 with
    | goto l => cases h1
    | _ => exact ⟨_, _, 0, h1, fun hr => wp_of (wp_scope_straight (wp_mono (hs1 hr).1 fun e a' w' he => by obtain ⟨rfl, r⟩ := he; exact ⟨rfl, r⟩)) (by intro b e; cases e) _⟩
  | goto l => cases h
  | rangeFunc f ps a b => cases h
  | refuse w => cases h

def resR (A : Act) : ResultVar → Sem Value
  | .tmp t => pure (A.tmps.getD t undef)
  | .cell a t => do loadVar t (← asAddr (A.tmps.getD a undef))

theorem tmv_slot (tm : Tr Value) (t : Tmp) : tmv tm t = slot tm t := by unfold tmv slot; cases tm.get t <;> rfl

theorem results_ok {st : St} {sz : Nat} {A : Act} (hr : Rel W0 ρ sz st A W) : ∀ {l : List ResultVar} {vs : List Value}, resOf P st l = some vs →
    ∃ vs', (l.mapM (resR A) : Sem (List Value)).run P W = .ok vs' W ∧ VRs ρ vs vs'
  | [], vs, h => by
    simp only [resOf, Option.some.injEq] at h
    subst h
    exact ⟨[], rfl, .nil⟩
  | .tmp t :: l, vs, h => by
    simp only [resOf] at h
    split at h
    · rename_i ws hws
      simp only [Option.some.injEq] at h
      subst h
      obtain ⟨vs', h1, h2⟩ := results_ok hr hws
      rw [tmv_slot]
      refine ⟨_, ?_, .cons _ _ _ _ (hr.tm t) h2⟩
      have hd : (resR A (.tmp t)).run P W = .ok (A.tmps.getD t undef) W := rfl
      rw [List.mapM_cons]
      simp only [Sem.run_bind, Sem.run_pure, Result.andThen_ok, hd, h1]
    · cases h
  | .cell a t :: l, vs, h => by
    simp only [resOf] at h
    split at h
    · rename_i x hx
      split at h
      · rename_i v hv
        split at h
        · rename_i ws hws
          simp only [Option.some.injEq] at h
          subst h
          obtain ⟨vs', h1, h2⟩ := results_ok hr hws
          have hxr : VR ρ x (A.tmps.getD a undef) := by
            have := hr.tm a
            unfold slot at this
            rw [hx] at this
            exact this
          obtain ⟨v', h3, h4⟩ := loadA_sound hr.wr hxr hv
          have hptr : ∃ q, A.tmps.getD a undef = .pointer (some q) := by
            unfold loadA at hv
            split at hv
            · exact hxr.ptr_some
            · exact hxr.ptr_some
            · cases hv
          obtain ⟨q, hq⟩ := hptr
          rw [hq] at h3
          simp only [Instr.loadAt, Instr.sureAddr, Sem.run_bind, Sem.run_pure, Result.andThen_ok] at h3
          refine ⟨_, ?_, .cons _ _ _ _ h4 h2⟩
          have hd : (resR A (.cell a t)).run P W = .ok v' W := by
            simp only [resR, hq, asAddr, Sem.run_bind, Sem.run_pure, Result.andThen_ok, h3]
          rw [List.mapM_cons]
          simp only [Sem.run_bind, Sem.run_pure, Result.andThen_ok, hd, h1]
        · cases h
      · cases h
    · cases h

theorem run_results {st : St} {sz : Nat} {A : Act} {fn : Func} (hr : Rel W0 ρ sz st A W) {vs : List Value} (h : resOf P st fn.results.toList = some vs) :
    ∃ v', (results fn A.tmps).run P W = .ok v' W ∧ VR ρ (retV vs) v' := by
  obtain ⟨vs', h1, h2⟩ := results_ok hr h
  have hrun : (results fn A.tmps).run P W = .ok (if h : (⟨vs'⟩ : Array Value).size = 1 then (⟨vs'⟩ : Array Value)[0] else .tuple ⟨vs'⟩) W := by
    have hf : results fn A.tmps = (do let vs ← fn.results.mapM (resR A); pure (if h : vs.size = 1 then vs[0] else .tuple vs)) := by
      unfold results
      congr 1
    rw [hf, Sem.run_bind, Array.mapM_eq_mapM_toList]
    simp only [Sem.run_map, h1, Result.andThen_ok, Sem.run_pure]
  refine ⟨_, hrun, ?_⟩
  cases h2 with
  | nil => exact .tu _ _ .nil
  | cons v v' ws ws' ha hb =>
    cases hb with
    | nil => exact ha
    | cons u u' us us' hc hd => exact .tu _ _ (.cons _ _ _ _ ha (.cons _ _ _ _ hc hd))

theorem argsK_ok : ∀ {l : List Value} {i : Nat} {t : Tr Value} {K : Tr Value → Bool}, argsK l i t K = true → ∃ t', K t' = true ∧ ∀ m, t'.get m = if i ≤ m ∧ m < i + l.length then l[m - i]? else t.get m
  | [], i, t, K, h => ⟨t, h, fun m => by
    have : ¬ (i ≤ m ∧ m < i + ([] : List Value).length) := by rw [List.length_nil]; omega
    rw [if_neg this]⟩
  | v :: l, i, t, K, h => by
    unfold argsK at h
    obtain ⟨t1, h1, hg⟩ := Tr.putK_ok _ _ _ _ _ h
    obtain ⟨t2, h2, hg2⟩ := argsK_ok h1
    refine ⟨t2, h2, fun m => ?_⟩
    rw [hg2, hg]
    by_cases hm : m = i
    · subst hm
      rw [if_neg (by omega), if_pos rfl, if_pos (by simp)]
      simp
    · by_cases h3 : i ≤ m ∧ m < i + (v :: l).length
      · rw [if_pos (by simp at h3; omega), if_pos h3]
        obtain ⟨j, rfl⟩ : ∃ j, m = i + 1 + j := ⟨m - (i + 1), by omega⟩
        rw [show i + 1 + j - (i + 1) = j by omega, show i + 1 + j - i = j + 1 by omega]
        simp
      · rw [if_neg (by simp at h3 ⊢; omega), if_neg hm, if_neg h3]

theorem stepCall_ok {S : Fns} (hC : SoundCode P S) {f : FuncId} {args : List Value} {hp : Tr Blk} {n : Nat} {K : RetK} (h : stepCall P S f args hp n K = true) :
    ∃ v hp2 n2, K v hp2 n2 = true ∧ ∀ {ρ : Ren} {W0 W : World} {args' : List Value}, WR W0 ρ hp n W → VRs ρ args args' →
      Calls P f ⟨args'⟩ W fun en W' => ∃ v', en = .returned v' ∧ ∃ ρ', WR W0 ρ' hp2 n2 W' ∧ Ext ρ hp n ρ' hp2 n2 ∧ VR ρ' v v' := by
  unfold stepCall at h
  split at h
  · rename_i fn hfn
    split at h
    · rename_i c hc
      obtain ⟨hle, h⟩ := bif_true h
      have hle := Nat.le_of_ble_eq_true hle
      obtain ⟨tm, h, hg⟩ := argsK_ok h
      obtain ⟨ex, st2, N, hK, hs⟩ := hC _ _ _ _ h
      have fin : ∀ (_ : ex = .normal ∨ ex = .ret) (vs : List Value), resOf P st2 fn.results.toList = some vs → K (retV vs) st2.hp st2.n = true →
          ∃ v hp2 n2, K v hp2 n2 = true ∧ ∀ {ρ : Ren} {W0 W : World} {args' : List Value}, WR W0 ρ hp n W → VRs ρ args args' →
            Calls P f ⟨args'⟩ W fun en W' => ∃ v', en = .returned v' ∧ ∃ ρ', WR W0 ρ' hp2 n2 W' ∧ Ext ρ hp n ρ' hp2 n2 ∧ VR ρ' v v' := fun hex vs hres hKv => by
        refine ⟨_, _, _, hKv, fun {ρ W0 W args'} hw ha => calls_of_wp hfn hc ?_⟩
        have hal := ha.length
        have hrel : Rel W0 ρ fn.ntmps ⟨tm, hp, n⟩ { tmps := (⟨args'⟩ : Array Value) ++ Array.replicate (fn.ntmps - (⟨args'⟩ : Array Value).size) undef, defers := [] } W := by
          refine ⟨hw, fun (t : Nat) => ?_, ?_, rfl⟩
          · unfold slot
            simp only
            rw [hg]
            have hsz : (⟨args'⟩ : Array Value).size = args'.length := rfl
            by_cases ht : t < args.length
            · have hc0 : 0 ≤ t ∧ t < 0 + args.length := by omega
              have hlt2 : t < args'.length := by omega
              rw [if_pos hc0, Nat.sub_zero, List.getElem?_eq_getElem ht, Option.getD_some]
              have e1 : ((⟨args'⟩ : Array Value) ++ Array.replicate (fn.ntmps - (⟨args'⟩ : Array Value).size) undef).getD t undef = args'[t]'hlt2 := by
                simp only [Array.getD_eq_getD_getElem?]
                rw [Array.getElem?_append, if_pos (by rw [hsz]; exact hlt2)]
                simp [hlt2]
              rw [e1]
              have key : ∀ {a b : List Value}, VRs ρ a b → ∀ (i : Nat) (h1 : i < a.length) (h2 : i < b.length), VR ρ a[i] b[i] := by
                intro a b hab
                induction a generalizing b with
                | nil => intro i h1; simp at h1
                | cons x xs ih =>
                  cases hab with
                  | cons _ y _ ys hxy hys =>
                    intro i h1 h2
                    cases i with
                    | zero => exact hxy
                    | succ i => exact ih hys i (by simpa using h1) (by simpa using h2)
              exact key ha t ht hlt2
            · have hc0 : ¬ (0 ≤ t ∧ t < 0 + args.length) := by omega
              have hlt2 : ¬ t < args'.length := by omega
              rw [if_neg hc0]
              have e1 : ((⟨args'⟩ : Array Value) ++ Array.replicate (fn.ntmps - (⟨args'⟩ : Array Value).size) undef).getD t undef = undef := by
                simp only [Array.getD_eq_getD_getElem?]
                rw [Array.getElem?_append, if_neg (by rw [hsz]; exact hlt2)]
                rw [hsz]
                rcases Nat.lt_or_ge (t - args'.length) (fn.ntmps - args'.length) with h | h
                · simp [h]
                · simp [h]
              rw [e1]
              exact .undef
          · have hsz : (⟨args'⟩ : Array Value).size = args'.length := rfl
            show ((⟨args'⟩ : Array Value) ++ Array.replicate (fn.ntmps - (⟨args'⟩ : Array Value).size) undef).size = fn.ntmps
            rw [Array.size_append, Array.size_replicate, hsz]
            omega
        refine wp_mono (hs hrel).1 fun e a' w' he => ?_
        obtain ⟨rfl, ρ', hr', hx⟩ := he
        obtain ⟨v', h1, h2⟩ := run_results hr' hres
        rcases hex with rfl | rfl <;> exact ⟨hr'.df, v', h1, v', rfl, ρ', hr'.wr, hx, h2⟩
      cases ex with
      | normal =>
        simp only at hK
        split at hK
        · rename_i vs hres; exact fin (.inl rfl) vs hres hK
        · cases hK
      | ret =>
        simp only at hK
        split at hK
        · rename_i vs hres; exact fin (.inr rfl) vs hres hK
        · cases hK
      | _ => cases hK
    · cases h
  · cases h

theorem sound (hm : P.follows .mixedOrders = true) : ∀ k, SoundCode P (ev' P k) ∧ SoundCall P (ev' P k)
  | 0 => ⟨fun c sz st K h => (by cases h), fun f args hp n K h => (by cases h)⟩
  | k + 1 => by
    obtain ⟨hC, hS⟩ := sound hm k
    exact ⟨fun c sz st K h => stepCode_ok hS hC hm h, fun f args hp n K h => stepCall_ok hC h⟩

theorem WR.start (W : World) : WR W (fun _ => none) .nil 1 W :=
  ⟨Nat.one_pos, fun b p h => (by cases h), fun b h => rfl, rfl, fun b b' p p' _ h => (by cases h), fun b p c g h => (by cases h), fun b p es k h => (by cases h), Below.refl _ _, fun b p h => (by cases h), fun g c h => (by cases h)⟩

/-- A CLOSED CALL THAT THE MACHINE FINDS TRUE IS TRUE, from every world. -/
theorem runs_true (hm : P.follows .mixedOrders = true) {f : FuncId} {k : Nat} (h : runs P f k = true) (W : World) : Calls P f #[] W fun e W' => e = .returned (.bool true) ∧ Below W.heap.size W W' := by
  obtain ⟨v, hp2, n2, hK, hs⟩ := (sound hm k).2 _ _ _ _ _ h
  refine (hs (WR.start W) .nil).mono fun e W' ⟨v', he, ρ', hw, hx, hv⟩ => ?_
  unfold isTrue at hK
  split at hK
  · exact ⟨by rw [he, hv.bool_inv], hw.below⟩
  · cases hK

theorem layG_ok : ∀ {G : List (Nat × List Value)} {N : Nat} {hp : Tr Blk} {K : Tr Blk → Bool}, layG G N hp K = true → ∃ hp', K hp' = true ∧ ∀ b x, hp'.get b = some x → hp.get b = some x ∨ ∃ g c, (g, c) ∈ G ∧ b = g + 1 ∧ x = .ro c ∧ g + 1 < N ∧ c.all Rf.flat = true
  | [], N, hp, K, h => ⟨hp, h, fun b x hb => .inl hb⟩
  | (g, c) :: r, N, hp, K, h => by
    unfold layG at h
    cases hc : ((g + 1).blt N && c.all Rf.flat) <;> simp only [hc, cond_true, cond_false] at h
    · cases h
    simp only [Bool.and_eq_true] at hc
    have hgN : g + 1 < N := Nat.le_of_ble_eq_true hc.1
    obtain ⟨hp1, h1, hget⟩ := Tr.putK_ok _ _ _ _ _ h
    obtain ⟨hp2, h2, hall⟩ := layG_ok h1
    refine ⟨hp2, h2, fun b x hb => ?_⟩
    rcases hall b x hb with h3 | ⟨g', c', h3, h4, h5, h6, h7⟩
    · rw [hget] at h3
      split at h3
      · rename_i e
        cases h3
        exact .inr ⟨g, c, List.mem_cons_self .., e, rfl, hgN, hc.2⟩
      · exact .inl h3
    · exact .inr ⟨g', c', List.mem_cons_of_mem _ h3, h4, h5, h6, h7⟩
/-- A CLOSED CALL THAT THE MACHINE FINDS TRUE IS TRUE, from every world in which these package variables hold what the machine takes them to hold. -/
theorem runsG_true (hm : P.follows .mixedOrders = true) {G : List (Nat × List Value)} {N : Nat} {f : FuncId} {k : Nat} (h : runsG P G N f k = true) (W : World) (hG : ∀ g c, (g, c) ∈ G → W.rangeAt g 0 c ∧ g < W.heap.size) :
    Calls P f #[] W fun e W' => e = .returned (.bool true) ∧ Below W.heap.size W W' := by
  unfold runsG at h
  cases hN : Nat.blt 0 N <;> simp only [hN, cond_true, cond_false] at h
  · cases h
  have hN' : 0 < N := Nat.le_of_ble_eq_true hN
  obtain ⟨hp, h1, hall⟩ := layG_ok h
  have hnil : ∀ b : Nat, (Tr.nil : Tr Blk).get b = none := fun b => rfl
  have hstart : WR W (fun _ => none) hp N W := ⟨hN', fun b p h => (by cases h), fun b hb => (by
      cases hx : hp.get b with
      | none => rfl
      | some x =>
        rcases hall b x hx with h3 | ⟨g, c, h3, h4, h5, h6, h7⟩
        · rw [hnil] at h3; cases h3
        · omega), (by
      cases hx : hp.get 0 with
      | none => rfl
      | some x =>
        rcases hall 0 x hx with h3 | ⟨g, c, h3, h4, h5, h6, h7⟩
        · rw [hnil] at h3; cases h3
        · omega), fun b b' p p' _ h => (by cases h), fun b p c g h => (by cases h), fun b p es k h => (by cases h), Below.refl _ _, fun b p h => (by cases h), fun g c hgc => (by
      rcases hall _ _ hgc with h3 | ⟨g', c', h3, h4, h5, h6, h7⟩
      · rw [hnil] at h3; cases h3
      · cases h5
        obtain rfl : g = g' := by omega
        exact ⟨(hG g c h3).1, (hG g c h3).2, h7⟩)⟩
  obtain ⟨v, hp2, n2, hK, hs⟩ := (sound hm k).2 _ _ _ _ _ h1
  refine (hs hstart .nil).mono fun e W' ⟨v', he, ρ', hw, hx, hv⟩ => ?_
  unfold isTrue at hK
  split at hK
  · exact ⟨by rw [he, hv.bool_inv], hw.below⟩
  · cases hK
end Go.Proofs.YtgpnfdeneagdbaaGreat.Rf
