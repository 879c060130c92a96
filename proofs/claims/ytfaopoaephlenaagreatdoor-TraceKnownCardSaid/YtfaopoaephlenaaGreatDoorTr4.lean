/- Trace: totals of two lists; rules for arrays of ints. -/
import Derived.Test.YtfaopoaephlenaaGreatDoorTr3
import Derived.Test.YtfaopoaephlenaaGreatDoorTr1
import Derived.Test.YtfaopoaephlenaaGreatDoorOwn
import Derived.ChangeKeysEq
import Derived.Deep.MidRow
namespace Go.Proofs.YtfaopoaephlenaaGreatDoor
open Go.RowKit
set_option linter.unusedVariables false

/-! ### The plain law -/
def cnt (i : Nat) : List Ev → Nat
  | [] => 0
  | e :: L => (if 1 ≤ e.kind ∧ e.kind ≤ 10 ∧ e.kind = i then 1 else 0) + cnt i L
def win : List Ev → Nat
  | [] => 0
  | e :: L => max (if e.kind = 9 then max e.a e.b else 0) (win L)
def sumR : List Ev → Nat
  | [] => 0
  | e :: L => (if e.kind = 7 then e.b else 0) + sumR L
theorem stepT_len (t : TS) (e : Ev) (h : t.many.length = 11) : (stepT t e).many.length = 11 := by
  unfold stepT; split <;> simp [h]
theorem stepT_many (t : TS) (e : Ev) (h : t.many.length = 11) {i : Nat} (hi : i < 11) : (stepT t e).many.getD i 0 = t.many.getD i 0 + (if 1 ≤ e.kind ∧ e.kind ≤ 10 ∧ e.kind = i then 1 else 0) := by
  unfold stepT
  split
  · rename_i hk
    simp only [List.getD_eq_getElem?_getD]
    by_cases he : e.kind = i
    · subst he
      simp [h, hi, hk]
    · rw [List.getElem?_set_ne he]; simp [he]
  · rename_i hk
    rw [if_neg (by omega)]; simp
theorem stepT_wi (t : TS) (e : Ev) : (stepT t e).wi = max t.wi (if e.kind = 9 then max e.a e.b else 0) := by
  unfold stepT
  split
  · simp only; split <;> omega
  · rw [if_neg (by omega)]; simp
theorem stepT_rd (t : TS) (e : Ev) (h : t.rd ≤ 18446744073709551615) : (stepT t e).rd = sat (t.rd + (if e.kind = 7 then e.b else 0)) := by
  unfold stepT sat
  split
  · simp only; split <;> omega
  · rw [if_neg (by omega)]; omega
theorem fold_many {i : Nat} (hi : i < 11) : ∀ (L : List Ev) (t : TS), t.many.length = 11 → (L.foldl stepT t).many.getD i 0 = t.many.getD i 0 + cnt i L
  | [], t, _ => by simp [cnt]
  | e :: L, t, h => by
    rw [List.foldl_cons, fold_many hi L _ (stepT_len t e h), stepT_many t e h hi, cnt]; omega
theorem fold_wi : ∀ (L : List Ev) (t : TS), (L.foldl stepT t).wi = max t.wi (win L)
  | [], t => by simp [win]
  | e :: L, t => by rw [List.foldl_cons, fold_wi L _, stepT_wi, win]; omega
theorem fold_rd : ∀ (L : List Ev) (t : TS), t.rd ≤ 18446744073709551615 → (L.foldl stepT t).rd = sat (t.rd + sumR L)
  | [], t, h => by simp [sumR, sat]; omega
  | e :: L, t, h => by
    rw [List.foldl_cons, fold_rd L _ (by rw [stepT_rd t e h]; unfold sat; omega), stepT_rd t e h, sumR]
    unfold sat; omega
theorem tot_many (A B : List Ev) {i : Nat} (hi : i < 11) : (totF (A ++ B)).many.getD i 0 = (totF A).many.getD i 0 + (totF B).many.getD i 0 := by
  have hl : ts0.many.length = 11 := rfl
  have h0 : ts0.many.getD i 0 = 0 := by
    match i, hi with
    | 0, _ | 1, _ | 2, _ | 3, _ | 4, _ | 5, _ | 6, _ | 7, _ | 8, _ | 9, _ | 10, _ => rfl
  have hc : ∀ A : List Ev, cnt i (A ++ B) = cnt i A + cnt i B := by
    intro A
    induction A with
    | nil => simp [cnt]
    | cons e A ih => rw [List.cons_append, cnt, cnt, ih]; omega
  unfold totF
  rw [fold_many hi _ _ hl, fold_many hi _ _ hl, fold_many hi _ _ hl, hc, h0]; omega
theorem tot_wi (A B : List Ev) : (totF (A ++ B)).wi = max (totF A).wi (totF B).wi := by
  have hc : win (A ++ B) = max (win A) (win B) := by
    induction A with
    | nil => simp [win]
    | cons e A ih => rw [List.cons_append, win, win, ih]; omega
  unfold totF
  rw [fold_wi, fold_wi, fold_wi, hc]; omega
theorem tot_rd (A B : List Ev) : max (totF A).rd (totF B).rd ≤ (totF (A ++ B)).rd := by
  have hc : sumR (A ++ B) = sumR A + sumR B := by
    induction A with
    | nil => simp [sumR]
    | cons e A ih => rw [List.cons_append, sumR, sumR, ih]; omega
  have h0 : ts0.rd ≤ 18446744073709551615 := by simp [ts0]
  unfold totF
  rw [fold_rd _ _ h0, fold_rd _ _ h0, fold_rd _ _ h0, hc]; unfold sat; omega
theorem tot_ok : ∀ (L : List Ev), (∀ e ∈ L, EvOk e) → TOk (totF L) L.length := by
  intro L h
  have : ∀ (L : List Ev) (t : TS) (k : Nat), (∀ e ∈ L, EvOk e) → TOk t k → TOk (L.foldl stepT t) (k + L.length) := by
    intro L
    induction L with
    | nil => intro t k _ h; simpa using h
    | cons e L ih =>
      intro t k h ht
      rw [List.foldl_cons, List.length_cons, show k + (L.length + 1) = k + 1 + L.length by omega]
      exact ih _ _ (fun x hx => h x (by simp [hx])) (ht.step (h e (by simp)))
  simpa [totF] using this L ts0 0 h TOk.start
theorem own_more {x b : Nat} (h : x ≤ 18446744073709551615) : x + min (18446744073709551615 - x) b = sat (x + b) := by unfold sat; omega

theorem own_int {x b : Nat} (h : x ≤ 18446744073709551615) : (x : Int) + min (18446744073709551615 - (x : Int)) b = (sat (x + b) : Nat) := by unfold sat; omega

/-! ### Rules -/
def mA (m : List Nat) : Array Value := (m.map (fun n : Nat => Value.int .i64 n)).toArray
theorem mA_get {m : List Nat} (h : m.length = 11) {k : Nat} (hk : k < 11) : (mA m)[k]? = some (.int .i64 (m.getD k 0 : Nat)) := by
  simp [mA, h, hk]
theorem mA_set (m : List Nat) (k n : Nat) : (mA m).setIfInBounds k (.int .i64 n) = mA (m.set k n) := by
  simp only [mA, List.setIfInBounds_toArray]
  rw [List.map_set]
theorem arr_size : (Tryz.prog.info? 34).map (·.size) = some 11 := by kernel_rfl
theorem arr_plain : Tryz.prog.plainKey 3 = true := by kernel_rfl
theorem arr_cells : Tryz.prog.cellsOf 3 = 1 := by kernel_rfl
section
variable {P : Program} {ops : Array Oper} {rest : List Oper} {o : Oper} {a : Act} {w : World} {Q : Exit → Act → World → Prop}
theorem stop_loada {d : Option Tmp} {x : Operand} {ty : TypeId} {pos : String} {aft : Array Edge} {g : Option (Nat × Bool)}
    (h : Stop (wpList P ops Q (⟨d, .load 34 x, ty, pos, aft, g⟩ :: rest) a w)) : wpList P ops Q (⟨d, .load 34 x, ty, pos, aft, g⟩ :: rest) a w := h
theorem stop_neqa {d : Option Tmp} {x y : Operand} {ty t : TypeId} {pos : String} {aft : Array Edge} {g : Option (Nat × Bool)}
    (h : Stop (wpList P ops Q (⟨d, .binOp .neq 34 x y ty, t, pos, aft, g⟩ :: rest) a w)) : wpList P ops Q (⟨d, .binOp .neq 34 x y ty, t, pos, aft, g⟩ :: rest) a w := h
theorem rng_ts {b : Nat} {t : TS} {T : TypeId} (h : t.many.length = 11) (hb : Blk w b (tsA t) T) : w.rangeAt b 0 (t.many.map (fun n : Nat => Value.int .i64 n)) := fun j v hv => by
  have hj : j < t.many.length := by simpa using (List.getElem?_eq_some_iff.1 hv).1
  rw [Nat.zero_add]
  refine hb.cell j v ?_
  simp only [tsA, tsL, List.getElem?_toArray]
  rw [List.getElem?_append_left (by simpa using hj)]
  exact hv
theorem rng_mA {b : Nat} {m : List Nat} {T : TypeId} (hb : Blk w b (mA m) T) : w.rangeAt b 0 (m.map (fun n : Nat => Value.int .i64 n)) := fun j v hv => by
  rw [Nat.zero_add]
  exact hb.cell j v (by simpa [mA] using hv)
theorem wpList_loada (hu : P.underlying 34 = some (.array 11 3)) (hi : (P.info? 34).map (·.size) = some 11) (hgd : Region.wanted o (yielded ops a.tmps) = true) {x : Operand} (ho : o.op = .load 34 x)
    {b : Nat} {m : List Nat} (hm : m.length = 11) (hx : a.eval x = .pointer (some ⟨b, 0, none⟩)) (hb : w.rangeAt b 0 (m.map (fun n : Nat => Value.int .i64 n)))
    (h : wpList P ops Q rest (a.put o.dst (.agg (mA m))) w) : wpList P ops Q (o :: rest) a w := by
  refine BigFrame.wpList_want hgd fun K hK' => ?_
  refine wp_load_mid _ x ho b 0 hx _ _ hb hu rfl (by simpa [hm] using hi) ?_
  exact hK' _ _ h
theorem wpList_appE {t e : TypeId} {size bytes : Nat} (hE : ET P t e size bytes) (hgd : o.guard = none) {s x : Operand}
    (ho : o.op = .call { callee := .builtin .append, args := #[s, x], argTypes := #[t, t] })
    {base : Nat} {av ad : Option Addr} {n cap m c k : Nat} {xs news : List Value} (hs : a.eval s = .slice av n cap) (hx : a.eval x = .slice ad m c) (hk : n + m = k)
    (hown : OwnS w base e size av n cap xs) (hsrc : SrcAt w ad m c size news) (h63 : n + m ≤ maxLen) (hbytes : (n + m) * bytes ≤ 140737488355328) (hbase : base ≤ w.heap.size)
    (h : ∀ a' cap' w', OwnS w' base e size a' k cap' (xs ++ news) → Only (fun k => ∃ y, av = some y ∧ y.block = k) w w' → (∀ y, a' = some y → (∃ z, av = some z ∧ y.block = z.block) ∨ y.block = w.heap.size) →
      wpList P ops Q rest (a.put o.dst (.slice a' k cap')) w') : wpList P ops Q (o :: rest) a w := by
  subst hk
  exact wpList_app hE hgd ho hs hx hown hsrc h63 hbytes hbase h
theorem run_items_i64 (d : Nat) {e : TypeId} (he : P.plainKey e = true) (hu : P.underlying e = some (.int .i64)) (L : List Nat) (w : World) : ∀ is : List Nat, (∀ i ∈ is, i < L.length) →
    (Op.eqItems (d + 1) e 1 (mA L) (mA L) is).run P w = .ok true w := by
  intro is
  induction is with
  | nil => intro _; rfl
  | cons i is ih =>
    intro h
    have h1 := h i (by simp)
    have e1 : (mA L)[i * 1]? = some (.int .i64 (L.getD i 0 : Nat)) := by simp [mA, List.getD_eq_getElem?_getD, h1]
    simp only [Op.eqItems, Sem.run_bind, run_part_plain w he e1, Result.andThen, run_equalIn_int w d e .i64 .i64 _ _ hu]
    simpa using ih (fun j hj => h j (by simp [hj]))
theorem wpList_neqa {t ty e : TypeId} {n : Nat} {i : TypeInfo} (hu : P.underlying t = some (.array n e)) (hi : P.info? e = some i) (hc : P.cellsOf e = 1) (he : P.plainKey e = true) (hue : P.underlying e = some (.int .i64))
    (hgd : Region.wanted o (yielded ops a.tmps) = true) {x y : Operand} (ho : o.op = .binOp .neq t x y ty) {L : List Nat} (hx : a.eval x = .agg (mA L)) (hy : a.eval y = .agg (mA L)) (hl : L.length = n)
    (hg : (eqGuard .neq t x y (.agg (mA L)) (.agg (mA L))).run P w = .ok () w)
    (h : wpList P ops Q rest (a.put o.dst (.bool false)) w) : wpList P ops Q (o :: rest) a w := by
  refine BigFrame.wpList_want hgd fun K hK' => ?_
  have hr : (binOp .neq t (.agg (mA L)) (.agg (mA L))).run P w = .ok (.bool false) w := by
    rw [run_neq_struct, show 10000 = 9999 + 1 from rfl, run_equalIn_array w 9999 _ _ hu hi, hc, show 9999 = 9998 + 1 from rfl, run_items_i64 9998 he hue L w _ (by intro i hi; simp at hi; omega)]
    rfl
  unfold Oper.wp
  simp only [execOp, ho, hx, hy]
  simp only [Sem.run_bind, hg, hr, Result.andThen]
  exact hK' _ _ h
end
end Go.Proofs.YtfaopoaephlenaaGreatDoor
