/- Plans in memory: a stream is laid into the row (slices.Insert). -/
import Derived.Test.YtgpnfdeneagdbaaGreatCo8
import Derived.Lib.Overlaps
namespace Go.Proofs.YtgpnfdeneagdbaaGreat
open Go.RowKit
set_option linter.unusedVariables false
section
variable {P : Program} {t e : TypeId} {size bytes : Nat}
theorem run_cut_lS (hE : ET P t e size bytes) {g n cap : Nat} (l : Nat) {li : Int} (e1 : li = l) (h1 : l ≤ n) (h3 : l < cap) (h2 : n ≤ cap) (w : World) :
    (Instr.sliceAt t (.slice (some ⟨g, 0, none⟩) n cap) (some (.int .i64 li)) none none).run P w = .ok (.slice (some ⟨g, l * size, none⟩) (n - l) (cap - l)) w := by
  subst e1
  obtain ⟨ht, hz⟩ := hE.elem
  rw [run_sliceAt_slice (h := ht), run_slice_l (ht := ht) (h0 := by omega) (h1 := by omega), hz]
  simp [Result.andThen, sliced, show cap ≠ l by omega, addr_add]
theorem run_cut_lA (hE : ET P t e size bytes) {a : Option Addr} {n cap : Nat} (l : Nat) {li : Int} (e1 : li = l) (h1 : l ≤ n) (h2 : n ≤ cap) (w : World) :
    (Instr.sliceAt t (.slice a n cap) (some (.int .i64 li)) none none).run P w = .ok (.slice (if cap = l then a else a.map (·.add (l * size))) (n - l) (cap - l)) w := by
  subst e1
  obtain ⟨ht, hz⟩ := hE.elem
  rw [run_sliceAt_slice (h := ht), run_slice_l (ht := ht) (h0 := by omega) (h1 := by omega), hz]
  simp [Result.andThen, sliced]
theorem run_cut_hS (hE : ET P t e size bytes) {g n cap : Nat} (m : Nat) {mi : Int} (e1 : mi = m) (h2 : m ≤ cap) (w : World) : (Instr.sliceAt t (.slice (some ⟨g, 0, none⟩) n cap) none (some (.int .i64 mi)) none).run P w = .ok (.slice (some ⟨g, 0, none⟩) m cap) w := by
  subst e1
  obtain ⟨ht, hz⟩ := hE.elem
  rw [run_sliceAt_slice (h := ht), run_slice_h (ht := ht) (h0 := by omega) (h2 := by omega), hz]
  simp [Result.andThen, sliced, addr_add]
end
section
variable {P : Program} {ops : Array Oper} {rest : List Oper} {o : Oper} {a : Act} {Q : Exit → Act → World → Prop}
theorem wp_copy_run (w : World) {K : Act → World → Prop} (d s : Operand) (t t' : TypeId)
    (ho : o.op = .call { callee := .builtin .copy, args := #[d, s], argTypes := #[t, t'] }) (v u : Value) (hd : a.eval d = v) (hs : a.eval s = u) {v' : Value} {w' : World}
    (hr : (Builtin.copy_ #[t, t'] o.type #[v, u]).run P w = .ok v' w') (h : K (a.put o.dst v') w') : o.wp P a w K Q := by
  unfold Oper.wp execOp
  simp only [ho, resolve, invoke, builtin, Sem.run_bind, Sem.run_pure, Result.andThen_ok, List.map_toArray, List.map_cons, List.map_nil, hd, hs, hr]
  exact h
theorem wpList_copy_run (w : World) (hgd : o.guard = none) (d s : Operand) (t t' : TypeId)
    (ho : o.op = .call { callee := .builtin .copy, args := #[d, s], argTypes := #[t, t'] }) (v u : Value) (hd : a.eval d = v) (hs : a.eval s = u) {v' : Value} {w' : World}
    (hr : (Builtin.copy_ #[t, t'] o.type #[v, u]).run P w = .ok v' w') (h : wpList P ops Q rest (a.put o.dst v') w') : wpList P ops Q (o :: rest) a w :=
  wpList_plain hgd fun _ hK => wp_copy_run w d s t t' ho v u hd hs hr (hK _ _ h)
end
theorem SrcAt.blk {w : World} {b : Nat} {cs : List Value} {T : TypeId} (h : Blk w b cs.toArray T) (m c size : Nat) (hc : cs.length = m * size) (h1 : ∀ u ∈ cs, u.oneCell' = true) : SrcAt w (some ⟨b, 0, none⟩) m c size cs :=
  ⟨hc, fun h => (by cases h), fun y hy j u hj => (by cases hy; rw [addr_add, Nat.zero_add]; exact h.cell j u (by simpa using hj)), h1⟩
/-- Behind Insert. -/
def InsPost (base : Nat) (a : Option Addr) (n : Nat) (M : List Strm) (w : World) (e : Ending) (w' : World) : Prop := ∃ a' c', e = .returned (.slice a' (n + 1) c') ∧ OwnS w' base 68 28 a' (n + 1) c' (M.flatMap ssV) ∧ Only (fun k => ∃ y, a = some y ∧ y.block = k) w w' ∧
  ∀ y, a' = some y → (∃ z, a = some z ∧ y.block = z.block) ∨ w.heap.size ≤ y.block
theorem Blk.shape {w : World} {b : Nat} {cs : Array Value} {T : TypeId} (h : Blk w b cs T) : w.shape? b = some (T, cs.size) := by
  unfold Blk at h
  simp [World.shape?, h]
theorem ins_eq (L : List Strm) (x : Strm) (i : Nat) : (L.take i ++ x :: L.drop i).flatMap ssV = (L.flatMap ssV).take (i * 28) ++ (ssV x ++ (L.flatMap ssV).drop (i * 28)) := by
  rw [flat_take ssV_len, flat_drop ssV_len, List.flatMap_append, List.flatMap_cons]
set_option maxRecDepth 100000 in
set_option maxHeartbeats 4000000 in
theorem insert_end (base : Nat) (a : Option Addr) (n cap vb : Nat) (L : List Strm) (x : Strm) (w : World) (hn : n = L.length) (hO : OwnS w base 68 28 a n cap (L.flatMap ssV)) (hv : Blk w vb (ssV x).toArray 68) (hl : n ≤ 256) (hbase : base ≤ w.heap.size) :
    Calls Tryz.prog 69 #[.slice a n cap, .int .i64 n, .slice (some ⟨vb, 0, none⟩) 1 1] w fun e w' => InsPost base a n (L ++ [x]) w e w' := by
  have hcap := hO.caps
  have hc := fun W => run_cut_lA ss_et (a := a) (n := n) (cap := cap) n (li := n) rfl (Nat.le_refl _) hcap.1 W
  obtain ⟨av, hav⟩ : ∃ z, (if cap = n then a else a.map (·.add (n * 28))) = z := ⟨_, rfl⟩
  rw [hav] at hc
  clear hav
  have HO := Lib.hid hO
  have HV := Lib.hid hv
  have HC : Hid (cap ≤ maxLen) := Lib.hid hcap.2
  have HN := Lib.hid hn
  clear hO hv hcap hn
  go_enter Tryz.func69, Tryz.ntmps69
  go_wp2_with (at_builtin; refine Stop.mk ?_)
  refine Stop.out ?_
  refine wpList_app ss_et rfl rfl rfl rfl HO.out (SrcAt.blk HV.out 1 1 28 rfl (ssV_one x)) (by unfold maxLen; omega) (by omega) hbase ?_
  intro a2 c2 w2 ho2 on2 hat
  have H2 := Lib.hid ho2
  have H3 := Lib.hid on2
  have H4 := Lib.hid hat
  clear ho2 on2 hat
  go_wp2_with (fail)
  go_returns
  refine ⟨a2, c2, rfl, ?_, H3.out, fun y hy => ?_⟩
  · rw [List.flatMap_append, List.flatMap_cons, List.flatMap_nil, List.append_nil]; exact H2.out
  · rcases H4.out y hy with h | h
    · exact .inl h
    · exact .inr (by omega)
set_option maxRecDepth 100000 in
set_option maxHeartbeats 4000000 in
theorem insert_room (base g : Nat) (n cap i vb : Nat) (L : List Strm) (x : Strm) (w : World) (hn : n = L.length) (hO : OwnS w base 68 28 (some ⟨g, 0, none⟩) n cap (L.flatMap ssV)) (hi : i < n) (hv : Blk w vb (ssV x).toArray 68) (hvb : vb ≠ g) (hroom : n + 1 ≤ cap) (hl : n ≤ 256) (hbase : base ≤ w.heap.size) :
    Calls Tryz.prog 69 #[.slice (some ⟨g, 0, none⟩) n cap, .int .i64 i, .slice (some ⟨vb, 0, none⟩) 1 1] w fun e w' => InsPost base (some ⟨g, 0, none⟩) n (L.take i ++ x :: L.drop i) w e w' := by
  have hcap := hO.caps
  have hmax : cap ≤ 9223372036854775807 := by have := hcap.2; unfold maxLen at this; omega
  obtain ⟨_, sp, hX⟩ := hO.open_
  simp only at hX
  have hxl : (L.flatMap ssV).length = n * 28 := by rw [flat_len ssV_len, hn]
  have hxone := sss_one L
  obtain ⟨xs, hxs⟩ : ∃ xs, L.flatMap ssV = xs := ⟨_, rfl⟩
  have hins := ins_eq L x i
  rw [hxs] at hX hxl hxone hins
  have hsp : sp.length = (cap - n) * 28 := hX.2.2.2.2.1
  have hc1 := fun W => run_cut_lS ss_et (g := g) (n := n) (cap := cap) i (li := i) rfl (by omega) (by omega) hcap.1 W
  have hc2 := fun W => run_cut_hS ss_et (g := g) (n := n) (cap := cap) (n + 1) (mi := (n : Int) + 1) (by omega) (by omega) W
  have hc3 := fun W => run_cut_lS ss_et (g := g) (n := n + 1) (cap := cap) (i + 1) (li := (i : Int) + 1) (by omega) (by omega) (by omega) (by omega) W
  have hc4 := fun W => run_cut_lS ss_et (g := g) (n := n + 1) (cap := cap) i (li := i) rfl (by omega) (by omega) (by omega) W
  have hz1 : ¬ ((i : Int) = (n : Int)) := by omega
  have hz2 : ¬ ((cap : Int) < (n : Int) + 1) := by omega
  have hov : ∀ lb cb, (callFunc 101 #[.slice (some ⟨vb, 0, none⟩) 1 1, .slice (some ⟨g, (i + 1) * 28, none⟩) lb cb]).run Tryz.prog w = .ok (.value (.bool false)) w := fun lb cb => by
    have hg := hX.2.2.2.2.2
    rw [run_callFunc_extern Tryz.func101 (by kernel_rfl) (by kernel_rfl) (by kernel_rfl) (e := Extern.SlicesOverlaps.overlaps #[52, 52] #[4]) (by kernel_rfl),
      Lib.run_overlaps_apart w 52 4 68 Tryz.underlying52 28 Tryz.sizeOf68 ⟨vb, 0, none⟩ ⟨g, (i + 1) * 28, none⟩ 1 1 lb cb hvb _ _ _ _ hv.shape (Blk.shape hg) (by rw [List.size_toArray, List.length_append, hxl]; omega) (hv.free 0) (hv.free _)]
    rfl
  have X0 : OwnX w.drew base 68 28 g n cap xs sp := hX
  obtain ⟨W1, hW1⟩ : ∃ W1, w.drew.setRow g ((xs ++ sp).take ((i + 1) * 28) ++ xs.drop (i * 28) ++ (xs ++ sp).drop ((i + 1) * 28 + (xs.drop (i * 28)).length)).toArray = W1 := ⟨_, rfl⟩
  have hdl : (xs.drop (i * 28)).length = (n - i) * 28 := by rw [List.length_drop, hxl]; omega
  have hcp1 : ∀ ty dc sc, (Builtin.copy_ #[52, 52] ty #[.slice (some ⟨g, (i + 1) * 28, none⟩) (n - i) dc, .slice (some ⟨g, i * 28, none⟩) (n + 1 - i) sc]).run Tryz.prog w.drew = .ok (goInt (Nat.min (n + 1 - i) (n - i))) W1 := fun ty dc sc => by
    rw [← hW1]
    exact X0.copy (P := Tryz.prog) (xs.drop (i * 28)) ((i + 1) * 28) (by rw [hdl, hxl, hsp]; omega) (fun v hv => hxone v (List.mem_of_mem_drop hv)) _ _ ty Tryz.underlying52 (by kernel_rfl) _ dc ⟨g, i * 28, none⟩ (n + 1 - i) sc (by rw [hdl]; simp only [Nat.min_def]; split <;> omega) (fun j v hj => by
      rw [addr_add, X0.cell]
      have hj' := (List.getElem?_eq_some_iff.1 hj).1
      rw [List.getElem?_drop] at hj
      rw [List.getElem?_append_left (by omega)]; exact hj)
  have hrl : ((xs ++ sp).take ((i + 1) * 28) ++ xs.drop (i * 28) ++ (xs ++ sp).drop ((i + 1) * 28 + (xs.drop (i * 28)).length)) = (xs.take (i * 28) ++ ((xs ++ sp).drop (i * 28)).take 28 ++ xs.drop (i * 28)) ++ sp.drop 28 := by
    have e1 : (xs ++ sp).take ((i + 1) * 28) = xs.take (i * 28) ++ ((xs ++ sp).drop (i * 28)).take 28 := by
      rw [show (i + 1) * 28 = i * 28 + 28 by omega, List.take_add]
      rw [List.take_append_of_le_length (by omega)]
    have e2 : (i + 1) * 28 + (xs.drop (i * 28)).length = xs.length + 28 := by rw [hdl, hxl]; omega
    rw [e1, e2, ← List.drop_drop, List.drop_left]
  have X1 : OwnX W1 base 68 28 g (n + 1) cap (xs.take (i * 28) ++ ((xs ++ sp).drop (i * 28)).take 28 ++ xs.drop (i * 28)) (sp.drop 28) := by
    rw [← hW1, hrl]
    refine X0.setRow (n + 1) _ _ hroom ?_ ?_
    · simp only [List.length_append, List.length_take, List.length_drop, hxl, hsp]; omega
    · simp only [List.length_drop, hsp]; omega
  have hne : vb ≠ g := hvb
  have o1 : Only (fun k => ∃ y, (some ⟨g, 0, none⟩ : Option Addr) = some y ∧ y.block = k) w W1 := by
    rw [← hW1]
    exact (Only.refl _ w).drew.trans ((only_setRow w.drew g _).mono fun k _ h => ⟨_, rfl, h.symm⟩)
  have hv1 : Blk W1 vb (ssV x).toArray 68 := o1.blk hv (fun ⟨y, h, e⟩ => by cases h; exact hne e.symm)
  obtain ⟨W2, hW2⟩ : ∃ W2, W1.setRow g (((xs.take (i * 28) ++ ((xs ++ sp).drop (i * 28)).take 28 ++ xs.drop (i * 28)) ++ sp.drop 28).take (i * 28) ++ ssV x ++ ((xs.take (i * 28) ++ ((xs ++ sp).drop (i * 28)).take 28 ++ xs.drop (i * 28)) ++ sp.drop 28).drop (i * 28 + (ssV x).length)).toArray = W2 := ⟨_, rfl⟩
  have hcp2 : ∀ ty dc, (Builtin.copy_ #[52, 52] ty #[.slice (some ⟨g, i * 28, none⟩) (n + 1 - i) dc, .slice (some ⟨vb, 0, none⟩) 1 1]).run Tryz.prog W1 = .ok (goInt (Nat.min 1 (n + 1 - i))) W2 := fun ty dc => by
    rw [← hW2]
    exact X1.copy (P := Tryz.prog) (ssV x) (i * 28) (by simp only [List.length_append, List.length_take, List.length_drop, hxl, hsp, ssV_len]; omega) (ssV_one x) _ _ ty Tryz.underlying52 (by kernel_rfl) _ dc ⟨vb, 0, none⟩ 1 1 (by rw [ssV_len]; simp only [Nat.min_def]; split <;> omega) (fun j v hj => by
      rw [addr_add, Nat.zero_add]; exact hv1.cell j v (by simpa using hj))
  have hr2 : ((xs.take (i * 28) ++ ((xs ++ sp).drop (i * 28)).take 28 ++ xs.drop (i * 28)) ++ sp.drop 28).take (i * 28) ++ ssV x ++ ((xs.take (i * 28) ++ ((xs ++ sp).drop (i * 28)).take 28 ++ xs.drop (i * 28)) ++ sp.drop 28).drop (i * 28 + (ssV x).length) = (xs.take (i * 28) ++ (ssV x ++ xs.drop (i * 28))) ++ sp.drop 28 := by
    have l1 : (xs.take (i * 28)).length = i * 28 := by rw [List.length_take, hxl]; omega
    have l2 : (((xs ++ sp).drop (i * 28)).take 28).length = 28 := by rw [List.length_take, List.length_drop, List.length_append, hxl, hsp]; omega
    have e1 : ∀ (A B C D : List Value), A.length = i * 28 → B.length = 28 → ((A ++ B ++ C) ++ D).take (i * 28) = A ∧ ((A ++ B ++ C) ++ D).drop (i * 28 + (ssV x).length) = C ++ D := fun A B C D hA hB => by
      have h1 : (A ++ B ++ C) ++ D = A ++ (B ++ (C ++ D)) := by simp
      have h2 : (A ++ B ++ C) ++ D = (A ++ B) ++ (C ++ D) := by simp
      refine ⟨by rw [h1]; exact List.take_left' hA, ?_⟩
      rw [h2]
      exact List.drop_left' (by rw [List.length_append, hA, hB, ssV_len])
    obtain ⟨e2, e3⟩ := e1 _ _ (xs.drop (i * 28)) (sp.drop 28) l1 l2
    rw [e2, e3]
    simp
  have hfin : OwnS W2 base 68 28 (some ⟨g, 0, none⟩) (n + 1) cap (xs.take (i * 28) ++ (ssV x ++ xs.drop (i * 28))) := by
    rw [← hW2, hr2]
    refine OwnX.own (X1.setRow (n + 1) _ _ hroom ?_ ?_)
    · simp only [List.length_append, List.length_take, List.length_drop, hxl, ssV_len]; omega
    · simp only [List.length_drop, hsp]; omega
  have o2 : Only (fun k => ∃ y, (some ⟨g, 0, none⟩ : Option Addr) = some y ∧ y.block = k) w W2 := by
    rw [← hW2]
    exact o1.trans ((only_setRow W1 g _).mono fun k _ h => ⟨_, rfl, h.symm⟩)
  have FIN := Lib.hid hfin
  have O2 := Lib.hid o2
  have INS := Lib.hid hins
  clear hfin o2 hins hr2 hrl hW1 hW2 X1 X0 hv1 o1 hX hv hO hn hxs hxone hxl hsp hdl hcap
  go_enter Tryz.func69, Tryz.ntmps69
  go_wp2_with (simp only [hov])
  refine rg_start 9 ?_
  refine rg_same fun p hx hne hC => ?_
  refine rg_quiet 1 [0,1,2,3,4,5,6,7] hC ?_
  simp only [pickD, List.map_cons, List.map_nil, List.getD_cons_zero, List.getD_cons_succ]; repeat (go_big_quiet_step (fail))
  refine wpQuiet_nil ?_
  refine rg_cut 8 ?_
  go_wp2_with (at_builtin; refine wpList_copy_run _ rfl _ _ 52 52 rfl _ _ rfl rfl (hcp1 _ _ _) ?_)
  refine rg_end0 ?_
  clear hx hne hC
  go_wp2_with (at_builtin; refine wpList_copy_run _ rfl _ _ 52 52 rfl _ _ rfl rfl (hcp2 _ _) ?_)
  go_returns
  exact ⟨_, _, rfl, by rw [INS.out]; exact FIN.out, O2.out, fun y hy => .inl ⟨y, hy, rfl⟩⟩
set_option maxRecDepth 100000 in
set_option maxHeartbeats 4000000 in
theorem insert_grow (base g : Nat) (n cap i vb : Nat) (L : List Strm) (x : Strm) (w : World) (hn : n = L.length) (hO : OwnS w base 68 28 (some ⟨g, 0, none⟩) n cap (L.flatMap ssV)) (hi : i < n) (hv : Blk w vb (ssV x).toArray 68) (hvb : vb ≠ g) (hroom : cap < n + 1) (hl : n ≤ 256) (hbase : base ≤ w.heap.size) :
    Calls Tryz.prog 69 #[.slice (some ⟨g, 0, none⟩) n cap, .int .i64 i, .slice (some ⟨vb, 0, none⟩) 1 1] w fun e w' => InsPost base (some ⟨g, 0, none⟩) n (L.take i ++ x :: L.drop i) w e w' := by
  have hcap := hO.caps
  obtain rfl : cap = n := by omega
  obtain ⟨_, sp, hX⟩ := hO.open_
  simp only at hX
  have hgw : g < w.heap.size := hX.lt
  have hvw : vb < w.heap.size := hv.lt
  have hxl : (L.flatMap ssV).length = cap * 28 := by rw [flat_len ssV_len, hn]
  have hxone := sss_one L
  have hins := ins_eq L x i
  obtain ⟨xs, hxs⟩ : ∃ xs, L.flatMap ssV = xs := ⟨_, rfl⟩
  rw [hxs] at hX hxl hxone hins
  have hc1 := fun W => run_cut_lS ss_et (g := g) (n := cap) (cap := cap) i (li := i) rfl (by omega) (by omega) hcap.1 W
  have hc2 := fun W => run_cut_hS ss_et (g := g) (n := cap) (cap := cap) i (mi := i) rfl (by omega) W
  have hz1 : ¬ ((i : Int) = (cap : Int)) := by omega
  have hz2 : (cap : Int) < (cap : Int) + 1 := by omega
  have hkk : (cap : Int) + 1 - (i : Int) = ((cap + 1 - i : Nat) : Int) := by omega
  have hik : i + (cap + 1 - i) = cap + 1 := by omega
  obtain ⟨i0, z, hu0, hi0, hz0, hzs, hzb, hzc, hzp⟩ := (ss_et : ET Tryz.prog 52 68 28 256)
  have hold : (Builtin.firstCells i0.size i (.slice (some ⟨g, 0, none⟩) i cap)).run Tryz.prog w.drew = .ok (xs.take (i * 28)).toArray w.drew := by
    rw [hzs]
    exact run_firstCells_some w.drew 28 i ⟨g, 0, none⟩ i cap (xs.take (i * 28)) (by rw [List.length_take, hxl]; omega) (fun j v hj => by
      rw [addr_add, Nat.zero_add]
      rw [List.getElem?_take] at hj
      split at hj
      · have hj' := (List.getElem?_eq_some_iff.1 hj).1
        have := hX.cell j
        rw [List.getElem?_append_left hj'] at this
        exact this.trans hj
      · cases hj)
  have hrz : ∀ ty, (Builtin.append_ #[52, 3] ty #[.slice (some ⟨g, 0, none⟩) i cap, .int .i64 ((cap : Int) + 1 - (i : Int))]).run Tryz.prog w =
      .ok (.slice (some ⟨w.heap.size, 0, none⟩) (cap + 1) (grownCap w (cap + 1) cap 68)) (w.drew.alloc (.cells ((xs.take (i * 28)).toArray ++ Builtin.zeroCells z.cells (cap + 1 - i) ++ Builtin.zeroCells z.cells (grownCap w (cap + 1) cap 68 - (cap + 1))) 68)) := fun ty => by
    have h := Lib.run_append_grow_zeros w 52 3 ty 68 i0 z .i64 .i64 hu0 Tryz.underlying3 hi0 hz0 (some ⟨g, 0, none⟩) i cap (xs.take (i * 28)) hold (cap + 1 - i) (by omega) (by rw [hzs]; omega) (by omega) (by omega) (by rw [hzb]; omega) (by rw [hzb, hik]; exact growslice_fits (by omega) (by omega))
    rw [hik] at h
    rw [hkk]
    exact h
  obtain ⟨G, hG⟩ : ∃ G, grownCap w (cap + 1) cap 68 = G := ⟨_, rfl⟩
  have hG1 : cap + 1 ≤ G := by rw [← hG]; exact grownCap_ge _ _ _ _
  have hG2 : G ≤ maxLen := by rw [← hG]; exact grownCap_le_maxLen _ _ _ _ (by unfold maxLen; omega)
  rw [hG] at hrz
  clear hG hold hik hkk
  obtain ⟨b0, hb0⟩ : ∃ b0, w.heap.size = b0 := ⟨_, rfl⟩
  obtain ⟨Z1, hZ1⟩ : ∃ Z, (Builtin.zeroCells z.cells (cap + 1 - i)).toList = Z := ⟨_, rfl⟩
  obtain ⟨Z2, hZ2⟩ : ∃ Z, (Builtin.zeroCells z.cells (G - (cap + 1))).toList = Z := ⟨_, rfl⟩
  have lZ1 : Z1.length = (cap + 1 - i) * 28 := by rw [← hZ1, Array.length_toList, size_zeroCells, hzc]
  have lZ2 : Z2.length = (G - (cap + 1)) * 28 := by rw [← hZ2, Array.length_toList, size_zeroCells, hzc]
  have hA0 : (xs.take (i * 28)).length = i * 28 := by rw [List.length_take, hxl]; omega
  have hrow : (xs.take (i * 28)).toArray ++ Builtin.zeroCells z.cells (cap + 1 - i) ++ Builtin.zeroCells z.cells (G - (cap + 1)) = ((xs.take (i * 28) ++ Z1) ++ Z2).toArray := by
    rw [← hZ1, ← hZ2]; simp
  rw [hrow] at hrz
  clear hrow hZ1 hZ2
  obtain ⟨W1, hW1⟩ : ∃ W1, w.drew.alloc (.cells ((xs.take (i * 28) ++ Z1) ++ Z2).toArray 68) = W1 := ⟨_, rfl⟩
  have hBl : Below w.heap.size w W1 := by rw [← hW1]; exact ((Below.refl _ w).drew).alloc (Nat.le_refl _) _
  have hnewb : Blk W1 b0 ((xs.take (i * 28) ++ Z1) ++ Z2).toArray 68 := by rw [← hW1, ← hb0]; exact Blk.new w.drew _ _
  have X1 : OwnX W1 base 68 28 b0 (cap + 1) G (xs.take (i * 28) ++ Z1) Z2 := ⟨by omega, hG1, hG2, by rw [List.length_append, hA0, lZ1]; omega, lZ2, hnewb⟩
  rw [hW1] at hrz
  clear hnewb
  have hxl1 : (xs.drop (i * 28)).length = (cap - i) * 28 := by rw [List.length_drop, hxl]; omega
  have hv1 : Blk W1 vb (ssV x).toArray 68 := hv.below hBl
  have row1 : ((xs.take (i * 28) ++ Z1) ++ Z2).take (i * 28) ++ ssV x ++ ((xs.take (i * 28) ++ Z1) ++ Z2).drop (i * 28 + (ssV x).length) = (xs.take (i * 28) ++ ssV x ++ Z1.drop 28) ++ Z2 := by
    have e : (xs.take (i * 28) ++ Z1) ++ Z2 = xs.take (i * 28) ++ (Z1 ++ Z2) := by simp
    rw [e, List.take_left' hA0, ← List.drop_drop, List.drop_left' hA0, ssV_len, List.drop_append_of_le_length (by omega)]
    simp
  obtain ⟨W2, hW2⟩ : ∃ W2, W1.setRow b0 (((xs.take (i * 28) ++ Z1) ++ Z2).take (i * 28) ++ ssV x ++ ((xs.take (i * 28) ++ Z1) ++ Z2).drop (i * 28 + (ssV x).length)).toArray = W2 := ⟨_, rfl⟩
  have hcp1 : ∀ ty dc, (Builtin.copy_ #[52, 52] ty #[.slice (some ⟨b0, i * 28, none⟩) (cap + 1 - i) dc, .slice (some ⟨vb, 0, none⟩) 1 1]).run Tryz.prog W1 = .ok (goInt (Nat.min 1 (cap + 1 - i))) W2 := fun ty dc => by
    rw [← hW2]
    exact X1.copy (P := Tryz.prog) (ssV x) (i * 28) (by simp only [List.length_append, hA0, lZ1, lZ2, ssV_len]; omega) (ssV_one x) _ _ ty Tryz.underlying52 (by kernel_rfl) _ dc ⟨vb, 0, none⟩ 1 1 (by rw [ssV_len]; simp only [Nat.min_def]; split <;> omega) (fun j v hj => by
      rw [addr_add, Nat.zero_add]; exact hv1.cell j v (by simpa using hj))
  have X2 : OwnX W2.drew base 68 28 b0 (cap + 1) G (xs.take (i * 28) ++ ssV x ++ Z1.drop 28) Z2 := by
    have : OwnX W2 base 68 28 b0 (cap + 1) G (xs.take (i * 28) ++ ssV x ++ Z1.drop 28) Z2 := by
      rw [← hW2, row1]
      exact X1.setRow (cap + 1) _ _ hG1 (by simp only [List.length_append, hA0, List.length_drop, lZ1, ssV_len]; omega) lZ2
    exact this
  have row2 : ((xs.take (i * 28) ++ ssV x ++ Z1.drop 28) ++ Z2).take ((i + 1) * 28) ++ xs.drop (i * 28) ++ ((xs.take (i * 28) ++ ssV x ++ Z1.drop 28) ++ Z2).drop ((i + 1) * 28 + (xs.drop (i * 28)).length) = (xs.take (i * 28) ++ (ssV x ++ xs.drop (i * 28))) ++ Z2 := by
    have hA1 : (xs.take (i * 28) ++ ssV x).length = (i + 1) * 28 := by rw [List.length_append, hA0, ssV_len]; omega
    have e : (xs.take (i * 28) ++ ssV x ++ Z1.drop 28) ++ Z2 = (xs.take (i * 28) ++ ssV x) ++ (Z1.drop 28 ++ Z2) := by simp
    rw [e, List.take_left' hA1, ← List.drop_drop, List.drop_left' hA1, List.drop_left' (by rw [hxl1, List.length_drop, lZ1]; omega)]
    simp
  obtain ⟨W3, hW3⟩ : ∃ W3, W2.drew.setRow b0 (((xs.take (i * 28) ++ ssV x ++ Z1.drop 28) ++ Z2).take ((i + 1) * 28) ++ xs.drop (i * 28) ++ ((xs.take (i * 28) ++ ssV x ++ Z1.drop 28) ++ Z2).drop ((i + 1) * 28 + (xs.drop (i * 28)).length)).toArray = W3 := ⟨_, rfl⟩
  have o2 : Only (· = b0) W1 W2.drew := by rw [← hW2]; exact (only_setRow W1 b0 _).drew
  have X02 : OwnX W2.drew base 68 28 g cap cap xs sp := hX.keep ((o2.block g (by have := hBl.size; omega) (by omega)).trans (hBl.block g hgw))
  have hcp2 : ∀ ty dc sc, (Builtin.copy_ #[52, 52] ty #[.slice (some ⟨b0, (i + 1) * 28, none⟩) (cap - i) dc, .slice (some ⟨g, i * 28, none⟩) (cap - i) sc]).run Tryz.prog W2.drew = .ok (goInt (Nat.min (cap - i) (cap - i))) W3 := fun ty dc sc => by
    rw [← hW3]
    exact X2.copy (P := Tryz.prog) (xs.drop (i * 28)) ((i + 1) * 28) (by simp only [List.length_append, hA0, lZ1, lZ2, hxl1, ssV_len, List.length_drop]; omega) (fun v hv => hxone v (List.mem_of_mem_drop hv)) _ _ ty Tryz.underlying52 (by kernel_rfl) _ dc ⟨g, i * 28, none⟩ (cap - i) sc (by rw [hxl1]; simp only [Nat.min_def]; split <;> omega) (fun j v hj => by
      rw [addr_add, X02.cell]
      have hj' := (List.getElem?_eq_some_iff.1 hj).1
      rw [List.getElem?_drop] at hj
      rw [List.getElem?_append_left (by omega)]; exact hj)
  have hfin : OwnS W3 base 68 28 (some ⟨b0, 0, none⟩) (cap + 1) G (xs.take (i * 28) ++ (ssV x ++ xs.drop (i * 28))) := by
    rw [← hW3, row2]
    refine OwnX.own (X2.setRow (cap + 1) _ _ hG1 ?_ lZ2)
    simp only [List.length_append, hA0, hxl1, ssV_len]; omega
  have o3 : Only (fun k => ∃ y, (some ⟨g, 0, none⟩ : Option Addr) = some y ∧ y.block = k) w W3 := by
    have h1 : Only (· = b0) W1 W3 := by rw [← hW3]; exact o2.trans (only_setRow W2.drew b0 _)
    have h2 := below_of_only h1 hBl.size (fun k hk e => by omega)
    exact only_of_below (hBl.trans h2) _
  have hc3 := fun W => run_cut_lS ss_et (g := b0) (n := cap + 1) (cap := G) i (li := i) rfl (by omega) (by omega) hG1 W
  have hc4 := fun W => run_cut_lS ss_et (g := b0) (n := cap + 1) (cap := G) (i + 1) (li := (i : Int) + 1) (by omega) (by omega) (by omega) hG1 W
  rw [hb0] at hrz
  have FIN := Lib.hid hfin
  have O3 := Lib.hid o3
  have INS := Lib.hid hins
  have HB0 := Lib.hid hb0
  clear hfin o3 hins row1 row2 hW1 hW2 hW3 X1 X2 X02 o2 hv1 hBl hX hv hO hn hxs hxone hxl hxl1 lZ1 lZ2 hA0 hcap hb0 hzc hzb hzs hz0 hi0 hu0
  go_enter Tryz.func69, Tryz.ntmps69
  go_wp2_with (at_builtin; refine Lib.wpList_append_run _ rfl _ _ _ _ rfl _ _ rfl rfl _ _ (hrz _) ?_)
  refine rg_start 9 ?_
  refine rg_same fun p hx hne hC => ?_
  refine rg_quiet 1 [0,1,2,3,4,5,6,7] hC ?_
  simp only [pickD, List.map_cons, List.map_nil, List.getD_cons_zero, List.getD_cons_succ]; repeat (go_big_quiet_step (fail))
  refine wpQuiet_nil ?_
  refine rg_cut 8 ?_
  go_wp2_with (at_builtin; refine wpList_copy_run _ rfl _ _ 52 52 rfl _ _ rfl rfl (hcp2 _ _ _) ?_)
  refine rg_end0 ?_
  clear hx hne hC
  go_wp2_with (fail)
  go_returns
  exact ⟨_, _, rfl, by rw [INS.out]; exact FIN.out, O3.out, fun y hy => .inr (by cases hy; exact Nat.le_of_eq HB0.out)⟩
theorem insert_any (base : Nat) (a : Option Addr) (n cap i vb : Nat) (L : List Strm) (x : Strm) (w : World) (hn : n = L.length) (hO : OwnS w base 68 28 a n cap (L.flatMap ssV)) (hi : i ≤ n) (hv : Blk w vb (ssV x).toArray 68) (hvb : ∀ y, a = some y → vb ≠ y.block) (hl : n ≤ 256) (hbase : base ≤ w.heap.size) :
    Calls Tryz.prog 69 #[.slice a n cap, .int .i64 i, .slice (some ⟨vb, 0, none⟩) 1 1] w fun e w' => InsPost base a n (L.take i ++ x :: L.drop i) w e w' := by
  rcases Nat.eq_or_lt_of_le hi with rfl | hlt
  · have e : L.take i ++ x :: L.drop i = L ++ [x] := by rw [hn]; simp
    rw [e]
    exact insert_end base a i cap vb L x w hn hO hv hl hbase
  · have hlen := hO.length
    rw [flat_len ssV_len, ← hn] at hlen
    obtain ⟨g, rfl, _⟩ := hO.at_ (i := 0) (by rw [flat_len ssV_len, ← hn]; omega)
    by_cases hr : n + 1 ≤ cap
    · exact insert_room base g n cap i vb L x w hn hO hlt hv (hvb _ rfl) hr hl hbase
    · exact insert_grow base g n cap i vb L x w hn hO hlt hv (hvb _ rfl) (by omega) hl hbase
end Go.Proofs.YtgpnfdeneagdbaaGreat
