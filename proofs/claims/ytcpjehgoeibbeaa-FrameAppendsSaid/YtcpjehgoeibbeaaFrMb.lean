import Derived.Test.YtcpjehgoeibbeaaFrMa
import Derived.Test.YtcpjehgoeibbeaaFrW5
import Derived.Deep.Cut
/- Arrays that are not the same (written by gen_frw6.py). -/
namespace Go.Proofs.Ytcpjehgoeibbeaa
open Go.RowKit
set_option linter.unusedVariables false
namespace Frm
open Var


section
variable {P : Program}
theorem run_items_kd (kd : IntKind) (d : Nat) {e : TypeId} (he : P.plainKey e = true) (hu : P.underlying e = some (.int kd)) (L M : List Int) (w : World) : ∀ is : List Nat, (∀ i ∈ is, i < L.length ∧ i < M.length) →
    (Op.eqItems (d + 1) e 1 (L.map (Value.int kd)).toArray (M.map (Value.int kd)).toArray is).run P w = .ok (is.all fun i => L.getD i 0 == M.getD i 0) w := by
  intro is
  induction is with
  | nil => intro _; rfl
  | cons i is ih =>
    intro h
    obtain ⟨h1, h2⟩ := h i (by simp)
    have e1 : (L.map (Value.int kd)).toArray[i * 1]? = some (.int kd (L.getD i 0)) := by simp [List.getD_eq_getElem?_getD, h1]
    have e2 : (M.map (Value.int kd)).toArray[i * 1]? = some (.int kd (M.getD i 0)) := by simp [List.getD_eq_getElem?_getD, h2]
    simp only [Op.eqItems, Sem.run_bind, run_part_plain w he e1, run_part_plain w he e2, Result.andThen, run_equalIn_int w d e kd kd _ _ hu]
    by_cases hq : L.getD i 0 = M.getD i 0
    · have hb : (L.getD i 0 == M.getD i 0) = true := by simpa using hq
      rw [List.all_cons, hb, Bool.true_and]
      simpa using ih (fun j hj => h j (by simp [hj]))
    · have hb : (L.getD i 0 == M.getD i 0) = false := by simpa using hq
      rw [List.all_cons, hb, Bool.false_and]
      simp [Sem.run_pure]
variable {ops : Array Oper} {rest : List Oper} {o : Oper} {a : Act} {w : World} {Q : Exit → Act → World → Prop}
theorem wpList_neArr (kd : IntKind) {t ty e : TypeId} {n : Nat} {i : TypeInfo} (hu : P.underlying t = some (.array n e)) (hi : P.info? e = some i) (hc : P.cellsOf e = 1) (he : P.plainKey e = true) (hue : P.underlying e = some (.int kd))
    (hgd : Region.wanted o (yielded ops a.tmps) = true) {x y : Operand} (ho : o.op = .binOp .neq t x y ty) {xs ys : Array Value} (hx : a.eval x = .agg xs) (hy : a.eval y = .agg ys) (L M : List Int) (hl : L.length = n) (hm : M.length = n) (e1 : xs = (L.map (Value.int kd)).toArray) (e2 : ys = (M.map (Value.int kd)).toArray)
    (hg : (eqGuard .neq t x y (.agg xs) (.agg ys)).run P w = .ok () w)
    (h : wpList P ops Q rest (a.put o.dst (.bool (!decide (L = M)))) w) : wpList P ops Q (o :: rest) a w := by
  refine BigFrame.wpList_want hgd fun K hK' => ?_
  subst e1 e2
  have hr : (binOp .neq t (.agg (L.map (Value.int kd)).toArray) (.agg (M.map (Value.int kd)).toArray)).run P w = .ok (.bool (!decide (L = M))) w := by
    rw [run_neq_struct, show 10000 = 9999 + 1 from rfl, run_equalIn_array w 9999 _ _ hu hi, hc, show 9999 = 9998 + 1 from rfl, run_items_kd kd 9998 he hue L M w _ (by intro i hi; simp at hi; omega), ← hl, all_range_eq L M (by omega)]
    rfl
  unfold Oper.wp
  simp only [execOp, ho, hx, hy]
  simp only [Sem.run_bind, hg, hr, Result.andThen]
  exact hK' _ _ h
theorem stop_ldt {d : Option Tmp} {x : Operand} {ty : TypeId} {pos : String} {aft : Array Edge} {g : Option (Nat × Bool)}
    (h : Stop (wpList P ops Q (⟨d, .load 32 x, ty, pos, aft, g⟩ :: rest) a w)) : wpList P ops Q (⟨d, .load 32 x, ty, pos, aft, g⟩ :: rest) a w := h
theorem stop_lde {d : Option Tmp} {x : Operand} {ty : TypeId} {pos : String} {aft : Array Edge} {g : Option (Nat × Bool)}
    (h : Stop (wpList P ops Q (⟨d, .load 34 x, ty, pos, aft, g⟩ :: rest) a w)) : wpList P ops Q (⟨d, .load 34 x, ty, pos, aft, g⟩ :: rest) a w := h
theorem stop_net {d : Option Tmp} {x y : Operand} {t2 ty : TypeId} {pos : String} {aft : Array Edge} {g : Option (Nat × Bool)}
    (h : Stop (wpList P ops Q (⟨d, .binOp .neq 32 x y t2, ty, pos, aft, g⟩ :: rest) a w)) : wpList P ops Q (⟨d, .binOp .neq 32 x y t2, ty, pos, aft, g⟩ :: rest) a w := h
theorem stop_nee {d : Option Tmp} {x y : Operand} {t2 ty : TypeId} {pos : String} {aft : Array Edge} {g : Option (Nat × Bool)}
    (h : Stop (wpList P ops Q (⟨d, .binOp .neq 34 x y t2, ty, pos, aft, g⟩ :: rest) a w)) : wpList P ops Q (⟨d, .binOp .neq 34 x y t2, ty, pos, aft, g⟩ :: rest) a w := h
end
theorem u8_info : ∃ i, (Try.prog).info? 5 = some i := Option.isSome_iff_exists.1 (by kernel_rfl)
theorem u8_cells : (Try.prog).cellsOf 5 = 1 := by kernel_rfl
theorem u8_plain : (Try.prog).plainKey 5 = true := by kernel_rfl
theorem u64_info : ∃ i, (Try.prog).info? 30 = some i := Option.isSome_iff_exists.1 (by kernel_rfl)
theorem u64_cells : (Try.prog).cellsOf 30 = 1 := by kernel_rfl
theorem u64_plain : (Try.prog).plainKey 30 = true := by kernel_rfl
theorem FB.tokAt {w : World} {b : Nat} {p : FM} (h : FB w b p) (h16 : p.f.tok.length = 16) (j : Nat) (v : Value) (hv : (p.f.tok.map (Value.int .u8))[j]? = some v) : w.cell? ⟨b, 9 + j, none⟩ = some v := by
  have hj : j < 16 := by
    rcases Nat.lt_or_ge j 16 with h | h
    · exact h
    · rw [List.getElem?_eq_none (by simpa [h16] using h)] at hv; cases hv
  refine Blk.cell h (9 + j) v ?_
  rw [FM.vals, List.getElem?_toArray, p.at_tok h16 j hj]
  rw [← hv]
  simp [List.getD_eq_getElem?_getD, h16, hj]
theorem FB.ecnAt {w : World} {b : Nat} {p : FM} (h : FB w b p) (h16 : p.f.tok.length = 16) (j : Nat) (v : Value) (hv : ([Value.int .u64 p.f.e0, .int .u64 p.f.e1, .int .u64 p.f.e2])[j]? = some v) : w.cell? ⟨b, 27 + j, none⟩ = some v := by
  have c := h.fc h16
  match j, hv with
  | 0, hv => cases hv; exact c.c27
  | 1, hv => cases hv; exact c.c28
  | 2, hv => cases hv; exact c.c29
theorem bare_tok (f : Fr) (h : f.tok.length = 16) : (bareF f).tok.length = 16 := by
  unfold bareF; dsimp only; split
  · rfl
  · exact h

theorem smallOk_iff (f : Fr) : smallOk f = true ↔ f.id ≤ 4611686018427387903 ∧ f.max ≤ 4611686018427387903 ∧ f.code ≤ 4611686018427387903 ∧ f.delay ≤ 4611686018427387903 ∧ f.e0 ≤ 4611686018427387903 ∧ f.e1 ≤ 4611686018427387903 ∧ f.e2 ≤ 4611686018427387903 ∧ f.off ≤ 4611686018427387903 := by
  simp only [smallOk, Bool.and_eq_true, decide_eq_true_eq, and_assoc]
  exact Iff.rfl
theorem kindOk_0 (f : Fr) (h : f.kind = 0) : kindOk f = (decide (1 ≤ f.n) && decide (f.n ≤ 65536)) := by unfold kindOk; rw [if_pos h]
theorem kindOk_2 (f : Fr) (h : f.kind = 2) : kindOk f = acksOk f.acks := by simp [kindOk, h]
theorem kindOk_3 (f : Fr) (h : f.kind = 3) : kindOk f = acksOk f.acks := by simp [kindOk, h]
theorem kindOk_6 (f : Fr) (h : f.kind = 6) : kindOk f = decide ((f.data.length : Int) ≤ 4611686018427387903 - f.off) := by unfold kindOk; rw [h]; rfl
theorem kindOk_8 (f : Fr) (h : f.kind = 8) : kindOk f = decide ((f.data.length : Int) ≤ 4611686018427387903 - f.off) := by unfold kindOk; rw [h]; rfl
theorem kindOk_7 (f : Fr) (h : f.kind = 7) : kindOk f = decide (0 < f.data.length) := by unfold kindOk; rw [h]; rfl
theorem kindOk_24 (f : Fr) (h : f.kind = 24) : kindOk f = (decide (1 ≤ f.cid.length) && decide (f.cid.length ≤ 20) && decide (f.max ≤ f.id)) := by unfold kindOk; rw [h]; rfl
theorem kindOk_26 (f : Fr) (h : f.kind = 26) : kindOk f = decide (f.data.length = 8) := by unfold kindOk; rw [h]; rfl
theorem kindOk_27 (f : Fr) (h : f.kind = 27) : kindOk f = decide (f.data.length = 8) := by unfold kindOk; rw [h]; rfl
theorem kindOk_s (f : Fr) (h : f.kind = 18 ∨ f.kind = 19 ∨ f.kind = 22 ∨ f.kind = 23) : kindOk f = decide (f.max ≤ 1152921504606846976) := by rcases h with h | h | h | h <;> (unfold kindOk; rw [h]; rfl)
theorem kindOk_d (f : Fr) (h : ¬ (f.kind = 0 ∨ f.kind = 2 ∨ f.kind = 3 ∨ f.kind = 6 ∨ f.kind = 8 ∨ f.kind = 7 ∨ f.kind = 24 ∨ f.kind = 26 ∨ f.kind = 27)) (h2 : ¬ (f.kind = 18 ∨ f.kind = 19 ∨ f.kind = 22 ∨ f.kind = 23)) : kindOk f = true := by
  unfold kindOk
  rw [if_neg (by omega), if_neg (by omega), if_neg (by omega), if_neg (by omega), if_neg (by omega), if_neg (by omega), if_neg (by omega)]

end Frm
end Go.Proofs.Ytcpjehgoeibbeaa

/- May: what is no frame (written by gen_frw6.py). -/
namespace Go.Proofs.Ytcpjehgoeibbeaa
open Go.RowKit
set_option linter.unusedVariables false
namespace Frm
open Var

set_option maxHeartbeats 4000000 in
set_option maxRecDepth 100000 in
theorem mayb1_id (p : FM) (w : World) (h16 : p.f.tok.length = 16) (hdl : (bareF p.f).data.length ≤ 140737488355328) (hcl : (bareF p.f).cid.length ≤ 140737488355328) (hal : (bareF p.f).acks.length ≤ 140737488355328) (k1 : p.f.kind ≤ 8) (cid : ¬ ((bareF p.f).id = 0)) : Calls Try.prog 12 #[.agg p.vals] w fun e w' => e = .returned (.bool false) ∧ Below w.heap.size w w' := by
  go_enter Try.func12, Try.ntmps12
  go_wp2_with (with_reducible refine stop_ldf ?_)
  refine Stop.out ?_
  refine wpList_loadF rfl rfl p h16 rfl (Blk.new w p.vals 36) ?_
  go_wp2_with (fail)
  refine (bare_any p _ h16).mono ?_
  rintro e w2 ⟨⟨q, hq, rfl⟩, hb2⟩
  go_wp2_with (with_reducible refine stop_stf ?_)
  refine Stop.out ?_
  have q16 : q.f.tok.length = 16 := by rw [hq]; exact bare_tok _ h16
  refine wpList_storeF rfl rfl q (fm0 0) q16 rfl rfl rfl (fm0_at rfl) ?_
  intro w4 hb4 o4
  have z2 := hb2.size
  simp only [World.size_alloc] at z2
  have hbox : FB w4 w.heap.size p := o4.blk (Blk.alloc (Blk.below (Blk.new w p.vals 36) hb2) _) (by omega)
  have bl4 : Below w.heap.size w w4 := below_onto ((below_on ((Below.refl _ _).alloc (Nat.le_refl _) _) hb2 (by simp)).alloc (by omega) _) o4 (by simp; omega) (by intro z hz h; omega)
  have BX := hbox.fc h16
  have OW := hb4.fc q16
  have b0 := BX.c0
  have y1 := OW.c1
  have y2 := OW.c2
  have y3 := OW.c3
  have y4 := OW.c4
  have y5 := OW.c5
  have y6 := OW.c6
  have y7 := OW.c7
  have y8 := OW.c8
  have y25 := OW.c25
  have y26 := OW.c26
  have HT := Lib.hid (fun j v h => hb4.tokAt q16 j v h)
  have HE := Lib.hid (fun j v h => hb4.ecnAt q16 j v h)
  have Q16 := Lib.hid q16
  rw [hq] at y1 y2 y3 y4 y5 y6 y7 y8 y25 y26 HT HE Q16
  have HX := Lib.hid hbox
  have H16 := Lib.hid h16
  clear hb4 o4 OW hbox h16 hq hb2 q16 BX z2
  have d1 : decide (30 < p.f.kind) = false := by simp; omega
  have d2 : decide (8 < p.f.kind) = false := by simp; omega
  generalize (bareF p.f).id = gid at *
  generalize (bareF p.f).off = goff at *
  generalize (bareF p.f).max = gmax at *
  generalize (bareF p.f).code = gcode at *
  generalize (bareF p.f).n = gn at *
  generalize (bareF p.f).delay = gdelay at *
  generalize (bareF p.f).data.length = gdl at *
  generalize (bareF p.f).cid.length = gcl at *
  generalize (bareF p.f).acks.length = gal at *
  generalize p.f.kind = k at *
  have C4 := Lib.hid bl4
  go_upto_region 2 with (fail)
  simp only [List.append_eq, List.cons_append, List.nil_append]
  go_wp2_with (fail)
  go_returns
  exact ⟨rfl, C4.out⟩

set_option maxHeartbeats 4000000 in
set_option maxRecDepth 100000 in
theorem mayb1_off (p : FM) (w : World) (h16 : p.f.tok.length = 16) (hdl : (bareF p.f).data.length ≤ 140737488355328) (hcl : (bareF p.f).cid.length ≤ 140737488355328) (hal : (bareF p.f).acks.length ≤ 140737488355328) (k1 : p.f.kind ≤ 8) (cid : ((bareF p.f).id = 0)) (coff : ¬ ((bareF p.f).off = 0)) : Calls Try.prog 12 #[.agg p.vals] w fun e w' => e = .returned (.bool false) ∧ Below w.heap.size w w' := by
  go_enter Try.func12, Try.ntmps12
  go_wp2_with (with_reducible refine stop_ldf ?_)
  refine Stop.out ?_
  refine wpList_loadF rfl rfl p h16 rfl (Blk.new w p.vals 36) ?_
  go_wp2_with (fail)
  refine (bare_any p _ h16).mono ?_
  rintro e w2 ⟨⟨q, hq, rfl⟩, hb2⟩
  go_wp2_with (with_reducible refine stop_stf ?_)
  refine Stop.out ?_
  have q16 : q.f.tok.length = 16 := by rw [hq]; exact bare_tok _ h16
  refine wpList_storeF rfl rfl q (fm0 0) q16 rfl rfl rfl (fm0_at rfl) ?_
  intro w4 hb4 o4
  have z2 := hb2.size
  simp only [World.size_alloc] at z2
  have hbox : FB w4 w.heap.size p := o4.blk (Blk.alloc (Blk.below (Blk.new w p.vals 36) hb2) _) (by omega)
  have bl4 : Below w.heap.size w w4 := below_onto ((below_on ((Below.refl _ _).alloc (Nat.le_refl _) _) hb2 (by simp)).alloc (by omega) _) o4 (by simp; omega) (by intro z hz h; omega)
  have BX := hbox.fc h16
  have OW := hb4.fc q16
  have b0 := BX.c0
  have y1 := OW.c1
  have y2 := OW.c2
  have y3 := OW.c3
  have y4 := OW.c4
  have y5 := OW.c5
  have y6 := OW.c6
  have y7 := OW.c7
  have y8 := OW.c8
  have y25 := OW.c25
  have y26 := OW.c26
  have HT := Lib.hid (fun j v h => hb4.tokAt q16 j v h)
  have HE := Lib.hid (fun j v h => hb4.ecnAt q16 j v h)
  have Q16 := Lib.hid q16
  rw [hq] at y1 y2 y3 y4 y5 y6 y7 y8 y25 y26 HT HE Q16
  have HX := Lib.hid hbox
  have H16 := Lib.hid h16
  clear hb4 o4 OW hbox h16 hq hb2 q16 BX z2
  have d1 : decide (30 < p.f.kind) = false := by simp; omega
  have d2 : decide (8 < p.f.kind) = false := by simp; omega
  rw [cid] at y1
  generalize (bareF p.f).id = gid at *
  generalize (bareF p.f).off = goff at *
  generalize (bareF p.f).max = gmax at *
  generalize (bareF p.f).code = gcode at *
  generalize (bareF p.f).n = gn at *
  generalize (bareF p.f).delay = gdelay at *
  generalize (bareF p.f).data.length = gdl at *
  generalize (bareF p.f).cid.length = gcl at *
  generalize (bareF p.f).acks.length = gal at *
  generalize p.f.kind = k at *
  have C4 := Lib.hid bl4
  go_upto_region 2 with (fail)
  simp only [List.append_eq, List.cons_append, List.nil_append]
  go_wp2_with (fail)
  go_returns
  exact ⟨rfl, C4.out⟩

set_option maxHeartbeats 4000000 in
set_option maxRecDepth 100000 in
theorem mayb1_max (p : FM) (w : World) (h16 : p.f.tok.length = 16) (hdl : (bareF p.f).data.length ≤ 140737488355328) (hcl : (bareF p.f).cid.length ≤ 140737488355328) (hal : (bareF p.f).acks.length ≤ 140737488355328) (k1 : p.f.kind ≤ 8) (cid : ((bareF p.f).id = 0)) (coff : ((bareF p.f).off = 0)) (cmax : ¬ ((bareF p.f).max = 0)) : Calls Try.prog 12 #[.agg p.vals] w fun e w' => e = .returned (.bool false) ∧ Below w.heap.size w w' := by
  go_enter Try.func12, Try.ntmps12
  go_wp2_with (with_reducible refine stop_ldf ?_)
  refine Stop.out ?_
  refine wpList_loadF rfl rfl p h16 rfl (Blk.new w p.vals 36) ?_
  go_wp2_with (fail)
  refine (bare_any p _ h16).mono ?_
  rintro e w2 ⟨⟨q, hq, rfl⟩, hb2⟩
  go_wp2_with (with_reducible refine stop_stf ?_)
  refine Stop.out ?_
  have q16 : q.f.tok.length = 16 := by rw [hq]; exact bare_tok _ h16
  refine wpList_storeF rfl rfl q (fm0 0) q16 rfl rfl rfl (fm0_at rfl) ?_
  intro w4 hb4 o4
  have z2 := hb2.size
  simp only [World.size_alloc] at z2
  have hbox : FB w4 w.heap.size p := o4.blk (Blk.alloc (Blk.below (Blk.new w p.vals 36) hb2) _) (by omega)
  have bl4 : Below w.heap.size w w4 := below_onto ((below_on ((Below.refl _ _).alloc (Nat.le_refl _) _) hb2 (by simp)).alloc (by omega) _) o4 (by simp; omega) (by intro z hz h; omega)
  have BX := hbox.fc h16
  have OW := hb4.fc q16
  have b0 := BX.c0
  have y1 := OW.c1
  have y2 := OW.c2
  have y3 := OW.c3
  have y4 := OW.c4
  have y5 := OW.c5
  have y6 := OW.c6
  have y7 := OW.c7
  have y8 := OW.c8
  have y25 := OW.c25
  have y26 := OW.c26
  have HT := Lib.hid (fun j v h => hb4.tokAt q16 j v h)
  have HE := Lib.hid (fun j v h => hb4.ecnAt q16 j v h)
  have Q16 := Lib.hid q16
  rw [hq] at y1 y2 y3 y4 y5 y6 y7 y8 y25 y26 HT HE Q16
  have HX := Lib.hid hbox
  have H16 := Lib.hid h16
  clear hb4 o4 OW hbox h16 hq hb2 q16 BX z2
  have d1 : decide (30 < p.f.kind) = false := by simp; omega
  have d2 : decide (8 < p.f.kind) = false := by simp; omega
  rw [cid] at y1
  rw [coff] at y2
  generalize (bareF p.f).id = gid at *
  generalize (bareF p.f).off = goff at *
  generalize (bareF p.f).max = gmax at *
  generalize (bareF p.f).code = gcode at *
  generalize (bareF p.f).n = gn at *
  generalize (bareF p.f).delay = gdelay at *
  generalize (bareF p.f).data.length = gdl at *
  generalize (bareF p.f).cid.length = gcl at *
  generalize (bareF p.f).acks.length = gal at *
  generalize p.f.kind = k at *
  have C4 := Lib.hid bl4
  go_upto_region 2 with (fail)
  simp only [List.append_eq, List.cons_append, List.nil_append]
  go_wp2_with (fail)
  go_returns
  exact ⟨rfl, C4.out⟩

set_option maxHeartbeats 4000000 in
set_option maxRecDepth 100000 in
theorem mayb1_code (p : FM) (w : World) (h16 : p.f.tok.length = 16) (hdl : (bareF p.f).data.length ≤ 140737488355328) (hcl : (bareF p.f).cid.length ≤ 140737488355328) (hal : (bareF p.f).acks.length ≤ 140737488355328) (k1 : p.f.kind ≤ 8) (cid : ((bareF p.f).id = 0)) (coff : ((bareF p.f).off = 0)) (cmax : ((bareF p.f).max = 0)) (ccode : ¬ ((bareF p.f).code = 0)) : Calls Try.prog 12 #[.agg p.vals] w fun e w' => e = .returned (.bool false) ∧ Below w.heap.size w w' := by
  go_enter Try.func12, Try.ntmps12
  go_wp2_with (with_reducible refine stop_ldf ?_)
  refine Stop.out ?_
  refine wpList_loadF rfl rfl p h16 rfl (Blk.new w p.vals 36) ?_
  go_wp2_with (fail)
  refine (bare_any p _ h16).mono ?_
  rintro e w2 ⟨⟨q, hq, rfl⟩, hb2⟩
  go_wp2_with (with_reducible refine stop_stf ?_)
  refine Stop.out ?_
  have q16 : q.f.tok.length = 16 := by rw [hq]; exact bare_tok _ h16
  refine wpList_storeF rfl rfl q (fm0 0) q16 rfl rfl rfl (fm0_at rfl) ?_
  intro w4 hb4 o4
  have z2 := hb2.size
  simp only [World.size_alloc] at z2
  have hbox : FB w4 w.heap.size p := o4.blk (Blk.alloc (Blk.below (Blk.new w p.vals 36) hb2) _) (by omega)
  have bl4 : Below w.heap.size w w4 := below_onto ((below_on ((Below.refl _ _).alloc (Nat.le_refl _) _) hb2 (by simp)).alloc (by omega) _) o4 (by simp; omega) (by intro z hz h; omega)
  have BX := hbox.fc h16
  have OW := hb4.fc q16
  have b0 := BX.c0
  have y1 := OW.c1
  have y2 := OW.c2
  have y3 := OW.c3
  have y4 := OW.c4
  have y5 := OW.c5
  have y6 := OW.c6
  have y7 := OW.c7
  have y8 := OW.c8
  have y25 := OW.c25
  have y26 := OW.c26
  have HT := Lib.hid (fun j v h => hb4.tokAt q16 j v h)
  have HE := Lib.hid (fun j v h => hb4.ecnAt q16 j v h)
  have Q16 := Lib.hid q16
  rw [hq] at y1 y2 y3 y4 y5 y6 y7 y8 y25 y26 HT HE Q16
  have HX := Lib.hid hbox
  have H16 := Lib.hid h16
  clear hb4 o4 OW hbox h16 hq hb2 q16 BX z2
  have d1 : decide (30 < p.f.kind) = false := by simp; omega
  have d2 : decide (8 < p.f.kind) = false := by simp; omega
  rw [cid] at y1
  rw [coff] at y2
  rw [cmax] at y3
  generalize (bareF p.f).id = gid at *
  generalize (bareF p.f).off = goff at *
  generalize (bareF p.f).max = gmax at *
  generalize (bareF p.f).code = gcode at *
  generalize (bareF p.f).n = gn at *
  generalize (bareF p.f).delay = gdelay at *
  generalize (bareF p.f).data.length = gdl at *
  generalize (bareF p.f).cid.length = gcl at *
  generalize (bareF p.f).acks.length = gal at *
  generalize p.f.kind = k at *
  have C4 := Lib.hid bl4
  go_upto_region 2 with (fail)
  simp only [List.append_eq, List.cons_append, List.nil_append]
  go_wp2_with (fail)
  go_returns
  exact ⟨rfl, C4.out⟩

set_option maxHeartbeats 4000000 in
set_option maxRecDepth 100000 in
theorem mayb1_n (p : FM) (w : World) (h16 : p.f.tok.length = 16) (hdl : (bareF p.f).data.length ≤ 140737488355328) (hcl : (bareF p.f).cid.length ≤ 140737488355328) (hal : (bareF p.f).acks.length ≤ 140737488355328) (k1 : p.f.kind ≤ 8) (cid : ((bareF p.f).id = 0)) (coff : ((bareF p.f).off = 0)) (cmax : ((bareF p.f).max = 0)) (ccode : ((bareF p.f).code = 0)) (cn : ¬ ((bareF p.f).n = 0)) : Calls Try.prog 12 #[.agg p.vals] w fun e w' => e = .returned (.bool false) ∧ Below w.heap.size w w' := by
  go_enter Try.func12, Try.ntmps12
  go_wp2_with (with_reducible refine stop_ldf ?_)
  refine Stop.out ?_
  refine wpList_loadF rfl rfl p h16 rfl (Blk.new w p.vals 36) ?_
  go_wp2_with (fail)
  refine (bare_any p _ h16).mono ?_
  rintro e w2 ⟨⟨q, hq, rfl⟩, hb2⟩
  go_wp2_with (with_reducible refine stop_stf ?_)
  refine Stop.out ?_
  have q16 : q.f.tok.length = 16 := by rw [hq]; exact bare_tok _ h16
  refine wpList_storeF rfl rfl q (fm0 0) q16 rfl rfl rfl (fm0_at rfl) ?_
  intro w4 hb4 o4
  have z2 := hb2.size
  simp only [World.size_alloc] at z2
  have hbox : FB w4 w.heap.size p := o4.blk (Blk.alloc (Blk.below (Blk.new w p.vals 36) hb2) _) (by omega)
  have bl4 : Below w.heap.size w w4 := below_onto ((below_on ((Below.refl _ _).alloc (Nat.le_refl _) _) hb2 (by simp)).alloc (by omega) _) o4 (by simp; omega) (by intro z hz h; omega)
  have BX := hbox.fc h16
  have OW := hb4.fc q16
  have b0 := BX.c0
  have y1 := OW.c1
  have y2 := OW.c2
  have y3 := OW.c3
  have y4 := OW.c4
  have y5 := OW.c5
  have y6 := OW.c6
  have y7 := OW.c7
  have y8 := OW.c8
  have y25 := OW.c25
  have y26 := OW.c26
  have HT := Lib.hid (fun j v h => hb4.tokAt q16 j v h)
  have HE := Lib.hid (fun j v h => hb4.ecnAt q16 j v h)
  have Q16 := Lib.hid q16
  rw [hq] at y1 y2 y3 y4 y5 y6 y7 y8 y25 y26 HT HE Q16
  have HX := Lib.hid hbox
  have H16 := Lib.hid h16
  clear hb4 o4 OW hbox h16 hq hb2 q16 BX z2
  have d1 : decide (30 < p.f.kind) = false := by simp; omega
  have d2 : decide (8 < p.f.kind) = false := by simp; omega
  rw [cid] at y1
  rw [coff] at y2
  rw [cmax] at y3
  rw [ccode] at y4
  generalize (bareF p.f).id = gid at *
  generalize (bareF p.f).off = goff at *
  generalize (bareF p.f).max = gmax at *
  generalize (bareF p.f).code = gcode at *
  generalize (bareF p.f).n = gn at *
  generalize (bareF p.f).delay = gdelay at *
  generalize (bareF p.f).data.length = gdl at *
  generalize (bareF p.f).cid.length = gcl at *
  generalize (bareF p.f).acks.length = gal at *
  generalize p.f.kind = k at *
  have C4 := Lib.hid bl4
  go_upto_region 2 with (fail)
  simp only [List.append_eq, List.cons_append, List.nil_append]
  go_wp2_with (fail)
  go_returns
  exact ⟨rfl, C4.out⟩

set_option maxHeartbeats 4000000 in
set_option maxRecDepth 100000 in
theorem mayb1_fin (p : FM) (w : World) (h16 : p.f.tok.length = 16) (hdl : (bareF p.f).data.length ≤ 140737488355328) (hcl : (bareF p.f).cid.length ≤ 140737488355328) (hal : (bareF p.f).acks.length ≤ 140737488355328) (k1 : p.f.kind ≤ 8) (cid : ((bareF p.f).id = 0)) (coff : ((bareF p.f).off = 0)) (cmax : ((bareF p.f).max = 0)) (ccode : ((bareF p.f).code = 0)) (cn : ((bareF p.f).n = 0)) (cfin : (bareF p.f).fin = true) : Calls Try.prog 12 #[.agg p.vals] w fun e w' => e = .returned (.bool false) ∧ Below w.heap.size w w' := by
  go_enter Try.func12, Try.ntmps12
  go_wp2_with (with_reducible refine stop_ldf ?_)
  refine Stop.out ?_
  refine wpList_loadF rfl rfl p h16 rfl (Blk.new w p.vals 36) ?_
  go_wp2_with (fail)
  refine (bare_any p _ h16).mono ?_
  rintro e w2 ⟨⟨q, hq, rfl⟩, hb2⟩
  go_wp2_with (with_reducible refine stop_stf ?_)
  refine Stop.out ?_
  have q16 : q.f.tok.length = 16 := by rw [hq]; exact bare_tok _ h16
  refine wpList_storeF rfl rfl q (fm0 0) q16 rfl rfl rfl (fm0_at rfl) ?_
  intro w4 hb4 o4
  have z2 := hb2.size
  simp only [World.size_alloc] at z2
  have hbox : FB w4 w.heap.size p := o4.blk (Blk.alloc (Blk.below (Blk.new w p.vals 36) hb2) _) (by omega)
  have bl4 : Below w.heap.size w w4 := below_onto ((below_on ((Below.refl _ _).alloc (Nat.le_refl _) _) hb2 (by simp)).alloc (by omega) _) o4 (by simp; omega) (by intro z hz h; omega)
  have BX := hbox.fc h16
  have OW := hb4.fc q16
  have b0 := BX.c0
  have y1 := OW.c1
  have y2 := OW.c2
  have y3 := OW.c3
  have y4 := OW.c4
  have y5 := OW.c5
  have y6 := OW.c6
  have y7 := OW.c7
  have y8 := OW.c8
  have y25 := OW.c25
  have y26 := OW.c26
  have HT := Lib.hid (fun j v h => hb4.tokAt q16 j v h)
  have HE := Lib.hid (fun j v h => hb4.ecnAt q16 j v h)
  have Q16 := Lib.hid q16
  rw [hq] at y1 y2 y3 y4 y5 y6 y7 y8 y25 y26 HT HE Q16
  have HX := Lib.hid hbox
  have H16 := Lib.hid h16
  clear hb4 o4 OW hbox h16 hq hb2 q16 BX z2
  have d1 : decide (30 < p.f.kind) = false := by simp; omega
  have d2 : decide (8 < p.f.kind) = false := by simp; omega
  rw [cid] at y1
  rw [coff] at y2
  rw [cmax] at y3
  rw [ccode] at y4
  rw [cn] at y5
  rw [cfin] at y6
  generalize (bareF p.f).id = gid at *
  generalize (bareF p.f).off = goff at *
  generalize (bareF p.f).max = gmax at *
  generalize (bareF p.f).code = gcode at *
  generalize (bareF p.f).n = gn at *
  generalize (bareF p.f).delay = gdelay at *
  generalize (bareF p.f).data.length = gdl at *
  generalize (bareF p.f).cid.length = gcl at *
  generalize (bareF p.f).acks.length = gal at *
  generalize p.f.kind = k at *
  have C4 := Lib.hid bl4
  go_upto_region 2 with (fail)
  simp only [List.append_eq, List.cons_append, List.nil_append]
  go_wp2_with (fail)
  go_returns
  exact ⟨rfl, C4.out⟩

set_option maxHeartbeats 4000000 in
set_option maxRecDepth 100000 in
theorem mayb1_delay (p : FM) (w : World) (h16 : p.f.tok.length = 16) (hdl : (bareF p.f).data.length ≤ 140737488355328) (hcl : (bareF p.f).cid.length ≤ 140737488355328) (hal : (bareF p.f).acks.length ≤ 140737488355328) (k1 : p.f.kind ≤ 8) (cid : ((bareF p.f).id = 0)) (coff : ((bareF p.f).off = 0)) (cmax : ((bareF p.f).max = 0)) (ccode : ((bareF p.f).code = 0)) (cn : ((bareF p.f).n = 0)) (cfin : (bareF p.f).fin = false) (cdelay : ¬ ((bareF p.f).delay = 0)) : Calls Try.prog 12 #[.agg p.vals] w fun e w' => e = .returned (.bool false) ∧ Below w.heap.size w w' := by
  go_enter Try.func12, Try.ntmps12
  go_wp2_with (with_reducible refine stop_ldf ?_)
  refine Stop.out ?_
  refine wpList_loadF rfl rfl p h16 rfl (Blk.new w p.vals 36) ?_
  go_wp2_with (fail)
  refine (bare_any p _ h16).mono ?_
  rintro e w2 ⟨⟨q, hq, rfl⟩, hb2⟩
  go_wp2_with (with_reducible refine stop_stf ?_)
  refine Stop.out ?_
  have q16 : q.f.tok.length = 16 := by rw [hq]; exact bare_tok _ h16
  refine wpList_storeF rfl rfl q (fm0 0) q16 rfl rfl rfl (fm0_at rfl) ?_
  intro w4 hb4 o4
  have z2 := hb2.size
  simp only [World.size_alloc] at z2
  have hbox : FB w4 w.heap.size p := o4.blk (Blk.alloc (Blk.below (Blk.new w p.vals 36) hb2) _) (by omega)
  have bl4 : Below w.heap.size w w4 := below_onto ((below_on ((Below.refl _ _).alloc (Nat.le_refl _) _) hb2 (by simp)).alloc (by omega) _) o4 (by simp; omega) (by intro z hz h; omega)
  have BX := hbox.fc h16
  have OW := hb4.fc q16
  have b0 := BX.c0
  have y1 := OW.c1
  have y2 := OW.c2
  have y3 := OW.c3
  have y4 := OW.c4
  have y5 := OW.c5
  have y6 := OW.c6
  have y7 := OW.c7
  have y8 := OW.c8
  have y25 := OW.c25
  have y26 := OW.c26
  have HT := Lib.hid (fun j v h => hb4.tokAt q16 j v h)
  have HE := Lib.hid (fun j v h => hb4.ecnAt q16 j v h)
  have Q16 := Lib.hid q16
  rw [hq] at y1 y2 y3 y4 y5 y6 y7 y8 y25 y26 HT HE Q16
  have HX := Lib.hid hbox
  have H16 := Lib.hid h16
  clear hb4 o4 OW hbox h16 hq hb2 q16 BX z2
  have d1 : decide (30 < p.f.kind) = false := by simp; omega
  have d2 : decide (8 < p.f.kind) = false := by simp; omega
  rw [cid] at y1
  rw [coff] at y2
  rw [cmax] at y3
  rw [ccode] at y4
  rw [cn] at y5
  rw [cfin] at y6
  generalize (bareF p.f).id = gid at *
  generalize (bareF p.f).off = goff at *
  generalize (bareF p.f).max = gmax at *
  generalize (bareF p.f).code = gcode at *
  generalize (bareF p.f).n = gn at *
  generalize (bareF p.f).delay = gdelay at *
  generalize (bareF p.f).data.length = gdl at *
  generalize (bareF p.f).cid.length = gcl at *
  generalize (bareF p.f).acks.length = gal at *
  generalize p.f.kind = k at *
  have C4 := Lib.hid bl4
  go_upto_region 2 with (fail)
  simp only [List.append_eq, List.cons_append, List.nil_append]
  go_wp2_with (fail)
  go_returns
  exact ⟨rfl, C4.out⟩

set_option maxHeartbeats 4000000 in
set_option maxRecDepth 100000 in
theorem mayb1_ecn (p : FM) (w : World) (h16 : p.f.tok.length = 16) (hdl : (bareF p.f).data.length ≤ 140737488355328) (hcl : (bareF p.f).cid.length ≤ 140737488355328) (hal : (bareF p.f).acks.length ≤ 140737488355328) (k1 : p.f.kind ≤ 8) (cid : ((bareF p.f).id = 0)) (coff : ((bareF p.f).off = 0)) (cmax : ((bareF p.f).max = 0)) (ccode : ((bareF p.f).code = 0)) (cn : ((bareF p.f).n = 0)) (cfin : (bareF p.f).fin = false) (cdelay : ((bareF p.f).delay = 0)) (cecn : ¬ ([(bareF p.f).e0, (bareF p.f).e1, (bareF p.f).e2] = [0, 0, 0])) : Calls Try.prog 12 #[.agg p.vals] w fun e w' => e = .returned (.bool false) ∧ Below w.heap.size w w' := by
  go_enter Try.func12, Try.ntmps12
  go_wp2_with (with_reducible refine stop_ldf ?_)
  refine Stop.out ?_
  refine wpList_loadF rfl rfl p h16 rfl (Blk.new w p.vals 36) ?_
  go_wp2_with (fail)
  refine (bare_any p _ h16).mono ?_
  rintro e w2 ⟨⟨q, hq, rfl⟩, hb2⟩
  go_wp2_with (with_reducible refine stop_stf ?_)
  refine Stop.out ?_
  have q16 : q.f.tok.length = 16 := by rw [hq]; exact bare_tok _ h16
  refine wpList_storeF rfl rfl q (fm0 0) q16 rfl rfl rfl (fm0_at rfl) ?_
  intro w4 hb4 o4
  have z2 := hb2.size
  simp only [World.size_alloc] at z2
  have hbox : FB w4 w.heap.size p := o4.blk (Blk.alloc (Blk.below (Blk.new w p.vals 36) hb2) _) (by omega)
  have bl4 : Below w.heap.size w w4 := below_onto ((below_on ((Below.refl _ _).alloc (Nat.le_refl _) _) hb2 (by simp)).alloc (by omega) _) o4 (by simp; omega) (by intro z hz h; omega)
  have BX := hbox.fc h16
  have OW := hb4.fc q16
  have b0 := BX.c0
  have y1 := OW.c1
  have y2 := OW.c2
  have y3 := OW.c3
  have y4 := OW.c4
  have y5 := OW.c5
  have y6 := OW.c6
  have y7 := OW.c7
  have y8 := OW.c8
  have y25 := OW.c25
  have y26 := OW.c26
  have HT := Lib.hid (fun j v h => hb4.tokAt q16 j v h)
  have HE := Lib.hid (fun j v h => hb4.ecnAt q16 j v h)
  have Q16 := Lib.hid q16
  rw [hq] at y1 y2 y3 y4 y5 y6 y7 y8 y25 y26 HT HE Q16
  have HX := Lib.hid hbox
  have H16 := Lib.hid h16
  clear hb4 o4 OW hbox h16 hq hb2 q16 BX z2
  have d1 : decide (30 < p.f.kind) = false := by simp; omega
  have d2 : decide (8 < p.f.kind) = false := by simp; omega
  rw [cid] at y1
  rw [coff] at y2
  rw [cmax] at y3
  rw [ccode] at y4
  rw [cn] at y5
  rw [cfin] at y6
  rw [cdelay] at y26
  generalize (bareF p.f).id = gid at *
  generalize (bareF p.f).off = goff at *
  generalize (bareF p.f).max = gmax at *
  generalize (bareF p.f).code = gcode at *
  generalize (bareF p.f).n = gn at *
  generalize (bareF p.f).delay = gdelay at *
  generalize (bareF p.f).data.length = gdl at *
  generalize (bareF p.f).cid.length = gcl at *
  generalize (bareF p.f).acks.length = gal at *
  generalize p.f.kind = k at *
  have C4 := Lib.hid bl4
  have CECN := Lib.hid cecn
  clear cecn
  go_upto_region 2 with (fail)
  simp only [List.append_eq, List.cons_append, List.nil_append]
  go_wp2_with (with_reducible refine stop_lde ?_)
  refine Stop.out ?_
  refine wpList_loadPart [.int .u64 (bareF p.f).e0, .int .u64 (bareF p.f).e1, .int .u64 (bareF p.f).e2] Try.underlying34 rfl ecn_size rfl rfl rfl HE.out ?_
  go_wp2_with (with_reducible refine stop_nee ?_)
  refine Stop.out ?_
  obtain ⟨ti, hti⟩ := u64_info
  refine wpList_neArr .u64 Try.underlying34 hti u64_cells u64_plain Try.underlying30 rfl rfl rfl rfl [(bareF p.f).e0, (bareF p.f).e1, (bareF p.f).e2] [0, 0, 0] rfl rfl rfl rfl ?_ ?_
  · first | rfl | go_simp
  rw [decide_eq_false CECN.out]
  go_wp2_with (fail)
  go_returns
  exact ⟨rfl, C4.out⟩

set_option maxHeartbeats 4000000 in
set_option maxRecDepth 100000 in
theorem mayb1_tok (p : FM) (w : World) (h16 : p.f.tok.length = 16) (hdl : (bareF p.f).data.length ≤ 140737488355328) (hcl : (bareF p.f).cid.length ≤ 140737488355328) (hal : (bareF p.f).acks.length ≤ 140737488355328) (k1 : p.f.kind ≤ 8) (cid : ((bareF p.f).id = 0)) (coff : ((bareF p.f).off = 0)) (cmax : ((bareF p.f).max = 0)) (ccode : ((bareF p.f).code = 0)) (cn : ((bareF p.f).n = 0)) (cfin : (bareF p.f).fin = false) (cdelay : ((bareF p.f).delay = 0)) (cecn : ([(bareF p.f).e0, (bareF p.f).e1, (bareF p.f).e2] = [0, 0, 0])) (ctok : ¬ ((bareF p.f).tok = tok0)) : Calls Try.prog 12 #[.agg p.vals] w fun e w' => e = .returned (.bool false) ∧ Below w.heap.size w w' := by
  go_enter Try.func12, Try.ntmps12
  go_wp2_with (with_reducible refine stop_ldf ?_)
  refine Stop.out ?_
  refine wpList_loadF rfl rfl p h16 rfl (Blk.new w p.vals 36) ?_
  go_wp2_with (fail)
  refine (bare_any p _ h16).mono ?_
  rintro e w2 ⟨⟨q, hq, rfl⟩, hb2⟩
  go_wp2_with (with_reducible refine stop_stf ?_)
  refine Stop.out ?_
  have q16 : q.f.tok.length = 16 := by rw [hq]; exact bare_tok _ h16
  refine wpList_storeF rfl rfl q (fm0 0) q16 rfl rfl rfl (fm0_at rfl) ?_
  intro w4 hb4 o4
  have z2 := hb2.size
  simp only [World.size_alloc] at z2
  have hbox : FB w4 w.heap.size p := o4.blk (Blk.alloc (Blk.below (Blk.new w p.vals 36) hb2) _) (by omega)
  have bl4 : Below w.heap.size w w4 := below_onto ((below_on ((Below.refl _ _).alloc (Nat.le_refl _) _) hb2 (by simp)).alloc (by omega) _) o4 (by simp; omega) (by intro z hz h; omega)
  have BX := hbox.fc h16
  have OW := hb4.fc q16
  have b0 := BX.c0
  have y1 := OW.c1
  have y2 := OW.c2
  have y3 := OW.c3
  have y4 := OW.c4
  have y5 := OW.c5
  have y6 := OW.c6
  have y7 := OW.c7
  have y8 := OW.c8
  have y25 := OW.c25
  have y26 := OW.c26
  have HT := Lib.hid (fun j v h => hb4.tokAt q16 j v h)
  have HE := Lib.hid (fun j v h => hb4.ecnAt q16 j v h)
  have Q16 := Lib.hid q16
  rw [hq] at y1 y2 y3 y4 y5 y6 y7 y8 y25 y26 HT HE Q16
  have HX := Lib.hid hbox
  have H16 := Lib.hid h16
  clear hb4 o4 OW hbox h16 hq hb2 q16 BX z2
  have d1 : decide (30 < p.f.kind) = false := by simp; omega
  have d2 : decide (8 < p.f.kind) = false := by simp; omega
  rw [cid] at y1
  rw [coff] at y2
  rw [cmax] at y3
  rw [ccode] at y4
  rw [cn] at y5
  rw [cfin] at y6
  rw [cdelay] at y26
  generalize (bareF p.f).id = gid at *
  generalize (bareF p.f).off = goff at *
  generalize (bareF p.f).max = gmax at *
  generalize (bareF p.f).code = gcode at *
  generalize (bareF p.f).n = gn at *
  generalize (bareF p.f).delay = gdelay at *
  generalize (bareF p.f).data.length = gdl at *
  generalize (bareF p.f).cid.length = gcl at *
  generalize (bareF p.f).acks.length = gal at *
  generalize p.f.kind = k at *
  have C4 := Lib.hid bl4
  have CECN := Lib.hid cecn
  clear cecn
  have CTOK := Lib.hid ctok
  clear ctok
  go_upto_region 2 with (fail)
  simp only [List.append_eq, List.cons_append, List.nil_append]
  go_wp2_with (with_reducible refine stop_lde ?_)
  refine Stop.out ?_
  refine wpList_loadPart [.int .u64 (bareF p.f).e0, .int .u64 (bareF p.f).e1, .int .u64 (bareF p.f).e2] Try.underlying34 rfl ecn_size rfl rfl rfl HE.out ?_
  go_wp2_with (with_reducible refine stop_nee ?_)
  refine Stop.out ?_
  obtain ⟨ti, hti⟩ := u64_info
  refine wpList_neArr .u64 Try.underlying34 hti u64_cells u64_plain Try.underlying30 rfl rfl rfl rfl [(bareF p.f).e0, (bareF p.f).e1, (bareF p.f).e2] [0, 0, 0] rfl rfl rfl rfl ?_ ?_
  · first | rfl | go_simp
  rw [decide_eq_true CECN.out]
  go_wp2_with (with_reducible refine stop_ldt ?_)
  refine Stop.out ?_
  refine wpList_loadPart ((bareF p.f).tok.map (Value.int .u8)) Try.underlying32 rfl (by rw [List.length_map, Q16.out]; exact tok_size) rfl rfl rfl HT.out ?_
  go_wp2_with (with_reducible refine stop_net ?_)
  refine Stop.out ?_
  obtain ⟨tj, htj⟩ := u8_info
  refine wpList_neArr .u8 Try.underlying32 htj u8_cells u8_plain Try.underlying5 rfl rfl rfl rfl (bareF p.f).tok tok0 Q16.out rfl rfl rfl ?_ ?_
  · first | rfl | go_simp
  rw [decide_eq_false CTOK.out]
  go_wp2_with (fail)
  go_returns
  exact ⟨rfl, C4.out⟩

set_option maxHeartbeats 4000000 in
set_option maxRecDepth 100000 in
theorem mayb1_len (p : FM) (w : World) (h16 : p.f.tok.length = 16) (hdl : (bareF p.f).data.length ≤ 140737488355328) (hcl : (bareF p.f).cid.length ≤ 140737488355328) (hal : (bareF p.f).acks.length ≤ 140737488355328) (k1 : p.f.kind ≤ 8) (cid : ((bareF p.f).id = 0)) (coff : ((bareF p.f).off = 0)) (cmax : ((bareF p.f).max = 0)) (ccode : ((bareF p.f).code = 0)) (cn : ((bareF p.f).n = 0)) (cfin : (bareF p.f).fin = false) (cdelay : ((bareF p.f).delay = 0)) (cecn : ([(bareF p.f).e0, (bareF p.f).e1, (bareF p.f).e2] = [0, 0, 0])) (ctok : ((bareF p.f).tok = tok0)) (clen : ¬ ((bareF p.f).data.length + (bareF p.f).cid.length + (bareF p.f).acks.length = 0)) : Calls Try.prog 12 #[.agg p.vals] w fun e w' => e = .returned (.bool false) ∧ Below w.heap.size w w' := by
  go_enter Try.func12, Try.ntmps12
  go_wp2_with (with_reducible refine stop_ldf ?_)
  refine Stop.out ?_
  refine wpList_loadF rfl rfl p h16 rfl (Blk.new w p.vals 36) ?_
  go_wp2_with (fail)
  refine (bare_any p _ h16).mono ?_
  rintro e w2 ⟨⟨q, hq, rfl⟩, hb2⟩
  go_wp2_with (with_reducible refine stop_stf ?_)
  refine Stop.out ?_
  have q16 : q.f.tok.length = 16 := by rw [hq]; exact bare_tok _ h16
  refine wpList_storeF rfl rfl q (fm0 0) q16 rfl rfl rfl (fm0_at rfl) ?_
  intro w4 hb4 o4
  have z2 := hb2.size
  simp only [World.size_alloc] at z2
  have hbox : FB w4 w.heap.size p := o4.blk (Blk.alloc (Blk.below (Blk.new w p.vals 36) hb2) _) (by omega)
  have bl4 : Below w.heap.size w w4 := below_onto ((below_on ((Below.refl _ _).alloc (Nat.le_refl _) _) hb2 (by simp)).alloc (by omega) _) o4 (by simp; omega) (by intro z hz h; omega)
  have BX := hbox.fc h16
  have OW := hb4.fc q16
  have b0 := BX.c0
  have y1 := OW.c1
  have y2 := OW.c2
  have y3 := OW.c3
  have y4 := OW.c4
  have y5 := OW.c5
  have y6 := OW.c6
  have y7 := OW.c7
  have y8 := OW.c8
  have y25 := OW.c25
  have y26 := OW.c26
  have HT := Lib.hid (fun j v h => hb4.tokAt q16 j v h)
  have HE := Lib.hid (fun j v h => hb4.ecnAt q16 j v h)
  have Q16 := Lib.hid q16
  rw [hq] at y1 y2 y3 y4 y5 y6 y7 y8 y25 y26 HT HE Q16
  have HX := Lib.hid hbox
  have H16 := Lib.hid h16
  clear hb4 o4 OW hbox h16 hq hb2 q16 BX z2
  have d1 : decide (30 < p.f.kind) = false := by simp; omega
  have d2 : decide (8 < p.f.kind) = false := by simp; omega
  rw [cid] at y1
  rw [coff] at y2
  rw [cmax] at y3
  rw [ccode] at y4
  rw [cn] at y5
  rw [cfin] at y6
  rw [cdelay] at y26
  generalize (bareF p.f).id = gid at *
  generalize (bareF p.f).off = goff at *
  generalize (bareF p.f).max = gmax at *
  generalize (bareF p.f).code = gcode at *
  generalize (bareF p.f).n = gn at *
  generalize (bareF p.f).delay = gdelay at *
  generalize (bareF p.f).data.length = gdl at *
  generalize (bareF p.f).cid.length = gcl at *
  generalize (bareF p.f).acks.length = gal at *
  have dl : decide ((0 : Int) < (gdl : Int) + (gcl : Int) + (gal : Int)) = true := by simp only [decide_eq_true_eq]; omega
  clear clen
  generalize p.f.kind = k at *
  have C4 := Lib.hid bl4
  have CECN := Lib.hid cecn
  clear cecn
  have CTOK := Lib.hid ctok
  clear ctok
  go_upto_region 2 with (fail)
  simp only [List.append_eq, List.cons_append, List.nil_append]
  go_wp2_with (with_reducible refine stop_lde ?_)
  refine Stop.out ?_
  refine wpList_loadPart [.int .u64 (bareF p.f).e0, .int .u64 (bareF p.f).e1, .int .u64 (bareF p.f).e2] Try.underlying34 rfl ecn_size rfl rfl rfl HE.out ?_
  go_wp2_with (with_reducible refine stop_nee ?_)
  refine Stop.out ?_
  obtain ⟨ti, hti⟩ := u64_info
  refine wpList_neArr .u64 Try.underlying34 hti u64_cells u64_plain Try.underlying30 rfl rfl rfl rfl [(bareF p.f).e0, (bareF p.f).e1, (bareF p.f).e2] [0, 0, 0] rfl rfl rfl rfl ?_ ?_
  · first | rfl | go_simp
  rw [decide_eq_true CECN.out]
  go_wp2_with (with_reducible refine stop_ldt ?_)
  refine Stop.out ?_
  refine wpList_loadPart ((bareF p.f).tok.map (Value.int .u8)) Try.underlying32 rfl (by rw [List.length_map, Q16.out]; exact tok_size) rfl rfl rfl HT.out ?_
  go_wp2_with (with_reducible refine stop_net ?_)
  refine Stop.out ?_
  obtain ⟨tj, htj⟩ := u8_info
  refine wpList_neArr .u8 Try.underlying32 htj u8_cells u8_plain Try.underlying5 rfl rfl rfl rfl (bareF p.f).tok tok0 Q16.out rfl rfl rfl ?_ ?_
  · first | rfl | go_simp
  rw [decide_eq_true CTOK.out]
  go_wp2_with (fail)
  go_returns
  exact ⟨rfl, C4.out⟩

set_option maxHeartbeats 4000000 in
set_option maxRecDepth 100000 in
theorem mayb3_k (p : FM) (w : World) (h16 : p.f.tok.length = 16) (hdl : (bareF p.f).data.length ≤ 140737488355328) (hcl : (bareF p.f).cid.length ≤ 140737488355328) (hal : (bareF p.f).acks.length ≤ 140737488355328) (k4 : 30 < p.f.kind) : Calls Try.prog 12 #[.agg p.vals] w fun e w' => e = .returned (.bool false) ∧ Below w.heap.size w w' := by
  go_enter Try.func12, Try.ntmps12
  go_wp2_with (with_reducible refine stop_ldf ?_)
  refine Stop.out ?_
  refine wpList_loadF rfl rfl p h16 rfl (Blk.new w p.vals 36) ?_
  go_wp2_with (fail)
  refine (bare_any p _ h16).mono ?_
  rintro e w2 ⟨⟨q, hq, rfl⟩, hb2⟩
  go_wp2_with (with_reducible refine stop_stf ?_)
  refine Stop.out ?_
  have q16 : q.f.tok.length = 16 := by rw [hq]; exact bare_tok _ h16
  refine wpList_storeF rfl rfl q (fm0 0) q16 rfl rfl rfl (fm0_at rfl) ?_
  intro w4 hb4 o4
  have z2 := hb2.size
  simp only [World.size_alloc] at z2
  have hbox : FB w4 w.heap.size p := o4.blk (Blk.alloc (Blk.below (Blk.new w p.vals 36) hb2) _) (by omega)
  have bl4 : Below w.heap.size w w4 := below_onto ((below_on ((Below.refl _ _).alloc (Nat.le_refl _) _) hb2 (by simp)).alloc (by omega) _) o4 (by simp; omega) (by intro z hz h; omega)
  have BX := hbox.fc h16
  have OW := hb4.fc q16
  have b0 := BX.c0
  have y1 := OW.c1
  have y2 := OW.c2
  have y3 := OW.c3
  have y4 := OW.c4
  have y5 := OW.c5
  have y6 := OW.c6
  have y7 := OW.c7
  have y8 := OW.c8
  have y25 := OW.c25
  have y26 := OW.c26
  have HT := Lib.hid (fun j v h => hb4.tokAt q16 j v h)
  have HE := Lib.hid (fun j v h => hb4.ecnAt q16 j v h)
  have Q16 := Lib.hid q16
  rw [hq] at y1 y2 y3 y4 y5 y6 y7 y8 y25 y26 HT HE Q16
  have HX := Lib.hid hbox
  have H16 := Lib.hid h16
  clear hb4 o4 OW hbox h16 hq hb2 q16 BX z2
  have d1 : decide (30 < p.f.kind) = true := by simp; omega
  generalize (bareF p.f).id = gid at *
  generalize (bareF p.f).off = goff at *
  generalize (bareF p.f).max = gmax at *
  generalize (bareF p.f).code = gcode at *
  generalize (bareF p.f).n = gn at *
  generalize (bareF p.f).delay = gdelay at *
  generalize (bareF p.f).data.length = gdl at *
  generalize (bareF p.f).cid.length = gcl at *
  generalize (bareF p.f).acks.length = gal at *
  generalize p.f.kind = k at *
  have C4 := Lib.hid bl4
  go_upto_region 2 with (fail)
  simp only [List.append_eq, List.cons_append, List.nil_append]
  go_wp2_with (fail)
  go_returns
  exact ⟨rfl, C4.out⟩

set_option maxHeartbeats 4000000 in
set_option maxRecDepth 100000 in
theorem mayb4_k (p : FM) (w : World) (h16 : p.f.tok.length = 16) (hdl : (bareF p.f).data.length ≤ 140737488355328) (hcl : (bareF p.f).cid.length ≤ 140737488355328) (hal : (bareF p.f).acks.length ≤ 140737488355328) (k5 : 8 < p.f.kind) (k6 : p.f.kind < 16) : Calls Try.prog 12 #[.agg p.vals] w fun e w' => e = .returned (.bool false) ∧ Below w.heap.size w w' := by
  go_enter Try.func12, Try.ntmps12
  go_wp2_with (with_reducible refine stop_ldf ?_)
  refine Stop.out ?_
  refine wpList_loadF rfl rfl p h16 rfl (Blk.new w p.vals 36) ?_
  go_wp2_with (fail)
  refine (bare_any p _ h16).mono ?_
  rintro e w2 ⟨⟨q, hq, rfl⟩, hb2⟩
  go_wp2_with (with_reducible refine stop_stf ?_)
  refine Stop.out ?_
  have q16 : q.f.tok.length = 16 := by rw [hq]; exact bare_tok _ h16
  refine wpList_storeF rfl rfl q (fm0 0) q16 rfl rfl rfl (fm0_at rfl) ?_
  intro w4 hb4 o4
  have z2 := hb2.size
  simp only [World.size_alloc] at z2
  have hbox : FB w4 w.heap.size p := o4.blk (Blk.alloc (Blk.below (Blk.new w p.vals 36) hb2) _) (by omega)
  have bl4 : Below w.heap.size w w4 := below_onto ((below_on ((Below.refl _ _).alloc (Nat.le_refl _) _) hb2 (by simp)).alloc (by omega) _) o4 (by simp; omega) (by intro z hz h; omega)
  have BX := hbox.fc h16
  have OW := hb4.fc q16
  have b0 := BX.c0
  have y1 := OW.c1
  have y2 := OW.c2
  have y3 := OW.c3
  have y4 := OW.c4
  have y5 := OW.c5
  have y6 := OW.c6
  have y7 := OW.c7
  have y8 := OW.c8
  have y25 := OW.c25
  have y26 := OW.c26
  have HT := Lib.hid (fun j v h => hb4.tokAt q16 j v h)
  have HE := Lib.hid (fun j v h => hb4.ecnAt q16 j v h)
  have Q16 := Lib.hid q16
  rw [hq] at y1 y2 y3 y4 y5 y6 y7 y8 y25 y26 HT HE Q16
  have HX := Lib.hid hbox
  have H16 := Lib.hid h16
  clear hb4 o4 OW hbox h16 hq hb2 q16 BX z2
  have d1 : decide (30 < p.f.kind) = false := by simp; omega
  have d2 : decide (8 < p.f.kind) = true := by simp; omega
  have d3 : decide (p.f.kind < 16) = true := by simp; omega
  generalize (bareF p.f).id = gid at *
  generalize (bareF p.f).off = goff at *
  generalize (bareF p.f).max = gmax at *
  generalize (bareF p.f).code = gcode at *
  generalize (bareF p.f).n = gn at *
  generalize (bareF p.f).delay = gdelay at *
  generalize (bareF p.f).data.length = gdl at *
  generalize (bareF p.f).cid.length = gcl at *
  generalize (bareF p.f).acks.length = gal at *
  generalize p.f.kind = k at *
  have C4 := Lib.hid bl4
  go_upto_region 2 with (fail)
  simp only [List.append_eq, List.cons_append, List.nil_append]
  go_wp2_with (fail)
  go_returns
  exact ⟨rfl, C4.out⟩

end Frm
end Go.Proofs.Ytcpjehgoeibbeaa

/- May: what is no frame (written by gen_frw6.py). -/
namespace Go.Proofs.Ytcpjehgoeibbeaa
open Go.RowKit
set_option linter.unusedVariables false
namespace Frm
open Var

set_option maxHeartbeats 4000000 in
set_option maxRecDepth 100000 in
theorem mayb2_id (p : FM) (w : World) (h16 : p.f.tok.length = 16) (hdl : (bareF p.f).data.length ≤ 140737488355328) (hcl : (bareF p.f).cid.length ≤ 140737488355328) (hal : (bareF p.f).acks.length ≤ 140737488355328) (k2 : 16 ≤ p.f.kind) (k3 : p.f.kind ≤ 30) (cid : ¬ ((bareF p.f).id = 0)) : Calls Try.prog 12 #[.agg p.vals] w fun e w' => e = .returned (.bool false) ∧ Below w.heap.size w w' := by
  go_enter Try.func12, Try.ntmps12
  go_wp2_with (with_reducible refine stop_ldf ?_)
  refine Stop.out ?_
  refine wpList_loadF rfl rfl p h16 rfl (Blk.new w p.vals 36) ?_
  go_wp2_with (fail)
  refine (bare_any p _ h16).mono ?_
  rintro e w2 ⟨⟨q, hq, rfl⟩, hb2⟩
  go_wp2_with (with_reducible refine stop_stf ?_)
  refine Stop.out ?_
  have q16 : q.f.tok.length = 16 := by rw [hq]; exact bare_tok _ h16
  refine wpList_storeF rfl rfl q (fm0 0) q16 rfl rfl rfl (fm0_at rfl) ?_
  intro w4 hb4 o4
  have z2 := hb2.size
  simp only [World.size_alloc] at z2
  have hbox : FB w4 w.heap.size p := o4.blk (Blk.alloc (Blk.below (Blk.new w p.vals 36) hb2) _) (by omega)
  have bl4 : Below w.heap.size w w4 := below_onto ((below_on ((Below.refl _ _).alloc (Nat.le_refl _) _) hb2 (by simp)).alloc (by omega) _) o4 (by simp; omega) (by intro z hz h; omega)
  have BX := hbox.fc h16
  have OW := hb4.fc q16
  have b0 := BX.c0
  have y1 := OW.c1
  have y2 := OW.c2
  have y3 := OW.c3
  have y4 := OW.c4
  have y5 := OW.c5
  have y6 := OW.c6
  have y7 := OW.c7
  have y8 := OW.c8
  have y25 := OW.c25
  have y26 := OW.c26
  have HT := Lib.hid (fun j v h => hb4.tokAt q16 j v h)
  have HE := Lib.hid (fun j v h => hb4.ecnAt q16 j v h)
  have Q16 := Lib.hid q16
  rw [hq] at y1 y2 y3 y4 y5 y6 y7 y8 y25 y26 HT HE Q16
  have HX := Lib.hid hbox
  have H16 := Lib.hid h16
  clear hb4 o4 OW hbox h16 hq hb2 q16 BX z2
  have d1 : decide (30 < p.f.kind) = false := by simp; omega
  have d2 : decide (8 < p.f.kind) = true := by simp; omega
  have d3 : decide (p.f.kind < 16) = false := by simp; omega
  generalize (bareF p.f).id = gid at *
  generalize (bareF p.f).off = goff at *
  generalize (bareF p.f).max = gmax at *
  generalize (bareF p.f).code = gcode at *
  generalize (bareF p.f).n = gn at *
  generalize (bareF p.f).delay = gdelay at *
  generalize (bareF p.f).data.length = gdl at *
  generalize (bareF p.f).cid.length = gcl at *
  generalize (bareF p.f).acks.length = gal at *
  generalize p.f.kind = k at *
  have C4 := Lib.hid bl4
  go_upto_region 2 with (fail)
  simp only [List.append_eq, List.cons_append, List.nil_append]
  go_wp2_with (fail)
  go_returns
  exact ⟨rfl, C4.out⟩

set_option maxHeartbeats 4000000 in
set_option maxRecDepth 100000 in
theorem mayb2_off (p : FM) (w : World) (h16 : p.f.tok.length = 16) (hdl : (bareF p.f).data.length ≤ 140737488355328) (hcl : (bareF p.f).cid.length ≤ 140737488355328) (hal : (bareF p.f).acks.length ≤ 140737488355328) (k2 : 16 ≤ p.f.kind) (k3 : p.f.kind ≤ 30) (cid : ((bareF p.f).id = 0)) (coff : ¬ ((bareF p.f).off = 0)) : Calls Try.prog 12 #[.agg p.vals] w fun e w' => e = .returned (.bool false) ∧ Below w.heap.size w w' := by
  go_enter Try.func12, Try.ntmps12
  go_wp2_with (with_reducible refine stop_ldf ?_)
  refine Stop.out ?_
  refine wpList_loadF rfl rfl p h16 rfl (Blk.new w p.vals 36) ?_
  go_wp2_with (fail)
  refine (bare_any p _ h16).mono ?_
  rintro e w2 ⟨⟨q, hq, rfl⟩, hb2⟩
  go_wp2_with (with_reducible refine stop_stf ?_)
  refine Stop.out ?_
  have q16 : q.f.tok.length = 16 := by rw [hq]; exact bare_tok _ h16
  refine wpList_storeF rfl rfl q (fm0 0) q16 rfl rfl rfl (fm0_at rfl) ?_
  intro w4 hb4 o4
  have z2 := hb2.size
  simp only [World.size_alloc] at z2
  have hbox : FB w4 w.heap.size p := o4.blk (Blk.alloc (Blk.below (Blk.new w p.vals 36) hb2) _) (by omega)
  have bl4 : Below w.heap.size w w4 := below_onto ((below_on ((Below.refl _ _).alloc (Nat.le_refl _) _) hb2 (by simp)).alloc (by omega) _) o4 (by simp; omega) (by intro z hz h; omega)
  have BX := hbox.fc h16
  have OW := hb4.fc q16
  have b0 := BX.c0
  have y1 := OW.c1
  have y2 := OW.c2
  have y3 := OW.c3
  have y4 := OW.c4
  have y5 := OW.c5
  have y6 := OW.c6
  have y7 := OW.c7
  have y8 := OW.c8
  have y25 := OW.c25
  have y26 := OW.c26
  have HT := Lib.hid (fun j v h => hb4.tokAt q16 j v h)
  have HE := Lib.hid (fun j v h => hb4.ecnAt q16 j v h)
  have Q16 := Lib.hid q16
  rw [hq] at y1 y2 y3 y4 y5 y6 y7 y8 y25 y26 HT HE Q16
  have HX := Lib.hid hbox
  have H16 := Lib.hid h16
  clear hb4 o4 OW hbox h16 hq hb2 q16 BX z2
  have d1 : decide (30 < p.f.kind) = false := by simp; omega
  have d2 : decide (8 < p.f.kind) = true := by simp; omega
  have d3 : decide (p.f.kind < 16) = false := by simp; omega
  rw [cid] at y1
  generalize (bareF p.f).id = gid at *
  generalize (bareF p.f).off = goff at *
  generalize (bareF p.f).max = gmax at *
  generalize (bareF p.f).code = gcode at *
  generalize (bareF p.f).n = gn at *
  generalize (bareF p.f).delay = gdelay at *
  generalize (bareF p.f).data.length = gdl at *
  generalize (bareF p.f).cid.length = gcl at *
  generalize (bareF p.f).acks.length = gal at *
  generalize p.f.kind = k at *
  have C4 := Lib.hid bl4
  go_upto_region 2 with (fail)
  simp only [List.append_eq, List.cons_append, List.nil_append]
  go_wp2_with (fail)
  go_returns
  exact ⟨rfl, C4.out⟩

set_option maxHeartbeats 4000000 in
set_option maxRecDepth 100000 in
theorem mayb2_max (p : FM) (w : World) (h16 : p.f.tok.length = 16) (hdl : (bareF p.f).data.length ≤ 140737488355328) (hcl : (bareF p.f).cid.length ≤ 140737488355328) (hal : (bareF p.f).acks.length ≤ 140737488355328) (k2 : 16 ≤ p.f.kind) (k3 : p.f.kind ≤ 30) (cid : ((bareF p.f).id = 0)) (coff : ((bareF p.f).off = 0)) (cmax : ¬ ((bareF p.f).max = 0)) : Calls Try.prog 12 #[.agg p.vals] w fun e w' => e = .returned (.bool false) ∧ Below w.heap.size w w' := by
  go_enter Try.func12, Try.ntmps12
  go_wp2_with (with_reducible refine stop_ldf ?_)
  refine Stop.out ?_
  refine wpList_loadF rfl rfl p h16 rfl (Blk.new w p.vals 36) ?_
  go_wp2_with (fail)
  refine (bare_any p _ h16).mono ?_
  rintro e w2 ⟨⟨q, hq, rfl⟩, hb2⟩
  go_wp2_with (with_reducible refine stop_stf ?_)
  refine Stop.out ?_
  have q16 : q.f.tok.length = 16 := by rw [hq]; exact bare_tok _ h16
  refine wpList_storeF rfl rfl q (fm0 0) q16 rfl rfl rfl (fm0_at rfl) ?_
  intro w4 hb4 o4
  have z2 := hb2.size
  simp only [World.size_alloc] at z2
  have hbox : FB w4 w.heap.size p := o4.blk (Blk.alloc (Blk.below (Blk.new w p.vals 36) hb2) _) (by omega)
  have bl4 : Below w.heap.size w w4 := below_onto ((below_on ((Below.refl _ _).alloc (Nat.le_refl _) _) hb2 (by simp)).alloc (by omega) _) o4 (by simp; omega) (by intro z hz h; omega)
  have BX := hbox.fc h16
  have OW := hb4.fc q16
  have b0 := BX.c0
  have y1 := OW.c1
  have y2 := OW.c2
  have y3 := OW.c3
  have y4 := OW.c4
  have y5 := OW.c5
  have y6 := OW.c6
  have y7 := OW.c7
  have y8 := OW.c8
  have y25 := OW.c25
  have y26 := OW.c26
  have HT := Lib.hid (fun j v h => hb4.tokAt q16 j v h)
  have HE := Lib.hid (fun j v h => hb4.ecnAt q16 j v h)
  have Q16 := Lib.hid q16
  rw [hq] at y1 y2 y3 y4 y5 y6 y7 y8 y25 y26 HT HE Q16
  have HX := Lib.hid hbox
  have H16 := Lib.hid h16
  clear hb4 o4 OW hbox h16 hq hb2 q16 BX z2
  have d1 : decide (30 < p.f.kind) = false := by simp; omega
  have d2 : decide (8 < p.f.kind) = true := by simp; omega
  have d3 : decide (p.f.kind < 16) = false := by simp; omega
  rw [cid] at y1
  rw [coff] at y2
  generalize (bareF p.f).id = gid at *
  generalize (bareF p.f).off = goff at *
  generalize (bareF p.f).max = gmax at *
  generalize (bareF p.f).code = gcode at *
  generalize (bareF p.f).n = gn at *
  generalize (bareF p.f).delay = gdelay at *
  generalize (bareF p.f).data.length = gdl at *
  generalize (bareF p.f).cid.length = gcl at *
  generalize (bareF p.f).acks.length = gal at *
  generalize p.f.kind = k at *
  have C4 := Lib.hid bl4
  go_upto_region 2 with (fail)
  simp only [List.append_eq, List.cons_append, List.nil_append]
  go_wp2_with (fail)
  go_returns
  exact ⟨rfl, C4.out⟩

set_option maxHeartbeats 4000000 in
set_option maxRecDepth 100000 in
theorem mayb2_code (p : FM) (w : World) (h16 : p.f.tok.length = 16) (hdl : (bareF p.f).data.length ≤ 140737488355328) (hcl : (bareF p.f).cid.length ≤ 140737488355328) (hal : (bareF p.f).acks.length ≤ 140737488355328) (k2 : 16 ≤ p.f.kind) (k3 : p.f.kind ≤ 30) (cid : ((bareF p.f).id = 0)) (coff : ((bareF p.f).off = 0)) (cmax : ((bareF p.f).max = 0)) (ccode : ¬ ((bareF p.f).code = 0)) : Calls Try.prog 12 #[.agg p.vals] w fun e w' => e = .returned (.bool false) ∧ Below w.heap.size w w' := by
  go_enter Try.func12, Try.ntmps12
  go_wp2_with (with_reducible refine stop_ldf ?_)
  refine Stop.out ?_
  refine wpList_loadF rfl rfl p h16 rfl (Blk.new w p.vals 36) ?_
  go_wp2_with (fail)
  refine (bare_any p _ h16).mono ?_
  rintro e w2 ⟨⟨q, hq, rfl⟩, hb2⟩
  go_wp2_with (with_reducible refine stop_stf ?_)
  refine Stop.out ?_
  have q16 : q.f.tok.length = 16 := by rw [hq]; exact bare_tok _ h16
  refine wpList_storeF rfl rfl q (fm0 0) q16 rfl rfl rfl (fm0_at rfl) ?_
  intro w4 hb4 o4
  have z2 := hb2.size
  simp only [World.size_alloc] at z2
  have hbox : FB w4 w.heap.size p := o4.blk (Blk.alloc (Blk.below (Blk.new w p.vals 36) hb2) _) (by omega)
  have bl4 : Below w.heap.size w w4 := below_onto ((below_on ((Below.refl _ _).alloc (Nat.le_refl _) _) hb2 (by simp)).alloc (by omega) _) o4 (by simp; omega) (by intro z hz h; omega)
  have BX := hbox.fc h16
  have OW := hb4.fc q16
  have b0 := BX.c0
  have y1 := OW.c1
  have y2 := OW.c2
  have y3 := OW.c3
  have y4 := OW.c4
  have y5 := OW.c5
  have y6 := OW.c6
  have y7 := OW.c7
  have y8 := OW.c8
  have y25 := OW.c25
  have y26 := OW.c26
  have HT := Lib.hid (fun j v h => hb4.tokAt q16 j v h)
  have HE := Lib.hid (fun j v h => hb4.ecnAt q16 j v h)
  have Q16 := Lib.hid q16
  rw [hq] at y1 y2 y3 y4 y5 y6 y7 y8 y25 y26 HT HE Q16
  have HX := Lib.hid hbox
  have H16 := Lib.hid h16
  clear hb4 o4 OW hbox h16 hq hb2 q16 BX z2
  have d1 : decide (30 < p.f.kind) = false := by simp; omega
  have d2 : decide (8 < p.f.kind) = true := by simp; omega
  have d3 : decide (p.f.kind < 16) = false := by simp; omega
  rw [cid] at y1
  rw [coff] at y2
  rw [cmax] at y3
  generalize (bareF p.f).id = gid at *
  generalize (bareF p.f).off = goff at *
  generalize (bareF p.f).max = gmax at *
  generalize (bareF p.f).code = gcode at *
  generalize (bareF p.f).n = gn at *
  generalize (bareF p.f).delay = gdelay at *
  generalize (bareF p.f).data.length = gdl at *
  generalize (bareF p.f).cid.length = gcl at *
  generalize (bareF p.f).acks.length = gal at *
  generalize p.f.kind = k at *
  have C4 := Lib.hid bl4
  go_upto_region 2 with (fail)
  simp only [List.append_eq, List.cons_append, List.nil_append]
  go_wp2_with (fail)
  go_returns
  exact ⟨rfl, C4.out⟩

set_option maxHeartbeats 4000000 in
set_option maxRecDepth 100000 in
theorem mayb2_n (p : FM) (w : World) (h16 : p.f.tok.length = 16) (hdl : (bareF p.f).data.length ≤ 140737488355328) (hcl : (bareF p.f).cid.length ≤ 140737488355328) (hal : (bareF p.f).acks.length ≤ 140737488355328) (k2 : 16 ≤ p.f.kind) (k3 : p.f.kind ≤ 30) (cid : ((bareF p.f).id = 0)) (coff : ((bareF p.f).off = 0)) (cmax : ((bareF p.f).max = 0)) (ccode : ((bareF p.f).code = 0)) (cn : ¬ ((bareF p.f).n = 0)) : Calls Try.prog 12 #[.agg p.vals] w fun e w' => e = .returned (.bool false) ∧ Below w.heap.size w w' := by
  go_enter Try.func12, Try.ntmps12
  go_wp2_with (with_reducible refine stop_ldf ?_)
  refine Stop.out ?_
  refine wpList_loadF rfl rfl p h16 rfl (Blk.new w p.vals 36) ?_
  go_wp2_with (fail)
  refine (bare_any p _ h16).mono ?_
  rintro e w2 ⟨⟨q, hq, rfl⟩, hb2⟩
  go_wp2_with (with_reducible refine stop_stf ?_)
  refine Stop.out ?_
  have q16 : q.f.tok.length = 16 := by rw [hq]; exact bare_tok _ h16
  refine wpList_storeF rfl rfl q (fm0 0) q16 rfl rfl rfl (fm0_at rfl) ?_
  intro w4 hb4 o4
  have z2 := hb2.size
  simp only [World.size_alloc] at z2
  have hbox : FB w4 w.heap.size p := o4.blk (Blk.alloc (Blk.below (Blk.new w p.vals 36) hb2) _) (by omega)
  have bl4 : Below w.heap.size w w4 := below_onto ((below_on ((Below.refl _ _).alloc (Nat.le_refl _) _) hb2 (by simp)).alloc (by omega) _) o4 (by simp; omega) (by intro z hz h; omega)
  have BX := hbox.fc h16
  have OW := hb4.fc q16
  have b0 := BX.c0
  have y1 := OW.c1
  have y2 := OW.c2
  have y3 := OW.c3
  have y4 := OW.c4
  have y5 := OW.c5
  have y6 := OW.c6
  have y7 := OW.c7
  have y8 := OW.c8
  have y25 := OW.c25
  have y26 := OW.c26
  have HT := Lib.hid (fun j v h => hb4.tokAt q16 j v h)
  have HE := Lib.hid (fun j v h => hb4.ecnAt q16 j v h)
  have Q16 := Lib.hid q16
  rw [hq] at y1 y2 y3 y4 y5 y6 y7 y8 y25 y26 HT HE Q16
  have HX := Lib.hid hbox
  have H16 := Lib.hid h16
  clear hb4 o4 OW hbox h16 hq hb2 q16 BX z2
  have d1 : decide (30 < p.f.kind) = false := by simp; omega
  have d2 : decide (8 < p.f.kind) = true := by simp; omega
  have d3 : decide (p.f.kind < 16) = false := by simp; omega
  rw [cid] at y1
  rw [coff] at y2
  rw [cmax] at y3
  rw [ccode] at y4
  generalize (bareF p.f).id = gid at *
  generalize (bareF p.f).off = goff at *
  generalize (bareF p.f).max = gmax at *
  generalize (bareF p.f).code = gcode at *
  generalize (bareF p.f).n = gn at *
  generalize (bareF p.f).delay = gdelay at *
  generalize (bareF p.f).data.length = gdl at *
  generalize (bareF p.f).cid.length = gcl at *
  generalize (bareF p.f).acks.length = gal at *
  generalize p.f.kind = k at *
  have C4 := Lib.hid bl4
  go_upto_region 2 with (fail)
  simp only [List.append_eq, List.cons_append, List.nil_append]
  go_wp2_with (fail)
  go_returns
  exact ⟨rfl, C4.out⟩

set_option maxHeartbeats 4000000 in
set_option maxRecDepth 100000 in
theorem mayb2_fin (p : FM) (w : World) (h16 : p.f.tok.length = 16) (hdl : (bareF p.f).data.length ≤ 140737488355328) (hcl : (bareF p.f).cid.length ≤ 140737488355328) (hal : (bareF p.f).acks.length ≤ 140737488355328) (k2 : 16 ≤ p.f.kind) (k3 : p.f.kind ≤ 30) (cid : ((bareF p.f).id = 0)) (coff : ((bareF p.f).off = 0)) (cmax : ((bareF p.f).max = 0)) (ccode : ((bareF p.f).code = 0)) (cn : ((bareF p.f).n = 0)) (cfin : (bareF p.f).fin = true) : Calls Try.prog 12 #[.agg p.vals] w fun e w' => e = .returned (.bool false) ∧ Below w.heap.size w w' := by
  go_enter Try.func12, Try.ntmps12
  go_wp2_with (with_reducible refine stop_ldf ?_)
  refine Stop.out ?_
  refine wpList_loadF rfl rfl p h16 rfl (Blk.new w p.vals 36) ?_
  go_wp2_with (fail)
  refine (bare_any p _ h16).mono ?_
  rintro e w2 ⟨⟨q, hq, rfl⟩, hb2⟩
  go_wp2_with (with_reducible refine stop_stf ?_)
  refine Stop.out ?_
  have q16 : q.f.tok.length = 16 := by rw [hq]; exact bare_tok _ h16
  refine wpList_storeF rfl rfl q (fm0 0) q16 rfl rfl rfl (fm0_at rfl) ?_
  intro w4 hb4 o4
  have z2 := hb2.size
  simp only [World.size_alloc] at z2
  have hbox : FB w4 w.heap.size p := o4.blk (Blk.alloc (Blk.below (Blk.new w p.vals 36) hb2) _) (by omega)
  have bl4 : Below w.heap.size w w4 := below_onto ((below_on ((Below.refl _ _).alloc (Nat.le_refl _) _) hb2 (by simp)).alloc (by omega) _) o4 (by simp; omega) (by intro z hz h; omega)
  have BX := hbox.fc h16
  have OW := hb4.fc q16
  have b0 := BX.c0
  have y1 := OW.c1
  have y2 := OW.c2
  have y3 := OW.c3
  have y4 := OW.c4
  have y5 := OW.c5
  have y6 := OW.c6
  have y7 := OW.c7
  have y8 := OW.c8
  have y25 := OW.c25
  have y26 := OW.c26
  have HT := Lib.hid (fun j v h => hb4.tokAt q16 j v h)
  have HE := Lib.hid (fun j v h => hb4.ecnAt q16 j v h)
  have Q16 := Lib.hid q16
  rw [hq] at y1 y2 y3 y4 y5 y6 y7 y8 y25 y26 HT HE Q16
  have HX := Lib.hid hbox
  have H16 := Lib.hid h16
  clear hb4 o4 OW hbox h16 hq hb2 q16 BX z2
  have d1 : decide (30 < p.f.kind) = false := by simp; omega
  have d2 : decide (8 < p.f.kind) = true := by simp; omega
  have d3 : decide (p.f.kind < 16) = false := by simp; omega
  rw [cid] at y1
  rw [coff] at y2
  rw [cmax] at y3
  rw [ccode] at y4
  rw [cn] at y5
  rw [cfin] at y6
  generalize (bareF p.f).id = gid at *
  generalize (bareF p.f).off = goff at *
  generalize (bareF p.f).max = gmax at *
  generalize (bareF p.f).code = gcode at *
  generalize (bareF p.f).n = gn at *
  generalize (bareF p.f).delay = gdelay at *
  generalize (bareF p.f).data.length = gdl at *
  generalize (bareF p.f).cid.length = gcl at *
  generalize (bareF p.f).acks.length = gal at *
  generalize p.f.kind = k at *
  have C4 := Lib.hid bl4
  go_upto_region 2 with (fail)
  simp only [List.append_eq, List.cons_append, List.nil_append]
  go_wp2_with (fail)
  go_returns
  exact ⟨rfl, C4.out⟩

set_option maxHeartbeats 4000000 in
set_option maxRecDepth 100000 in
theorem mayb2_delay (p : FM) (w : World) (h16 : p.f.tok.length = 16) (hdl : (bareF p.f).data.length ≤ 140737488355328) (hcl : (bareF p.f).cid.length ≤ 140737488355328) (hal : (bareF p.f).acks.length ≤ 140737488355328) (k2 : 16 ≤ p.f.kind) (k3 : p.f.kind ≤ 30) (cid : ((bareF p.f).id = 0)) (coff : ((bareF p.f).off = 0)) (cmax : ((bareF p.f).max = 0)) (ccode : ((bareF p.f).code = 0)) (cn : ((bareF p.f).n = 0)) (cfin : (bareF p.f).fin = false) (cdelay : ¬ ((bareF p.f).delay = 0)) : Calls Try.prog 12 #[.agg p.vals] w fun e w' => e = .returned (.bool false) ∧ Below w.heap.size w w' := by
  go_enter Try.func12, Try.ntmps12
  go_wp2_with (with_reducible refine stop_ldf ?_)
  refine Stop.out ?_
  refine wpList_loadF rfl rfl p h16 rfl (Blk.new w p.vals 36) ?_
  go_wp2_with (fail)
  refine (bare_any p _ h16).mono ?_
  rintro e w2 ⟨⟨q, hq, rfl⟩, hb2⟩
  go_wp2_with (with_reducible refine stop_stf ?_)
  refine Stop.out ?_
  have q16 : q.f.tok.length = 16 := by rw [hq]; exact bare_tok _ h16
  refine wpList_storeF rfl rfl q (fm0 0) q16 rfl rfl rfl (fm0_at rfl) ?_
  intro w4 hb4 o4
  have z2 := hb2.size
  simp only [World.size_alloc] at z2
  have hbox : FB w4 w.heap.size p := o4.blk (Blk.alloc (Blk.below (Blk.new w p.vals 36) hb2) _) (by omega)
  have bl4 : Below w.heap.size w w4 := below_onto ((below_on ((Below.refl _ _).alloc (Nat.le_refl _) _) hb2 (by simp)).alloc (by omega) _) o4 (by simp; omega) (by intro z hz h; omega)
  have BX := hbox.fc h16
  have OW := hb4.fc q16
  have b0 := BX.c0
  have y1 := OW.c1
  have y2 := OW.c2
  have y3 := OW.c3
  have y4 := OW.c4
  have y5 := OW.c5
  have y6 := OW.c6
  have y7 := OW.c7
  have y8 := OW.c8
  have y25 := OW.c25
  have y26 := OW.c26
  have HT := Lib.hid (fun j v h => hb4.tokAt q16 j v h)
  have HE := Lib.hid (fun j v h => hb4.ecnAt q16 j v h)
  have Q16 := Lib.hid q16
  rw [hq] at y1 y2 y3 y4 y5 y6 y7 y8 y25 y26 HT HE Q16
  have HX := Lib.hid hbox
  have H16 := Lib.hid h16
  clear hb4 o4 OW hbox h16 hq hb2 q16 BX z2
  have d1 : decide (30 < p.f.kind) = false := by simp; omega
  have d2 : decide (8 < p.f.kind) = true := by simp; omega
  have d3 : decide (p.f.kind < 16) = false := by simp; omega
  rw [cid] at y1
  rw [coff] at y2
  rw [cmax] at y3
  rw [ccode] at y4
  rw [cn] at y5
  rw [cfin] at y6
  generalize (bareF p.f).id = gid at *
  generalize (bareF p.f).off = goff at *
  generalize (bareF p.f).max = gmax at *
  generalize (bareF p.f).code = gcode at *
  generalize (bareF p.f).n = gn at *
  generalize (bareF p.f).delay = gdelay at *
  generalize (bareF p.f).data.length = gdl at *
  generalize (bareF p.f).cid.length = gcl at *
  generalize (bareF p.f).acks.length = gal at *
  generalize p.f.kind = k at *
  have C4 := Lib.hid bl4
  go_upto_region 2 with (fail)
  simp only [List.append_eq, List.cons_append, List.nil_append]
  go_wp2_with (fail)
  go_returns
  exact ⟨rfl, C4.out⟩

set_option maxHeartbeats 4000000 in
set_option maxRecDepth 100000 in
theorem mayb2_ecn (p : FM) (w : World) (h16 : p.f.tok.length = 16) (hdl : (bareF p.f).data.length ≤ 140737488355328) (hcl : (bareF p.f).cid.length ≤ 140737488355328) (hal : (bareF p.f).acks.length ≤ 140737488355328) (k2 : 16 ≤ p.f.kind) (k3 : p.f.kind ≤ 30) (cid : ((bareF p.f).id = 0)) (coff : ((bareF p.f).off = 0)) (cmax : ((bareF p.f).max = 0)) (ccode : ((bareF p.f).code = 0)) (cn : ((bareF p.f).n = 0)) (cfin : (bareF p.f).fin = false) (cdelay : ((bareF p.f).delay = 0)) (cecn : ¬ ([(bareF p.f).e0, (bareF p.f).e1, (bareF p.f).e2] = [0, 0, 0])) : Calls Try.prog 12 #[.agg p.vals] w fun e w' => e = .returned (.bool false) ∧ Below w.heap.size w w' := by
  go_enter Try.func12, Try.ntmps12
  go_wp2_with (with_reducible refine stop_ldf ?_)
  refine Stop.out ?_
  refine wpList_loadF rfl rfl p h16 rfl (Blk.new w p.vals 36) ?_
  go_wp2_with (fail)
  refine (bare_any p _ h16).mono ?_
  rintro e w2 ⟨⟨q, hq, rfl⟩, hb2⟩
  go_wp2_with (with_reducible refine stop_stf ?_)
  refine Stop.out ?_
  have q16 : q.f.tok.length = 16 := by rw [hq]; exact bare_tok _ h16
  refine wpList_storeF rfl rfl q (fm0 0) q16 rfl rfl rfl (fm0_at rfl) ?_
  intro w4 hb4 o4
  have z2 := hb2.size
  simp only [World.size_alloc] at z2
  have hbox : FB w4 w.heap.size p := o4.blk (Blk.alloc (Blk.below (Blk.new w p.vals 36) hb2) _) (by omega)
  have bl4 : Below w.heap.size w w4 := below_onto ((below_on ((Below.refl _ _).alloc (Nat.le_refl _) _) hb2 (by simp)).alloc (by omega) _) o4 (by simp; omega) (by intro z hz h; omega)
  have BX := hbox.fc h16
  have OW := hb4.fc q16
  have b0 := BX.c0
  have y1 := OW.c1
  have y2 := OW.c2
  have y3 := OW.c3
  have y4 := OW.c4
  have y5 := OW.c5
  have y6 := OW.c6
  have y7 := OW.c7
  have y8 := OW.c8
  have y25 := OW.c25
  have y26 := OW.c26
  have HT := Lib.hid (fun j v h => hb4.tokAt q16 j v h)
  have HE := Lib.hid (fun j v h => hb4.ecnAt q16 j v h)
  have Q16 := Lib.hid q16
  rw [hq] at y1 y2 y3 y4 y5 y6 y7 y8 y25 y26 HT HE Q16
  have HX := Lib.hid hbox
  have H16 := Lib.hid h16
  clear hb4 o4 OW hbox h16 hq hb2 q16 BX z2
  have d1 : decide (30 < p.f.kind) = false := by simp; omega
  have d2 : decide (8 < p.f.kind) = true := by simp; omega
  have d3 : decide (p.f.kind < 16) = false := by simp; omega
  rw [cid] at y1
  rw [coff] at y2
  rw [cmax] at y3
  rw [ccode] at y4
  rw [cn] at y5
  rw [cfin] at y6
  rw [cdelay] at y26
  generalize (bareF p.f).id = gid at *
  generalize (bareF p.f).off = goff at *
  generalize (bareF p.f).max = gmax at *
  generalize (bareF p.f).code = gcode at *
  generalize (bareF p.f).n = gn at *
  generalize (bareF p.f).delay = gdelay at *
  generalize (bareF p.f).data.length = gdl at *
  generalize (bareF p.f).cid.length = gcl at *
  generalize (bareF p.f).acks.length = gal at *
  generalize p.f.kind = k at *
  have C4 := Lib.hid bl4
  have CECN := Lib.hid cecn
  clear cecn
  go_upto_region 2 with (fail)
  simp only [List.append_eq, List.cons_append, List.nil_append]
  go_wp2_with (with_reducible refine stop_lde ?_)
  refine Stop.out ?_
  refine wpList_loadPart [.int .u64 (bareF p.f).e0, .int .u64 (bareF p.f).e1, .int .u64 (bareF p.f).e2] Try.underlying34 rfl ecn_size rfl rfl rfl HE.out ?_
  go_wp2_with (with_reducible refine stop_nee ?_)
  refine Stop.out ?_
  obtain ⟨ti, hti⟩ := u64_info
  refine wpList_neArr .u64 Try.underlying34 hti u64_cells u64_plain Try.underlying30 rfl rfl rfl rfl [(bareF p.f).e0, (bareF p.f).e1, (bareF p.f).e2] [0, 0, 0] rfl rfl rfl rfl ?_ ?_
  · first | rfl | go_simp
  rw [decide_eq_false CECN.out]
  go_wp2_with (fail)
  go_returns
  exact ⟨rfl, C4.out⟩

set_option maxHeartbeats 4000000 in
set_option maxRecDepth 100000 in
theorem mayb2_tok (p : FM) (w : World) (h16 : p.f.tok.length = 16) (hdl : (bareF p.f).data.length ≤ 140737488355328) (hcl : (bareF p.f).cid.length ≤ 140737488355328) (hal : (bareF p.f).acks.length ≤ 140737488355328) (k2 : 16 ≤ p.f.kind) (k3 : p.f.kind ≤ 30) (cid : ((bareF p.f).id = 0)) (coff : ((bareF p.f).off = 0)) (cmax : ((bareF p.f).max = 0)) (ccode : ((bareF p.f).code = 0)) (cn : ((bareF p.f).n = 0)) (cfin : (bareF p.f).fin = false) (cdelay : ((bareF p.f).delay = 0)) (cecn : ([(bareF p.f).e0, (bareF p.f).e1, (bareF p.f).e2] = [0, 0, 0])) (ctok : ¬ ((bareF p.f).tok = tok0)) : Calls Try.prog 12 #[.agg p.vals] w fun e w' => e = .returned (.bool false) ∧ Below w.heap.size w w' := by
  go_enter Try.func12, Try.ntmps12
  go_wp2_with (with_reducible refine stop_ldf ?_)
  refine Stop.out ?_
  refine wpList_loadF rfl rfl p h16 rfl (Blk.new w p.vals 36) ?_
  go_wp2_with (fail)
  refine (bare_any p _ h16).mono ?_
  rintro e w2 ⟨⟨q, hq, rfl⟩, hb2⟩
  go_wp2_with (with_reducible refine stop_stf ?_)
  refine Stop.out ?_
  have q16 : q.f.tok.length = 16 := by rw [hq]; exact bare_tok _ h16
  refine wpList_storeF rfl rfl q (fm0 0) q16 rfl rfl rfl (fm0_at rfl) ?_
  intro w4 hb4 o4
  have z2 := hb2.size
  simp only [World.size_alloc] at z2
  have hbox : FB w4 w.heap.size p := o4.blk (Blk.alloc (Blk.below (Blk.new w p.vals 36) hb2) _) (by omega)
  have bl4 : Below w.heap.size w w4 := below_onto ((below_on ((Below.refl _ _).alloc (Nat.le_refl _) _) hb2 (by simp)).alloc (by omega) _) o4 (by simp; omega) (by intro z hz h; omega)
  have BX := hbox.fc h16
  have OW := hb4.fc q16
  have b0 := BX.c0
  have y1 := OW.c1
  have y2 := OW.c2
  have y3 := OW.c3
  have y4 := OW.c4
  have y5 := OW.c5
  have y6 := OW.c6
  have y7 := OW.c7
  have y8 := OW.c8
  have y25 := OW.c25
  have y26 := OW.c26
  have HT := Lib.hid (fun j v h => hb4.tokAt q16 j v h)
  have HE := Lib.hid (fun j v h => hb4.ecnAt q16 j v h)
  have Q16 := Lib.hid q16
  rw [hq] at y1 y2 y3 y4 y5 y6 y7 y8 y25 y26 HT HE Q16
  have HX := Lib.hid hbox
  have H16 := Lib.hid h16
  clear hb4 o4 OW hbox h16 hq hb2 q16 BX z2
  have d1 : decide (30 < p.f.kind) = false := by simp; omega
  have d2 : decide (8 < p.f.kind) = true := by simp; omega
  have d3 : decide (p.f.kind < 16) = false := by simp; omega
  rw [cid] at y1
  rw [coff] at y2
  rw [cmax] at y3
  rw [ccode] at y4
  rw [cn] at y5
  rw [cfin] at y6
  rw [cdelay] at y26
  generalize (bareF p.f).id = gid at *
  generalize (bareF p.f).off = goff at *
  generalize (bareF p.f).max = gmax at *
  generalize (bareF p.f).code = gcode at *
  generalize (bareF p.f).n = gn at *
  generalize (bareF p.f).delay = gdelay at *
  generalize (bareF p.f).data.length = gdl at *
  generalize (bareF p.f).cid.length = gcl at *
  generalize (bareF p.f).acks.length = gal at *
  generalize p.f.kind = k at *
  have C4 := Lib.hid bl4
  have CECN := Lib.hid cecn
  clear cecn
  have CTOK := Lib.hid ctok
  clear ctok
  go_upto_region 2 with (fail)
  simp only [List.append_eq, List.cons_append, List.nil_append]
  go_wp2_with (with_reducible refine stop_lde ?_)
  refine Stop.out ?_
  refine wpList_loadPart [.int .u64 (bareF p.f).e0, .int .u64 (bareF p.f).e1, .int .u64 (bareF p.f).e2] Try.underlying34 rfl ecn_size rfl rfl rfl HE.out ?_
  go_wp2_with (with_reducible refine stop_nee ?_)
  refine Stop.out ?_
  obtain ⟨ti, hti⟩ := u64_info
  refine wpList_neArr .u64 Try.underlying34 hti u64_cells u64_plain Try.underlying30 rfl rfl rfl rfl [(bareF p.f).e0, (bareF p.f).e1, (bareF p.f).e2] [0, 0, 0] rfl rfl rfl rfl ?_ ?_
  · first | rfl | go_simp
  rw [decide_eq_true CECN.out]
  go_wp2_with (with_reducible refine stop_ldt ?_)
  refine Stop.out ?_
  refine wpList_loadPart ((bareF p.f).tok.map (Value.int .u8)) Try.underlying32 rfl (by rw [List.length_map, Q16.out]; exact tok_size) rfl rfl rfl HT.out ?_
  go_wp2_with (with_reducible refine stop_net ?_)
  refine Stop.out ?_
  obtain ⟨tj, htj⟩ := u8_info
  refine wpList_neArr .u8 Try.underlying32 htj u8_cells u8_plain Try.underlying5 rfl rfl rfl rfl (bareF p.f).tok tok0 Q16.out rfl rfl rfl ?_ ?_
  · first | rfl | go_simp
  rw [decide_eq_false CTOK.out]
  go_wp2_with (fail)
  go_returns
  exact ⟨rfl, C4.out⟩

set_option maxHeartbeats 4000000 in
set_option maxRecDepth 100000 in
theorem mayb2_len (p : FM) (w : World) (h16 : p.f.tok.length = 16) (hdl : (bareF p.f).data.length ≤ 140737488355328) (hcl : (bareF p.f).cid.length ≤ 140737488355328) (hal : (bareF p.f).acks.length ≤ 140737488355328) (k2 : 16 ≤ p.f.kind) (k3 : p.f.kind ≤ 30) (cid : ((bareF p.f).id = 0)) (coff : ((bareF p.f).off = 0)) (cmax : ((bareF p.f).max = 0)) (ccode : ((bareF p.f).code = 0)) (cn : ((bareF p.f).n = 0)) (cfin : (bareF p.f).fin = false) (cdelay : ((bareF p.f).delay = 0)) (cecn : ([(bareF p.f).e0, (bareF p.f).e1, (bareF p.f).e2] = [0, 0, 0])) (ctok : ((bareF p.f).tok = tok0)) (clen : ¬ ((bareF p.f).data.length + (bareF p.f).cid.length + (bareF p.f).acks.length = 0)) : Calls Try.prog 12 #[.agg p.vals] w fun e w' => e = .returned (.bool false) ∧ Below w.heap.size w w' := by
  go_enter Try.func12, Try.ntmps12
  go_wp2_with (with_reducible refine stop_ldf ?_)
  refine Stop.out ?_
  refine wpList_loadF rfl rfl p h16 rfl (Blk.new w p.vals 36) ?_
  go_wp2_with (fail)
  refine (bare_any p _ h16).mono ?_
  rintro e w2 ⟨⟨q, hq, rfl⟩, hb2⟩
  go_wp2_with (with_reducible refine stop_stf ?_)
  refine Stop.out ?_
  have q16 : q.f.tok.length = 16 := by rw [hq]; exact bare_tok _ h16
  refine wpList_storeF rfl rfl q (fm0 0) q16 rfl rfl rfl (fm0_at rfl) ?_
  intro w4 hb4 o4
  have z2 := hb2.size
  simp only [World.size_alloc] at z2
  have hbox : FB w4 w.heap.size p := o4.blk (Blk.alloc (Blk.below (Blk.new w p.vals 36) hb2) _) (by omega)
  have bl4 : Below w.heap.size w w4 := below_onto ((below_on ((Below.refl _ _).alloc (Nat.le_refl _) _) hb2 (by simp)).alloc (by omega) _) o4 (by simp; omega) (by intro z hz h; omega)
  have BX := hbox.fc h16
  have OW := hb4.fc q16
  have b0 := BX.c0
  have y1 := OW.c1
  have y2 := OW.c2
  have y3 := OW.c3
  have y4 := OW.c4
  have y5 := OW.c5
  have y6 := OW.c6
  have y7 := OW.c7
  have y8 := OW.c8
  have y25 := OW.c25
  have y26 := OW.c26
  have HT := Lib.hid (fun j v h => hb4.tokAt q16 j v h)
  have HE := Lib.hid (fun j v h => hb4.ecnAt q16 j v h)
  have Q16 := Lib.hid q16
  rw [hq] at y1 y2 y3 y4 y5 y6 y7 y8 y25 y26 HT HE Q16
  have HX := Lib.hid hbox
  have H16 := Lib.hid h16
  clear hb4 o4 OW hbox h16 hq hb2 q16 BX z2
  have d1 : decide (30 < p.f.kind) = false := by simp; omega
  have d2 : decide (8 < p.f.kind) = true := by simp; omega
  have d3 : decide (p.f.kind < 16) = false := by simp; omega
  rw [cid] at y1
  rw [coff] at y2
  rw [cmax] at y3
  rw [ccode] at y4
  rw [cn] at y5
  rw [cfin] at y6
  rw [cdelay] at y26
  generalize (bareF p.f).id = gid at *
  generalize (bareF p.f).off = goff at *
  generalize (bareF p.f).max = gmax at *
  generalize (bareF p.f).code = gcode at *
  generalize (bareF p.f).n = gn at *
  generalize (bareF p.f).delay = gdelay at *
  generalize (bareF p.f).data.length = gdl at *
  generalize (bareF p.f).cid.length = gcl at *
  generalize (bareF p.f).acks.length = gal at *
  have dl : decide ((0 : Int) < (gdl : Int) + (gcl : Int) + (gal : Int)) = true := by simp only [decide_eq_true_eq]; omega
  clear clen
  generalize p.f.kind = k at *
  have C4 := Lib.hid bl4
  have CECN := Lib.hid cecn
  clear cecn
  have CTOK := Lib.hid ctok
  clear ctok
  go_upto_region 2 with (fail)
  simp only [List.append_eq, List.cons_append, List.nil_append]
  go_wp2_with (with_reducible refine stop_lde ?_)
  refine Stop.out ?_
  refine wpList_loadPart [.int .u64 (bareF p.f).e0, .int .u64 (bareF p.f).e1, .int .u64 (bareF p.f).e2] Try.underlying34 rfl ecn_size rfl rfl rfl HE.out ?_
  go_wp2_with (with_reducible refine stop_nee ?_)
  refine Stop.out ?_
  obtain ⟨ti, hti⟩ := u64_info
  refine wpList_neArr .u64 Try.underlying34 hti u64_cells u64_plain Try.underlying30 rfl rfl rfl rfl [(bareF p.f).e0, (bareF p.f).e1, (bareF p.f).e2] [0, 0, 0] rfl rfl rfl rfl ?_ ?_
  · first | rfl | go_simp
  rw [decide_eq_true CECN.out]
  go_wp2_with (with_reducible refine stop_ldt ?_)
  refine Stop.out ?_
  refine wpList_loadPart ((bareF p.f).tok.map (Value.int .u8)) Try.underlying32 rfl (by rw [List.length_map, Q16.out]; exact tok_size) rfl rfl rfl HT.out ?_
  go_wp2_with (with_reducible refine stop_net ?_)
  refine Stop.out ?_
  obtain ⟨tj, htj⟩ := u8_info
  refine wpList_neArr .u8 Try.underlying32 htj u8_cells u8_plain Try.underlying5 rfl rfl rfl rfl (bareF p.f).tok tok0 Q16.out rfl rfl rfl ?_ ?_
  · first | rfl | go_simp
  rw [decide_eq_true CTOK.out]
  go_wp2_with (fail)
  go_returns
  exact ⟨rfl, C4.out⟩

end Frm
end Go.Proofs.Ytcpjehgoeibbeaa

/- May: what may be (written by gen_frw6.py). -/
namespace Go.Proofs.Ytcpjehgoeibbeaa
open Go.RowKit
set_option linter.unusedVariables false
namespace Frm
open Var

set_option maxHeartbeats 8000000 in
set_option maxRecDepth 100000 in
theorem mayg1 (p : FM) (w : World) (hp : p.ok w) (h16 : p.f.tok.length = 16) (hdl : (bareF p.f).data.length ≤ 140737488355328) (hcl : (bareF p.f).cid.length ≤ 140737488355328) (hal : (bareF p.f).acks.length ≤ 140737488355328) (k1 : p.f.kind ≤ 8) (cid : ((bareF p.f).id = 0)) (coff : ((bareF p.f).off = 0)) (cmax : ((bareF p.f).max = 0)) (ccode : ((bareF p.f).code = 0)) (cn : ((bareF p.f).n = 0)) (cfin : (bareF p.f).fin = false) (cdelay : ((bareF p.f).delay = 0)) (cecn : ([(bareF p.f).e0, (bareF p.f).e1, (bareF p.f).e2] = [0, 0, 0])) (ctok : ((bareF p.f).tok = tok0)) (clen : ((bareF p.f).data.length + (bareF p.f).cid.length + (bareF p.f).acks.length = 0)) : Calls Try.prog 12 #[.agg p.vals] w fun e w' => e = .returned (.bool (smallOk p.f && kindOk p.f)) ∧ Below w.heap.size w w' := by
  have i0 : ∀ w, (Instr.index 65 (.agg #[.int .u64 p.f.id, .int .u64 p.f.max, .int .u64 p.f.code, .int .u64 p.f.delay, .int .u64 p.f.e0, .int .u64 p.f.e1, .int .u64 p.f.e2, .int .u64 p.f.off]) (.int .i64 0)).run Try.prog w = .ok (.int .u64 p.f.id) w := fun _ => by kernel_rfl
  have i1 : ∀ w, (Instr.index 65 (.agg #[.int .u64 p.f.id, .int .u64 p.f.max, .int .u64 p.f.code, .int .u64 p.f.delay, .int .u64 p.f.e0, .int .u64 p.f.e1, .int .u64 p.f.e2, .int .u64 p.f.off]) (.int .i64 1)).run Try.prog w = .ok (.int .u64 p.f.max) w := fun _ => by kernel_rfl
  have i2 : ∀ w, (Instr.index 65 (.agg #[.int .u64 p.f.id, .int .u64 p.f.max, .int .u64 p.f.code, .int .u64 p.f.delay, .int .u64 p.f.e0, .int .u64 p.f.e1, .int .u64 p.f.e2, .int .u64 p.f.off]) (.int .i64 2)).run Try.prog w = .ok (.int .u64 p.f.code) w := fun _ => by kernel_rfl
  have i3 : ∀ w, (Instr.index 65 (.agg #[.int .u64 p.f.id, .int .u64 p.f.max, .int .u64 p.f.code, .int .u64 p.f.delay, .int .u64 p.f.e0, .int .u64 p.f.e1, .int .u64 p.f.e2, .int .u64 p.f.off]) (.int .i64 3)).run Try.prog w = .ok (.int .u64 p.f.delay) w := fun _ => by kernel_rfl
  have i4 : ∀ w, (Instr.index 65 (.agg #[.int .u64 p.f.id, .int .u64 p.f.max, .int .u64 p.f.code, .int .u64 p.f.delay, .int .u64 p.f.e0, .int .u64 p.f.e1, .int .u64 p.f.e2, .int .u64 p.f.off]) (.int .i64 4)).run Try.prog w = .ok (.int .u64 p.f.e0) w := fun _ => by kernel_rfl
  have i5 : ∀ w, (Instr.index 65 (.agg #[.int .u64 p.f.id, .int .u64 p.f.max, .int .u64 p.f.code, .int .u64 p.f.delay, .int .u64 p.f.e0, .int .u64 p.f.e1, .int .u64 p.f.e2, .int .u64 p.f.off]) (.int .i64 5)).run Try.prog w = .ok (.int .u64 p.f.e1) w := fun _ => by kernel_rfl
  have i6 : ∀ w, (Instr.index 65 (.agg #[.int .u64 p.f.id, .int .u64 p.f.max, .int .u64 p.f.code, .int .u64 p.f.delay, .int .u64 p.f.e0, .int .u64 p.f.e1, .int .u64 p.f.e2, .int .u64 p.f.off]) (.int .i64 6)).run Try.prog w = .ok (.int .u64 p.f.e2) w := fun _ => by kernel_rfl
  have i7 : ∀ w, (Instr.index 65 (.agg #[.int .u64 p.f.id, .int .u64 p.f.max, .int .u64 p.f.code, .int .u64 p.f.delay, .int .u64 p.f.e0, .int .u64 p.f.e1, .int .u64 p.f.e2, .int .u64 p.f.off]) (.int .i64 7)).run Try.prog w = .ok (.int .u64 p.f.off) w := fun _ => by kernel_rfl
  obtain ⟨sb, hsb⟩ : ∃ sb, smallOk p.f = sb := ⟨_, rfl⟩
  have HSB := Lib.hid hsb
  obtain ⟨kb, hkb⟩ : ∃ kb, kindOk p.f = kb := ⟨_, rfl⟩
  have HKB := Lib.hid hkb
  rw [hsb, hkb]
  clear hsb hkb
  go_enter Try.func12, Try.ntmps12
  go_wp2_with (with_reducible refine stop_ldf ?_)
  refine Stop.out ?_
  refine wpList_loadF rfl rfl p h16 rfl (Blk.new w p.vals 36) ?_
  go_wp2_with (fail)
  refine (bare_any p _ h16).mono ?_
  rintro e w2 ⟨⟨q, hq, rfl⟩, hb2⟩
  go_wp2_with (with_reducible refine stop_stf ?_)
  refine Stop.out ?_
  have q16 : q.f.tok.length = 16 := by rw [hq]; exact bare_tok _ h16
  refine wpList_storeF rfl rfl q (fm0 0) q16 rfl rfl rfl (fm0_at rfl) ?_
  intro w4 hb4 o4
  have z2 := hb2.size
  simp only [World.size_alloc] at z2
  have hbox : FB w4 w.heap.size p := o4.blk (Blk.alloc (Blk.below (Blk.new w p.vals 36) hb2) _) (by omega)
  have bl4 : Below w.heap.size w w4 := below_onto ((below_on ((Below.refl _ _).alloc (Nat.le_refl _) _) hb2 (by simp)).alloc (by omega) _) o4 (by simp; omega) (by intro z hz h; omega)
  have BX := hbox.fc h16
  have OW := hb4.fc q16
  have b0 := BX.c0
  have FX := hp.fr
  have AX := Lib.hid hp
  have vid := BX.c1
  have uid := FX.id
  unfold U64 at uid
  have vmax := BX.c3
  have umax := FX.max
  unfold U64 at umax
  have vcode := BX.c4
  have ucode := FX.code
  unfold U64 at ucode
  have vdelay := BX.c26
  have udelay := FX.delay
  unfold U64 at udelay
  have ve0 := BX.c27
  have ue0 := FX.e0
  unfold U64 at ue0
  have ve1 := BX.c28
  have ue1 := FX.e1
  unfold U64 at ue1
  have ve2 := BX.c29
  have ue2 := FX.e2
  unfold U64 at ue2
  have voff := BX.c2
  have uoff := FX.off
  unfold U64 at uoff
  have v7 := BX.c7
  have v8 := BX.c8
  have v25 := BX.c25
  have vn := BX.c5
  have un := FX.n
  unfold U64 at un
  have uk := FX.kind
  unfold U64 at uk
  have ld := hp.d.len
  have lc := hp.c.len
  have la := hp.a.len
  unfold maxLen at ld lc la
  have y1 := OW.c1
  have y2 := OW.c2
  have y3 := OW.c3
  have y4 := OW.c4
  have y5 := OW.c5
  have y6 := OW.c6
  have y7 := OW.c7
  have y8 := OW.c8
  have y25 := OW.c25
  have y26 := OW.c26
  have HT := Lib.hid (fun j v h => hb4.tokAt q16 j v h)
  have HE := Lib.hid (fun j v h => hb4.ecnAt q16 j v h)
  have Q16 := Lib.hid q16
  rw [hq] at y1 y2 y3 y4 y5 y6 y7 y8 y25 y26 HT HE Q16
  have HX := Lib.hid hbox
  have H16 := Lib.hid h16
  clear hb4 o4 OW hbox h16 hq hb2 q16 BX z2 FX hp
  have d1 : decide (30 < p.f.kind) = false := by simp; omega
  have d2 : decide (8 < p.f.kind) = false := by simp; omega
  rw [cid] at y1
  rw [coff] at y2
  rw [cmax] at y3
  rw [ccode] at y4
  rw [cn] at y5
  rw [cfin] at y6
  rw [cdelay] at y26
  generalize (bareF p.f).id = gid at *
  generalize (bareF p.f).off = goff at *
  generalize (bareF p.f).max = gmax at *
  generalize (bareF p.f).code = gcode at *
  generalize (bareF p.f).n = gn at *
  generalize (bareF p.f).delay = gdelay at *
  generalize (bareF p.f).data.length = gdl at *
  generalize (bareF p.f).cid.length = gcl at *
  generalize (bareF p.f).acks.length = gal at *
  obtain rfl : gdl = 0 := by omega
  obtain rfl : gcl = 0 := by omega
  obtain rfl : gal = 0 := by omega
  clear clen
  have C4 := Lib.hid bl4
  have CECN := Lib.hid cecn
  clear cecn
  have CTOK := Lib.hid ctok
  clear ctok
  go_upto_region 2 with (fail)
  simp only [List.append_eq, List.cons_append, List.nil_append]
  go_wp2_with (with_reducible refine stop_lde ?_)
  refine Stop.out ?_
  refine wpList_loadPart [.int .u64 (bareF p.f).e0, .int .u64 (bareF p.f).e1, .int .u64 (bareF p.f).e2] Try.underlying34 rfl ecn_size rfl rfl rfl HE.out ?_
  go_wp2_with (with_reducible refine stop_nee ?_)
  refine Stop.out ?_
  obtain ⟨ti, hti⟩ := u64_info
  refine wpList_neArr .u64 Try.underlying34 hti u64_cells u64_plain Try.underlying30 rfl rfl rfl rfl [(bareF p.f).e0, (bareF p.f).e1, (bareF p.f).e2] [0, 0, 0] rfl rfl rfl rfl ?_ ?_
  · first | rfl | go_simp
  rw [decide_eq_true CECN.out]
  go_wp2_with (with_reducible refine stop_ldt ?_)
  refine Stop.out ?_
  refine wpList_loadPart ((bareF p.f).tok.map (Value.int .u8)) Try.underlying32 rfl (by rw [List.length_map, Q16.out]; exact tok_size) rfl rfl rfl HT.out ?_
  go_wp2_with (with_reducible refine stop_net ?_)
  refine Stop.out ?_
  obtain ⟨tj, htj⟩ := u8_info
  refine wpList_neArr .u8 Try.underlying32 htj u8_cells u8_plain Try.underlying5 rfl rfl rfl rfl (bareF p.f).tok tok0 Q16.out rfl rfl rfl ?_ ?_
  · first | rfl | go_simp
  rw [decide_eq_true CTOK.out]
  go_wp2_with (fail)
  refine wp_loop_rounds 9 ?_
  by_cases sid : p.f.id ≤ 4611686018427387903
  case neg =>
    have sg : decide (4611686018427387903 < p.f.id) = true := by simp only [decide_eq_true_eq]; omega
    obtain rfl : sb = false := Bool.eq_false_iff.2 (fun h => sid (by have := (smallOk_iff p.f).1 (HSB.out.trans h); omega))
    rw [rounds_succ]
    go_wp2_with (fail)
    go_returns
    exact ⟨by rfl, C4.out⟩
  have gid' : decide (4611686018427387903 < p.f.id) = false := by simp only [decide_eq_false_iff_not]; omega
  rw [rounds_succ]
  go_wp2_with (fail)
  by_cases smax : p.f.max ≤ 4611686018427387903
  case neg =>
    have sg : decide (4611686018427387903 < p.f.max) = true := by simp only [decide_eq_true_eq]; omega
    obtain rfl : sb = false := Bool.eq_false_iff.2 (fun h => smax (by have := (smallOk_iff p.f).1 (HSB.out.trans h); omega))
    rw [rounds_succ]
    go_wp2_with (fail)
    go_returns
    exact ⟨by rfl, C4.out⟩
  have gmax' : decide (4611686018427387903 < p.f.max) = false := by simp only [decide_eq_false_iff_not]; omega
  rw [rounds_succ]
  go_wp2_with (fail)
  by_cases scode : p.f.code ≤ 4611686018427387903
  case neg =>
    have sg : decide (4611686018427387903 < p.f.code) = true := by simp only [decide_eq_true_eq]; omega
    obtain rfl : sb = false := Bool.eq_false_iff.2 (fun h => scode (by have := (smallOk_iff p.f).1 (HSB.out.trans h); omega))
    rw [rounds_succ]
    go_wp2_with (fail)
    go_returns
    exact ⟨by rfl, C4.out⟩
  have gcode' : decide (4611686018427387903 < p.f.code) = false := by simp only [decide_eq_false_iff_not]; omega
  rw [rounds_succ]
  go_wp2_with (fail)
  by_cases sdelay : p.f.delay ≤ 4611686018427387903
  case neg =>
    have sg : decide (4611686018427387903 < p.f.delay) = true := by simp only [decide_eq_true_eq]; omega
    obtain rfl : sb = false := Bool.eq_false_iff.2 (fun h => sdelay (by have := (smallOk_iff p.f).1 (HSB.out.trans h); omega))
    rw [rounds_succ]
    go_wp2_with (fail)
    go_returns
    exact ⟨by rfl, C4.out⟩
  have gdelay' : decide (4611686018427387903 < p.f.delay) = false := by simp only [decide_eq_false_iff_not]; omega
  rw [rounds_succ]
  go_wp2_with (fail)
  by_cases se0 : p.f.e0 ≤ 4611686018427387903
  case neg =>
    have sg : decide (4611686018427387903 < p.f.e0) = true := by simp only [decide_eq_true_eq]; omega
    obtain rfl : sb = false := Bool.eq_false_iff.2 (fun h => se0 (by have := (smallOk_iff p.f).1 (HSB.out.trans h); omega))
    rw [rounds_succ]
    go_wp2_with (fail)
    go_returns
    exact ⟨by rfl, C4.out⟩
  have ge0' : decide (4611686018427387903 < p.f.e0) = false := by simp only [decide_eq_false_iff_not]; omega
  rw [rounds_succ]
  go_wp2_with (fail)
  by_cases se1 : p.f.e1 ≤ 4611686018427387903
  case neg =>
    have sg : decide (4611686018427387903 < p.f.e1) = true := by simp only [decide_eq_true_eq]; omega
    obtain rfl : sb = false := Bool.eq_false_iff.2 (fun h => se1 (by have := (smallOk_iff p.f).1 (HSB.out.trans h); omega))
    rw [rounds_succ]
    go_wp2_with (fail)
    go_returns
    exact ⟨by rfl, C4.out⟩
  have ge1' : decide (4611686018427387903 < p.f.e1) = false := by simp only [decide_eq_false_iff_not]; omega
  rw [rounds_succ]
  go_wp2_with (fail)
  by_cases se2 : p.f.e2 ≤ 4611686018427387903
  case neg =>
    have sg : decide (4611686018427387903 < p.f.e2) = true := by simp only [decide_eq_true_eq]; omega
    obtain rfl : sb = false := Bool.eq_false_iff.2 (fun h => se2 (by have := (smallOk_iff p.f).1 (HSB.out.trans h); omega))
    rw [rounds_succ]
    go_wp2_with (fail)
    go_returns
    exact ⟨by rfl, C4.out⟩
  have ge2' : decide (4611686018427387903 < p.f.e2) = false := by simp only [decide_eq_false_iff_not]; omega
  rw [rounds_succ]
  go_wp2_with (fail)
  by_cases soff : p.f.off ≤ 4611686018427387903
  case neg =>
    have sg : decide (4611686018427387903 < p.f.off) = true := by simp only [decide_eq_true_eq]; omega
    obtain rfl : sb = false := Bool.eq_false_iff.2 (fun h => soff (by have := (smallOk_iff p.f).1 (HSB.out.trans h); omega))
    rw [rounds_succ]
    go_wp2_with (fail)
    go_returns
    exact ⟨by rfl, C4.out⟩
  have goff' : decide (4611686018427387903 < p.f.off) = false := by simp only [decide_eq_false_iff_not]; omega
  rw [rounds_succ]
  go_wp2_with (fail)
  obtain rfl : sb = true := HSB.out.symm.trans ((smallOk_iff p.f).2 ⟨sid, smax, scode, sdelay, se0, se1, se2, soff⟩)
  have HA := AX.out.a
  clear AX
  rw [rounds_succ]
  generalize hk : p.f.kind = k at *
  have HK := Lib.hid hk
  clear hk
  by_cases n0 : k = 0
  case pos =>
    subst n0
    by_cases m1 : 1 ≤ p.f.n
    case neg =>
      have e_m1 : decide (1 ≤ p.f.n) = false := by simp only [decide_eq_false_iff_not]; omega
      obtain rfl : kb = false := HKB.out.symm.trans (by rw [kindOk_0 _ HK.out]; simp; omega)
      go_wp2_with (fail)
      go_returns
      exact ⟨rfl, C4.out⟩
    have e_m1 : decide (1 ≤ p.f.n) = true := by simp only [decide_eq_true_eq]; omega
    by_cases m2 : p.f.n ≤ 65536
    case neg =>
      have e_m2 : decide (p.f.n ≤ 65536) = false := by simp only [decide_eq_false_iff_not]; omega
      obtain rfl : kb = false := HKB.out.symm.trans (by rw [kindOk_0 _ HK.out]; simp; omega)
      go_wp2_with (fail)
      go_returns
      exact ⟨rfl, C4.out⟩
    have e_m2 : decide (p.f.n ≤ 65536) = true := by simp only [decide_eq_true_eq]; omega
    obtain rfl : kb = true := HKB.out.symm.trans (by rw [kindOk_0 _ HK.out]; simp; omega)
    go_wp2_with (fail)
    go_returns
    exact ⟨rfl, C4.out⟩
  by_cases n2 : k = 2
  case pos =>
    subst n2
    obtain rfl : kb = acksOk p.f.acks := HKB.out.symm.trans (kindOk_2 _ HK.out)
    go_wp2_with (fail)
    refine (acks_any p.aa p.ac p.f.acks _ (HA.below C4.out)).mono ?_
    rintro e w5 ⟨rfl, b5⟩
    go_wp2_with (fail)
    go_returns
    exact ⟨rfl, below_on C4.out b5 C4.out.size⟩
  by_cases n3 : k = 3
  case pos =>
    subst n3
    obtain rfl : kb = acksOk p.f.acks := HKB.out.symm.trans (kindOk_3 _ HK.out)
    go_wp2_with (fail)
    refine (acks_any p.aa p.ac p.f.acks _ (HA.below C4.out)).mono ?_
    rintro e w5 ⟨rfl, b5⟩
    go_wp2_with (fail)
    go_returns
    exact ⟨rfl, below_on C4.out b5 C4.out.size⟩
  by_cases n6 : k = 6
  case pos =>
    subst n6
    obtain rfl : kb = decide ((p.f.data.length : Int) ≤ 4611686018427387903 - p.f.off) := HKB.out.symm.trans (kindOk_6 _ HK.out)
    go_wp2_with (fail)
    go_returns
    exact ⟨rfl, C4.out⟩
  by_cases n8 : k = 8
  case pos =>
    subst n8
    obtain rfl : kb = decide ((p.f.data.length : Int) ≤ 4611686018427387903 - p.f.off) := HKB.out.symm.trans (kindOk_8 _ HK.out)
    go_wp2_with (fail)
    go_returns
    exact ⟨rfl, C4.out⟩
  by_cases n7 : k = 7
  case pos =>
    subst n7
    by_cases m1 : 0 < p.f.data.length
    case neg =>
      have e1 : decide (0 < p.f.data.length) = false := decide_eq_false m1
      obtain rfl : kb = false := HKB.out.symm.trans (by rw [kindOk_7 _ HK.out]; exact e1)
      go_wp2_with (fail)
      go_returns
      exact ⟨rfl, C4.out⟩
    have e1 : decide (0 < p.f.data.length) = true := decide_eq_true m1
    obtain rfl : kb = true := HKB.out.symm.trans (by rw [kindOk_7 _ HK.out]; exact e1)
    go_wp2_with (fail)
    go_returns
    exact ⟨rfl, C4.out⟩
  obtain rfl : kb = true := HKB.out.symm.trans (kindOk_d _ (by have := HK.out; omega) (by have := HK.out; omega))
  have hs : stK k = false := by simp [stK]; omega
  go_wp2_with (fail)
  refine (streams_any k _).mono ?_
  rw [hs]
  rintro e w5 ⟨rfl, rfl⟩
  go_wp2_with (fail)
  go_returns
  exact ⟨rfl, C4.out⟩

end Frm
end Go.Proofs.Ytcpjehgoeibbeaa

/- May: what may be (written by gen_frw6.py). -/
namespace Go.Proofs.Ytcpjehgoeibbeaa
open Go.RowKit
set_option linter.unusedVariables false
namespace Frm
open Var

set_option maxHeartbeats 8000000 in
set_option maxRecDepth 100000 in
theorem mayg2 (p : FM) (w : World) (hp : p.ok w) (h16 : p.f.tok.length = 16) (hdl : (bareF p.f).data.length ≤ 140737488355328) (hcl : (bareF p.f).cid.length ≤ 140737488355328) (hal : (bareF p.f).acks.length ≤ 140737488355328) (k2 : 16 ≤ p.f.kind) (k3 : p.f.kind ≤ 30) (cid : ((bareF p.f).id = 0)) (coff : ((bareF p.f).off = 0)) (cmax : ((bareF p.f).max = 0)) (ccode : ((bareF p.f).code = 0)) (cn : ((bareF p.f).n = 0)) (cfin : (bareF p.f).fin = false) (cdelay : ((bareF p.f).delay = 0)) (cecn : ([(bareF p.f).e0, (bareF p.f).e1, (bareF p.f).e2] = [0, 0, 0])) (ctok : ((bareF p.f).tok = tok0)) (clen : ((bareF p.f).data.length + (bareF p.f).cid.length + (bareF p.f).acks.length = 0)) : Calls Try.prog 12 #[.agg p.vals] w fun e w' => e = .returned (.bool (smallOk p.f && kindOk p.f)) ∧ Below w.heap.size w w' := by
  have i0 : ∀ w, (Instr.index 65 (.agg #[.int .u64 p.f.id, .int .u64 p.f.max, .int .u64 p.f.code, .int .u64 p.f.delay, .int .u64 p.f.e0, .int .u64 p.f.e1, .int .u64 p.f.e2, .int .u64 p.f.off]) (.int .i64 0)).run Try.prog w = .ok (.int .u64 p.f.id) w := fun _ => by kernel_rfl
  have i1 : ∀ w, (Instr.index 65 (.agg #[.int .u64 p.f.id, .int .u64 p.f.max, .int .u64 p.f.code, .int .u64 p.f.delay, .int .u64 p.f.e0, .int .u64 p.f.e1, .int .u64 p.f.e2, .int .u64 p.f.off]) (.int .i64 1)).run Try.prog w = .ok (.int .u64 p.f.max) w := fun _ => by kernel_rfl
  have i2 : ∀ w, (Instr.index 65 (.agg #[.int .u64 p.f.id, .int .u64 p.f.max, .int .u64 p.f.code, .int .u64 p.f.delay, .int .u64 p.f.e0, .int .u64 p.f.e1, .int .u64 p.f.e2, .int .u64 p.f.off]) (.int .i64 2)).run Try.prog w = .ok (.int .u64 p.f.code) w := fun _ => by kernel_rfl
  have i3 : ∀ w, (Instr.index 65 (.agg #[.int .u64 p.f.id, .int .u64 p.f.max, .int .u64 p.f.code, .int .u64 p.f.delay, .int .u64 p.f.e0, .int .u64 p.f.e1, .int .u64 p.f.e2, .int .u64 p.f.off]) (.int .i64 3)).run Try.prog w = .ok (.int .u64 p.f.delay) w := fun _ => by kernel_rfl
  have i4 : ∀ w, (Instr.index 65 (.agg #[.int .u64 p.f.id, .int .u64 p.f.max, .int .u64 p.f.code, .int .u64 p.f.delay, .int .u64 p.f.e0, .int .u64 p.f.e1, .int .u64 p.f.e2, .int .u64 p.f.off]) (.int .i64 4)).run Try.prog w = .ok (.int .u64 p.f.e0) w := fun _ => by kernel_rfl
  have i5 : ∀ w, (Instr.index 65 (.agg #[.int .u64 p.f.id, .int .u64 p.f.max, .int .u64 p.f.code, .int .u64 p.f.delay, .int .u64 p.f.e0, .int .u64 p.f.e1, .int .u64 p.f.e2, .int .u64 p.f.off]) (.int .i64 5)).run Try.prog w = .ok (.int .u64 p.f.e1) w := fun _ => by kernel_rfl
  have i6 : ∀ w, (Instr.index 65 (.agg #[.int .u64 p.f.id, .int .u64 p.f.max, .int .u64 p.f.code, .int .u64 p.f.delay, .int .u64 p.f.e0, .int .u64 p.f.e1, .int .u64 p.f.e2, .int .u64 p.f.off]) (.int .i64 6)).run Try.prog w = .ok (.int .u64 p.f.e2) w := fun _ => by kernel_rfl
  have i7 : ∀ w, (Instr.index 65 (.agg #[.int .u64 p.f.id, .int .u64 p.f.max, .int .u64 p.f.code, .int .u64 p.f.delay, .int .u64 p.f.e0, .int .u64 p.f.e1, .int .u64 p.f.e2, .int .u64 p.f.off]) (.int .i64 7)).run Try.prog w = .ok (.int .u64 p.f.off) w := fun _ => by kernel_rfl
  obtain ⟨sb, hsb⟩ : ∃ sb, smallOk p.f = sb := ⟨_, rfl⟩
  have HSB := Lib.hid hsb
  obtain ⟨kb, hkb⟩ : ∃ kb, kindOk p.f = kb := ⟨_, rfl⟩
  have HKB := Lib.hid hkb
  rw [hsb, hkb]
  clear hsb hkb
  go_enter Try.func12, Try.ntmps12
  go_wp2_with (with_reducible refine stop_ldf ?_)
  refine Stop.out ?_
  refine wpList_loadF rfl rfl p h16 rfl (Blk.new w p.vals 36) ?_
  go_wp2_with (fail)
  refine (bare_any p _ h16).mono ?_
  rintro e w2 ⟨⟨q, hq, rfl⟩, hb2⟩
  go_wp2_with (with_reducible refine stop_stf ?_)
  refine Stop.out ?_
  have q16 : q.f.tok.length = 16 := by rw [hq]; exact bare_tok _ h16
  refine wpList_storeF rfl rfl q (fm0 0) q16 rfl rfl rfl (fm0_at rfl) ?_
  intro w4 hb4 o4
  have z2 := hb2.size
  simp only [World.size_alloc] at z2
  have hbox : FB w4 w.heap.size p := o4.blk (Blk.alloc (Blk.below (Blk.new w p.vals 36) hb2) _) (by omega)
  have bl4 : Below w.heap.size w w4 := below_onto ((below_on ((Below.refl _ _).alloc (Nat.le_refl _) _) hb2 (by simp)).alloc (by omega) _) o4 (by simp; omega) (by intro z hz h; omega)
  have BX := hbox.fc h16
  have OW := hb4.fc q16
  have b0 := BX.c0
  have FX := hp.fr
  have AX := Lib.hid hp
  have vid := BX.c1
  have uid := FX.id
  unfold U64 at uid
  have vmax := BX.c3
  have umax := FX.max
  unfold U64 at umax
  have vcode := BX.c4
  have ucode := FX.code
  unfold U64 at ucode
  have vdelay := BX.c26
  have udelay := FX.delay
  unfold U64 at udelay
  have ve0 := BX.c27
  have ue0 := FX.e0
  unfold U64 at ue0
  have ve1 := BX.c28
  have ue1 := FX.e1
  unfold U64 at ue1
  have ve2 := BX.c29
  have ue2 := FX.e2
  unfold U64 at ue2
  have voff := BX.c2
  have uoff := FX.off
  unfold U64 at uoff
  have v7 := BX.c7
  have v8 := BX.c8
  have v25 := BX.c25
  have vn := BX.c5
  have un := FX.n
  unfold U64 at un
  have uk := FX.kind
  unfold U64 at uk
  have ld := hp.d.len
  have lc := hp.c.len
  have la := hp.a.len
  unfold maxLen at ld lc la
  have y1 := OW.c1
  have y2 := OW.c2
  have y3 := OW.c3
  have y4 := OW.c4
  have y5 := OW.c5
  have y6 := OW.c6
  have y7 := OW.c7
  have y8 := OW.c8
  have y25 := OW.c25
  have y26 := OW.c26
  have HT := Lib.hid (fun j v h => hb4.tokAt q16 j v h)
  have HE := Lib.hid (fun j v h => hb4.ecnAt q16 j v h)
  have Q16 := Lib.hid q16
  rw [hq] at y1 y2 y3 y4 y5 y6 y7 y8 y25 y26 HT HE Q16
  have HX := Lib.hid hbox
  have H16 := Lib.hid h16
  clear hb4 o4 OW hbox h16 hq hb2 q16 BX z2 FX hp
  have d1 : decide (30 < p.f.kind) = false := by simp; omega
  have d2 : decide (8 < p.f.kind) = true := by simp; omega
  have d3 : decide (p.f.kind < 16) = false := by simp; omega
  rw [cid] at y1
  rw [coff] at y2
  rw [cmax] at y3
  rw [ccode] at y4
  rw [cn] at y5
  rw [cfin] at y6
  rw [cdelay] at y26
  generalize (bareF p.f).id = gid at *
  generalize (bareF p.f).off = goff at *
  generalize (bareF p.f).max = gmax at *
  generalize (bareF p.f).code = gcode at *
  generalize (bareF p.f).n = gn at *
  generalize (bareF p.f).delay = gdelay at *
  generalize (bareF p.f).data.length = gdl at *
  generalize (bareF p.f).cid.length = gcl at *
  generalize (bareF p.f).acks.length = gal at *
  obtain rfl : gdl = 0 := by omega
  obtain rfl : gcl = 0 := by omega
  obtain rfl : gal = 0 := by omega
  clear clen
  have C4 := Lib.hid bl4
  have CECN := Lib.hid cecn
  clear cecn
  have CTOK := Lib.hid ctok
  clear ctok
  go_upto_region 2 with (fail)
  simp only [List.append_eq, List.cons_append, List.nil_append]
  go_wp2_with (with_reducible refine stop_lde ?_)
  refine Stop.out ?_
  refine wpList_loadPart [.int .u64 (bareF p.f).e0, .int .u64 (bareF p.f).e1, .int .u64 (bareF p.f).e2] Try.underlying34 rfl ecn_size rfl rfl rfl HE.out ?_
  go_wp2_with (with_reducible refine stop_nee ?_)
  refine Stop.out ?_
  obtain ⟨ti, hti⟩ := u64_info
  refine wpList_neArr .u64 Try.underlying34 hti u64_cells u64_plain Try.underlying30 rfl rfl rfl rfl [(bareF p.f).e0, (bareF p.f).e1, (bareF p.f).e2] [0, 0, 0] rfl rfl rfl rfl ?_ ?_
  · first | rfl | go_simp
  rw [decide_eq_true CECN.out]
  go_wp2_with (with_reducible refine stop_ldt ?_)
  refine Stop.out ?_
  refine wpList_loadPart ((bareF p.f).tok.map (Value.int .u8)) Try.underlying32 rfl (by rw [List.length_map, Q16.out]; exact tok_size) rfl rfl rfl HT.out ?_
  go_wp2_with (with_reducible refine stop_net ?_)
  refine Stop.out ?_
  obtain ⟨tj, htj⟩ := u8_info
  refine wpList_neArr .u8 Try.underlying32 htj u8_cells u8_plain Try.underlying5 rfl rfl rfl rfl (bareF p.f).tok tok0 Q16.out rfl rfl rfl ?_ ?_
  · first | rfl | go_simp
  rw [decide_eq_true CTOK.out]
  go_wp2_with (fail)
  refine wp_loop_rounds 9 ?_
  by_cases sid : p.f.id ≤ 4611686018427387903
  case neg =>
    have sg : decide (4611686018427387903 < p.f.id) = true := by simp only [decide_eq_true_eq]; omega
    obtain rfl : sb = false := Bool.eq_false_iff.2 (fun h => sid (by have := (smallOk_iff p.f).1 (HSB.out.trans h); omega))
    rw [rounds_succ]
    go_wp2_with (fail)
    go_returns
    exact ⟨by rfl, C4.out⟩
  have gid' : decide (4611686018427387903 < p.f.id) = false := by simp only [decide_eq_false_iff_not]; omega
  rw [rounds_succ]
  go_wp2_with (fail)
  by_cases smax : p.f.max ≤ 4611686018427387903
  case neg =>
    have sg : decide (4611686018427387903 < p.f.max) = true := by simp only [decide_eq_true_eq]; omega
    obtain rfl : sb = false := Bool.eq_false_iff.2 (fun h => smax (by have := (smallOk_iff p.f).1 (HSB.out.trans h); omega))
    rw [rounds_succ]
    go_wp2_with (fail)
    go_returns
    exact ⟨by rfl, C4.out⟩
  have gmax' : decide (4611686018427387903 < p.f.max) = false := by simp only [decide_eq_false_iff_not]; omega
  rw [rounds_succ]
  go_wp2_with (fail)
  by_cases scode : p.f.code ≤ 4611686018427387903
  case neg =>
    have sg : decide (4611686018427387903 < p.f.code) = true := by simp only [decide_eq_true_eq]; omega
    obtain rfl : sb = false := Bool.eq_false_iff.2 (fun h => scode (by have := (smallOk_iff p.f).1 (HSB.out.trans h); omega))
    rw [rounds_succ]
    go_wp2_with (fail)
    go_returns
    exact ⟨by rfl, C4.out⟩
  have gcode' : decide (4611686018427387903 < p.f.code) = false := by simp only [decide_eq_false_iff_not]; omega
  rw [rounds_succ]
  go_wp2_with (fail)
  by_cases sdelay : p.f.delay ≤ 4611686018427387903
  case neg =>
    have sg : decide (4611686018427387903 < p.f.delay) = true := by simp only [decide_eq_true_eq]; omega
    obtain rfl : sb = false := Bool.eq_false_iff.2 (fun h => sdelay (by have := (smallOk_iff p.f).1 (HSB.out.trans h); omega))
    rw [rounds_succ]
    go_wp2_with (fail)
    go_returns
    exact ⟨by rfl, C4.out⟩
  have gdelay' : decide (4611686018427387903 < p.f.delay) = false := by simp only [decide_eq_false_iff_not]; omega
  rw [rounds_succ]
  go_wp2_with (fail)
  by_cases se0 : p.f.e0 ≤ 4611686018427387903
  case neg =>
    have sg : decide (4611686018427387903 < p.f.e0) = true := by simp only [decide_eq_true_eq]; omega
    obtain rfl : sb = false := Bool.eq_false_iff.2 (fun h => se0 (by have := (smallOk_iff p.f).1 (HSB.out.trans h); omega))
    rw [rounds_succ]
    go_wp2_with (fail)
    go_returns
    exact ⟨by rfl, C4.out⟩
  have ge0' : decide (4611686018427387903 < p.f.e0) = false := by simp only [decide_eq_false_iff_not]; omega
  rw [rounds_succ]
  go_wp2_with (fail)
  by_cases se1 : p.f.e1 ≤ 4611686018427387903
  case neg =>
    have sg : decide (4611686018427387903 < p.f.e1) = true := by simp only [decide_eq_true_eq]; omega
    obtain rfl : sb = false := Bool.eq_false_iff.2 (fun h => se1 (by have := (smallOk_iff p.f).1 (HSB.out.trans h); omega))
    rw [rounds_succ]
    go_wp2_with (fail)
    go_returns
    exact ⟨by rfl, C4.out⟩
  have ge1' : decide (4611686018427387903 < p.f.e1) = false := by simp only [decide_eq_false_iff_not]; omega
  rw [rounds_succ]
  go_wp2_with (fail)
  by_cases se2 : p.f.e2 ≤ 4611686018427387903
  case neg =>
    have sg : decide (4611686018427387903 < p.f.e2) = true := by simp only [decide_eq_true_eq]; omega
    obtain rfl : sb = false := Bool.eq_false_iff.2 (fun h => se2 (by have := (smallOk_iff p.f).1 (HSB.out.trans h); omega))
    rw [rounds_succ]
    go_wp2_with (fail)
    go_returns
    exact ⟨by rfl, C4.out⟩
  have ge2' : decide (4611686018427387903 < p.f.e2) = false := by simp only [decide_eq_false_iff_not]; omega
  rw [rounds_succ]
  go_wp2_with (fail)
  by_cases soff : p.f.off ≤ 4611686018427387903
  case neg =>
    have sg : decide (4611686018427387903 < p.f.off) = true := by simp only [decide_eq_true_eq]; omega
    obtain rfl : sb = false := Bool.eq_false_iff.2 (fun h => soff (by have := (smallOk_iff p.f).1 (HSB.out.trans h); omega))
    rw [rounds_succ]
    go_wp2_with (fail)
    go_returns
    exact ⟨by rfl, C4.out⟩
  have goff' : decide (4611686018427387903 < p.f.off) = false := by simp only [decide_eq_false_iff_not]; omega
  rw [rounds_succ]
  go_wp2_with (fail)
  obtain rfl : sb = true := HSB.out.symm.trans ((smallOk_iff p.f).2 ⟨sid, smax, scode, sdelay, se0, se1, se2, soff⟩)
  have HA := AX.out.a
  clear AX
  rw [rounds_succ]
  generalize hk : p.f.kind = k at *
  have HK := Lib.hid hk
  clear hk
  by_cases n24 : k = 24
  case pos =>
    subst n24
    by_cases m1 : 1 ≤ p.f.cid.length
    case neg =>
      have e_m1 : decide (1 ≤ p.f.cid.length) = false := by simp only [decide_eq_false_iff_not]; omega
      obtain rfl : kb = false := HKB.out.symm.trans (by rw [kindOk_24 _ HK.out]; simp; omega)
      go_wp2_with (fail)
      go_returns
      exact ⟨rfl, C4.out⟩
    have e_m1 : decide (1 ≤ p.f.cid.length) = true := by simp only [decide_eq_true_eq]; omega
    by_cases m2 : p.f.cid.length ≤ 20
    case neg =>
      have e_m2 : decide (p.f.cid.length ≤ 20) = false := by simp only [decide_eq_false_iff_not]; omega
      obtain rfl : kb = false := HKB.out.symm.trans (by rw [kindOk_24 _ HK.out]; simp; omega)
      go_wp2_with (fail)
      go_returns
      exact ⟨rfl, C4.out⟩
    have e_m2 : decide (p.f.cid.length ≤ 20) = true := by simp only [decide_eq_true_eq]; omega
    by_cases m3 : p.f.max ≤ p.f.id
    case neg =>
      have e_m3 : decide (p.f.max ≤ p.f.id) = false := by simp only [decide_eq_false_iff_not]; omega
      obtain rfl : kb = false := HKB.out.symm.trans (by rw [kindOk_24 _ HK.out]; simp; omega)
      go_wp2_with (fail)
      go_returns
      exact ⟨rfl, C4.out⟩
    have e_m3 : decide (p.f.max ≤ p.f.id) = true := by simp only [decide_eq_true_eq]; omega
    obtain rfl : kb = true := HKB.out.symm.trans (by rw [kindOk_24 _ HK.out]; simp; omega)
    go_wp2_with (fail)
    go_returns
    exact ⟨rfl, C4.out⟩
  by_cases n26 : k = 26
  case pos =>
    subst n26
    by_cases m1 : p.f.data.length = 8
    case neg =>
      obtain rfl : kb = false := HKB.out.symm.trans (by rw [kindOk_26 _ HK.out]; exact decide_eq_false m1)
      have mi : ((p.f.data.length : Int) == 8) = false := by simp; omega
      have mj : decide ((p.f.data.length : Int) = 8) = false := by simp; omega
      go_wp2_with (fail)
      go_returns
      refine ⟨?_, C4.out⟩
      simp []
    obtain rfl : kb = true := HKB.out.symm.trans (by rw [kindOk_26 _ HK.out]; exact decide_eq_true m1)
    go_wp2_with (fail)
    go_returns
    exact ⟨rfl, C4.out⟩
  by_cases n27 : k = 27
  case pos =>
    subst n27
    by_cases m1 : p.f.data.length = 8
    case neg =>
      obtain rfl : kb = false := HKB.out.symm.trans (by rw [kindOk_27 _ HK.out]; exact decide_eq_false m1)
      have mi : ((p.f.data.length : Int) == 8) = false := by simp; omega
      have mj : decide ((p.f.data.length : Int) = 8) = false := by simp; omega
      go_wp2_with (fail)
      go_returns
      refine ⟨?_, C4.out⟩
      simp []
    obtain rfl : kb = true := HKB.out.symm.trans (by rw [kindOk_27 _ HK.out]; exact decide_eq_true m1)
    go_wp2_with (fail)
    go_returns
    exact ⟨rfl, C4.out⟩
  by_cases st : k = 18 ∨ k = 19 ∨ k = 22 ∨ k = 23
  case pos =>
    have hs : stK k = true := by simp [stK]; omega
    obtain rfl : kb = decide (p.f.max ≤ 1152921504606846976) := HKB.out.symm.trans (kindOk_s _ (by rw [HK.out]; exact st))
    go_wp2_with (fail)
    refine (streams_any k _).mono ?_
    rw [hs]
    rintro e w5 ⟨rfl, rfl⟩
    go_wp2_with (fail)
    go_returns
    exact ⟨rfl, C4.out⟩
  obtain rfl : kb = true := HKB.out.symm.trans (kindOk_d _ (by have := HK.out; omega) (by have := HK.out; omega))
  have hs : stK k = false := by simp [stK]; omega
  go_wp2_with (fail)
  refine (streams_any k _).mono ?_
  rw [hs]
  rintro e w5 ⟨rfl, rfl⟩
  go_wp2_with (fail)
  go_returns
  exact ⟨rfl, C4.out⟩

end Frm
end Go.Proofs.Ytcpjehgoeibbeaa

/- May (written by gen_frw6.py). -/
namespace Go.Proofs.Ytcpjehgoeibbeaa
open Go.RowKit
set_option linter.unusedVariables false
namespace Frm
open Var

theorem nothing_iff (g : Fr) : nothing g = true ↔ g.id = 0 ∧ g.off = 0 ∧ g.max = 0 ∧ g.code = 0 ∧ g.n = 0 ∧ g.fin = false ∧ g.delay = 0 ∧ [g.e0, g.e1, g.e2] = [0, 0, 0] ∧ g.tok = tok0 ∧ g.data.length + g.cid.length + g.acks.length = 0 := by
  simp only [nothing, Bool.and_eq_true, decide_eq_true_eq, Bool.not_eq_true', List.cons.injEq, and_true, and_assoc]
theorem isFr_iff (k : Int) : isFr k = true ↔ 0 ≤ k ∧ k ≤ 30 ∧ ¬ (8 < k ∧ k < 16) := by
  simp only [isFr, Bool.and_eq_true, decide_eq_true_eq, Bool.not_eq_true', Bool.and_eq_false_iff, decide_eq_false_iff_not]
  omega
theorem bare_le (f : Fr) : (bareF f).data.length ≤ f.data.length ∧ (bareF f).cid.length ≤ f.cid.length ∧ (bareF f).acks.length ≤ f.acks.length := by
  refine ⟨?_, ?_, ?_⟩ <;> (unfold bareF; dsimp only; split <;> simp)
theorem mayF_no (f : Fr) (h : ¬ (isFr f.kind = true ∧ nothing (bareF f) = true)) : mayF f = false := by
  apply Bool.eq_false_iff.2
  intro h2
  simp only [mayF, Bool.and_eq_true] at h2
  exact h ⟨h2.1.1.1, h2.1.1.2⟩
theorem mayF_yes (f : Fr) (h : isFr f.kind = true) (h2 : nothing (bareF f) = true) : mayF f = (smallOk f && kindOk f) := by
  simp [mayF, h, h2]
theorem may_any (p : FM) (w : World) (hp : p.ok w) (hd : p.f.data.length ≤ 140737488355328) (hc : p.f.cid.length ≤ 140737488355328) (ha : p.f.acks.length ≤ 140737488355328) : Calls Try.prog 12 #[.agg p.vals] w fun e w' => e = .returned (.bool (mayF p.f)) ∧ Below w.heap.size w w' := by
  have h16 := hp.fr.tok16
  have hk := hp.fr.kind.1
  obtain ⟨l1, l2, l3⟩ := bare_le p.f
  have h1 : (bareF p.f).data.length ≤ 140737488355328 := by omega
  have h2 : (bareF p.f).cid.length ≤ 140737488355328 := by omega
  have h3 : (bareF p.f).acks.length ≤ 140737488355328 := by omega
  by_cases k4 : 30 < p.f.kind
  · rw [mayF_no p.f (by rw [isFr_iff]; omega)]
    exact mayb3_k p w h16 h1 h2 h3 k4
  by_cases k5 : 8 < p.f.kind ∧ p.f.kind < 16
  · rw [mayF_no p.f (by rw [isFr_iff]; omega)]
    exact mayb4_k p w h16 h1 h2 h3 k5.1 k5.2
  by_cases k1 : p.f.kind ≤ 8
  case pos =>
    by_cases cid : (bareF p.f).id = 0
    case neg =>
      rw [mayF_no p.f (fun h => cid ((nothing_iff _).1 h.2).1)]
      exact mayb1_id p w h16 h1 h2 h3 k1 cid
    by_cases coff : (bareF p.f).off = 0
    case neg =>
      rw [mayF_no p.f (fun h => coff ((nothing_iff _).1 h.2).2.1)]
      exact mayb1_off p w h16 h1 h2 h3 k1 cid coff
    by_cases cmax : (bareF p.f).max = 0
    case neg =>
      rw [mayF_no p.f (fun h => cmax ((nothing_iff _).1 h.2).2.2.1)]
      exact mayb1_max p w h16 h1 h2 h3 k1 cid coff cmax
    by_cases ccode : (bareF p.f).code = 0
    case neg =>
      rw [mayF_no p.f (fun h => ccode ((nothing_iff _).1 h.2).2.2.2.1)]
      exact mayb1_code p w h16 h1 h2 h3 k1 cid coff cmax ccode
    by_cases cn : (bareF p.f).n = 0
    case neg =>
      rw [mayF_no p.f (fun h => cn ((nothing_iff _).1 h.2).2.2.2.2.1)]
      exact mayb1_n p w h16 h1 h2 h3 k1 cid coff cmax ccode cn
    by_cases cfin : (bareF p.f).fin = false
    case neg =>
      rw [mayF_no p.f (fun h => cfin ((nothing_iff _).1 h.2).2.2.2.2.2.1)]
      exact mayb1_fin p w h16 h1 h2 h3 k1 cid coff cmax ccode cn (by simpa using cfin)
    by_cases cdelay : (bareF p.f).delay = 0
    case neg =>
      rw [mayF_no p.f (fun h => cdelay ((nothing_iff _).1 h.2).2.2.2.2.2.2.1)]
      exact mayb1_delay p w h16 h1 h2 h3 k1 cid coff cmax ccode cn cfin cdelay
    by_cases cecn : [(bareF p.f).e0, (bareF p.f).e1, (bareF p.f).e2] = [0, 0, 0]
    case neg =>
      rw [mayF_no p.f (fun h => cecn ((nothing_iff _).1 h.2).2.2.2.2.2.2.2.1)]
      exact mayb1_ecn p w h16 h1 h2 h3 k1 cid coff cmax ccode cn cfin cdelay cecn
    by_cases ctok : (bareF p.f).tok = tok0
    case neg =>
      rw [mayF_no p.f (fun h => ctok ((nothing_iff _).1 h.2).2.2.2.2.2.2.2.2.1)]
      exact mayb1_tok p w h16 h1 h2 h3 k1 cid coff cmax ccode cn cfin cdelay cecn ctok
    by_cases clen : (bareF p.f).data.length + (bareF p.f).cid.length + (bareF p.f).acks.length = 0
    case neg =>
      rw [mayF_no p.f (fun h => clen ((nothing_iff _).1 h.2).2.2.2.2.2.2.2.2.2)]
      exact mayb1_len p w h16 h1 h2 h3 k1 cid coff cmax ccode cn cfin cdelay cecn ctok clen
    rw [mayF_yes p.f ((isFr_iff _).2 (by omega)) ((nothing_iff _).2 ⟨cid, coff, cmax, ccode, cn, cfin, cdelay, cecn, ctok, clen⟩)]
    exact mayg1 p w hp h16 h1 h2 h3 k1 cid coff cmax ccode cn cfin cdelay cecn ctok clen
  by_cases cid : (bareF p.f).id = 0
  case neg =>
    rw [mayF_no p.f (fun h => cid ((nothing_iff _).1 h.2).1)]
    exact mayb2_id p w h16 h1 h2 h3 (by omega) (by omega) cid
  by_cases coff : (bareF p.f).off = 0
  case neg =>
    rw [mayF_no p.f (fun h => coff ((nothing_iff _).1 h.2).2.1)]
    exact mayb2_off p w h16 h1 h2 h3 (by omega) (by omega) cid coff
  by_cases cmax : (bareF p.f).max = 0
  case neg =>
    rw [mayF_no p.f (fun h => cmax ((nothing_iff _).1 h.2).2.2.1)]
    exact mayb2_max p w h16 h1 h2 h3 (by omega) (by omega) cid coff cmax
  by_cases ccode : (bareF p.f).code = 0
  case neg =>
    rw [mayF_no p.f (fun h => ccode ((nothing_iff _).1 h.2).2.2.2.1)]
    exact mayb2_code p w h16 h1 h2 h3 (by omega) (by omega) cid coff cmax ccode
  by_cases cn : (bareF p.f).n = 0
  case neg =>
    rw [mayF_no p.f (fun h => cn ((nothing_iff _).1 h.2).2.2.2.2.1)]
    exact mayb2_n p w h16 h1 h2 h3 (by omega) (by omega) cid coff cmax ccode cn
  by_cases cfin : (bareF p.f).fin = false
  case neg =>
    rw [mayF_no p.f (fun h => cfin ((nothing_iff _).1 h.2).2.2.2.2.2.1)]
    exact mayb2_fin p w h16 h1 h2 h3 (by omega) (by omega) cid coff cmax ccode cn (by simpa using cfin)
  by_cases cdelay : (bareF p.f).delay = 0
  case neg =>
    rw [mayF_no p.f (fun h => cdelay ((nothing_iff _).1 h.2).2.2.2.2.2.2.1)]
    exact mayb2_delay p w h16 h1 h2 h3 (by omega) (by omega) cid coff cmax ccode cn cfin cdelay
  by_cases cecn : [(bareF p.f).e0, (bareF p.f).e1, (bareF p.f).e2] = [0, 0, 0]
  case neg =>
    rw [mayF_no p.f (fun h => cecn ((nothing_iff _).1 h.2).2.2.2.2.2.2.2.1)]
    exact mayb2_ecn p w h16 h1 h2 h3 (by omega) (by omega) cid coff cmax ccode cn cfin cdelay cecn
  by_cases ctok : (bareF p.f).tok = tok0
  case neg =>
    rw [mayF_no p.f (fun h => ctok ((nothing_iff _).1 h.2).2.2.2.2.2.2.2.2.1)]
    exact mayb2_tok p w h16 h1 h2 h3 (by omega) (by omega) cid coff cmax ccode cn cfin cdelay cecn ctok
  by_cases clen : (bareF p.f).data.length + (bareF p.f).cid.length + (bareF p.f).acks.length = 0
  case neg =>
    rw [mayF_no p.f (fun h => clen ((nothing_iff _).1 h.2).2.2.2.2.2.2.2.2.2)]
    exact mayb2_len p w h16 h1 h2 h3 (by omega) (by omega) cid coff cmax ccode cn cfin cdelay cecn ctok clen
  rw [mayF_yes p.f ((isFr_iff _).2 (by omega)) ((nothing_iff _).2 ⟨cid, coff, cmax, ccode, cn, cfin, cdelay, cecn, ctok, clen⟩)]
  exact mayg2 p w hp h16 h1 h2 h3 (by omega) (by omega) cid coff cmax ccode cn cfin cdelay cecn ctok clen
end Frm
end Go.Proofs.Ytcpjehgoeibbeaa
