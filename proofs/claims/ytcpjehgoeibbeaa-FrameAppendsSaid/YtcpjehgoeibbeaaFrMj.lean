import Derived.Test.YtcpjehgoeibbeaaFrMb
import Derived.Test.YtcpjehgoeibbeaaFrMh
import Derived.Laws.StructEq
/- The document's Same, of a frame and itself. -/
namespace Go.Proofs.Ytcpjehgoeibbeaa
open Go.RowKit
set_option linter.unusedVariables false
namespace Frm
open Var
section
variable {P : Program} {ops : Array Oper} {rest : List Oper} {o : Oper} {a : Act} {w : World} {Q : Exit → Act → World → Prop}
theorem wpList_eqArrK (kd : IntKind) {t ty e : TypeId} {n : Nat} {i : TypeInfo} (hu : P.underlying t = some (.array n e)) (hi : P.info? e = some i) (hc : P.cellsOf e = 1) (he : P.plainKey e = true) (hue : P.underlying e = some (.int kd))
    (hgd : Region.wanted o (yielded ops a.tmps) = true) {x y : Operand} (ho : o.op = .binOp .eql t x y ty) {xs ys : Array Value} (hx : a.eval x = .agg xs) (hy : a.eval y = .agg ys) (L M : List Int) (hl : L.length = n) (hm : M.length = n) (e1 : xs = (L.map (Value.int kd)).toArray) (e2 : ys = (M.map (Value.int kd)).toArray)
    (hg : (eqGuard .eql t x y (.agg xs) (.agg ys)).run P w = .ok () w)
    (h : wpList P ops Q rest (a.put o.dst (.bool (decide (L = M)))) w) : wpList P ops Q (o :: rest) a w := by
  refine BigFrame.wpList_want hgd fun K hK' => ?_
  subst e1 e2
  have hr : (binOp .eql t (.agg (L.map (Value.int kd)).toArray) (.agg (M.map (Value.int kd)).toArray)).run P w = .ok (.bool (decide (L = M))) w := by
    rw [run_eql_struct, show 10000 = 9999 + 1 from rfl, run_equalIn_array w 9999 _ _ hu hi, hc, show 9999 = 9998 + 1 from rfl, run_items_kd kd 9998 he hue L M w _ (by intro i hi; simp at hi; omega), ← hl, all_range_eq L M (by omega)]
    rfl
  unfold Oper.wp
  simp only [execOp, ho, hx, hy]
  simp only [Sem.run_bind, hg, hr, Result.andThen]
  exact hK' _ _ h
theorem stop_eqt {d : Option Tmp} {x y : Operand} {t2 ty : TypeId} {pos : String} {aft : Array Edge} {g : Option (Nat × Bool)}
    (h : Stop (wpList P ops Q (⟨d, .binOp .eql 32 x y t2, ty, pos, aft, g⟩ :: rest) a w)) : wpList P ops Q (⟨d, .binOp .eql 32 x y t2, ty, pos, aft, g⟩ :: rest) a w := h
theorem stop_eqe {d : Option Tmp} {x y : Operand} {t2 ty : TypeId} {pos : String} {aft : Array Edge} {g : Option (Nat × Bool)}
    (h : Stop (wpList P ops Q (⟨d, .binOp .eql 34 x y t2, ty, pos, aft, g⟩ :: rest) a w)) : wpList P ops Q (⟨d, .binOp .eql 34 x y t2, ty, pos, aft, g⟩ :: rest) a w := h
end
set_option maxHeartbeats 8000000 in
set_option maxRecDepth 100000 in
theorem same_yes (p q : FM) (w : World) (hp : p.ok w) (hq : q.ok w) (he : q.f = p.f) (hd : p.f.data.length ≤ 1000000) (hc : p.f.cid.length ≤ 1000000) (ha : p.f.acks.length ≤ 100000000) :
    Calls Try.prog 15 #[.agg p.vals, .agg q.vals] w fun e w' => e = .returned (.bool true) ∧ Below w.heap.size w w' := by
  have HP := Lib.hid hp
  have HQ := Lib.hid hq
  have HE := Lib.hid he
  have b1 := Blk.new w p.vals 36
  have k1 := (Below.refl w.heap.size w).alloc (Nat.le_refl _) (.cells p.vals 36)
  have z1 : (w.alloc (.cells p.vals 36)).heap.size = w.heap.size + 1 := by simp
  obtain ⟨w1, hw1⟩ : ∃ w1, w.alloc (.cells p.vals 36) = w1 := ⟨_, rfl⟩
  rw [hw1] at b1 k1 z1
  have b2 := Blk.new w1 q.vals 36
  have k2 := k1.alloc (by omega) (.cells q.vals 36)
  have b3 := Blk.alloc b1 (.cells q.vals 36)
  rw [z1] at b2
  obtain ⟨w2, hw2⟩ : ∃ w2, w1.alloc (.cells q.vals 36) = w2 := ⟨_, rfl⟩
  rw [hw2] at b2 k2 b3
  have HA := Lib.hid b3
  have HB := Lib.hid b2
  have K2 := Lib.hid k2
  have HW := Lib.hid (show (w.alloc (.cells p.vals 36)).alloc (.cells q.vals 36) = w2 by rw [hw1, hw2])
  clear hp hq he b1 k1 z1 b2 k2 b3 hw1 hw2
  go_enter Try.func15, Try.ntmps15
  go_upto_region 1 with (fail)
  rw [HW.out]
  have hp16 := HP.out.fr.tok16
  have A := FB.fc HA.out hp16
  have B := FB.fc HB.out (by rw [HE.out]; exact hp16)
  have a0 := A.c0
  have a1 := A.c1
  have a2 := A.c2
  have a3 := A.c3
  have a4 := A.c4
  have a5 := A.c5
  have a6 := A.c6
  have a7 := A.c7
  have a8 := A.c8
  have a25 := A.c25
  have a26 := A.c26
  have b0 := B.c0
  have b1 := B.c1
  have b2 := B.c2
  have b3 := B.c3
  have b4 := B.c4
  have b5 := B.c5
  have b6 := B.c6
  have b7 := B.c7
  have b8 := B.c8
  have b25 := B.c25
  have b26 := B.c26
  have TA := Lib.hid (fun j v h => FB.tokAt HA.out hp16 j v h)
  have TB := Lib.hid (fun j v h => FB.tokAt HB.out (by rw [HE.out]; exact hp16) j v h)
  have EA := Lib.hid (fun j v h => FB.ecnAt HA.out hp16 j v h)
  have EB := Lib.hid (fun j v h => FB.ecnAt HB.out (by rw [HE.out]; exact hp16) j v h)
  have DA := Lib.hid (HP.out.d.below K2.out)
  have DB := Lib.hid (HQ.out.d.below K2.out)
  have CA := Lib.hid (HP.out.c.below K2.out)
  have CB := Lib.hid (HQ.out.c.below K2.out)
  have RA := Lib.hid (HP.out.a.below K2.out)
  have RB := Lib.hid (HQ.out.a.below K2.out)
  rw [HE.out] at b0 b1 b2 b3 b4 b5 b6 b7 b8 b25 b26 TB EB DB CB RB
  have HT16 := Lib.hid hp16
  obtain ⟨dl, hdl⟩ : ∃ n, n = p.f.data.length := ⟨_, rfl⟩
  obtain ⟨cl, hcl⟩ : ∃ n, n = p.f.cid.length := ⟨_, rfl⟩
  obtain ⟨al, hal⟩ : ∃ n, n = p.f.acks.length := ⟨_, rfl⟩
  rw [← hdl] at a7 b7 hd
  rw [← hcl] at a8 b8 hc
  rw [← hal] at a25 b25 ha
  have HND := Lib.hid hdl
  have HNC := Lib.hid hcl
  have HNA := Lib.hid hal
  clear hdl hcl hal A B hp16
  generalize p.f.kind = x0 at *
  generalize p.f.id = x1 at *
  generalize p.f.off = x2 at *
  generalize p.f.max = x3 at *
  generalize p.f.code = x4 at *
  generalize p.f.n = x5 at *
  generalize p.f.fin = x6 at *
  generalize p.f.delay = x26 at *
  simp only [List.append_eq, List.cons_append, List.nil_append]
  go_wp2_with (with_reducible refine stop_bstr_g ?_)
  refine Stop.out ?_
  refine wpList_str Try.underlying23 Try.underlying5 Try.underlying9 rfl rfl rfl HND.out DA.out.ints ?_
  go_wp2_with (with_reducible refine stop_bstr_g ?_)
  refine Stop.out ?_
  refine wpList_str Try.underlying23 Try.underlying5 Try.underlying9 rfl rfl rfl HND.out DB.out.ints ?_
  go_wp2_with (with_reducible refine stop_eql ?_)
  refine Stop.out ?_
  refine wpList_same rfl rfl rfl rfl ?_
  go_wp2_with (with_reducible refine stop_bstr_g ?_)
  refine Stop.out ?_
  refine wpList_str Try.underlying23 Try.underlying5 Try.underlying9 rfl rfl rfl HNC.out CA.out.ints ?_
  go_wp2_with (with_reducible refine stop_bstr_g ?_)
  refine Stop.out ?_
  refine wpList_str Try.underlying23 Try.underlying5 Try.underlying9 rfl rfl rfl HNC.out CB.out.ints ?_
  go_wp2_with (with_reducible refine stop_eql ?_)
  refine Stop.out ?_
  refine wpList_same rfl rfl rfl rfl ?_
  go_wp2_with (with_reducible refine stop_ldt ?_)
  refine Stop.out ?_
  refine wpList_loadPart (p.f.tok.map (Value.int .u8)) Try.underlying32 rfl (by rw [List.length_map, HT16.out]; exact tok_size) rfl rfl rfl TA.out ?_
  go_wp2_with (with_reducible refine stop_ldt ?_)
  refine Stop.out ?_
  refine wpList_loadPart (p.f.tok.map (Value.int .u8)) Try.underlying32 rfl (by rw [List.length_map, HT16.out]; exact tok_size) rfl rfl rfl TB.out ?_
  go_wp2_with (with_reducible refine stop_eqt ?_)
  refine Stop.out ?_
  obtain ⟨ti, hti⟩ := u8_info
  refine wpList_eqArrK .u8 Try.underlying32 hti u8_cells u8_plain Try.underlying5 rfl rfl rfl rfl p.f.tok p.f.tok HT16.out HT16.out rfl rfl ?_ ?_
  · first | rfl | go_simp
  rw [decide_eq_true rfl]
  go_wp2_with (with_reducible refine stop_lde ?_)
  refine Stop.out ?_
  refine wpList_loadPart [.int .u64 p.f.e0, .int .u64 p.f.e1, .int .u64 p.f.e2] Try.underlying34 rfl ecn_size rfl rfl rfl EA.out ?_
  go_wp2_with (with_reducible refine stop_lde ?_)
  refine Stop.out ?_
  refine wpList_loadPart [.int .u64 p.f.e0, .int .u64 p.f.e1, .int .u64 p.f.e2] Try.underlying34 rfl ecn_size rfl rfl rfl EB.out ?_
  go_wp2_with (with_reducible refine stop_eqe ?_)
  refine Stop.out ?_
  obtain ⟨tj, htj⟩ := u64_info
  refine wpList_eqArrK .u64 Try.underlying34 htj u64_cells u64_plain Try.underlying30 rfl rfl rfl rfl [p.f.e0, p.f.e1, p.f.e2] [p.f.e0, p.f.e1, p.f.e2] rfl rfl rfl rfl ?_ ?_
  · first | rfl | go_simp
  rw [decide_eq_true rfl]
  go_wp2_with (fail)
  go_loopw [5, 6] (fun ok i wr => ∃ k : Nat, ok = .bool true ∧ i = .int .i64 k ∧ k ≤ al ∧ Below w2.heap.size w2 wr) (fun _ i _ => al - (intOf i).toNat)
  case atStart => exact ⟨0, rfl, rfl, by omega, Below.refl _ _⟩
  case round =>
    obtain ⟨k, rfl, rfl, hk, bw⟩ := hrel
    have a25 : wr.cell? ⟨w.heap.size, 25, none⟩ = _ := (bw.cell (Blk.lt HA.out)).trans a25
    have b25 : wr.cell? ⟨w.heap.size + 1, 25, none⟩ = _ := (bw.cell (Blk.lt HB.out)).trans b25
    by_cases hlt : k < al
    · obtain ⟨g1, o1, e1, hg1, c1, c2⟩ := (RA.out.below bw).at_ (i := k) (by rw [← HNA.out]; exact hlt)
      obtain ⟨g2, o2, e2, hg2, d1, d2⟩ := (RB.out.below bw).at_ (i := k) (by rw [← HNA.out]; exact hlt)
      rw [e1] at a25
      rw [e2] at b25
      generalize (p.f.acks.getD k default).1 = y1 at *
      generalize (p.f.acks.getD k default).2 = y2 at *
      clear e1 e2
      go_wp2_with (fail)
      refine rg_start 12 ?_
      refine rg_same fun p hx hne hC => ?_
      refine rg_quiet 0 [0,1,2,3,4,5,6,7,8,9,10,11] hC ?_
      simp only [pickD, List.map_cons, List.map_nil, List.getD_cons_zero, List.getD_cons_succ]; repeat (go_big_quiet_step (fail))
      refine wpQuiet_nil ?_
      refine rg_end ?_
      go_wp2_with (fail)
      exact ⟨⟨k + 1, rfl, by go_num, by omega, bw.drew⟩, by simp [intOf]; omega⟩
    · obtain rfl : k = al := by omega
      go_wp2_with (fail)
      go_returns
      exact ⟨rfl, below_on K2.out bw K2.out.size⟩
end Frm
end Go.Proofs.Ytcpjehgoeibbeaa

/- The document's SameAll, of lists that are the same. -/
namespace Go.Proofs.Ytcpjehgoeibbeaa
open Go.RowKit
set_option linter.unusedVariables false
namespace Frm
open Var
set_option maxHeartbeats 4000000 in
set_option maxRecDepth 100000 in
theorem sameall_yes (a b : Option Addr) (n ac bc : Nat) (ps qs : List FM) (w : World) (hn : n = ps.length) (hP : Fs w a ac ps) (hQ : Fs w b bc qs) (he : ps.map FM.f = qs.map FM.f) (hs : ∀ p ∈ ps, p.f.data.length ≤ 1000000 ∧ p.f.cid.length ≤ 1000000 ∧ p.f.acks.length ≤ 100000000) (hl : n ≤ 1000000) :
    Calls Try.prog 11 #[.slice a n ac, .slice b n bc] w fun e w' => e = .returned (.bool true) ∧ Below w.heap.size w w' := by
  have HP := Lib.hid hP
  have HQ := Lib.hid hQ
  have HE := Lib.hid he
  have HS := Lib.hid hs
  have HN := Lib.hid hn
  have HM := Lib.hid (show n = qs.length by rw [hn, ← List.length_map (f := FM.f), he, List.length_map])
  clear hP hQ he hs hn
  go_enter Try.func11, Try.ntmps11
  go_wp2_with (fail)
  go_loopw [5, 6] (fun ok i wr => ∃ k : Nat, ok = .bool true ∧ i = .int .i64 k ∧ k ≤ n ∧ Hid (Below w.heap.size w wr)) (fun _ i _ => n - (intOf i).toNat)
  case atStart => exact ⟨0, rfl, rfl, by omega, Lib.hid (Below.refl _ _)⟩
  case round =>
    obtain ⟨k, rfl, rfl, hk, hbw⟩ := hrel
    by_cases hlt : k < n
    · have hkp : k < ps.length := by have := HN.out; omega
      have hkq : k < qs.length := by have := HM.out; omega
      obtain ⟨b1, o1, e1, hb1, hc1⟩ := (HP.out.below hbw.out).at_ k hkp
      obtain ⟨b2, o2, e2, hb2, hc2⟩ := (HQ.out.below hbw.out).at_ k hkq
      have hpm : ps[k] ∈ ps := List.getElem_mem hkp
      have hqm : qs[k] ∈ qs := List.getElem_mem hkq
      have hpq : (qs[k]).f = (ps[k]).f := by
        have h1 : (ps.map FM.f)[k]? = (qs.map FM.f)[k]? := by rw [HE.out]
        rw [List.getElem?_map, List.getElem?_map, List.getElem?_eq_getElem hkp, List.getElem?_eq_getElem hkq] at h1
        simpa using h1.symm
      obtain ⟨p, hp⟩ : ∃ p, ps[k] = p := ⟨_, rfl⟩
      obtain ⟨q, hq⟩ : ∃ p, qs[k] = p := ⟨_, rfl⟩
      rw [hp] at hc1 hpm hpq
      rw [hq] at hc2 hqm hpq
      have HC1 := Lib.hid hc1
      have HC2 := Lib.hid hc2
      have OP := Lib.hid ((HP.out.ok p hpm).below hbw.out)
      have OQ := Lib.hid ((HQ.out.ok q hqm).below hbw.out)
      have HPQ := Lib.hid hpq
      have HSP := Lib.hid (HS.out p hpm)
      clear hp hq hc1 hc2 hpm hqm hpq hkp hkq
      subst e1 e2
      go_wp2_with (fail)
      refine rg_start 10 ?_
      refine rg_same fun K hx hne hC => ?_
      refine rg_quiet 2 [0,1,2,4,5,6,3,7] hC ?_
      simp only [pickD, List.map_cons, List.map_nil, List.getD_cons_zero, List.getD_cons_succ]
      iterate 6 (go_big_quiet_step (fail))
      refine wpQuiet_loadPart p.list Try.underlying36 rfl (by rw [p.length OP.out.fr.tok16]; exact fr_size) rfl rfl rfl (fun w' hc j v hv => by have := hx ⟨w', hc.out⟩; dsimp only at this; subst this; exact HC1.out j v hv) ?_
      refine wpQuiet_loadPart q.list Try.underlying36 rfl (by rw [q.length OQ.out.fr.tok16]; exact fr_size) rfl rfl rfl (fun w' hc j v hv => by have := hx ⟨w', hc.out⟩; dsimp only at this; subst this; exact HC2.out j v hv) ?_
      refine wpQuiet_nil ?_
      refine rg_cut 8 ?_
      go_wp2_with (fail)
      have DR := (Below.refl wr.heap.size wr).drew
      obtain ⟨s1, s2, s3⟩ := HSP.out
      refine (same_yes p q wr.drew (OP.out.below DR) (OQ.out.below DR) HPQ.out s1 s2 s3).mono ?_
      rintro e w2 ⟨rfl, b2⟩
      have KB := Lib.hid (below_on (hbw.out.drew) b2 (show w.heap.size ≤ wr.drew.heap.size from hbw.out.size))
      clear b2 DR hx hne hC
      go_wp2_with (fail)
      refine rg_same fun K hx hne hC => ?_
      refine rg_quiet 0 [9] hC ?_
      simp only [pickD, List.map_cons, List.map_nil, List.getD_cons_zero, List.getD_cons_succ]; repeat (go_big_quiet_step (fail))
      refine wpQuiet_nil ?_
      refine rg_end ?_
      clear hx hne hC
      go_wp2_with (fail)
      exact ⟨⟨k + 1, rfl, by go_num, by omega, KB⟩, by simp [intOf]; omega⟩
    · obtain rfl : k = n := by omega
      go_wp2_with (fail)
      go_returns
      exact ⟨rfl, hbw.out⟩
def gr1 (f : Fr) : Int := 1 + ((f.acks.length : Int) + ((f.data.length : Int) + f.cid.length) / 16) + (if 64 < f.n then f.n % 4000000 / 64 else 0)
def grS (L : List FM) : Int := (L.map fun p => gr1 p.f).sum
theorem grS_take (L : List FM) (k : Nat) (p : FM) (h : L[k]? = some p) : grS (L.take (k + 1)) = grS (L.take k) + gr1 p.f := by
  unfold grS
  rw [List.take_add_one, h, List.map_append, List.sum_append]
  simp
def GrP (L : List FM) (e : Ending) : Prop := ∃ v, e = .returned (.bool v) ∧ (v = false → grS L ≤ 4000)
set_option maxHeartbeats 4000000 in
set_option maxRecDepth 100000 in
theorem great_any (a : Option Addr) (n ac : Nat) (L : List FM) (w : World) (hn : n = L.length) (hL : Fs w a ac L) (hs : ∀ p ∈ L, p.f.data.length ≤ 140737488355328 ∧ p.f.cid.length ≤ 140737488355328 ∧ p.f.acks.length ≤ 140737488355328) (hl : n ≤ 140737488355328) :
    Calls Try.prog 7 #[.slice a n ac] w fun e w' => GrP L e ∧ Below w.heap.size w w' := by
  have HL := Lib.hid hL
  have HS := Lib.hid hs
  have HN := Lib.hid hn
  clear hL hs hn
  go_enter Try.func7, Try.ntmps7
  go_wp2_with (fail)
  go_loopw [3, 4] (fun s i wr => ∃ (k : Nat) (g : Int), s = .int .u64 g ∧ i = .int .i64 k ∧ k ≤ n ∧ 0 ≤ g ∧ g ≤ 422212465200000 ∧ Hid (g = grS (L.take k)) ∧ Hid (Below w.heap.size w wr)) (fun _ i _ => n - (intOf i).toNat)
  case atStart => exact ⟨0, 0, rfl, rfl, by omega, by omega, by omega, Lib.hid rfl, Lib.hid (Below.refl _ _)⟩
  case round =>
    obtain ⟨k, g, rfl, rfl, hk, hg0, hg1, hg, hbw⟩ := hrel
    by_cases hlt : k < n
    · have hd1 : decide (k < n) = true := by simp; omega
      by_cases hgb : g ≤ 4000
      · have hd2 : decide (g ≤ 4000) = true := by simp; omega
        have hkl : k < L.length := by have := HN.out; omega
        obtain ⟨b1, o1, e1, hb1, hc1⟩ := (HL.out.below hbw.out).at_ k hkl
        have hpm : L[k] ∈ L := List.getElem_mem hkl
        obtain ⟨p, hp⟩ : ∃ p, L[k] = p := ⟨_, rfl⟩
        rw [hp] at hc1 hpm
        have HPE := Lib.hid (show L[k]? = some p by rw [List.getElem?_eq_getElem hkl, hp])
        have pok := HL.out.ok p hpm
        obtain ⟨s1, s2, s3⟩ := HS.out p hpm
        have un := pok.fr.n
        unfold U64 at un
        have h16 := pok.fr.tok16
        have a5 := hc1 5 _ rfl
        have a7 := hc1 7 _ rfl
        have a8 := hc1 8 _ rfl
        have a25 := hc1 25 (.slice p.aa p.f.acks.length p.ac) (by rw [show 25 = 25 + 0 from rfl, p.at_post h16]; rfl)
        have hgr : gr1 p.f = 1 + ((p.f.acks.length : Int) + ((p.f.data.length : Int) + p.f.cid.length) / 16) + (if 64 < p.f.n then p.f.n % 4000000 / 64 else 0) := rfl
        have HST := Lib.hid (grS_take L k p HPE.out)
        obtain ⟨dl, hdl⟩ : ∃ n, p.f.data.length = n := ⟨_, rfl⟩
        obtain ⟨cl, hcl⟩ : ∃ n, p.f.cid.length = n := ⟨_, rfl⟩
        obtain ⟨al, hal⟩ : ∃ n, p.f.acks.length = n := ⟨_, rfl⟩
        obtain ⟨nn, hnn⟩ : ∃ n, p.f.n = n := ⟨_, rfl⟩
        rw [hdl] at s1 hgr
        rw [hcl] at s2 hgr
        rw [hal] at s3 a25 hgr
        rw [hnn] at un hgr
        replace a5 : wr.cell? ⟨b1, o1 + k * 30 + 5, none⟩ = some (.int .u64 nn) := by rw [← hnn]; exact a5
        replace a7 : wr.cell? ⟨b1, o1 + k * 30 + 7, none⟩ = some (.slice p.da dl p.dc) := by rw [← hdl]; exact a7
        replace a8 : wr.cell? ⟨b1, o1 + k * 30 + 8, none⟩ = some (.slice p.ca cl p.cc) := by rw [← hcl]; exact a8
        obtain ⟨sN, hsN⟩ : ∃ sN : Nat, sN = (dl + cl) / 16 := ⟨_, rfl⟩
        have hdv : ((dl : Int) + (cl : Int)).tdiv 16 = (sN : Int) := by
          rw [hsN, show ((dl : Int) + (cl : Int)) = ((dl + cl : Nat) : Int) by omega, show (16 : Int) = ((16 : Nat) : Int) from rfl, ← Int.ofNat_tdiv]
        have hsb : sN ≤ 35184372088832 := by omega
        have HGR := Lib.hid (show gr1 p.f = 1 + ((al : Int) + sN) + (if 64 < nn then nn % 4000000 / 64 else 0) by
          rw [hgr, hsN]; congr 3)
        have HST2 := Lib.hid (show g + gr1 p.f = grS (L.take (k + 1)) by rw [HST.out, hg.out])
        clear hsN
        subst e1
        clear hp hc1 hpm pok h16 hgr hdl hcl hal hnn hkl
        go_wp2_with (fail)
        refine rg_start 26 ?_
        refine rg_same fun p hx hne hC => ?_
        refine rg_quiet 0 [0,1,2,3,4,5,6,7,8,9,10,11,12,13,14,15,16,17,18,19,20,21,22,23,24,25] hC ?_
        simp only [pickD, List.map_cons, List.map_nil, List.getD_cons_zero, List.getD_cons_succ]; repeat (go_big_quiet_step (fail))
        refine wpQuiet_nil ?_
        refine rg_end ?_
        by_cases h64 : 64 < nn
        · have hd4 : decide (64 < nn) = true := by simp; omega
          have hm0 : 0 ≤ nn % 4000000 / 64 ∧ nn % 4000000 / 64 ≤ 62500 := by omega
          have hmd : nn.tmod 4000000 = nn % 4000000 := Int.tmod_eq_emod_of_nonneg (by omega)
          have hmq : (nn % 4000000).tdiv 64 = nn % 4000000 / 64 := Int.tdiv_eq_ediv_of_nonneg (by omega)
          have hfin := Lib.hid (show g + 1 + ((al : Int) + sN) + nn % 4000000 / 64 = grS (L.take (k + 1)) by
            have h1 := HST2.out
            have h2 := HGR.out
            rw [if_pos h64] at h2
            omega)
          go_wp2_with (fail)
          exact ⟨⟨k + 1, g + 1 + ((al : Int) + sN) + nn % 4000000 / 64, rfl, by go_num, by omega, by omega, by omega, hfin, Lib.hid hbw.out.drew⟩, by simp [intOf]; omega⟩
        · have hd4 : decide (64 < nn) = false := by simp; omega
          have hfin := Lib.hid (show g + 1 + ((al : Int) + sN) = grS (L.take (k + 1)) by
            have h1 := HST2.out
            have h2 := HGR.out
            rw [if_neg h64] at h2
            omega)
          go_wp2_with (fail)
          exact ⟨⟨k + 1, g + 1 + ((al : Int) + sN), by go_num, by go_num, by omega, by omega, by omega, hfin, Lib.hid hbw.out.drew⟩, by simp [intOf]; omega⟩
      · have hd2 : decide (g ≤ 4000) = false := by simp; omega
        have hd3 : decide (4000 < g) = true := by simp; omega
        go_wp2_with (fail)
        go_returns
        exact ⟨⟨true, rfl, fun h => by cases h⟩, hbw.out⟩
    · obtain rfl : k = n := by omega
      have hsum := Lib.hid (show g = grS L by rw [hg.out, HN.out, List.take_length])
      by_cases hgb : 4000 < g
      · have hd3 : decide (4000 < g) = true := by simp; omega
        go_wp2_with (fail)
        go_returns
        exact ⟨⟨true, rfl, fun h => by cases h⟩, hbw.out⟩
      · have hd3 : decide (4000 < g) = false := by simp; omega
        go_wp2_with (fail)
        go_returns
        exact ⟨⟨false, rfl, fun _ => by rw [← hsum.out]; omega⟩, hbw.out⟩
end Frm
end Go.Proofs.Ytcpjehgoeibbeaa

/- Paddings that follow one another as one. -/
namespace Go.Proofs.Ytcpjehgoeibbeaa
open Go.RowKit
set_option linter.unusedVariables false
namespace Frm
open Var
end Frm
end Go.Proofs.Ytcpjehgoeibbeaa
