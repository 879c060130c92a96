/- Walks: the document's Make. -/
import Derived.Test.YtidfimpchbkppaaSpW3
namespace Go.Proofs.Ytidfimpchbkppaa
open Go.RowKit
set_option linter.unusedVariables false

/-- One cell of it is set. -/
theorem OwnS.setS {w : World} {base : Nat} {e : TypeId} {size n cap : Nat} {a : Option Addr} {xs : List Value} (h : OwnS w base e size a n cap xs) (g : Nat) (ha : a = some ⟨g, 0, none⟩) (i : Nat) (v : Value) : OwnS (w.setCell ⟨g, i, none⟩ v) base e size a n cap (xs.set i v) := by
  obtain ⟨hl, h2⟩ := h
  refine ⟨by simpa using hl, ?_⟩
  rcases h2 with ⟨h1, h3⟩ | ⟨g', c, cur, h1, h3, h4, h5, h6, h7, h8⟩
  · rw [ha] at h1; cases h1
  · rw [ha] at h1
    cases h1
    have hb : Blk w g cur e := h4
    refine .inr ⟨g, cap, _, by rw [ha], h3, hb.set i v, h5, h6, by simpa using h7, ?_⟩
    rw [← h8]
    simp [List.take_set]
theorem cellsR_set (A : List Rg) (q : Rg) (y : Int) : (cellsR (A ++ [q])).set (A.length * 2 + 1) (.int .u64 y) = cellsR (A ++ [(q.1, y)]) := by
  rw [cellsR_append, cellsR_append, List.set_append_right _ _ (by rw [cellsR_length]; omega), cellsR_length]
  have e1 : A.length * 2 + 1 - A.length * 2 = 1 := by omega
  rw [e1]
  rfl
theorem below_set {B : Nat} {w w' : World} (h : Below B w w') {p : Addr} (hp : B ≤ p.block) (u : Value) : Below B w (w'.setCell p u) :=
  ⟨h.os, h.tape, h.output, by simpa [World.setCell] using h.size, fun k hk => by rw [Below.heap_setCell _ _ _ _ (by rintro rfl; omega)]; exact h.block k hk⟩
theorem SrcAt.blk2 {w : World} {q : Nat} {r : Rg} {t : TypeId} (h : Blk w q #[.int .u64 r.1, .int .u64 r.2] t) : SrcAt w (some ⟨q, 0, none⟩) 1 1 2 (cellsR [r]) :=
  ⟨rfl, by simp, fun y hy j u hj => by
    cases hy
    rw [addr_add, Nat.zero_add]
    exact h.cell j u (by
      match j with
      | 0 => simpa [cellsR, flat] using hj
      | 1 => simpa [cellsR, flat] using hj
      | j + 2 => simp [cellsR, flat] at hj), cellsR_one _⟩
theorem OwnS.lastR {w : World} {base : Nat} {e : TypeId} {n cap : Nat} {a : Option Addr} {A : List Rg} {q : Rg} (h : OwnS w base e 2 a n cap (cellsR (A ++ [q]))) : ∃ g, a = some ⟨g, 0, none⟩ ∧ base ≤ g ∧ g < w.heap.size ∧ n = A.length + 1 ∧
    w.cell? ⟨g, A.length * 2, none⟩ = some (.int .u64 q.1) ∧ w.cell? ⟨g, A.length * 2 + 1, none⟩ = some (.int .u64 q.2) ∧ w.frozen? ⟨g, A.length * 2 + 1, none⟩ = false := by
  have hl := h.length
  rw [cellsR_length] at hl
  simp only [List.length_append, List.length_singleton] at hl
  have e0 : (cellsR (A ++ [q]))[A.length * 2]? = some (.int .u64 q.1) := by
    rw [cellsR_append, List.getElem?_append_right (by rw [cellsR_length]; omega), cellsR_length, Nat.sub_self]; rfl
  have e1 : (cellsR (A ++ [q]))[A.length * 2 + 1]? = some (.int .u64 q.2) := by
    rw [cellsR_append, List.getElem?_append_right (by rw [cellsR_length]; omega), cellsR_length, show A.length * 2 + 1 - A.length * 2 = 1 from by omega]; rfl
  obtain ⟨g, ha, h1, h2, h3, _⟩ := h.at_ (i := A.length * 2) (by rw [cellsR_length]; simp)
  obtain ⟨g', ha', _, _, h3', hf⟩ := h.at_ (i := A.length * 2 + 1) (by rw [cellsR_length]; simp; omega)
  rw [ha] at ha'
  cases ha'
  exact ⟨g, ha, h1, h2, by omega, by rw [h3, e0], by rw [h3', e1], hf⟩

set_option maxRecDepth 20000 in
set_option maxHeartbeats 4000000 in
theorem make_any (kind : Int) (hkind : kind = 0 ∨ kind = 1 ∨ kind = 2) (a b : Option Addr) (n m cap cap' : Nat) (A B : List Rg) (w : World) (hn : n = A.length) (hm : m = B.length) (hA : Rs w a cap A) (hB : Rs w b cap' B) (lA : A.length ≤ 100000) (lB : B.length ≤ 100000) :
    Calls Try.prog 18 #[.int .i64 kind, .slice a n cap, .slice b m cap'] w fun e w' => Below w.heap.size w w' ∧ ∃ a' c' M, e = .returned (.slice a' M.length c') ∧ Rs w' a' c' M ∧ M.length ≤ 2 * (A.length + B.length) ∧ IsNf (fun n => opR kind (inB A n) (inB B n) = true) M := by
  subst hn hm
  have HA := Lib.hid hA
  have HB := Lib.hid hB
  have BA := Lib.hid hA.bnd
  have BB := Lib.hid hB.bnd
  have HK := Lib.hid hkind
  clear hA hB hkind
  go_enter Try.func18, Try.ntmps18
  go_wp2_with (fail)
  refine (ends_any a b _ _ cap cap' A B w rfl rfl HA.out HB.out lA lB).mono ?_
  rintro e w1 ⟨hb1, ae, ce, rfl, hs1⟩
  have lE := endsR_length A B
  have HBD := Lib.hid (endsR_bnd BA.out BB.out)
  have hdef : ∀ j, j < (endsR A B).length → (endsR A B).getD j 18446744073709551615 = (endsR A B).getD j 0 := fun j hj => by simp [hj]
  obtain ⟨E, hE⟩ : ∃ E, endsR A B = E := ⟨_, rfl⟩
  have HD := Lib.hid hdef
  rw [hE] at hs1 lE HBD ⊢
  have HE := Lib.hid hE
  have HS := Lib.hid hs1
  have HB1 := Lib.hid hb1
  have LE := Lib.hid lE
  have lE' : E.length ≤ 400000 := by omega
  clear hE hs1 hb1 hdef lE
  go_wp2_with (fail)
  go_loopw [8, 9, 10, 11, 12, 13] (fun o i _ _ _ _ wr => ∃ (k : Nat) (a' : Option Addr) (n' c' : Nat) (out : List Rg), i = .int .i64 k ∧ o = .slice a' n' c' ∧ k ≤ E.length - 1 ∧ Below w1.heap.size w1 wr ∧ Hid (n' = out.length ∧ OwnS wr w1.heap.size 31 2 a' n' c' (cellsR out) ∧ MkInv kind A B k out)) (fun _ i _ _ _ _ _ => E.length - (intOf i).toNat)
  case atStart => exact ⟨0, none, 0, 0, [], rfl, rfl, by omega, Below.refl _ _, Lib.hid ⟨rfl, OwnS.nil _ _ _ _, MkInv.start kind BA.out BB.out⟩⟩
  case round =>
    obtain ⟨k, a', n', c', out, rfl, rfl, hk, bw, hok⟩ := hrel
    by_cases hlt : k + 1 < E.length
    · have hlI : (k : Int) + 1 < E.length := by omega
      obtain ⟨be, oe, hae, hbe, ce1, _⟩ := (HS.out.below bw).ints k (by omega)
      obtain ⟨be', oe', hae', _, ce2, _⟩ := (HS.out.below bw).ints (k + 1) hlt
      rw [hae] at hae'
      cases hae'
      subst hae
      obtain ⟨x, hx⟩ : ∃ x, E.getD k 0 = x := ⟨_, rfl⟩
      obtain ⟨y, hy⟩ : ∃ y, E.getD (k + 1) 0 = y := ⟨_, rfl⟩
      rw [hx] at ce1
      rw [hy] at ce2
      have hxb : 0 ≤ x ∧ x ≤ 18446744073709551615 := by rw [← hx]; exact HBD.out _ (mem_getD (by omega) _)
      have hyb : 0 ≤ y ∧ y ≤ 18446744073709551615 := by rw [← hy]; exact HBD.out _ (mem_getD hlt _)
      have hst : MkInv kind A B (k + 1) (mkStep out (opR kind (inB A x) (inB B x)) x y) := hok.out.2.2.step BA.out BB.out (by rw [HE.out]; exact hlt) (by rw [HD.out k (by rw [HE.out]; omega), HE.out]; exact hx) (by rw [HD.out (k + 1) (by rw [HE.out]; exact hlt), HE.out]; exact hy)
      have b0 : Below w.heap.size w wr := below_on HB1.out bw HB1.out.size
      have hinA := in_any a _ cap A x wr.drew rfl hxb (HA.out.below (below_on HB1.out bw HB1.out.size).drew)
      have hinB := in_any b _ cap' B x wr.drew rfl hxb (HB.out.below (below_on HB1.out bw HB1.out.size).drew)
      obtain ⟨u, hu⟩ : ∃ u, inB A x = u := ⟨_, rfl⟩
      obtain ⟨v, hv⟩ : ∃ v, inB B x = v := ⟨_, rfl⟩
      rw [hu] at hinA hst
      rw [hv] at hinB hst
      have HST := Lib.hid hst
      have HINA := Lib.hid hinA
      have HINB := Lib.hid hinB
      clear hx hy hu hv hst hinA hinB
      go_wp2_with (fail)
      refine rg_start 14 ?_
      refine rg_same fun p hx hne hC => ?_
      refine rg_quiet 4 [0,1,2,3,4,6,7,8,9,10] hC ?_
      simp only [pickD, List.map_cons, List.map_nil, List.getD_cons_zero, List.getD_cons_succ]; repeat (go_big_quiet_step (fail))
      refine wpQuiet_nil ?_
      refine rg_act 5 ?_
      go_wp2_with (fail)
      refine HINA.out.mono ?_
      rintro e w2 ⟨rfl, rfl⟩
      go_wp2_with (fail)
      refine ⟨hC, ?_⟩
      refine rg_cut 11 ?_
      go_wp2_with (fail)
      refine HINB.out.mono ?_
      rintro e w2 ⟨rfl, rfl⟩
      go_wp2_with (fail)
      refine rg_same fun p hx hne hC => ?_
      refine rg_quiet 0 [12,13] hC ?_
      simp only [pickD, List.map_cons, List.map_nil, List.getD_cons_zero, List.getD_cons_succ]; repeat (go_big_quiet_step (fail))
      refine wpQuiet_nil ?_
      refine rg_end ?_
      clear hx hne hC HINA HINB
      rcases HK.out with rfl | rfl | rfl
      · cases u with
        | false =>
          cases v with
          | false =>
            go_wp2_with (fail)
            refine rg_start 18 ?_
            refine rg_same fun p hx hne hC => ?_
            refine rg_quiet 0 [0,1,2,3,4,5,6,7,8,9,10,11,12,13,14,15,16,17] hC ?_
            simp only [pickD, List.map_cons, List.map_nil, List.getD_cons_zero, List.getD_cons_succ]; repeat (go_big_quiet_step (fail))
            refine wpQuiet_nil ?_
            refine rg_end ?_
            clear hx hne hC
            go_wp2_with (fail)
            exact ⟨⟨k + 1, a', n', c', out, by go_num, rfl, by omega, bw.drew.drew, Lib.hid ⟨hok.out.1, hok.out.2.1.below ((Below.refl _ _).drew.drew), by have := HST.out; simpa [opR, mkStep] using this⟩⟩, by simp [intOf]; omega⟩
          | true =>
            rcases List.eq_nil_or_concat out with rfl | ⟨A0, q, rfl⟩
            · obtain ⟨rfl, how, _⟩ := hok.out
              have HOW := Lib.hid how
              clear how
              go_wp2_with (fail)
              refine rg_start 18 ?_
              refine rg_same fun p hx hne hC => ?_
              refine rg_quiet 0 [0,1,2,3,4,5,6,7,8,9,10,11,12,13,14,15,16,17] hC ?_
              simp only [pickD, List.map_cons, List.map_nil, List.getD_cons_zero, List.getD_cons_succ]; repeat (go_big_quiet_step (fail))
              refine wpQuiet_nil ?_
              refine rg_end ?_
              clear hx hne hC
              go_wp2_with (fail)
              refine rg_start 14 ?_
              refine rg_below fun p hx hne hC hbel => ?_
              have k1 : ∀ z : Wd p, z.w.cell? ⟨be, oe + k, none⟩ = some (.int .u64 x) := fun z => (hx z _ _ _ hbe).trans ce1
              have k2 : ∀ z : Wd p, z.w.cell? ⟨be, oe + (k + 1), none⟩ = some (.int .u64 y) := fun z => (hx z _ _ _ hbe).trans ce2
              refine rg_quiet 3 [0,1,2,3,4,5,6,7,8,9,10] hC ?_
              simp only [pickD, List.map_cons, List.map_nil, List.getD_cons_zero, List.getD_cons_succ]; repeat (go_big_quiet_step (fail))
              refine wpQuiet_nil ?_
              refine rg_act 11 ?_
              go_wp2
              refine ⟨hbel _ ?_, ?_⟩
              · repeat first | exact ⟨rfl, rfl, rfl, Nat.le_refl _, fun _ _ => rfl⟩ | apply Below.drew | refine Below.alloc ?_ (by simp) _
              clear k1 k2 hx hne hC hbel
              refine rg_cut 12 ?_
              refine wpList_app rg_et rfl rfl (base := w1.heap.size) rfl rfl (HOW.out.below (by repeat first | exact Below.refl _ _ | apply Below.drew | refine Below.alloc ?_ (by simp) _)) (SrcAt.blk2 (r := (x, y)) (Blk.new _ _ _)) (by simp only [maxLen]; skip; omega) (by skip; omega) (by have := bw.size; simp; omega) ?_
              intro a2 c2 w2 ho2 on2 _
              have b2 : Below w1.heap.size w1 w2 := below_onto (w1 := _) (by repeat first | exact bw | apply Below.drew | refine Below.alloc ?_ (by have := bw.size; simp; omega) _) on2 (by have := bw.size; simp; omega) (by rintro z hz ⟨y, hy, rfl⟩; have := (OwnS.block HOW.out hy).1; omega)
              rw [← cellsR_append] at ho2
              have HO2 := Lib.hid ho2
              clear ho2 on2
              go_wp2_with (fail)
              refine rg_same fun p hx hne hC => ?_
              refine rg_quiet 0 [13] hC ?_
              simp only [pickD, List.map_cons, List.map_nil, List.getD_cons_zero, List.getD_cons_succ]; repeat (go_big_quiet_step (fail))
              refine wpQuiet_nil ?_
              refine rg_end ?_
              clear hx hne hC
              go_wp2_with (fail)
              exact ⟨⟨k + 1, a2, _, c2, [] ++ [(x, y)], by go_num, rfl, by omega, b2, Lib.hid ⟨by simp, HO2.out, by have := HST.out; simpa [opR, mkStep] using this⟩⟩, by simp [intOf]; omega⟩
            · rw [List.concat_eq_append] at *
              obtain ⟨hn', how, hmk⟩ := hok.out
              have hln := hmk.len
              simp only [List.length_append, List.length_singleton] at hln
              obtain ⟨g, rfl, hg1, hg2, rfl, cq1, cq2, fq⟩ := how.lastR
              have HOW := Lib.hid how
              clear how hok hn' hmk
              by_cases heq : q.2 = x
              · obtain ⟨q1, q2⟩ := q
                simp only at heq cq1 cq2
                subst heq
                go_wp2_with (fail)
                refine rg_start 18 ?_
                refine rg_same fun p hx hne hC => ?_
                refine rg_quiet 0 [0,1,2,3,4,5,6,7,8,9,10,11,12,13,14,15,16,17] hC ?_
                simp only [pickD, List.map_cons, List.map_nil, List.getD_cons_zero, List.getD_cons_succ]; repeat (go_big_quiet_step (fail))
                refine wpQuiet_nil ?_
                refine rg_end ?_
                clear hx hne hC
                go_wp2_with (fail)
                refine ⟨⟨k + 1, _, _, c', A0 ++ [(q1, y)], by go_num, rfl, by omega, ?_, Lib.hid ⟨by simp, ?_, by have := HST.out; simpa [opR, mkStep] using this⟩⟩, by simp [intOf]; omega⟩
                · exact below_set bw.drew.drew hg1 _
                · rw [← cellsR_set A0 (q1, q2) y]
                  exact (HOW.out.below ((Below.refl _ _).drew.drew)).setS g rfl _ _
              · have heq' : decide (q.2 = x) = false := by simpa using heq
                go_wp2_with (fail)
                refine rg_start 18 ?_
                refine rg_same fun p hx hne hC => ?_
                refine rg_quiet 0 [0,1,2,3,4,5,6,7,8,9,10,11,12,13,14,15,16,17] hC ?_
                simp only [pickD, List.map_cons, List.map_nil, List.getD_cons_zero, List.getD_cons_succ]; repeat (go_big_quiet_step (fail))
                refine wpQuiet_nil ?_
                refine rg_end ?_
                clear hx hne hC
                go_wp2_with (fail)
                refine rg_start 14 ?_
                refine rg_below fun p hx hne hC hbel => ?_
                have k1 : ∀ z : Wd p, z.w.cell? ⟨be, oe + k, none⟩ = some (.int .u64 x) := fun z => (hx z _ _ _ hbe).trans ce1
                have k2 : ∀ z : Wd p, z.w.cell? ⟨be, oe + (k + 1), none⟩ = some (.int .u64 y) := fun z => (hx z _ _ _ hbe).trans ce2
                refine rg_quiet 3 [0,1,2,3,4,5,6,7,8,9,10] hC ?_
                simp only [pickD, List.map_cons, List.map_nil, List.getD_cons_zero, List.getD_cons_succ]; repeat (go_big_quiet_step (fail))
                refine wpQuiet_nil ?_
                refine rg_act 11 ?_
                go_wp2
                refine ⟨hbel _ ?_, ?_⟩
                · repeat first | exact ⟨rfl, rfl, rfl, Nat.le_refl _, fun _ _ => rfl⟩ | apply Below.drew | refine Below.alloc ?_ (by simp) _
                clear k1 k2 hx hne hC hbel
                refine rg_cut 12 ?_
                refine wpList_app rg_et rfl rfl (base := w1.heap.size) rfl rfl (HOW.out.below (by repeat first | exact Below.refl _ _ | apply Below.drew | refine Below.alloc ?_ (by simp) _)) (SrcAt.blk2 (r := (x, y)) (Blk.new _ _ _)) (by simp only [maxLen]; skip; omega) (by skip; omega) (by have := bw.size; simp; omega) ?_
                intro a2 c2 w2 ho2 on2 _
                have b2 : Below w1.heap.size w1 w2 := below_onto (w1 := _) (by repeat first | exact bw | apply Below.drew | refine Below.alloc ?_ (by have := bw.size; simp; omega) _) on2 (by have := bw.size; simp; omega) (by rintro z hz ⟨y, hy, rfl⟩; have := (OwnS.block HOW.out hy).1; omega)
                rw [← cellsR_append] at ho2
                have HO2 := Lib.hid ho2
                clear ho2 on2
                go_wp2_with (fail)
                refine rg_same fun p hx hne hC => ?_
                refine rg_quiet 0 [13] hC ?_
                simp only [pickD, List.map_cons, List.map_nil, List.getD_cons_zero, List.getD_cons_succ]; repeat (go_big_quiet_step (fail))
                refine wpQuiet_nil ?_
                refine rg_end ?_
                clear hx hne hC
                go_wp2_with (fail)
                exact ⟨⟨k + 1, a2, _, c2, (A0 ++ [q]) ++ [(x, y)], by go_num, rfl, by omega, b2, Lib.hid ⟨by simp, HO2.out, by have := HST.out; simpa [opR, mkStep, heq] using this⟩⟩, by simp [intOf]; omega⟩
        | true =>
          cases v with
          | false =>
            rcases List.eq_nil_or_concat out with rfl | ⟨A0, q, rfl⟩
            · obtain ⟨rfl, how, _⟩ := hok.out
              have HOW := Lib.hid how
              clear how
              go_wp2_with (fail)
              refine rg_start 18 ?_
              refine rg_same fun p hx hne hC => ?_
              refine rg_quiet 0 [0,1,2,3,4,5,6,7,8,9,10,11,12,13,14,15,16,17] hC ?_
              simp only [pickD, List.map_cons, List.map_nil, List.getD_cons_zero, List.getD_cons_succ]; repeat (go_big_quiet_step (fail))
              refine wpQuiet_nil ?_
              refine rg_end ?_
              clear hx hne hC
              go_wp2_with (fail)
              refine rg_start 14 ?_
              refine rg_below fun p hx hne hC hbel => ?_
              have k1 : ∀ z : Wd p, z.w.cell? ⟨be, oe + k, none⟩ = some (.int .u64 x) := fun z => (hx z _ _ _ hbe).trans ce1
              have k2 : ∀ z : Wd p, z.w.cell? ⟨be, oe + (k + 1), none⟩ = some (.int .u64 y) := fun z => (hx z _ _ _ hbe).trans ce2
              refine rg_quiet 3 [0,1,2,3,4,5,6,7,8,9,10] hC ?_
              simp only [pickD, List.map_cons, List.map_nil, List.getD_cons_zero, List.getD_cons_succ]; repeat (go_big_quiet_step (fail))
              refine wpQuiet_nil ?_
              refine rg_act 11 ?_
              go_wp2
              refine ⟨hbel _ ?_, ?_⟩
              · repeat first | exact ⟨rfl, rfl, rfl, Nat.le_refl _, fun _ _ => rfl⟩ | apply Below.drew | refine Below.alloc ?_ (by simp) _
              clear k1 k2 hx hne hC hbel
              refine rg_cut 12 ?_
              refine wpList_app rg_et rfl rfl (base := w1.heap.size) rfl rfl (HOW.out.below (by repeat first | exact Below.refl _ _ | apply Below.drew | refine Below.alloc ?_ (by simp) _)) (SrcAt.blk2 (r := (x, y)) (Blk.new _ _ _)) (by simp only [maxLen]; skip; omega) (by skip; omega) (by have := bw.size; simp; omega) ?_
              intro a2 c2 w2 ho2 on2 _
              have b2 : Below w1.heap.size w1 w2 := below_onto (w1 := _) (by repeat first | exact bw | apply Below.drew | refine Below.alloc ?_ (by have := bw.size; simp; omega) _) on2 (by have := bw.size; simp; omega) (by rintro z hz ⟨y, hy, rfl⟩; have := (OwnS.block HOW.out hy).1; omega)
              rw [← cellsR_append] at ho2
              have HO2 := Lib.hid ho2
              clear ho2 on2
              go_wp2_with (fail)
              refine rg_same fun p hx hne hC => ?_
              refine rg_quiet 0 [13] hC ?_
              simp only [pickD, List.map_cons, List.map_nil, List.getD_cons_zero, List.getD_cons_succ]; repeat (go_big_quiet_step (fail))
              refine wpQuiet_nil ?_
              refine rg_end ?_
              clear hx hne hC
              go_wp2_with (fail)
              exact ⟨⟨k + 1, a2, _, c2, [] ++ [(x, y)], by go_num, rfl, by omega, b2, Lib.hid ⟨by simp, HO2.out, by have := HST.out; simpa [opR, mkStep] using this⟩⟩, by simp [intOf]; omega⟩
            · rw [List.concat_eq_append] at *
              obtain ⟨hn', how, hmk⟩ := hok.out
              have hln := hmk.len
              simp only [List.length_append, List.length_singleton] at hln
              obtain ⟨g, rfl, hg1, hg2, rfl, cq1, cq2, fq⟩ := how.lastR
              have HOW := Lib.hid how
              clear how hok hn' hmk
              by_cases heq : q.2 = x
              · obtain ⟨q1, q2⟩ := q
                simp only at heq cq1 cq2
                subst heq
                go_wp2_with (fail)
                refine rg_start 18 ?_
                refine rg_same fun p hx hne hC => ?_
                refine rg_quiet 0 [0,1,2,3,4,5,6,7,8,9,10,11,12,13,14,15,16,17] hC ?_
                simp only [pickD, List.map_cons, List.map_nil, List.getD_cons_zero, List.getD_cons_succ]; repeat (go_big_quiet_step (fail))
                refine wpQuiet_nil ?_
                refine rg_end ?_
                clear hx hne hC
                go_wp2_with (fail)
                refine ⟨⟨k + 1, _, _, c', A0 ++ [(q1, y)], by go_num, rfl, by omega, ?_, Lib.hid ⟨by simp, ?_, by have := HST.out; simpa [opR, mkStep] using this⟩⟩, by simp [intOf]; omega⟩
                · exact below_set bw.drew.drew hg1 _
                · rw [← cellsR_set A0 (q1, q2) y]
                  exact (HOW.out.below ((Below.refl _ _).drew.drew)).setS g rfl _ _
              · have heq' : decide (q.2 = x) = false := by simpa using heq
                go_wp2_with (fail)
                refine rg_start 18 ?_
                refine rg_same fun p hx hne hC => ?_
                refine rg_quiet 0 [0,1,2,3,4,5,6,7,8,9,10,11,12,13,14,15,16,17] hC ?_
                simp only [pickD, List.map_cons, List.map_nil, List.getD_cons_zero, List.getD_cons_succ]; repeat (go_big_quiet_step (fail))
                refine wpQuiet_nil ?_
                refine rg_end ?_
                clear hx hne hC
                go_wp2_with (fail)
                refine rg_start 14 ?_
                refine rg_below fun p hx hne hC hbel => ?_
                have k1 : ∀ z : Wd p, z.w.cell? ⟨be, oe + k, none⟩ = some (.int .u64 x) := fun z => (hx z _ _ _ hbe).trans ce1
                have k2 : ∀ z : Wd p, z.w.cell? ⟨be, oe + (k + 1), none⟩ = some (.int .u64 y) := fun z => (hx z _ _ _ hbe).trans ce2
                refine rg_quiet 3 [0,1,2,3,4,5,6,7,8,9,10] hC ?_
                simp only [pickD, List.map_cons, List.map_nil, List.getD_cons_zero, List.getD_cons_succ]; repeat (go_big_quiet_step (fail))
                refine wpQuiet_nil ?_
                refine rg_act 11 ?_
                go_wp2
                refine ⟨hbel _ ?_, ?_⟩
                · repeat first | exact ⟨rfl, rfl, rfl, Nat.le_refl _, fun _ _ => rfl⟩ | apply Below.drew | refine Below.alloc ?_ (by simp) _
                clear k1 k2 hx hne hC hbel
                refine rg_cut 12 ?_
                refine wpList_app rg_et rfl rfl (base := w1.heap.size) rfl rfl (HOW.out.below (by repeat first | exact Below.refl _ _ | apply Below.drew | refine Below.alloc ?_ (by simp) _)) (SrcAt.blk2 (r := (x, y)) (Blk.new _ _ _)) (by simp only [maxLen]; skip; omega) (by skip; omega) (by have := bw.size; simp; omega) ?_
                intro a2 c2 w2 ho2 on2 _
                have b2 : Below w1.heap.size w1 w2 := below_onto (w1 := _) (by repeat first | exact bw | apply Below.drew | refine Below.alloc ?_ (by have := bw.size; simp; omega) _) on2 (by have := bw.size; simp; omega) (by rintro z hz ⟨y, hy, rfl⟩; have := (OwnS.block HOW.out hy).1; omega)
                rw [← cellsR_append] at ho2
                have HO2 := Lib.hid ho2
                clear ho2 on2
                go_wp2_with (fail)
                refine rg_same fun p hx hne hC => ?_
                refine rg_quiet 0 [13] hC ?_
                simp only [pickD, List.map_cons, List.map_nil, List.getD_cons_zero, List.getD_cons_succ]; repeat (go_big_quiet_step (fail))
                refine wpQuiet_nil ?_
                refine rg_end ?_
                clear hx hne hC
                go_wp2_with (fail)
                exact ⟨⟨k + 1, a2, _, c2, (A0 ++ [q]) ++ [(x, y)], by go_num, rfl, by omega, b2, Lib.hid ⟨by simp, HO2.out, by have := HST.out; simpa [opR, mkStep, heq] using this⟩⟩, by simp [intOf]; omega⟩
          | true =>
            rcases List.eq_nil_or_concat out with rfl | ⟨A0, q, rfl⟩
            · obtain ⟨rfl, how, _⟩ := hok.out
              have HOW := Lib.hid how
              clear how
              go_wp2_with (fail)
              refine rg_start 18 ?_
              refine rg_same fun p hx hne hC => ?_
              refine rg_quiet 0 [0,1,2,3,4,5,6,7,8,9,10,11,12,13,14,15,16,17] hC ?_
              simp only [pickD, List.map_cons, List.map_nil, List.getD_cons_zero, List.getD_cons_succ]; repeat (go_big_quiet_step (fail))
              refine wpQuiet_nil ?_
              refine rg_end ?_
              clear hx hne hC
              go_wp2_with (fail)
              refine rg_start 14 ?_
              refine rg_below fun p hx hne hC hbel => ?_
              have k1 : ∀ z : Wd p, z.w.cell? ⟨be, oe + k, none⟩ = some (.int .u64 x) := fun z => (hx z _ _ _ hbe).trans ce1
              have k2 : ∀ z : Wd p, z.w.cell? ⟨be, oe + (k + 1), none⟩ = some (.int .u64 y) := fun z => (hx z _ _ _ hbe).trans ce2
              refine rg_quiet 3 [0,1,2,3,4,5,6,7,8,9,10] hC ?_
              simp only [pickD, List.map_cons, List.map_nil, List.getD_cons_zero, List.getD_cons_succ]; repeat (go_big_quiet_step (fail))
              refine wpQuiet_nil ?_
              refine rg_act 11 ?_
              go_wp2
              refine ⟨hbel _ ?_, ?_⟩
              · repeat first | exact ⟨rfl, rfl, rfl, Nat.le_refl _, fun _ _ => rfl⟩ | apply Below.drew | refine Below.alloc ?_ (by simp) _
              clear k1 k2 hx hne hC hbel
              refine rg_cut 12 ?_
              refine wpList_app rg_et rfl rfl (base := w1.heap.size) rfl rfl (HOW.out.below (by repeat first | exact Below.refl _ _ | apply Below.drew | refine Below.alloc ?_ (by simp) _)) (SrcAt.blk2 (r := (x, y)) (Blk.new _ _ _)) (by simp only [maxLen]; skip; omega) (by skip; omega) (by have := bw.size; simp; omega) ?_
              intro a2 c2 w2 ho2 on2 _
              have b2 : Below w1.heap.size w1 w2 := below_onto (w1 := _) (by repeat first | exact bw | apply Below.drew | refine Below.alloc ?_ (by have := bw.size; simp; omega) _) on2 (by have := bw.size; simp; omega) (by rintro z hz ⟨y, hy, rfl⟩; have := (OwnS.block HOW.out hy).1; omega)
              rw [← cellsR_append] at ho2
              have HO2 := Lib.hid ho2
              clear ho2 on2
              go_wp2_with (fail)
              refine rg_same fun p hx hne hC => ?_
              refine rg_quiet 0 [13] hC ?_
              simp only [pickD, List.map_cons, List.map_nil, List.getD_cons_zero, List.getD_cons_succ]; repeat (go_big_quiet_step (fail))
              refine wpQuiet_nil ?_
              refine rg_end ?_
              clear hx hne hC
              go_wp2_with (fail)
              exact ⟨⟨k + 1, a2, _, c2, [] ++ [(x, y)], by go_num, rfl, by omega, b2, Lib.hid ⟨by simp, HO2.out, by have := HST.out; simpa [opR, mkStep] using this⟩⟩, by simp [intOf]; omega⟩
            · rw [List.concat_eq_append] at *
              obtain ⟨hn', how, hmk⟩ := hok.out
              have hln := hmk.len
              simp only [List.length_append, List.length_singleton] at hln
              obtain ⟨g, rfl, hg1, hg2, rfl, cq1, cq2, fq⟩ := how.lastR
              have HOW := Lib.hid how
              clear how hok hn' hmk
              by_cases heq : q.2 = x
              · obtain ⟨q1, q2⟩ := q
                simp only at heq cq1 cq2
                subst heq
                go_wp2_with (fail)
                refine rg_start 18 ?_
                refine rg_same fun p hx hne hC => ?_
                refine rg_quiet 0 [0,1,2,3,4,5,6,7,8,9,10,11,12,13,14,15,16,17] hC ?_
                simp only [pickD, List.map_cons, List.map_nil, List.getD_cons_zero, List.getD_cons_succ]; repeat (go_big_quiet_step (fail))
                refine wpQuiet_nil ?_
                refine rg_end ?_
                clear hx hne hC
                go_wp2_with (fail)
                refine ⟨⟨k + 1, _, _, c', A0 ++ [(q1, y)], by go_num, rfl, by omega, ?_, Lib.hid ⟨by simp, ?_, by have := HST.out; simpa [opR, mkStep] using this⟩⟩, by simp [intOf]; omega⟩
                · exact below_set bw.drew.drew hg1 _
                · rw [← cellsR_set A0 (q1, q2) y]
                  exact (HOW.out.below ((Below.refl _ _).drew.drew)).setS g rfl _ _
              · have heq' : decide (q.2 = x) = false := by simpa using heq
                go_wp2_with (fail)
                refine rg_start 18 ?_
                refine rg_same fun p hx hne hC => ?_
                refine rg_quiet 0 [0,1,2,3,4,5,6,7,8,9,10,11,12,13,14,15,16,17] hC ?_
                simp only [pickD, List.map_cons, List.map_nil, List.getD_cons_zero, List.getD_cons_succ]; repeat (go_big_quiet_step (fail))
                refine wpQuiet_nil ?_
                refine rg_end ?_
                clear hx hne hC
                go_wp2_with (fail)
                refine rg_start 14 ?_
                refine rg_below fun p hx hne hC hbel => ?_
                have k1 : ∀ z : Wd p, z.w.cell? ⟨be, oe + k, none⟩ = some (.int .u64 x) := fun z => (hx z _ _ _ hbe).trans ce1
                have k2 : ∀ z : Wd p, z.w.cell? ⟨be, oe + (k + 1), none⟩ = some (.int .u64 y) := fun z => (hx z _ _ _ hbe).trans ce2
                refine rg_quiet 3 [0,1,2,3,4,5,6,7,8,9,10] hC ?_
                simp only [pickD, List.map_cons, List.map_nil, List.getD_cons_zero, List.getD_cons_succ]; repeat (go_big_quiet_step (fail))
                refine wpQuiet_nil ?_
                refine rg_act 11 ?_
                go_wp2
                refine ⟨hbel _ ?_, ?_⟩
                · repeat first | exact ⟨rfl, rfl, rfl, Nat.le_refl _, fun _ _ => rfl⟩ | apply Below.drew | refine Below.alloc ?_ (by simp) _
                clear k1 k2 hx hne hC hbel
                refine rg_cut 12 ?_
                refine wpList_app rg_et rfl rfl (base := w1.heap.size) rfl rfl (HOW.out.below (by repeat first | exact Below.refl _ _ | apply Below.drew | refine Below.alloc ?_ (by simp) _)) (SrcAt.blk2 (r := (x, y)) (Blk.new _ _ _)) (by simp only [maxLen]; skip; omega) (by skip; omega) (by have := bw.size; simp; omega) ?_
                intro a2 c2 w2 ho2 on2 _
                have b2 : Below w1.heap.size w1 w2 := below_onto (w1 := _) (by repeat first | exact bw | apply Below.drew | refine Below.alloc ?_ (by have := bw.size; simp; omega) _) on2 (by have := bw.size; simp; omega) (by rintro z hz ⟨y, hy, rfl⟩; have := (OwnS.block HOW.out hy).1; omega)
                rw [← cellsR_append] at ho2
                have HO2 := Lib.hid ho2
                clear ho2 on2
                go_wp2_with (fail)
                refine rg_same fun p hx hne hC => ?_
                refine rg_quiet 0 [13] hC ?_
                simp only [pickD, List.map_cons, List.map_nil, List.getD_cons_zero, List.getD_cons_succ]; repeat (go_big_quiet_step (fail))
                refine wpQuiet_nil ?_
                refine rg_end ?_
                clear hx hne hC
                go_wp2_with (fail)
                exact ⟨⟨k + 1, a2, _, c2, (A0 ++ [q]) ++ [(x, y)], by go_num, rfl, by omega, b2, Lib.hid ⟨by simp, HO2.out, by have := HST.out; simpa [opR, mkStep, heq] using this⟩⟩, by simp [intOf]; omega⟩
      · cases u with
        | false =>
          cases v with
          | false =>
            go_wp2_with (fail)
            refine rg_start 18 ?_
            refine rg_same fun p hx hne hC => ?_
            refine rg_quiet 0 [0,1,2,3,4,5,6,7,8,9,10,11,12,13,14,15,16,17] hC ?_
            simp only [pickD, List.map_cons, List.map_nil, List.getD_cons_zero, List.getD_cons_succ]; repeat (go_big_quiet_step (fail))
            refine wpQuiet_nil ?_
            refine rg_end ?_
            clear hx hne hC
            go_wp2_with (fail)
            exact ⟨⟨k + 1, a', n', c', out, by go_num, rfl, by omega, bw.drew.drew, Lib.hid ⟨hok.out.1, hok.out.2.1.below ((Below.refl _ _).drew.drew), by have := HST.out; simpa [opR, mkStep] using this⟩⟩, by simp [intOf]; omega⟩
          | true =>
            go_wp2_with (fail)
            refine rg_start 18 ?_
            refine rg_same fun p hx hne hC => ?_
            refine rg_quiet 0 [0,1,2,3,4,5,6,7,8,9,10,11,12,13,14,15,16,17] hC ?_
            simp only [pickD, List.map_cons, List.map_nil, List.getD_cons_zero, List.getD_cons_succ]; repeat (go_big_quiet_step (fail))
            refine wpQuiet_nil ?_
            refine rg_end ?_
            clear hx hne hC
            go_wp2_with (fail)
            exact ⟨⟨k + 1, a', n', c', out, by go_num, rfl, by omega, bw.drew.drew, Lib.hid ⟨hok.out.1, hok.out.2.1.below ((Below.refl _ _).drew.drew), by have := HST.out; simpa [opR, mkStep] using this⟩⟩, by simp [intOf]; omega⟩
        | true =>
          cases v with
          | false =>
            rcases List.eq_nil_or_concat out with rfl | ⟨A0, q, rfl⟩
            · obtain ⟨rfl, how, _⟩ := hok.out
              have HOW := Lib.hid how
              clear how
              go_wp2_with (fail)
              refine rg_start 18 ?_
              refine rg_same fun p hx hne hC => ?_
              refine rg_quiet 0 [0,1,2,3,4,5,6,7,8,9,10,11,12,13,14,15,16,17] hC ?_
              simp only [pickD, List.map_cons, List.map_nil, List.getD_cons_zero, List.getD_cons_succ]; repeat (go_big_quiet_step (fail))
              refine wpQuiet_nil ?_
              refine rg_end ?_
              clear hx hne hC
              go_wp2_with (fail)
              refine rg_start 14 ?_
              refine rg_below fun p hx hne hC hbel => ?_
              have k1 : ∀ z : Wd p, z.w.cell? ⟨be, oe + k, none⟩ = some (.int .u64 x) := fun z => (hx z _ _ _ hbe).trans ce1
              have k2 : ∀ z : Wd p, z.w.cell? ⟨be, oe + (k + 1), none⟩ = some (.int .u64 y) := fun z => (hx z _ _ _ hbe).trans ce2
              refine rg_quiet 3 [0,1,2,3,4,5,6,7,8,9,10] hC ?_
              simp only [pickD, List.map_cons, List.map_nil, List.getD_cons_zero, List.getD_cons_succ]; repeat (go_big_quiet_step (fail))
              refine wpQuiet_nil ?_
              refine rg_act 11 ?_
              go_wp2
              refine ⟨hbel _ ?_, ?_⟩
              · repeat first | exact ⟨rfl, rfl, rfl, Nat.le_refl _, fun _ _ => rfl⟩ | apply Below.drew | refine Below.alloc ?_ (by simp) _
              clear k1 k2 hx hne hC hbel
              refine rg_cut 12 ?_
              refine wpList_app rg_et rfl rfl (base := w1.heap.size) rfl rfl (HOW.out.below (by repeat first | exact Below.refl _ _ | apply Below.drew | refine Below.alloc ?_ (by simp) _)) (SrcAt.blk2 (r := (x, y)) (Blk.new _ _ _)) (by simp only [maxLen]; skip; omega) (by skip; omega) (by have := bw.size; simp; omega) ?_
              intro a2 c2 w2 ho2 on2 _
              have b2 : Below w1.heap.size w1 w2 := below_onto (w1 := _) (by repeat first | exact bw | apply Below.drew | refine Below.alloc ?_ (by have := bw.size; simp; omega) _) on2 (by have := bw.size; simp; omega) (by rintro z hz ⟨y, hy, rfl⟩; have := (OwnS.block HOW.out hy).1; omega)
              rw [← cellsR_append] at ho2
              have HO2 := Lib.hid ho2
              clear ho2 on2
              go_wp2_with (fail)
              refine rg_same fun p hx hne hC => ?_
              refine rg_quiet 0 [13] hC ?_
              simp only [pickD, List.map_cons, List.map_nil, List.getD_cons_zero, List.getD_cons_succ]; repeat (go_big_quiet_step (fail))
              refine wpQuiet_nil ?_
              refine rg_end ?_
              clear hx hne hC
              go_wp2_with (fail)
              exact ⟨⟨k + 1, a2, _, c2, [] ++ [(x, y)], by go_num, rfl, by omega, b2, Lib.hid ⟨by simp, HO2.out, by have := HST.out; simpa [opR, mkStep] using this⟩⟩, by simp [intOf]; omega⟩
            · rw [List.concat_eq_append] at *
              obtain ⟨hn', how, hmk⟩ := hok.out
              have hln := hmk.len
              simp only [List.length_append, List.length_singleton] at hln
              obtain ⟨g, rfl, hg1, hg2, rfl, cq1, cq2, fq⟩ := how.lastR
              have HOW := Lib.hid how
              clear how hok hn' hmk
              by_cases heq : q.2 = x
              · obtain ⟨q1, q2⟩ := q
                simp only at heq cq1 cq2
                subst heq
                go_wp2_with (fail)
                refine rg_start 18 ?_
                refine rg_same fun p hx hne hC => ?_
                refine rg_quiet 0 [0,1,2,3,4,5,6,7,8,9,10,11,12,13,14,15,16,17] hC ?_
                simp only [pickD, List.map_cons, List.map_nil, List.getD_cons_zero, List.getD_cons_succ]; repeat (go_big_quiet_step (fail))
                refine wpQuiet_nil ?_
                refine rg_end ?_
                clear hx hne hC
                go_wp2_with (fail)
                refine ⟨⟨k + 1, _, _, c', A0 ++ [(q1, y)], by go_num, rfl, by omega, ?_, Lib.hid ⟨by simp, ?_, by have := HST.out; simpa [opR, mkStep] using this⟩⟩, by simp [intOf]; omega⟩
                · exact below_set bw.drew.drew hg1 _
                · rw [← cellsR_set A0 (q1, q2) y]
                  exact (HOW.out.below ((Below.refl _ _).drew.drew)).setS g rfl _ _
              · have heq' : decide (q.2 = x) = false := by simpa using heq
                go_wp2_with (fail)
                refine rg_start 18 ?_
                refine rg_same fun p hx hne hC => ?_
                refine rg_quiet 0 [0,1,2,3,4,5,6,7,8,9,10,11,12,13,14,15,16,17] hC ?_
                simp only [pickD, List.map_cons, List.map_nil, List.getD_cons_zero, List.getD_cons_succ]; repeat (go_big_quiet_step (fail))
                refine wpQuiet_nil ?_
                refine rg_end ?_
                clear hx hne hC
                go_wp2_with (fail)
                refine rg_start 14 ?_
                refine rg_below fun p hx hne hC hbel => ?_
                have k1 : ∀ z : Wd p, z.w.cell? ⟨be, oe + k, none⟩ = some (.int .u64 x) := fun z => (hx z _ _ _ hbe).trans ce1
                have k2 : ∀ z : Wd p, z.w.cell? ⟨be, oe + (k + 1), none⟩ = some (.int .u64 y) := fun z => (hx z _ _ _ hbe).trans ce2
                refine rg_quiet 3 [0,1,2,3,4,5,6,7,8,9,10] hC ?_
                simp only [pickD, List.map_cons, List.map_nil, List.getD_cons_zero, List.getD_cons_succ]; repeat (go_big_quiet_step (fail))
                refine wpQuiet_nil ?_
                refine rg_act 11 ?_
                go_wp2
                refine ⟨hbel _ ?_, ?_⟩
                · repeat first | exact ⟨rfl, rfl, rfl, Nat.le_refl _, fun _ _ => rfl⟩ | apply Below.drew | refine Below.alloc ?_ (by simp) _
                clear k1 k2 hx hne hC hbel
                refine rg_cut 12 ?_
                refine wpList_app rg_et rfl rfl (base := w1.heap.size) rfl rfl (HOW.out.below (by repeat first | exact Below.refl _ _ | apply Below.drew | refine Below.alloc ?_ (by simp) _)) (SrcAt.blk2 (r := (x, y)) (Blk.new _ _ _)) (by simp only [maxLen]; skip; omega) (by skip; omega) (by have := bw.size; simp; omega) ?_
                intro a2 c2 w2 ho2 on2 _
                have b2 : Below w1.heap.size w1 w2 := below_onto (w1 := _) (by repeat first | exact bw | apply Below.drew | refine Below.alloc ?_ (by have := bw.size; simp; omega) _) on2 (by have := bw.size; simp; omega) (by rintro z hz ⟨y, hy, rfl⟩; have := (OwnS.block HOW.out hy).1; omega)
                rw [← cellsR_append] at ho2
                have HO2 := Lib.hid ho2
                clear ho2 on2
                go_wp2_with (fail)
                refine rg_same fun p hx hne hC => ?_
                refine rg_quiet 0 [13] hC ?_
                simp only [pickD, List.map_cons, List.map_nil, List.getD_cons_zero, List.getD_cons_succ]; repeat (go_big_quiet_step (fail))
                refine wpQuiet_nil ?_
                refine rg_end ?_
                clear hx hne hC
                go_wp2_with (fail)
                exact ⟨⟨k + 1, a2, _, c2, (A0 ++ [q]) ++ [(x, y)], by go_num, rfl, by omega, b2, Lib.hid ⟨by simp, HO2.out, by have := HST.out; simpa [opR, mkStep, heq] using this⟩⟩, by simp [intOf]; omega⟩
          | true =>
            go_wp2_with (fail)
            refine rg_start 18 ?_
            refine rg_same fun p hx hne hC => ?_
            refine rg_quiet 0 [0,1,2,3,4,5,6,7,8,9,10,11,12,13,14,15,16,17] hC ?_
            simp only [pickD, List.map_cons, List.map_nil, List.getD_cons_zero, List.getD_cons_succ]; repeat (go_big_quiet_step (fail))
            refine wpQuiet_nil ?_
            refine rg_end ?_
            clear hx hne hC
            go_wp2_with (fail)
            exact ⟨⟨k + 1, a', n', c', out, by go_num, rfl, by omega, bw.drew.drew, Lib.hid ⟨hok.out.1, hok.out.2.1.below ((Below.refl _ _).drew.drew), by have := HST.out; simpa [opR, mkStep] using this⟩⟩, by simp [intOf]; omega⟩
      · cases u with
        | false =>
          cases v with
          | false =>
            go_wp2_with (fail)
            refine rg_start 18 ?_
            refine rg_same fun p hx hne hC => ?_
            refine rg_quiet 0 [0,1,2,3,4,5,6,7,8,9,10,11,12,13,14,15,16,17] hC ?_
            simp only [pickD, List.map_cons, List.map_nil, List.getD_cons_zero, List.getD_cons_succ]; repeat (go_big_quiet_step (fail))
            refine wpQuiet_nil ?_
            refine rg_end ?_
            clear hx hne hC
            go_wp2_with (fail)
            exact ⟨⟨k + 1, a', n', c', out, by go_num, rfl, by omega, bw.drew.drew, Lib.hid ⟨hok.out.1, hok.out.2.1.below ((Below.refl _ _).drew.drew), by have := HST.out; simpa [opR, mkStep] using this⟩⟩, by simp [intOf]; omega⟩
          | true =>
            go_wp2_with (fail)
            refine rg_start 18 ?_
            refine rg_same fun p hx hne hC => ?_
            refine rg_quiet 0 [0,1,2,3,4,5,6,7,8,9,10,11,12,13,14,15,16,17] hC ?_
            simp only [pickD, List.map_cons, List.map_nil, List.getD_cons_zero, List.getD_cons_succ]; repeat (go_big_quiet_step (fail))
            refine wpQuiet_nil ?_
            refine rg_end ?_
            clear hx hne hC
            go_wp2_with (fail)
            exact ⟨⟨k + 1, a', n', c', out, by go_num, rfl, by omega, bw.drew.drew, Lib.hid ⟨hok.out.1, hok.out.2.1.below ((Below.refl _ _).drew.drew), by have := HST.out; simpa [opR, mkStep] using this⟩⟩, by simp [intOf]; omega⟩
        | true =>
          cases v with
          | false =>
            go_wp2_with (fail)
            refine rg_start 18 ?_
            refine rg_same fun p hx hne hC => ?_
            refine rg_quiet 0 [0,1,2,3,4,5,6,7,8,9,10,11,12,13,14,15,16,17] hC ?_
            simp only [pickD, List.map_cons, List.map_nil, List.getD_cons_zero, List.getD_cons_succ]; repeat (go_big_quiet_step (fail))
            refine wpQuiet_nil ?_
            refine rg_end ?_
            clear hx hne hC
            go_wp2_with (fail)
            exact ⟨⟨k + 1, a', n', c', out, by go_num, rfl, by omega, bw.drew.drew, Lib.hid ⟨hok.out.1, hok.out.2.1.below ((Below.refl _ _).drew.drew), by have := HST.out; simpa [opR, mkStep] using this⟩⟩, by simp [intOf]; omega⟩
          | true =>
            rcases List.eq_nil_or_concat out with rfl | ⟨A0, q, rfl⟩
            · obtain ⟨rfl, how, _⟩ := hok.out
              have HOW := Lib.hid how
              clear how
              go_wp2_with (fail)
              refine rg_start 18 ?_
              refine rg_same fun p hx hne hC => ?_
              refine rg_quiet 0 [0,1,2,3,4,5,6,7,8,9,10,11,12,13,14,15,16,17] hC ?_
              simp only [pickD, List.map_cons, List.map_nil, List.getD_cons_zero, List.getD_cons_succ]; repeat (go_big_quiet_step (fail))
              refine wpQuiet_nil ?_
              refine rg_end ?_
              clear hx hne hC
              go_wp2_with (fail)
              refine rg_start 14 ?_
              refine rg_below fun p hx hne hC hbel => ?_
              have k1 : ∀ z : Wd p, z.w.cell? ⟨be, oe + k, none⟩ = some (.int .u64 x) := fun z => (hx z _ _ _ hbe).trans ce1
              have k2 : ∀ z : Wd p, z.w.cell? ⟨be, oe + (k + 1), none⟩ = some (.int .u64 y) := fun z => (hx z _ _ _ hbe).trans ce2
              refine rg_quiet 3 [0,1,2,3,4,5,6,7,8,9,10] hC ?_
              simp only [pickD, List.map_cons, List.map_nil, List.getD_cons_zero, List.getD_cons_succ]; repeat (go_big_quiet_step (fail))
              refine wpQuiet_nil ?_
              refine rg_act 11 ?_
              go_wp2
              refine ⟨hbel _ ?_, ?_⟩
              · repeat first | exact ⟨rfl, rfl, rfl, Nat.le_refl _, fun _ _ => rfl⟩ | apply Below.drew | refine Below.alloc ?_ (by simp) _
              clear k1 k2 hx hne hC hbel
              refine rg_cut 12 ?_
              refine wpList_app rg_et rfl rfl (base := w1.heap.size) rfl rfl (HOW.out.below (by repeat first | exact Below.refl _ _ | apply Below.drew | refine Below.alloc ?_ (by simp) _)) (SrcAt.blk2 (r := (x, y)) (Blk.new _ _ _)) (by simp only [maxLen]; skip; omega) (by skip; omega) (by have := bw.size; simp; omega) ?_
              intro a2 c2 w2 ho2 on2 _
              have b2 : Below w1.heap.size w1 w2 := below_onto (w1 := _) (by repeat first | exact bw | apply Below.drew | refine Below.alloc ?_ (by have := bw.size; simp; omega) _) on2 (by have := bw.size; simp; omega) (by rintro z hz ⟨y, hy, rfl⟩; have := (OwnS.block HOW.out hy).1; omega)
              rw [← cellsR_append] at ho2
              have HO2 := Lib.hid ho2
              clear ho2 on2
              go_wp2_with (fail)
              refine rg_same fun p hx hne hC => ?_
              refine rg_quiet 0 [13] hC ?_
              simp only [pickD, List.map_cons, List.map_nil, List.getD_cons_zero, List.getD_cons_succ]; repeat (go_big_quiet_step (fail))
              refine wpQuiet_nil ?_
              refine rg_end ?_
              clear hx hne hC
              go_wp2_with (fail)
              exact ⟨⟨k + 1, a2, _, c2, [] ++ [(x, y)], by go_num, rfl, by omega, b2, Lib.hid ⟨by simp, HO2.out, by have := HST.out; simpa [opR, mkStep] using this⟩⟩, by simp [intOf]; omega⟩
            · rw [List.concat_eq_append] at *
              obtain ⟨hn', how, hmk⟩ := hok.out
              have hln := hmk.len
              simp only [List.length_append, List.length_singleton] at hln
              obtain ⟨g, rfl, hg1, hg2, rfl, cq1, cq2, fq⟩ := how.lastR
              have HOW := Lib.hid how
              clear how hok hn' hmk
              by_cases heq : q.2 = x
              · obtain ⟨q1, q2⟩ := q
                simp only at heq cq1 cq2
                subst heq
                go_wp2_with (fail)
                refine rg_start 18 ?_
                refine rg_same fun p hx hne hC => ?_
                refine rg_quiet 0 [0,1,2,3,4,5,6,7,8,9,10,11,12,13,14,15,16,17] hC ?_
                simp only [pickD, List.map_cons, List.map_nil, List.getD_cons_zero, List.getD_cons_succ]; repeat (go_big_quiet_step (fail))
                refine wpQuiet_nil ?_
                refine rg_end ?_
                clear hx hne hC
                go_wp2_with (fail)
                refine ⟨⟨k + 1, _, _, c', A0 ++ [(q1, y)], by go_num, rfl, by omega, ?_, Lib.hid ⟨by simp, ?_, by have := HST.out; simpa [opR, mkStep] using this⟩⟩, by simp [intOf]; omega⟩
                · exact below_set bw.drew.drew hg1 _
                · rw [← cellsR_set A0 (q1, q2) y]
                  exact (HOW.out.below ((Below.refl _ _).drew.drew)).setS g rfl _ _
              · have heq' : decide (q.2 = x) = false := by simpa using heq
                go_wp2_with (fail)
                refine rg_start 18 ?_
                refine rg_same fun p hx hne hC => ?_
                refine rg_quiet 0 [0,1,2,3,4,5,6,7,8,9,10,11,12,13,14,15,16,17] hC ?_
                simp only [pickD, List.map_cons, List.map_nil, List.getD_cons_zero, List.getD_cons_succ]; repeat (go_big_quiet_step (fail))
                refine wpQuiet_nil ?_
                refine rg_end ?_
                clear hx hne hC
                go_wp2_with (fail)
                refine rg_start 14 ?_
                refine rg_below fun p hx hne hC hbel => ?_
                have k1 : ∀ z : Wd p, z.w.cell? ⟨be, oe + k, none⟩ = some (.int .u64 x) := fun z => (hx z _ _ _ hbe).trans ce1
                have k2 : ∀ z : Wd p, z.w.cell? ⟨be, oe + (k + 1), none⟩ = some (.int .u64 y) := fun z => (hx z _ _ _ hbe).trans ce2
                refine rg_quiet 3 [0,1,2,3,4,5,6,7,8,9,10] hC ?_
                simp only [pickD, List.map_cons, List.map_nil, List.getD_cons_zero, List.getD_cons_succ]; repeat (go_big_quiet_step (fail))
                refine wpQuiet_nil ?_
                refine rg_act 11 ?_
                go_wp2
                refine ⟨hbel _ ?_, ?_⟩
                · repeat first | exact ⟨rfl, rfl, rfl, Nat.le_refl _, fun _ _ => rfl⟩ | apply Below.drew | refine Below.alloc ?_ (by simp) _
                clear k1 k2 hx hne hC hbel
                refine rg_cut 12 ?_
                refine wpList_app rg_et rfl rfl (base := w1.heap.size) rfl rfl (HOW.out.below (by repeat first | exact Below.refl _ _ | apply Below.drew | refine Below.alloc ?_ (by simp) _)) (SrcAt.blk2 (r := (x, y)) (Blk.new _ _ _)) (by simp only [maxLen]; skip; omega) (by skip; omega) (by have := bw.size; simp; omega) ?_
                intro a2 c2 w2 ho2 on2 _
                have b2 : Below w1.heap.size w1 w2 := below_onto (w1 := _) (by repeat first | exact bw | apply Below.drew | refine Below.alloc ?_ (by have := bw.size; simp; omega) _) on2 (by have := bw.size; simp; omega) (by rintro z hz ⟨y, hy, rfl⟩; have := (OwnS.block HOW.out hy).1; omega)
                rw [← cellsR_append] at ho2
                have HO2 := Lib.hid ho2
                clear ho2 on2
                go_wp2_with (fail)
                refine rg_same fun p hx hne hC => ?_
                refine rg_quiet 0 [13] hC ?_
                simp only [pickD, List.map_cons, List.map_nil, List.getD_cons_zero, List.getD_cons_succ]; repeat (go_big_quiet_step (fail))
                refine wpQuiet_nil ?_
                refine rg_end ?_
                clear hx hne hC
                go_wp2_with (fail)
                exact ⟨⟨k + 1, a2, _, c2, (A0 ++ [q]) ++ [(x, y)], by go_num, rfl, by omega, b2, Lib.hid ⟨by simp, HO2.out, by have := HST.out; simpa [opR, mkStep, heq] using this⟩⟩, by simp [intOf]; omega⟩
    · have hlI : ¬ ((k : Int) + 1 < E.length) := by omega
      go_wp2_with (fail)
      go_returns
      obtain ⟨hn', how, hinv⟩ := hok.out
      have b0 : Below w.heap.size w wr := below_on HB1.out bw HB1.out.size
      have hnf := hinv.done (by rw [HE.out]; omega)
      have hlen := hinv.len
      have hbd : Bnd out := bnd_of_neat hnf.neat (by omega) (fun n hn => by
        have h2 := opR_some ((hnf.mem n).1 hn)
        rw [inB_iff, inB_iff] at h2
        rcases h2 with h2 | h2
        · exact (BA.out.mem h2).2
        · exact (BB.out.mem h2).2)
      refine ⟨b0, a', c', out, by rw [hn']; rfl, (how.rs hbd).2, by have := LE.out; omega, hnf⟩
end Go.Proofs.Ytidfimpchbkppaa
