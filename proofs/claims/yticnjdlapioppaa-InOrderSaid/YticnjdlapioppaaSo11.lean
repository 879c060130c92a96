/- In: Get. -/
import Derived.Test.YticnjdlapioppaaSo10
namespace Go.Proofs.Yticnjdlapioppaa
open Go.RowKit
set_option linter.unusedVariables false

theorem run_cut_h {P : Program} {t e : TypeId} {size bytes : Nat} (hE : ET P t e size bytes) {av : Option Addr} {n cap : Nat} {kh : IntKind} (m : Nat) (h2 : m ≤ cap) (w : World) :
    (Instr.sliceAt t (.slice av n cap) none (some (.int kh m)) none).run P w = .ok (.slice (if cap = 0 then av else av.map (·.add (0 * size))) m cap) w := by
  obtain ⟨ht, hz⟩ := hE.elem
  rw [run_sliceAt_slice (h := ht), run_slice_h (ht := ht) (h0 := by omega) (h2 := by omega), hz]
  simp [Result.andThen, sliced]
theorem run_cut_l {P : Program} {t e : TypeId} {size bytes : Nat} (hE : ET P t e size bytes) {av : Option Addr} {n cap : Nat} {kl : IntKind} (l : Nat) (h1 : l ≤ n) (h2 : n ≤ cap) (w : World) :
    (Instr.sliceAt t (.slice av n cap) (some (.int kl l)) none none).run P w = .ok (.slice (if cap = l then av else av.map (·.add (l * size))) (n - l) (cap - l)) w := by
  obtain ⟨ht, hz⟩ := hE.elem
  rw [run_sliceAt_slice (h := ht), run_slice_l (ht := ht) (h0 := by omega) (h1 := by omega), hz]
  simp [Result.andThen, sliced]
theorem Sl.front {kd : IntKind} {w : World} {a : Option Addr} {cap : Nat} {L : List Int} (h : Sl kd w a cap L) (m : Nat) (hm : m ≤ L.length) : Sl kd w a cap (L.take m) := by
  have h1 := h.cut 0 m (Nat.zero_le _) hm
  have hle := h.le
  refine ⟨fun i hi => ?_, h.nul, by simp; omega, h.max⟩
  simp at hi
  obtain ⟨b, off, ha, hb, hc, hw⟩ := h.ints i (by omega)
  have e : (L.take m).getD i 0 = L.getD i 0 := by
    simp only [List.getD_eq_getElem?_getD]
    rw [List.getElem?_take_of_lt (by omega)]
  exact ⟨b, off, ha, hb, by rw [e]; exact hc, by rw [e]; exact hw⟩
theorem Sl.back {kd : IntKind} {w : World} {a : Option Addr} {cap : Nat} {L : List Int} (h : Sl kd w a cap L) (m : Nat) (hm : m ≤ L.length) : Sl kd w (if cap = m then a else a.map (·.add (m * 1))) (cap - m) (L.drop m) := by
  have h1 := h.cut m L.length hm (Nat.le_refl _)
  rw [List.take_of_length_le (by simp)] at h1
  exact h1

theorem Only.onto {S S2 : Nat → Prop} {a b c : World} (h : Only S a b) (h2 : Only S2 b c) (hS : ∀ z, z < a.heap.size → S2 z → S z) : Only S a c :=
  ⟨h2.os.trans h.os, h2.tape.trans h.tape, h2.output.trans h.output, Nat.le_trans h.size h2.size, fun k hk hs => (h2.block k (Nat.lt_of_lt_of_le hk h.size) (fun h3 => hs (hS k hk h3))).trans (h.block k hk hs)⟩
theorem below_only {S : Nat → Prop} {a b c : World} (h : Below a.heap.size a b) (h2 : Only S b c) : Only S a c :=
  Only.onto ⟨h.os, h.tape, h.output, h.size, fun k hk _ => h.block k hk⟩ h2 fun _ _ h => h
/-- A slice of bytes that the call made for itself. -/
def Fresh (w0 w : World) (a : Option Addr) (c : Nat) (L : List Int) : Prop := Sl .u8 w a c L ∧ ∀ x, a = some x → w0.heap.size ≤ x.block
def GetPost (q : Nat) (s : ISt) (Bf : List Int) (m : Nat) (en : Bool) (w w' : World) (e : Ending) : Prop :=
  Only (· = q) w w' ∧ ∃ a1 c1 a2 c2, Fresh w w' a1 c1 (Bf.take m) ∧ Fresh w w' a2 c2 (Bf.drop m) ∧ IB w' q { s with ba := a2, bn := s.bn - m, bc := c2, rd := s.rd + m, fr := en } ∧
    ((en = false ∧ m = 0) → e = .returned (.tuple #[.slice none 0 0, .bool false, .int .i64 4])) ∧ ((en = true ∨ m ≠ 0) → e = .returned (.tuple #[.slice a1 m c1, .bool en, .int .i64 0]))
theorem fresh_own {w0 w1 : World} {a : Option Addr} {n c : Nat} {L : List Int} (h : OwnS w1 w0.heap.size 5 1 a n c (bytesV L)) (hw : ∀ x ∈ L, (Lit.int .u8 x).wf = true) : Fresh w0 w1 a c L :=
  ⟨(h.sl hw).2, fun x hx => (h.block hx).1⟩
set_option maxRecDepth 100000 in
set_option maxHeartbeats 2000000 in
theorem iget_over (q : Nat) (s : ISt) (n : Nat) (w : World) (h : IB w q s) (hfr : s.fr = true) : Calls Try.prog 28 #[.pointer (some ⟨q, 0, none⟩), .int .i64 n] w fun e w' => Below w.heap.size w w' ∧ e = .returned (.tuple #[.slice none 0 0, .bool false, .int .i64 6]) := by
  unfold IB at h
  obtain ⟨ba, bn, bc, rd, la, ln, lc, top, mx, hf, fin, fr⟩ := s
  simp only at *
  subst hfr
  have c7 := h.cell 7 _ rfl
  have c8 := h.cell 8 _ rfl
  have lb := h.lt
  clear h
  go_enter Try.func28, Try.ntmps28
  go_wp2_with (fail)
  go_returns
  exact ⟨Below.refl _ _, rfl⟩
set_option maxRecDepth 100000 in
set_option maxHeartbeats 2000000 in
theorem iget_any (q : Nat) (s : ISt) (Bf : List Int) (n m : Nat) (en : Bool) (w : World) (h : IB w q s) (hs : IOk s) (hbn : s.bn = Bf.length) (hbuf : Sl .u8 w s.ba s.bc Bf) (hbq : ∀ x, s.ba = some x → 0 < s.bn → x.block ≠ q) (hfr : s.fr = false) (hm : min n s.bn = m) (hn : n ≤ 100000) (hen : en = (s.hf && decide (s.rd + m = s.fin))) :
    Calls Try.prog 28 #[.pointer (some ⟨q, 0, none⟩), .int .i64 n] w fun e w' => GetPost q s Bf m en w w' e := by
  unfold IB at *
  obtain ⟨ba, bn, bc, rd, la, ln, lc, top, mx, hf, fin, fr⟩ := s
  obtain ⟨g1, g2, g3, g4, g5, g6⟩ := hs
  simp only at *
  subst hfr
  have c0 := h.cell 0 _ rfl
  have c1 := h.cell 1 _ rfl
  have c5 := h.cell 5 _ rfl
  have c6 := h.cell 6 _ rfl
  have c7 := h.cell 7 _ rfl
  have c8 := h.cell 8 _ rfl
  have c10 := h.cell 10 _ rfl
  have lb := h.lt
  have hmm : min (n : Int) (bn : Int) = (m : Int) := by omega
  have hmb : m ≤ bn := by omega
  have hle := hbuf.le
  rw [← hbn] at hle
  have hcb : bn ≤ bc := hle
  have hmax := hbuf.max
  unfold maxLen at hmax
  have hnn : ¬ (n : Int) < 0 := by omega
  have W8 : Hid (∀ x ∈ Bf, (Lit.int .u8 x).wf = true) := Lib.hid hbuf.wf
  have H1 : Hid (∀ W, Below w.heap.size w W → _) := Lib.hid (fun W (hW : Below w.heap.size w W) => bclone_any ba m bc (Bf.take m) W (by rw [List.length_take]; omega) ((hbuf.below hW).front m (by omega)) (by rw [List.length_take]; omega))
  have H2 : Hid (∀ W, Below w.heap.size w W → _) := Lib.hid (fun W (hW : Below w.heap.size w W) => bclone_any _ (bn - m) (bc - m) (Bf.drop m) W (by rw [List.length_drop]; omega) ((hbuf.below hW).back m (by omega)) (by rw [List.length_drop]; omega))
  have hc1 := fun W => run_cut_h1 (P := Try.prog) u8_et (av := ba) (n := bn) (cap := bc) (kh := .i64) (m := m) (by omega) W
  have hc2 := fun W => run_cut_l (P := Try.prog) u8_et (av := ba) (n := bn) (cap := bc) (kl := .i64) m hmb hcb W
  obtain ⟨av2, hav2⟩ : ∃ x, (if bc = m then ba else ba.map (·.add (m * 1))) = x := ⟨_, rfl⟩
  rw [hav2] at hc2 H2
  obtain ⟨n2, hn2⟩ : ∃ x, bn - m = x := ⟨_, rfl⟩
  rw [hn2] at hc2 H2
  obtain ⟨cc2, hcc2⟩ : ∃ x, bc - m = x := ⟨_, rfl⟩
  rw [hcc2] at hc2 H2
  have HN2 := Lib.hid hn2
  have hn2b : n2 ≤ 100000 := by omega
  have HH := Lib.hid h
  have HEN := Lib.hid hen
  clear h hbuf hbq hav2 hn2 hcc2 hm hbn hen
  go_enter Try.func28, Try.ntmps28
  go_wp2_with (fail)
  refine rg_start 22 ?_
  refine rg_below fun p hx hne hC hbel => ?_
  have k0 : ∀ z : Wd p, z.w.cell? ⟨q, 0, none⟩ = some (.slice ba bn bc) := fun z => (hx z _ _ _ lb).trans c0
  refine rg_quiet 7 [0,1,2,3,4,5,6,7,9,10,11,12,13,14,15] hC ?_
  simp only [pickD, List.map_cons, List.map_nil, List.getD_cons_zero, List.getD_cons_succ]; repeat (go_big_quiet_step (fail))
  refine wpQuiet_nil ?_
  refine rg_act 8 ?_
  go_wp2_with (fail)
  refine (H1.out _ (Below.refl _ _).drew).mono ?_
  rintro e w1 ⟨hb1, a1, cc1, rfl, ho1⟩
  have b1 : Below w.heap.size w w1 := below_on (Below.refl _ _).drew hb1 (Nat.le_refl _)
  have HB1 := Lib.hid b1
  have HO1 := Lib.hid ho1
  clear ho1
  go_wp2_with (fail)
  refine ⟨hbel _ hb1, ?_⟩
  refine rg_act 16 ?_
  go_wp2_with (fail)
  refine (H2.out _ HB1.out).mono ?_
  rintro e w2 ⟨hb2, a2, cc3, rfl, ho2⟩
  have b2 : Below w.heap.size w w2 := below_on HB1.out hb2 HB1.out.size
  have hb2' : Below w.heap.size w1 w2 := below_on (Below.refl _ _) hb2 HB1.out.size
  have HB2 := Lib.hid b2
  have HO2 := Lib.hid ho2
  have HB12 := Lib.hid hb2
  clear ho2 b1
  go_wp2_with (fail)
  have hC3 := hbel _ (below_on hb1 hb2 hb1.size)
  refine ⟨hC3, ?_⟩
  refine rg_quiet 1 [17,18,19,20] hC3 ?_
  simp only [pickD, List.map_cons, List.map_nil, List.getD_cons_zero, List.getD_cons_succ]; repeat (go_big_quiet_step (fail))
  refine wpQuiet_nil ?_
  refine rg_cut 21 ?_
  clear hx hne hC hbel hb1 hb2 hb2' k0 hc1 hc2 hC3
  have hI2 : Blk w2 q _ _ := HH.out.below HB2.out
  have c0 := hI2.cell 0 _ rfl
  have c1 := hI2.cell 1 _ rfl
  have c7 := hI2.cell 7 _ rfl
  have c5 := hI2.cell 5 _ rfl
  have c6 := hI2.cell 6 _ rfl
  have f0 := hI2.free 0
  have f1 := hI2.free 1
  have f7 := hI2.free 7
  have HI2 := Lib.hid hI2
  clear hI2 b2
  have HFR : Hid (∀ W, Only (· = q) w2 W → Only (· = q) w W ∧ Fresh w W a1 cc1 (Bf.take m) ∧ Fresh w W a2 cc3 (Bf.drop m)) := Lib.hid (fun W hW => by
    have x1 := fresh_own HO1.out (fun x hx => W8.out x (List.mem_of_mem_take hx))
    have x2 := fresh_own HO2.out (fun x hx => W8.out x (List.mem_of_mem_drop hx))
    have hqn : ∀ x, w.heap.size ≤ x → ¬ x = q := fun x h1 h2 => by omega
    refine ⟨below_only HB2.out hW, ⟨((x1.1.below HB12.out).only hW (fun x hx _ => hqn _ (x1.2 x hx))), x1.2⟩, ⟨(x2.1.only hW (fun x hx _ => hqn _ (Nat.le_trans HB1.out.size (x2.2 x hx)))), fun x hx => Nat.le_trans HB1.out.size (x2.2 x hx)⟩⟩)
  go_wp2_with (fail)
  refine rg_end0 ?_
  go_wp2_with (fail)
  refine rg_start 19 ?_
  refine rg_same fun p hx hne hC => ?_
  cases hf with
  | false =>
    obtain rfl : en = false := HEN.out
    clear HEN
    refine rg_quiet 0 [0,1,2,3,4,5,6,7,8,9,10,11,12,13,14,15,16,17,18] hC ?_
    simp only [pickD, List.map_cons, List.map_nil, List.getD_cons_zero, List.getD_cons_succ]; repeat (go_big_quiet_step (fail))
    refine wpQuiet_nil ?_
    refine rg_end ?_
    clear hx hne hC
    by_cases hm0 : m = 0
    · have hmi : ((m : Int) == 0) = true := by simp; omega
      have HM0 := Lib.hid hm0
      clear hm0
      go_wp2_with (fail)
      go_returns
      have X := HFR.out _ (((Only.refl _ _).set 0 (.slice a2 n2 cc3)).set 1 (.int .u64 ((rd : Int) + (m : Int)))).drew
      have hI3 := (((HI2.out.set 0 (.slice a2 n2 cc3)).set 1 (.int .u64 ((rd : Int) + (m : Int)))).drew)
      unfold GetPost
      refine ⟨X.1, a1, cc1, a2, cc3, X.2.1, X.2.2, hI3.congr (by simp [HN2.out]), fun _ => rfl, fun h9 => h9.elim (fun h8 => Bool.noConfusion h8) (fun h8 => absurd HM0.out h8)⟩
    · have hmi : ((m : Int) == 0) = false := by simp; omega
      have HM0 := Lib.hid hm0
      clear hm0
      go_wp2_with (fail)
      go_returns
      have X := HFR.out _ (((Only.refl _ _).set 0 (.slice a2 n2 cc3)).set 1 (.int .u64 ((rd : Int) + (m : Int)))).drew
      have hI3 := (((HI2.out.set 0 (.slice a2 n2 cc3)).set 1 (.int .u64 ((rd : Int) + (m : Int)))).drew)
      unfold GetPost
      refine ⟨X.1, a1, cc1, a2, cc3, X.2.1, X.2.2, hI3.congr (by simp [HN2.out]), fun h9 => absurd h9.2 HM0.out, fun _ => rfl⟩
  | true =>
    by_cases hef : rd + m = fin
    · obtain rfl : en = true := by rw [HEN.out]; simp [hef]
      have hei : ((rd : Int) + (m : Int) == (fin : Int)) = true := by simp; omega
      clear HEN hef
      refine rg_quiet 0 [0,1,2,3,4,5,6,7,8,9,10,11,12,13,14,15,16,17,18] hC ?_
      simp only [pickD, List.map_cons, List.map_nil, List.getD_cons_zero, List.getD_cons_succ]; repeat (go_big_quiet_step (fail))
      refine wpQuiet_nil ?_
      refine rg_end ?_
      clear hx hne hC
      go_wp2_with (fail)
      go_returns
      have X := HFR.out _ ((((Only.refl _ _).set 0 (.slice a2 n2 cc3)).set 1 (.int .u64 ((rd : Int) + (m : Int)))).drew.set 7 (.bool true))
      have hI3 := ((((HI2.out.set 0 (.slice a2 n2 cc3)).set 1 (.int .u64 ((rd : Int) + (m : Int)))).drew).set 7 (.bool true))
      unfold GetPost
      refine ⟨X.1, a1, cc1, a2, cc3, X.2.1, X.2.2, hI3.congr (by simp [HN2.out]), fun h9 => Bool.noConfusion h9.1, fun _ => rfl⟩
    · obtain rfl : en = false := by rw [HEN.out]; simp [hef]
      have hei : ((rd : Int) + (m : Int) == (fin : Int)) = false := by simp; omega
      clear HEN hef
      refine rg_quiet 0 [0,1,2,3,4,5,6,7,8,9,10,11,12,13,14,15,16,17,18] hC ?_
      simp only [pickD, List.map_cons, List.map_nil, List.getD_cons_zero, List.getD_cons_succ]; repeat (go_big_quiet_step (fail))
      refine wpQuiet_nil ?_
      refine rg_end ?_
      clear hx hne hC
      by_cases hm0 : m = 0
      · have hmi : ((m : Int) == 0) = true := by simp; omega
        have HM0 := Lib.hid hm0
        clear hm0
        go_wp2_with (fail)
        go_returns
        have X := HFR.out _ (((Only.refl _ _).set 0 (.slice a2 n2 cc3)).set 1 (.int .u64 ((rd : Int) + (m : Int)))).drew
        have hI3 := (((HI2.out.set 0 (.slice a2 n2 cc3)).set 1 (.int .u64 ((rd : Int) + (m : Int)))).drew)
        unfold GetPost
        refine ⟨X.1, a1, cc1, a2, cc3, X.2.1, X.2.2, hI3.congr (by simp [HN2.out]), fun _ => rfl, fun h9 => h9.elim (fun h8 => Bool.noConfusion h8) (fun h8 => absurd HM0.out h8)⟩
      · have hmi : ((m : Int) == 0) = false := by simp; omega
        have HM0 := Lib.hid hm0
        clear hm0
        go_wp2_with (fail)
        go_returns
        have X := HFR.out _ (((Only.refl _ _).set 0 (.slice a2 n2 cc3)).set 1 (.int .u64 ((rd : Int) + (m : Int)))).drew
        have hI3 := (((HI2.out.set 0 (.slice a2 n2 cc3)).set 1 (.int .u64 ((rd : Int) + (m : Int)))).drew)
        unfold GetPost
        refine ⟨X.1, a1, cc1, a2, cc3, X.2.1, X.2.2, hI3.congr (by simp [HN2.out]), fun h9 => absurd h9.2 HM0.out, fun _ => rfl⟩
end Go.Proofs.Yticnjdlapioppaa
