/- Print: the text of events. -/
import Derived.Test.YtfaopoaephlenaaGreatDoorTk2
namespace Go.Proofs.YtfaopoaephlenaaGreatDoor
open Go.RowKit
set_option linter.unusedVariables false

/-- What a round of Print keeps. -/
structure PrI (w0 w1 : World) (b : Nat) (L : List Ev) (k : Nat) (w : World) : Prop where
  below : Below w1.heap.size w1 w
  bd : Bd w1.heap.size w1.heap.size (linesL (L.take k)) w
  good : goodL (L.take k) = true
theorem take_succ {L : List Ev} {k : Nat} {e : Ev} (hk : k < L.length) (he : L.getD k default = e) : L.take (k + 1) = L.take k ++ [e] := by
  rw [List.take_add_one]
  have : L[k]? = some e := by rw [← he]; simp [hk]
  rw [this]; rfl
theorem goodL_bad {L : List Ev} {k : Nat} {e : Ev} (hk : k < L.length) (he : L.getD k default = e) (hb : goodK e.kind = false) : goodL L = false := by
  rw [← List.take_append_drop (k + 1) L, take_succ hk he]
  simp [goodL, hb]
theorem line_steps (e : Ev) (he : EvOk e) : ∃ x1 x2 x3 x4 x5 kk da db dc y z, dig e.at_ = da ∧ dig e.a = db ∧ dig e.b = dc ∧ kw.getD e.kind [] = kk ∧ lineL e = y ∧ lineL e ++ [10] = z ∧
    (∀ W, (Op.stringOp .add (tx da) (tx [32])).run Tryz.prog W = .ok (.string (tx x1)) W) ∧
    (∀ W, (Op.stringOp .add (tx x1) (tx kk)).run Tryz.prog W = .ok (.string (tx x2)) W) ∧
    (∀ W, (Op.stringOp .add (tx x2) (tx [32])).run Tryz.prog W = .ok (.string (tx x3)) W) ∧
    (∀ W, (Op.stringOp .add (tx x3) (tx db)).run Tryz.prog W = .ok (.string (tx x4)) W) ∧
    (∀ W, (Op.stringOp .add (tx x4) (tx [32])).run Tryz.prog W = .ok (.string (tx x5)) W) ∧
    (∀ W, (Op.stringOp .add (tx x5) (tx dc)).run Tryz.prog W = .ok (.string (tx y)) W) ∧
    (∀ W, (Op.stringOp .add (tx y) (tx [10])).run Tryz.prog W = .ok (.string (tx z)) W) := by
  have l1 := dig_len he.1
  have l2 := dig_len he.2.1
  have l3 := dig_len he.2.2.1
  have l4 := kw_len e.kind
  have l5 := lineL_len e he
  refine ⟨_, _, _, _, _, _, _, _, _, _, _, rfl, rfl, rfl, rfl, rfl, rfl, fun W => run_add _ _ _ _ ?_, fun W => run_add _ _ _ _ ?_, fun W => run_add _ _ _ _ ?_, fun W => run_add _ _ _ _ ?_, fun W => run_add _ _ _ _ ?_, fun W => run_add _ _ _ _ ?_, fun W => run_add _ _ _ _ ?_⟩ <;> simp only [List.length_append, List.length_cons, List.length_nil] <;> omega
set_option maxRecDepth 100000 in
set_option maxHeartbeats 8000000 in
theorem print_any (a : Option Addr) (n cap : Nat) (L : List Ev) (w : World) (hn : n = L.length) (h : Es w a cap L) (hl : L.length ≤ 2000) (hp : Pow10 w) (hm : MaxLenAt w) (hg1 : 3 < w.heap.size) :
    Calls Tryz.prog 5 #[.slice a n cap] w fun x w' => x = .returned (printV L) ∧ Below w.heap.size w w' := by
  have HE := Lib.hid h
  have HN := Lib.hid hn
  have hnb : n ≤ 2000 := by omega
  have HP := Lib.hid hp
  have HM := Lib.hid hm
  have HG := Lib.hid hg1
  clear h hn hl hp hm hg1
  go_enter Tryz.func5, Tryz.ntmps5
  go_wp2_with (fail)
  refine (split_any wordsL 32 w (by decide) HM.out).mono ?_
  rintro e w1 ⟨rfl, rfl⟩
  rw [words_pcs, show kw.length = 11 from rfl]
  have hlit : ((kw.map fun p => Value.string (tx p)).toArray) = strCs kw := rfl
  rw [hlit]
  obtain ⟨w1, hw1⟩ : ∃ w1, w.alloc (.cells (strCs kw) 9) = w1 := ⟨_, rfl⟩
  have hs1 : w1.heap.size = w.heap.size + 1 := by rw [← hw1]; simp
  have hb1 : Below w.heap.size w w1 := by rw [← hw1]; exact (Below.refl _ _).alloc (Nat.le_refl _) _
  have hk1 : Blk w1 w.heap.size (strCs kw) 9 := by rw [← hw1]; exact Blk.new w _ _
  rw [hw1]
  clear hlit hw1
  have HS := Lib.hid hs1
  have HB := Lib.hid hb1
  have HK := Lib.hid hk1
  clear hs1 hb1 hk1
  go_wp2_with (fail)
  have hst : PrI w w1 w1.heap.size L 0 (w1.alloc (.cells #[.pointer none, .slice none 0 0] 47)) := ⟨(Below.refl _ _).alloc (Nat.le_refl _) _, Bd.new w1, rfl⟩
  obtain ⟨w2, hw2⟩ : ∃ w2, w1.alloc (.cells #[.pointer none, .slice none 0 0] 47) = w2 := ⟨_, rfl⟩
  rw [hw2] at hst ⊢
  clear hw2
  have HST := Lib.hid hst
  clear hst
  go_loopw [7, 14] (fun _ i wr => ∃ k : Nat, i = .int .i64 k ∧ k ≤ n ∧ Hid (PrI w w1 w1.heap.size L k wr)) (fun _ i _ => n - (intOf i).toNat)
  case atStart => exact ⟨0, rfl, by omega, HST⟩
  case round =>
    obtain ⟨k, rfl, hk, hok⟩ := hrel
    by_cases hlt : k < n
    · have hltL : k < L.length := by have := HN.out; omega
      have bw := Lib.hid (below_on HB.out hok.out.below (by have := HS.out; omega))
      obtain ⟨gb, go, rfl, hgb, e, hed, e0, e1, e2, e3, he⟩ := (HE.out.below bw.out).at_ hltL
      obtain ⟨ea, eA, eB, ek⟩ := e
      simp only at e0 e1 e2 e3
      have HED := Lib.hid hed
      have HEO := Lib.hid he
      clear hed he
      have hki : (k : Int) < (n : Int) := by omega
      by_cases hg : goodK ek = true
      · have hg' : 1 ≤ ek ∧ ek ≤ 10 := by simpa [goodK] using hg
        have d1 : ¬ (ek : Int) < 1 := by omega
        have d2 : ¬ (ek : Int) > 10 := by omega
        have d3 : (ek : Int) < 11 := by omega
        have HGK := Lib.hid hg
        clear hg
        obtain ⟨x1, x2, x3, x4, x5, kk, da, db, dc, y, z, f1, f2, f3, f4, f5, f6, a1, a2, a3, a4, a5, a6, a7⟩ := line_steps ⟨ea, eA, eB, ek⟩ HEO.out
        simp only at f1 f2 f3 f4
        have t1 := Lib.hid (fun W hP => num_any ea W HEO.out.1 hP)
        have t2 := Lib.hid (fun W hP => num_any eA W HEO.out.2.1 hP)
        have t3 := Lib.hid (fun W hP => num_any eB W HEO.out.2.2.1 hP)
        rw [f1] at t1
        rw [f2] at t2
        rw [f3] at t3
        have cw : (strCs kw)[ek]? = some (.string (tx kk)) := by rw [strCs_get _ _ (by simp [kw, kwT]; omega), f4]
        have CW := Lib.hid ((HK.out.below hok.out.below).cell ek _ cw)
        have KL := Lib.hid (HK.out.below hok.out.below).lt
        have F6 := Lib.hid f6
        have hpa : Below w.heap.size w (wr.alloc (.cells #[.int .u64 ea, .int .u64 eA, .int .u64 eB, .int .u8 ek] 31)) := bw.out.alloc bw.out.size _
        have PA := Lib.hid hpa
        have hra : Below wr.heap.size wr (wr.alloc (.cells #[.int .u64 ea, .int .u64 eA, .int .u64 eB, .int .u8 ek] 31)) := (Below.refl _ _).alloc (Nat.le_refl _) _
        have RA := Lib.hid hra
        clear f1 f2 f3 f4 f5 f6 cw hpa hra hg'
        go_wp2_with (fail)
        refine rg_start 22 ?_
        refine rg_below fun p hx hne hC hbel => ?_
        obtain ⟨wa, hwa⟩ : ∃ wa, (wr.alloc (.cells #[.int .u64 ea, .int .u64 eA, .int .u64 eB, .int .u8 ek] 31)).drew = wa := ⟨_, rfl⟩
        have hsa : wa.heap.size = wr.heap.size + 1 := by rw [← hwa]; simp
        have bwa : Below wr.heap.size wr wa := by rw [← hwa]; exact RA.out.drew
        have k0 : ∀ z : Wd p, z.w.cell? ⟨wr.heap.size, 0, none⟩ = some (.int .u64 ea) := fun z => (hx z _ _ _ (by simp)).trans (by rw [World.cell?_drew, World.cell?_alloc_new]; rfl)
        have k1 : ∀ z : Wd p, z.w.cell? ⟨wr.heap.size, 1, none⟩ = some (.int .u64 eA) := fun z => (hx z _ _ _ (by simp)).trans (by rw [World.cell?_drew, World.cell?_alloc_new]; rfl)
        have k2 : ∀ z : Wd p, z.w.cell? ⟨wr.heap.size, 2, none⟩ = some (.int .u64 eB) := fun z => (hx z _ _ _ (by simp)).trans (by rw [World.cell?_drew, World.cell?_alloc_new]; rfl)
        have k3 : ∀ z : Wd p, z.w.cell? ⟨wr.heap.size, 3, none⟩ = some (.int .u8 ek) := fun z => (hx z _ _ _ (by simp)).trans (by rw [World.cell?_drew, World.cell?_alloc_new]; rfl)
        have k4 : ∀ z : Wd p, z.w.cell? ⟨w.heap.size, ek, none⟩ = some (.string (tx kk)) := fun z => (hx z _ _ _ (by have := KL.out; simp; omega)).trans (by rw [hwa]; exact (bwa.cell (p := ⟨w.heap.size, ek, none⟩) KL.out).trans CW.out)
        rw [hwa] at hC hbel ⊢
        have HSA := Lib.hid hsa
        have BWA := Lib.hid bwa
        clear hsa bwa hx hwa
        refine rg_quiet 11 [0,1,4,5,6,7,8,11,12,16,17] hC ?_
        simp only [pickD, List.map_cons, List.map_nil, List.getD_cons_zero, List.getD_cons_succ]; repeat (go_big_quiet_step (fail))
        refine wpQuiet_nil ?_
        refine rg_act 2 ?_
        go_wp2_with (fail)
        have B0 := Lib.hid (below_on bw.out BWA.out bw.out.size)
        refine (t1.out _ (HP.out.below HG.out B0.out)).mono ?_
        rintro e w3 ⟨rfl, hb3⟩
        have B3 := Lib.hid hb3
        clear hb3
        go_wp2_with (fail)
        have hC3 := hbel _ B3.out
        refine ⟨hC3, ?_⟩
        refine rg_quiet 7 [3,9,10] hC3 ?_
        simp only [pickD, List.map_cons, List.map_nil, List.getD_cons_zero, List.getD_cons_succ]; repeat (go_big_quiet_step (fail))
        refine wpQuiet_nil ?_
        refine rg_act 13 ?_
        go_wp2_with (fail)
        refine (t2.out _ (HP.out.below HG.out (below_on B0.out B3.out B0.out.size))).mono ?_
        rintro e w4 ⟨rfl, hb4⟩
        have B4 := Lib.hid (below_on B3.out hb4 B3.out.size)
        clear hb4
        go_wp2_with (fail)
        have hC4 := hbel _ B4.out
        refine ⟨hC4, ?_⟩
        refine rg_quiet 4 [14,15] hC4 ?_
        simp only [pickD, List.map_cons, List.map_nil, List.getD_cons_zero, List.getD_cons_succ]; repeat (go_big_quiet_step (fail))
        refine wpQuiet_nil ?_
        refine rg_act 18 ?_
        go_wp2_with (fail)
        refine (t3.out _ (HP.out.below HG.out (below_on B0.out B4.out B0.out.size))).mono ?_
        rintro e w5 ⟨rfl, hb5⟩
        have B5 := Lib.hid (below_on B4.out hb5 B4.out.size)
        clear hb5
        go_wp2_with (fail)
        have hC5 := hbel _ B5.out
        refine ⟨hC5, ?_⟩
        refine rg_quiet 1 [19,20] hC5 ?_
        simp only [pickD, List.map_cons, List.map_nil, List.getD_cons_zero, List.getD_cons_succ]; repeat (go_big_quiet_step (fail))
        refine wpQuiet_nil ?_
        refine rg_cut 21 ?_
        go_wp2_with (fail)
        have bw5 := Lib.hid (below_on BWA.out B5.out BWA.out.size)
        refine (wstr_any _ _ _ z w5 (hok.out.bd.below bw5.out) ?_ ?_).mono ?_
        · have h1 := linesL_len (L.take k) (fun x hx => HE.out.ok x (List.mem_of_mem_take hx))
          have h2 := lineL_len _ HEO.out
          have h3 : (L.take k).length ≤ 2000 := by rw [List.length_take]; omega
          rw [← F6.out]
          simp only [List.length_append, List.length_cons, List.length_nil]; omega
        · have := hok.out.below.size; have := bw5.out.size; omega
        rintro e w6 ⟨rfl, hd6, hb6⟩
        have D6 := Lib.hid hd6
        have B6 := Lib.hid hb6
        clear hd6 hb6
        go_wp2_with (fail)
        refine rg_end0 ?_
        have hfin : PrI w w1 w1.heap.size L (k + 1) w6 := by
          have h1 : Below w1.heap.size w1 w5 := below_on hok.out.below bw5.out hok.out.below.size
          refine ⟨h1.trans B6.out, ?_, ?_⟩
          · rw [take_succ hltL HED.out, linesL_snoc, F6.out]; exact D6.out
          · have := hok.out.good
            rw [take_succ hltL HED.out]
            simp only [goodL, List.all_append, Bool.and_eq_true] at this ⊢
            exact ⟨this, by simp [HGK.out]⟩
        have FIN := Lib.hid hfin
        clear hfin
        go_wp2_with (fail)
        exact ⟨⟨k + 1, by go_num, by omega, FIN⟩, by simp [intOf]; omega⟩
      · have hg' : ek < 1 ∨ 10 < ek := by
          simp [goodK] at hg; omega
        have hv : printV L = .tuple #[.string (tx []), .int .i64 2] := by
          unfold printV
          rw [goodL_bad hltL HED.out (by simpa using hg)]; rfl
        have HV := Lib.hid hv
        clear hg hv
        rcases hg' with h | h
        · have d1 : (ek : Int) < 1 := by omega
          go_wp2_with (fail)
          go_returns
          exact ⟨by rw [HV.out]; rfl, bw.out.alloc bw.out.size _⟩
        · have d1 : ¬ (ek : Int) < 1 := by omega
          have d2 : (ek : Int) > 10 := by omega
          go_wp2_with (fail)
          go_returns
          exact ⟨by rw [HV.out]; rfl, bw.out.alloc bw.out.size _⟩
    · obtain rfl : n = k := by omega
      have hbd := hok.out.bd
      have hgd := hok.out.good
      rw [List.take_of_length_le (by have := HN.out; omega)] at hbd hgd
      have hv : printV L = .tuple #[.string (tx (linesL L)), .int .i64 0] := by unfold printV; rw [hgd]; rfl
      have HV := Lib.hid hv
      have BD := Lib.hid hbd
      clear hbd hgd hv
      go_wp2_with (fail)
      refine (bstr_any _ _ _ wr BD.out hok.out.below.size).mono ?_
      rintro e w3 ⟨rfl, hb3⟩
      have B3 := Lib.hid hb3
      clear hb3
      go_wp2_with (fail)
      go_returns
      exact ⟨by rw [HV.out]; rfl, below_on HB.out (hok.out.below.trans B3.out) (by have := HS.out; omega)⟩
end Go.Proofs.YtfaopoaephlenaaGreatDoor
