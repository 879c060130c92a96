/- Lists of moves as they are read; the document's Same. -/
import Derived.Test.YthangjgdjhhfgaaGreatDoorScW7
import Derived.Test.YthangjgdjhhfgaaGreatDoorQuie
namespace Go.Proofs.YthangjgdjhhfgaaGreatDoor
open Go.RowKit
set_option linter.unusedVariables false
def i8 (l : List UInt8) : List Int := l.map fun c => (c.toNat : Int)
theorem i8_wf (l : List UInt8) : ∀ n ∈ i8 l, (Lit.int .u8 n).wf = true := by
  intro n hn
  obtain ⟨c, _, rfl⟩ := List.mem_map.1 hn
  have := c.toNat_lt
  exact WalkArith.wf_u8 (by omega)
/-- Bytes that are read. -/
structure BR (w : World) (a : Option Addr) (n : Nat) (l : List UInt8) : Prop where
  ints : IntsAt .u8 w a (i8 l)
  len : n = l.length
theorem BR.below {w w' : World} {a : Option Addr} {n : Nat} {l : List UInt8} (h : BR w a n l) (hb : Below w.heap.size w w') : BR w' a n l := ⟨h.ints.below hb, h.len⟩
theorem By.br {w : World} {base : Nat} {a : Option Addr} {n cap : Nat} {l : List UInt8} (h : By w base a n cap l) : BR w a n l := by
  have h2 := h.own
  rw [show (l.map fun c => Value.int .u8 c.toNat) = (i8 l).map (Value.int .u8) by rw [i8, List.map_map]; rfl] at h2
  exact ⟨(h2.ints (i8_wf l)).2, h.len⟩
/-- Moves that are read. -/
def MsR (w : World) (a : Option Addr) (L : List Mv) : Prop := ∀ i, (hi : i < L.length) → ∃ b off aB nB cB aD nD cD, a = some ⟨b, off, none⟩ ∧ b < w.heap.size ∧ (∀ j v, (mvCs (L[i]) (.slice aB nB cB) (.slice aD nD cD))[j]? = some v → w.cell? ⟨b, off + i * 9 + j, none⟩ = some v) ∧ BR w aB nB (L[i]).b ∧ BR w aD nD (L[i]).d
theorem MsR.below {w w' : World} {a : Option Addr} {L : List Mv} (h : MsR w a L) (hb : Below w.heap.size w w') : MsR w' a L := by
  intro i hi
  obtain ⟨b, off, aB, nB, cB, aD, nD, cD, h1, h2, h3, h4, h5⟩ := h i hi
  exact ⟨b, off, aB, nB, cB, aD, nD, cD, h1, Nat.lt_of_lt_of_le h2 hb.size, fun j v hj => (hb.cell (p := ⟨b, off + i * 9 + j, none⟩) h2).trans (h3 j v hj), h4.below hb, h5.below hb⟩
theorem MEnc.get {w : World} {base : Nat} {L : List Mv} {xs : List Value} (h : MEnc w base L xs) : ∀ i, (hi : i < L.length) → ∃ aB nB cB aD nD cD, (∀ j v, (mvCs (L[i]) (.slice aB nB cB) (.slice aD nD cD))[j]? = some v → xs[i * 9 + j]? = some v) ∧ By w base aB nB cB (L[i]).b ∧ By w base aD nD cD (L[i]).d := by
  induction h with
  | nil => intro i hi; simp at hi
  | cons m L xs aB nB cB aD nD cD h1 h2 h ih =>
    intro i hi
    cases i with
    | zero =>
      refine ⟨aB, nB, cB, aD, nD, cD, fun j v hj => ?_, h1, h2⟩
      have hj9 : j < (mvCs m (.slice aB nB cB) (.slice aD nD cD)).toList.length := by
        by_cases h9 : j < (mvCs m (.slice aB nB cB) (.slice aD nD cD)).toList.length
        · exact h9
        · rw [Array.getElem?_eq_none (by simpa using h9)] at hj; cases hj
      rw [Nat.zero_mul, Nat.zero_add, List.getElem?_append_left hj9]
      simpa using hj
    | succ i =>
      obtain ⟨aB', nB', cB', aD', nD', cD', k1, k2, k3⟩ := ih i (by simpa using hi)
      refine ⟨aB', nB', cB', aD', nD', cD', fun j v hj => ?_, k2, k3⟩
      rw [List.getElem?_append_right (by simp [mvCs]; omega)]
      have := k1 j v hj
      rw [← this]
      congr 1
      simp [mvCs]
      omega
theorem MsAt.msr {w : World} {base : Nat} {a : Option Addr} {n cap : Nat} {L : List Mv} (h : MsAt w base a n cap L) : MsR w a L := by
  obtain ⟨⟨xs, ho, he⟩, hl⟩ := h
  intro i hi
  obtain ⟨aB, nB, cB, aD, nD, cD, k1, k2, k3⟩ := he.get i hi
  have hxl := he.len
  obtain ⟨g, rfl, _, hg, _⟩ := ho.at_ (i := i * 9) (by omega)
  refine ⟨g, 0, aB, nB, cB, aD, nD, cD, rfl, hg, fun j v hj => ?_, k2.br, k3.br⟩
  have hx := k1 j v hj
  have hlt : i * 9 + j < xs.length := by
    by_cases h9 : i * 9 + j < xs.length
    · exact h9
    · rw [List.getElem?_eq_none (by omega)] at hx; cases hx
  obtain ⟨g', hg', _, _, hc, _⟩ := ho.at_ hlt
  cases hg'
  rw [Nat.zero_add, hc, hx]
section
variable {P : Program} {ops : Array Oper} {rest : List Oper} {o : Oper} {a : Act} {w : World} {Q : Exit → Act → World → Prop}
theorem stop_bstr_g {d : Option Tmp} {x : Operand} {ty : TypeId} {pos : String} {aft : Array Edge} {g : Nat × Bool}
    (h : Stop (wpList P ops Q (⟨d, .convert 30 9 x, ty, pos, aft, some g⟩ :: rest) a w)) : wpList P ops Q (⟨d, .convert 30 9 x, ty, pos, aft, some g⟩ :: rest) a w := h
end
theorem blk_at {w : World} {n : Nat} {cs : Array Value} {T : TypeId} (h : n = w.heap.size) : Blk (w.alloc (.cells cs T)) n cs T := h ▸ Blk.new w cs T
set_option maxRecDepth 100000 in
set_option maxHeartbeats 16000000 in
theorem same32_any (a : Option Addr) (n cap : Nat) (b : Option Addr) (m c : Nat) (L : List Mv) (w : World) (hn : n = L.length) (hm : m = L.length) (h : MsR w a L) (h2 : MsR w b L) (hl : L.length ≤ 1000000) :
    Calls Tryz.prog 21 #[.slice a n cap, .slice b m c] w fun x w' => x = .returned (.bool true) ∧ Below w.heap.size w w' := by
  obtain rfl : n = m := by omega
  have hnb : n ≤ 1000000 := by omega
  have HN := Lib.hid hn
  have H1 := Lib.hid h
  have H2 := Lib.hid h2
  clear hn hm h h2 hl
  go_enter Tryz.func21, Tryz.ntmps21
  go_wp2_with (fail)
  go_loopw [5, 6] (fun s i wr => ∃ k : Nat, i = .int .i64 k ∧ s = .bool true ∧ k ≤ n ∧ Hid (Below w.heap.size w wr)) (fun _ i _ => n - (intOf i).toNat)
  case atStart => exact ⟨0, rfl, rfl, by omega, Lib.hid (Below.refl _ _)⟩
  case round =>
    obtain ⟨k, rfl, rfl, hk, bw⟩ := hrel
    by_cases hlt : k < n
    · have hkL : k < L.length := by have := HN.out; omega
      obtain ⟨g1, o1, aB, nB, cB, aD, nD, cD, rfl, hg1, c1, y1, z1⟩ := (H1.out.below bw.out) k hkL
      obtain ⟨g2, o2, eB, mB, fB, eD, mD, fD, rfl, hg2, c2, y2, z2⟩ := (H2.out.below bw.out) k hkL
      generalize L[k] = q at *
      obtain ⟨q0, q1, q2, q3, q4, q5, q6, q7, q8⟩ := q
      have d0 : wr.cell? ⟨g1, o1 + k * 9, none⟩ = some (.int .u8 q0) := c1 0 _ rfl
      have d1 : wr.cell? ⟨g1, o1 + k * 9 + 1, none⟩ = some (.int .u8 q1) := c1 1 _ rfl
      have d2 : wr.cell? ⟨g1, o1 + k * 9 + 2, none⟩ = some (.int .i64 q2) := c1 2 _ rfl
      have d3 : wr.cell? ⟨g1, o1 + k * 9 + 3, none⟩ = some (.int .u64 q3) := c1 3 _ rfl
      have d4 : wr.cell? ⟨g1, o1 + k * 9 + 4, none⟩ = some (.int .u64 q4) := c1 4 _ rfl
      have d5 : wr.cell? ⟨g1, o1 + k * 9 + 5, none⟩ = some (.slice aB nB cB) := c1 5 _ rfl
      have d6 : wr.cell? ⟨g1, o1 + k * 9 + 6, none⟩ = some (.int .u32 q6) := c1 6 _ rfl
      have d7 : wr.cell? ⟨g1, o1 + k * 9 + 7, none⟩ = some (.int .u32 q7) := c1 7 _ rfl
      have d8 : wr.cell? ⟨g1, o1 + k * 9 + 8, none⟩ = some (.slice aD nD cD) := c1 8 _ rfl
      have e0 : wr.cell? ⟨g2, o2 + k * 9, none⟩ = some (.int .u8 q0) := c2 0 _ rfl
      have e1 : wr.cell? ⟨g2, o2 + k * 9 + 1, none⟩ = some (.int .u8 q1) := c2 1 _ rfl
      have e2 : wr.cell? ⟨g2, o2 + k * 9 + 2, none⟩ = some (.int .i64 q2) := c2 2 _ rfl
      have e3 : wr.cell? ⟨g2, o2 + k * 9 + 3, none⟩ = some (.int .u64 q3) := c2 3 _ rfl
      have e4 : wr.cell? ⟨g2, o2 + k * 9 + 4, none⟩ = some (.int .u64 q4) := c2 4 _ rfl
      have e5 : wr.cell? ⟨g2, o2 + k * 9 + 5, none⟩ = some (.slice eB mB fB) := c2 5 _ rfl
      have e6 : wr.cell? ⟨g2, o2 + k * 9 + 6, none⟩ = some (.int .u32 q6) := c2 6 _ rfl
      have e7 : wr.cell? ⟨g2, o2 + k * 9 + 7, none⟩ = some (.int .u32 q7) := c2 7 _ rfl
      have e8 : wr.cell? ⟨g2, o2 + k * 9 + 8, none⟩ = some (.slice eD mD fD) := c2 8 _ rfl
      simp only at y1 z1 y2 z2
      have Y1 := Lib.hid y1
      have Z1 := Lib.hid z1
      have Y2 := Lib.hid y2
      have Z2 := Lib.hid z2
      have hki : (k : Int) < (n : Int) := by omega
      have hqk : decide (n ≤ k) = false := by simp; omega
      clear c1 c2 y1 z1 y2 z2
      go_wp2_with (fail)
      refine rg_start 12 ?_
      refine rg_below fun p hx hne hC hbel => ?_
      have k0 : ∀ z : Wd p, z.w.cell? ⟨g1, o1 + k * 9, none⟩ = _ := fun z => (hx z _ _ _ hg1).trans d0
      have k1 : ∀ z : Wd p, z.w.cell? ⟨g1, o1 + k * 9 + 1, none⟩ = _ := fun z => (hx z _ _ _ hg1).trans d1
      have k2 : ∀ z : Wd p, z.w.cell? ⟨g1, o1 + k * 9 + 2, none⟩ = _ := fun z => (hx z _ _ _ hg1).trans d2
      have k3 : ∀ z : Wd p, z.w.cell? ⟨g1, o1 + k * 9 + 3, none⟩ = _ := fun z => (hx z _ _ _ hg1).trans d3
      have k4 : ∀ z : Wd p, z.w.cell? ⟨g1, o1 + k * 9 + 4, none⟩ = _ := fun z => (hx z _ _ _ hg1).trans d4
      have k5 : ∀ z : Wd p, z.w.cell? ⟨g1, o1 + k * 9 + 5, none⟩ = _ := fun z => (hx z _ _ _ hg1).trans d5
      have k6 : ∀ z : Wd p, z.w.cell? ⟨g1, o1 + k * 9 + 6, none⟩ = _ := fun z => (hx z _ _ _ hg1).trans d6
      have k7 : ∀ z : Wd p, z.w.cell? ⟨g1, o1 + k * 9 + 7, none⟩ = _ := fun z => (hx z _ _ _ hg1).trans d7
      have k8 : ∀ z : Wd p, z.w.cell? ⟨g1, o1 + k * 9 + 8, none⟩ = _ := fun z => (hx z _ _ _ hg1).trans d8
      have l0 : ∀ z : Wd p, z.w.cell? ⟨g2, o2 + k * 9, none⟩ = _ := fun z => (hx z _ _ _ hg2).trans e0
      have l1 : ∀ z : Wd p, z.w.cell? ⟨g2, o2 + k * 9 + 1, none⟩ = _ := fun z => (hx z _ _ _ hg2).trans e1
      have l2 : ∀ z : Wd p, z.w.cell? ⟨g2, o2 + k * 9 + 2, none⟩ = _ := fun z => (hx z _ _ _ hg2).trans e2
      have l3 : ∀ z : Wd p, z.w.cell? ⟨g2, o2 + k * 9 + 3, none⟩ = _ := fun z => (hx z _ _ _ hg2).trans e3
      have l4 : ∀ z : Wd p, z.w.cell? ⟨g2, o2 + k * 9 + 4, none⟩ = _ := fun z => (hx z _ _ _ hg2).trans e4
      have l5 : ∀ z : Wd p, z.w.cell? ⟨g2, o2 + k * 9 + 5, none⟩ = _ := fun z => (hx z _ _ _ hg2).trans e5
      have l6 : ∀ z : Wd p, z.w.cell? ⟨g2, o2 + k * 9 + 6, none⟩ = _ := fun z => (hx z _ _ _ hg2).trans e6
      have l7 : ∀ z : Wd p, z.w.cell? ⟨g2, o2 + k * 9 + 7, none⟩ = _ := fun z => (hx z _ _ _ hg2).trans e7
      have l8 : ∀ z : Wd p, z.w.cell? ⟨g2, o2 + k * 9 + 8, none⟩ = _ := fun z => (hx z _ _ _ hg2).trans e8
      clear hx
      refine rg_quiet 4 [0,1,2,3,4,5,6,7] hC ?_
      simp only [pickD, List.map_cons, List.map_nil, List.getD_cons_zero, List.getD_cons_succ]; repeat (go_big_quiet_step (fail))
      refine wpQuiet_nil ?_
      refine rg_among [8, 9] ?_
      simp only [List.forall_mem_cons, List.getD_cons_zero, List.getD_cons_succ]
      refine ⟨?_, ?_, by simp⟩
      · go_wp2_with (fail)
        refine ⟨hbel _ ((Below.refl _ _).alloc (Nat.le_refl _) _), ?_⟩
        refine rg_act 9 ?_
        go_wp2_with (fail)
        refine ⟨hbel _ (((Below.refl _ _).alloc (Nat.le_refl _) _).alloc (by simp) _), ?_⟩
        refine rg_act 10 ?_
        go_wp2_with (with_reducible refine stop_storem ?_)
        refine wpList_storem rfl rfl (cs := mvCs ⟨q0, q1, q2, q3, q4, q5, q6, q7, q8⟩ (.slice aB nB cB) (.slice aD nD cD)) rfl rfl (mvCs_one _ _ _ _ _ _ _) rfl rfl ((Blk.new _ _ _).alloc _) move_size ?_
        intro w5 bk5 o5
        have b5 : Below wr.drew.heap.size wr.drew w5 := by
          refine Below.trans ?_ (below_of_only o5 (by simp <;> omega) (by rintro k hk rfl; simp at hk <;> omega))
          repeat first | exact Below.refl _ _ | exact ⟨rfl, rfl, rfl, Nat.le_refl _, fun _ _ => rfl⟩ | apply Below.drew | refine Below.alloc ?_ (by simp) _
        have bk7 := o5.blk (b := wr.heap.size + 1) (blk_at (T := 35) (by simp)) (by simp)
        go_wp2_with (fail)
        refine ⟨hbel _ b5, ?_⟩
        refine rg_cut 11 ?_
        go_wp2_with (with_reducible refine stop_storem ?_)
        refine wpList_storem rfl rfl (cs := mvCs ⟨q0, q1, q2, q3, q4, q5, q6, q7, q8⟩ (.slice eB mB fB) (.slice eD mD fD)) rfl rfl (mvCs_one _ _ _ _ _ _ _) rfl rfl bk7 move_size ?_
        intro w6 bk6 o6
        have b6 : Below wr.drew.heap.size wr.drew w6 := Below.trans b5 (below_of_only o6 b5.size (by rintro k hk rfl; simp at hk <;> omega))
        have bk6' := o6.blk bk5 (by simp)
        have BB := Lib.hid (show Below wr.heap.size wr w6 from ((Below.refl _ _).drew).trans b6)
        have Y1' := Lib.hid (Y1.out.below BB.out)
        have Z1' := Lib.hid (Z1.out.below BB.out)
        have Y2' := Lib.hid (Y2.out.below BB.out)
        have Z2' := Lib.hid (Z2.out.below BB.out)
        go_wp2_with (fail)
        refine rg_end0 ?_
        have m0 := bk6'.cell 0 (.int .u8 q0) rfl
        have n0 := bk6.cell 0 (.int .u8 q0) rfl
        have m1 := bk6'.cell 1 (.int .u8 q1) rfl
        have n1 := bk6.cell 1 (.int .u8 q1) rfl
        have m2 := bk6'.cell 2 (.int .i64 q2) rfl
        have n2 := bk6.cell 2 (.int .i64 q2) rfl
        have m3 := bk6'.cell 3 (.int .u64 q3) rfl
        have n3 := bk6.cell 3 (.int .u64 q3) rfl
        have m4 := bk6'.cell 4 (.int .u64 q4) rfl
        have n4 := bk6.cell 4 (.int .u64 q4) rfl
        have m5 := bk6'.cell 5 (.slice aB nB cB) rfl
        have n5 := bk6.cell 5 (.slice eB mB fB) rfl
        have m6 := bk6'.cell 6 (.int .u32 q6) rfl
        have n6 := bk6.cell 6 (.int .u32 q6) rfl
        have m7 := bk6'.cell 7 (.int .u32 q7) rfl
        have n7 := bk6.cell 7 (.int .u32 q7) rfl
        have m8 := bk6'.cell 8 (.slice aD nD cD) rfl
        have n8 := bk6.cell 8 (.slice eD mD fD) rfl
        clear hbel hC hne k0 k1 k2 k3 k4 k5 k6 k7 k8 l0 l1 l2 l3 l4 l5 l6 l7 l8 d0 d1 d2 d3 d4 d5 d6 d7 d8 e0 e1 e2 e3 e4 e5 e6 e7 e8 b5 b6 bk5 bk6 bk6' bk7 o5 o6
        have v1 : (convert 30 9 (.slice aB nB cB)).run Tryz.prog w6 = .ok (.string (strOfNums (i8 q5))) w6 := run_str Tryz.underlying30 Tryz.underlying5 Tryz.underlying9 (by rw [Y1'.out.len]; simp [i8]) w6 Y1'.out.ints
        have v2 : (convert 30 9 (.slice aD nD cD)).run Tryz.prog w6 = .ok (.string (strOfNums (i8 q8))) w6 := run_str Tryz.underlying30 Tryz.underlying5 Tryz.underlying9 (by rw [Z1'.out.len]; simp [i8]) w6 Z1'.out.ints
        have v3 : (convert 30 9 (.slice eB mB fB)).run Tryz.prog w6 = .ok (.string (strOfNums (i8 q5))) w6 := run_str Tryz.underlying30 Tryz.underlying5 Tryz.underlying9 (by rw [Y2'.out.len]; simp [i8]) w6 Y2'.out.ints
        have v4 : (convert 30 9 (.slice eD mD fD)).run Tryz.prog w6 = .ok (.string (strOfNums (i8 q8))) w6 := run_str Tryz.underlying30 Tryz.underlying5 Tryz.underlying9 (by rw [Z2'.out.len]; simp [i8]) w6 Z2'.out.ints
        generalize strOfNums (i8 q5) = sB at *
        generalize strOfNums (i8 q8) = sD at *
        go_wp2_with (fail)
        exact ⟨⟨k + 1, by go_num, rfl, by omega, Lib.hid (below_on bw.out BB.out bw.out.size)⟩, by simp [intOf]; omega⟩
      · go_wp2_with (fail)
        refine ⟨hbel _ ((Below.refl _ _).alloc (Nat.le_refl _) _), ?_⟩
        refine rg_act 8 ?_
        go_wp2_with (fail)
        refine ⟨hbel _ (((Below.refl _ _).alloc (Nat.le_refl _) _).alloc (by simp) _), ?_⟩
        refine rg_act 10 ?_
        go_wp2_with (with_reducible refine stop_storem ?_)
        refine wpList_storem rfl rfl (cs := mvCs ⟨q0, q1, q2, q3, q4, q5, q6, q7, q8⟩ (.slice aB nB cB) (.slice aD nD cD)) rfl rfl (mvCs_one _ _ _ _ _ _ _) rfl rfl (blk_at (by simp)) move_size ?_
        intro w5 bk5 o5
        have b5 : Below wr.drew.heap.size wr.drew w5 := by
          refine Below.trans ?_ (below_of_only o5 (by simp <;> omega) (by rintro k hk rfl; simp at hk <;> omega))
          repeat first | exact Below.refl _ _ | exact ⟨rfl, rfl, rfl, Nat.le_refl _, fun _ _ => rfl⟩ | apply Below.drew | refine Below.alloc ?_ (by simp) _
        have bk7 := o5.blk ((Blk.new _ _ 35).alloc _) (by simp)
        go_wp2_with (fail)
        refine ⟨hbel _ b5, ?_⟩
        refine rg_cut 11 ?_
        go_wp2_with (with_reducible refine stop_storem ?_)
        refine wpList_storem rfl rfl (cs := mvCs ⟨q0, q1, q2, q3, q4, q5, q6, q7, q8⟩ (.slice eB mB fB) (.slice eD mD fD)) rfl rfl (mvCs_one _ _ _ _ _ _ _) rfl rfl bk7 move_size ?_
        intro w6 bk6 o6
        have b6 : Below wr.drew.heap.size wr.drew w6 := Below.trans b5 (below_of_only o6 b5.size (by rintro k hk rfl; simp at hk <;> omega))
        have bk6' := o6.blk bk5 (by simp)
        have BB := Lib.hid (show Below wr.heap.size wr w6 from ((Below.refl _ _).drew).trans b6)
        have Y1' := Lib.hid (Y1.out.below BB.out)
        have Z1' := Lib.hid (Z1.out.below BB.out)
        have Y2' := Lib.hid (Y2.out.below BB.out)
        have Z2' := Lib.hid (Z2.out.below BB.out)
        go_wp2_with (fail)
        refine rg_end0 ?_
        have m0 := bk6'.cell 0 (.int .u8 q0) rfl
        have n0 := bk6.cell 0 (.int .u8 q0) rfl
        have m1 := bk6'.cell 1 (.int .u8 q1) rfl
        have n1 := bk6.cell 1 (.int .u8 q1) rfl
        have m2 := bk6'.cell 2 (.int .i64 q2) rfl
        have n2 := bk6.cell 2 (.int .i64 q2) rfl
        have m3 := bk6'.cell 3 (.int .u64 q3) rfl
        have n3 := bk6.cell 3 (.int .u64 q3) rfl
        have m4 := bk6'.cell 4 (.int .u64 q4) rfl
        have n4 := bk6.cell 4 (.int .u64 q4) rfl
        have m5 := bk6'.cell 5 (.slice aB nB cB) rfl
        have n5 := bk6.cell 5 (.slice eB mB fB) rfl
        have m6 := bk6'.cell 6 (.int .u32 q6) rfl
        have n6 := bk6.cell 6 (.int .u32 q6) rfl
        have m7 := bk6'.cell 7 (.int .u32 q7) rfl
        have n7 := bk6.cell 7 (.int .u32 q7) rfl
        have m8 := bk6'.cell 8 (.slice aD nD cD) rfl
        have n8 := bk6.cell 8 (.slice eD mD fD) rfl
        clear hbel hC hne k0 k1 k2 k3 k4 k5 k6 k7 k8 l0 l1 l2 l3 l4 l5 l6 l7 l8 d0 d1 d2 d3 d4 d5 d6 d7 d8 e0 e1 e2 e3 e4 e5 e6 e7 e8 b5 b6 bk5 bk6 bk6' bk7 o5 o6
        have v1 : (convert 30 9 (.slice aB nB cB)).run Tryz.prog w6 = .ok (.string (strOfNums (i8 q5))) w6 := run_str Tryz.underlying30 Tryz.underlying5 Tryz.underlying9 (by rw [Y1'.out.len]; simp [i8]) w6 Y1'.out.ints
        have v2 : (convert 30 9 (.slice aD nD cD)).run Tryz.prog w6 = .ok (.string (strOfNums (i8 q8))) w6 := run_str Tryz.underlying30 Tryz.underlying5 Tryz.underlying9 (by rw [Z1'.out.len]; simp [i8]) w6 Z1'.out.ints
        have v3 : (convert 30 9 (.slice eB mB fB)).run Tryz.prog w6 = .ok (.string (strOfNums (i8 q5))) w6 := run_str Tryz.underlying30 Tryz.underlying5 Tryz.underlying9 (by rw [Y2'.out.len]; simp [i8]) w6 Y2'.out.ints
        have v4 : (convert 30 9 (.slice eD mD fD)).run Tryz.prog w6 = .ok (.string (strOfNums (i8 q8))) w6 := run_str Tryz.underlying30 Tryz.underlying5 Tryz.underlying9 (by rw [Z2'.out.len]; simp [i8]) w6 Z2'.out.ints
        generalize strOfNums (i8 q5) = sB at *
        generalize strOfNums (i8 q8) = sD at *
        go_wp2_with (fail)
        exact ⟨⟨k + 1, by go_num, rfl, by omega, Lib.hid (below_on bw.out BB.out bw.out.size)⟩, by simp [intOf]; omega⟩
    · obtain rfl : k = n := by omega
      go_wp2_with (fail)
      go_returns
      exact ⟨rfl, bw.out⟩
end Go.Proofs.YthangjgdjhhfgaaGreatDoor
