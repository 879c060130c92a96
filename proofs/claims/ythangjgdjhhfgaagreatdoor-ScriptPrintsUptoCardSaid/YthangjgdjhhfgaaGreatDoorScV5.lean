/- The law's known. -/
import Derived.Test.YthangjgdjhhfgaaGreatDoorScW8
import Derived.Great.BuildSlice
import Derived.Lib.SlBytesConst
import Derived.Lib.SmallJoins
namespace Go.Proofs.YthangjgdjhhfgaaGreatDoor
open Go.RowKit
set_option linter.unusedVariables false
section
variable {ops : Array Oper} {rest : List Oper} {o : Oper} {a : Act} {w : World} {Q : Exit → Act → World → Prop}
theorem stop_bsm {P : Program} {d : Option Tmp} {n : Nat} {x : Array (Nat × Operand)} {ty : TypeId} {pos : String} {aft : Array Edge} {g : Option (Nat × Bool)}
    (h : Stop (wpList P ops Q (⟨d, .buildSlice 22 n x, ty, pos, aft, g⟩ :: rest) a w)) : wpList P ops Q (⟨d, .buildSlice 22 n x, ty, pos, aft, g⟩ :: rest) a w := h
theorem fill_two (zs cs ds : Array Value) (h : zs.size = 18) (h2 : cs.size = 9) (h3 : ds.size = 9) : Instr.fill (fun i => some (i * 9, 9)) zs [(0, .agg cs), (1, .agg ds)] = some (cs.toList ++ ds.toList).toArray := by
  have := Great.fill_whole (s := 9) (by omega) [.agg cs, .agg ds] zs (fun v hv => by
    rcases List.mem_cons.1 hv with rfl | hv
    · exact h2
    · rw [List.mem_singleton] at hv; subst hv; exact h3) (by rw [h]; rfl)
  rw [List.flatMap_cons, List.flatMap_cons, List.flatMap_nil, List.append_nil] at this
  exact this
theorem wpList_bs2 (hgd : Region.wanted o (yielded ops a.tmps) = true) {x y : Operand} (ho : o.op = .buildSlice 22 2 #[(0, x), (1, y)]) {cs ds : Array Value} (hx : a.eval x = .agg cs) (hy : a.eval y = .agg ds) (h9 : cs.size = 9) (h9' : ds.size = 9)
    (hz : ((Tryz.prog.info? 35).bind (·.zero)).isSome = true)
    (h : wpList Tryz.prog ops Q rest (a.put o.dst (.slice (some ⟨w.heap.size, 0, none⟩) 2 2)) (w.alloc (.cells (cs.toList ++ ds.toList).toArray 35))) : wpList Tryz.prog ops Q (o :: rest) a w := by
  have hs := move_size
  cases hie : Tryz.prog.info? 35 with
  | none => rw [hie] at hs; cases hs
  | some ie =>
    rw [hie] at hs hz
    simp only [Option.map_some, Option.some.injEq, Option.bind_some] at hs hz
    cases hzz : ie.zero with
    | none => rw [hzz] at hz; cases hz
    | some z =>
      refine BigFrame.wpList_want hgd fun K hK => ?_
      refine wp_buildSlice 22 35 2 _ ho _ ie z (by kernel_rfl) hie hzz (by omega) (by omega) ?_ (hK _ _ h)
      rw [hs]
      have hl : ((#[((0 : Nat), x), (1, y)] : Array (Nat × Operand)).map fun (i, x) => (i, a.eval x)).toList = [((0 : Nat), Value.agg cs), (1, Value.agg ds)] := by simp [hx, hy]
      rw [hl]
      exact fill_two _ _ _ (by simp) h9 h9'
end
def k1T : List UInt8 := [119, 114, 105, 116, 101, 32, 49, 32, 52, 32, 54, 56, 54, 57, 32, 35, 32, 120, 10, 116, 105, 99, 107, 32, 53]
def k2T : List UInt8 := [116, 111, 114, 110, 32, 45, 49, 10, 105, 110, 106, 101, 99, 116, 32, 49, 32, 49, 48, 48, 32, 45]
def k1L : List Mv := [⟨3, 1, 0, 4, 0, [104, 105], 0, 0, []⟩, ⟨16, 0, 5, 0, 0, [], 0, 0, []⟩]
def k2L : List Mv := [⟨25, 0, -1, 0, 0, [], 0, 0, []⟩, ⟨15, 0, 0, 0, 0, [], 1, 100, []⟩]
set_option maxRecDepth 100000 in
theorem k1_parse : parseS k1T = (k1L, 0, 0) := by rfl
set_option maxRecDepth 100000 in
theorem k2_parse : parseS k2T = (k2L, 0, 0) := by rfl
set_option maxRecDepth 100000 in
theorem e0_parse : parseS [104, 111, 112] = ([], 1, 2) := by rfl
set_option maxRecDepth 100000 in
theorem e1_parse : parseS [100, 105, 97, 108, 32, 49] = ([], 1, 2) := by rfl
set_option maxRecDepth 100000 in
theorem e2_parse : parseS [115, 101, 110, 100] = ([], 1, 2) := by rfl
set_option maxRecDepth 100000 in
theorem e3_parse : parseS [115, 101, 110, 100, 32, 50, 53, 54] = ([], 1, 5) := by rfl
set_option maxRecDepth 100000 in
theorem e4_parse : parseS [119, 114, 105, 116, 101, 32, 48, 32, 48, 32, 54] = ([], 1, 5) := by rfl
set_option maxRecDepth 100000 in
theorem e5_parse : parseS [116, 111, 114, 110, 32, 45, 48] = ([], 1, 5) := by rfl
set_option maxRecDepth 100000 in
set_option maxHeartbeats 8000000 in
theorem reads_any (s : List UInt8) (L : List Mv) (b : Option Addr) (m c : Nat) (w : World) (hs : s.length ≤ 1000) (hp : parseS s = (L, 0, 0)) (hm : m = L.length) (h : MsR w b L) (hl : L.length ≤ 1000000) (hV : Vars w) :
    Calls Tryz.prog 10 #[.string (tx s), .slice b m c] w fun x w' => x = .returned (.bool true) ∧ Below w.heap.size w w' := by
  have HP := Lib.hid (parse_any s w (by omega) hV)
  rw [hp] at HP
  have HM := Lib.hid hm
  have H := Lib.hid h
  have HL := Lib.hid hl
  clear hs hp hm h hl hV
  go_enter Tryz.func10, Tryz.ntmps10
  go_wp2_with (fail)
  refine HP.out.mono ?_
  rintro e w1 ⟨a, n, cap, rfl, hms, hb1⟩
  have HMS := Lib.hid hms
  have HB1 := Lib.hid hb1
  have HW := Lib.hid (H.out.below hb1)
  clear hms hb1
  go_wp2_with (fail)
  refine (same32_any a n cap b m c L w1 HMS.out.len HM.out HMS.out.msr HW.out HL.out).mono ?_
  rintro e w2 ⟨rfl, hb2⟩
  have HB2 := Lib.hid (below_on HB1.out hb2 HB1.out.size)
  clear hb2
  go_wp2_with (fail)
  go_returns
  exact ⟨rfl, HB2.out⟩
theorem msr_two (w : World) (g : Nat) (T : TypeId) (m1 m2 : Mv) (a1 a2 a3 a4 : Option Addr) (n1 c1 n2 c2 n3 c3 n4 c4 : Nat)
    (hb : Blk w g ((mvCs m1 (.slice a1 n1 c1) (.slice a2 n2 c2)).toList ++ (mvCs m2 (.slice a3 n3 c3) (.slice a4 n4 c4)).toList).toArray T)
    (h1 : BR w a1 n1 m1.b) (h2 : BR w a2 n2 m1.d) (h3 : BR w a3 n3 m2.b) (h4 : BR w a4 n4 m2.d) : MsR w (some ⟨g, 0, none⟩) [m1, m2] := by
  intro i hi
  match i, hi with
  | 0, _ =>
    refine ⟨g, 0, a1, n1, c1, a2, n2, c2, rfl, hb.lt, fun j v hj => ?_, h1, h2⟩
    have hj9 : j < 9 := by
      by_cases h9 : j < 9
      · exact h9
      · rw [Array.getElem?_eq_none (by simp only [mvCs, List.size_toArray, List.length_cons, List.length_nil]; omega)] at hj; cases hj
    refine hb.cell _ v ?_
    simp only [List.getElem?_toArray]
    rw [List.getElem?_append_left (by simp only [mvCs, List.length_cons, List.length_nil]; omega)]
    simpa using hj
  | 1, _ =>
    refine ⟨g, 0, a3, n3, c3, a4, n4, c4, rfl, hb.lt, fun j v hj => ?_, h3, h4⟩
    refine hb.cell _ v ?_
    simp only [List.getElem?_toArray]
    rw [List.getElem?_append_right (by simp only [mvCs, List.length_cons, List.length_nil]; omega)]
    simp only [mvCs, List.length_cons, List.length_nil] at hj ⊢
    rw [← hj]
    simp
  | i + 2, hi => exact absurd hi (by simp)
theorem BR.none (w : World) : BR w none 0 [] := ⟨fun i hi => by simp [i8] at hi, rfl⟩
theorem br_hi (w : World) : BR (w.alloc (.cells #[.int .u8 104, .int .u8 105] 5 (2, 3))) (some ⟨w.heap.size, 0, none⟩) 2 [104, 105] := by
  refine ⟨fun i hi => ⟨w.heap.size, 0, rfl, by simp, ?_, ?_⟩, rfl⟩
  · rw [World.cell?_alloc_mark]
    match i, hi with
    | 0, _ => rfl
    | 1, _ => rfl
    | i + 2, hi => exact absurd hi (by simp [i8])
  · exact i8_wf [104, 105] _ (by
      match i, hi with
      | 0, _ => simp [i8]
      | 1, _ => simp [i8]
      | i + 2, hi => exact absurd hi (by simp [i8]))
def e6 : List (List UInt8) := [[104, 111, 112], [100, 105, 97, 108, 32, 49], [115, 101, 110, 100], [115, 101, 110, 100, 32, 50, 53, 54], [119, 114, 105, 116, 101, 32, 48, 32, 48, 32, 54], [116, 111, 114, 110, 32, 45, 48]]
theorem e6_all (k : Nat) (hk : k < 6) : ∃ t er, (strCs e6)[k]? = some (.string (tx t)) ∧ parseS t = ([], 1, er) ∧ t.length ≤ 1000 ∧ ((2 < k → er = 5) ∧ (¬ 2 < k → er = 2)) := by
  match k, hk with
  | 0, _ => exact ⟨[104, 111, 112], 2, rfl, e0_parse, by decide, by decide, by decide⟩
  | 1, _ => exact ⟨[100, 105, 97, 108, 32, 49], 2, rfl, e1_parse, by decide, by decide, by decide⟩
  | 2, _ => exact ⟨[115, 101, 110, 100], 2, rfl, e2_parse, by decide, by decide, by decide⟩
  | 3, _ => exact ⟨[115, 101, 110, 100, 32, 50, 53, 54], 5, rfl, e3_parse, by decide, by decide, by decide⟩
  | 4, _ => exact ⟨[119, 114, 105, 116, 101, 32, 48, 32, 48, 32, 54], 5, rfl, e4_parse, by decide, by decide, by decide⟩
  | 5, _ => exact ⟨[116, 111, 114, 110, 32, 45, 48], 5, rfl, e5_parse, by decide, by decide, by decide⟩
  | k + 6, hk => exact absurd hk (by omega)
set_option maxRecDepth 100000 in
set_option maxHeartbeats 8000000 in
theorem known_any (w : World) (hV : Vars w) :
    Calls Tryz.prog 4 #[] w fun x w' => x = .returned (.bool true) ∧ Below w.heap.size w w' := by
  have HV := Lib.hid hV
  clear hV
  have hcv : (convert 30 30 (.slice (some ⟨w.heap.size, 0, none⟩) 2 2)).run Tryz.prog (w.alloc (.cells #[.int .u8 104, .int .u8 105] 5)) = .ok (.slice (some ⟨w.heap.size, 0, none⟩) 2 2) (w.alloc (.cells #[.int .u8 104, .int .u8 105] 5 (2, 3))) := Lib.run_convert_bytes_const (P := Tryz.prog) w 30 5 #[.int .u8 104, .int .u8 105] 2 2 Tryz.underlying30 Tryz.underlying5
  go_enter Tryz.func4, Tryz.ntmps4
  go_wp2_with (with_reducible refine stop_bsm ?_)
  refine wpList_bs2 rfl rfl (cs := mvCs ⟨3, 1, 0, 4, 0, [104, 105], 0, 0, []⟩ (.slice (some ⟨w.heap.size, 0, none⟩) 2 2) (.slice none 0 0)) (ds := mvCs ⟨16, 0, 5, 0, 0, [], 0, 0, []⟩ (.slice none 0 0) (.slice none 0 0)) rfl rfl rfl rfl (by kernel_rfl) ?_
  have hbr := br_hi w
  have hb1 : Below w.heap.size w (w.alloc (.cells #[.int .u8 104, .int .u8 105] 5 (2, 3))) := (Below.refl _ _).alloc (Nat.le_refl _) _
  obtain ⟨w1, hw1⟩ : ∃ w1, w.alloc (.cells #[.int .u8 104, .int .u8 105] 5 (2, 3)) = w1 := ⟨_, rfl⟩
  rw [hw1] at hbr hb1 ⊢
  clear hcv hw1
  have hb2 : Below w1.heap.size w1 (w1.alloc (.cells ((mvCs ⟨3, 1, 0, 4, 0, [104, 105], 0, 0, []⟩ (.slice (some ⟨w.heap.size, 0, none⟩) 2 2) (.slice none 0 0)).toList ++ (mvCs ⟨16, 0, 5, 0, 0, [], 0, 0, []⟩ (.slice none 0 0) (.slice none 0 0)).toList).toArray 35)) := (Below.refl _ _).alloc (Nat.le_refl _) _
  have hbk := Blk.new w1 ((mvCs ⟨3, 1, 0, 4, 0, [104, 105], 0, 0, []⟩ (.slice (some ⟨w.heap.size, 0, none⟩) 2 2) (.slice none 0 0)).toList ++ (mvCs ⟨16, 0, 5, 0, 0, [], 0, 0, []⟩ (.slice none 0 0) (.slice none 0 0)).toList).toArray 35
  obtain ⟨w2, hw2⟩ : ∃ w2, (w1.alloc (.cells ((mvCs ⟨3, 1, 0, 4, 0, [104, 105], 0, 0, []⟩ (.slice (some ⟨w.heap.size, 0, none⟩) 2 2) (.slice none 0 0)).toList ++ (mvCs ⟨16, 0, 5, 0, 0, [], 0, 0, []⟩ (.slice none 0 0) (.slice none 0 0)).toList).toArray 35)) = w2 := ⟨_, rfl⟩
  rw [hw2] at hb2 hbk ⊢
  have hms := msr_two w2 w1.heap.size _ ⟨3, 1, 0, 4, 0, [104, 105], 0, 0, []⟩ ⟨16, 0, 5, 0, 0, [], 0, 0, []⟩ _ _ _ _ _ _ _ _ _ _ _ _ hbk (hbr.below hb2) (BR.none w2) (BR.none w2) (BR.none w2)
  have B2 := Lib.hid (below_on hb1 hb2 hb1.size)
  have HMS := Lib.hid hms
  have HV2 := Lib.hid (HV.out.below B2.out)
  clear hw2 hbr hb1 hb2 hbk hms
  go_wp2_with (fail)
  refine (reads_any k1T k1L _ 2 2 w2 (by decide) k1_parse rfl HMS.out (by decide) HV2.out).mono ?_
  rintro x w3 ⟨rfl, hb3⟩
  have B3 := Lib.hid (below_on B2.out hb3 B2.out.size)
  clear hb3
  go_wp2_with (with_reducible refine stop_bsm ?_)
  refine wpList_bs2 rfl rfl (cs := mvCs ⟨25, 0, -1, 0, 0, [], 0, 0, []⟩ (.slice none 0 0) (.slice none 0 0)) (ds := mvCs ⟨15, 0, 0, 0, 0, [], 1, 100, []⟩ (.slice none 0 0) (.slice none 0 0)) rfl rfl rfl rfl (by kernel_rfl) ?_
  have hb4 : Below w3.heap.size w3 (w3.alloc (.cells ((mvCs ⟨25, 0, -1, 0, 0, [], 0, 0, []⟩ (.slice none 0 0) (.slice none 0 0)).toList ++ (mvCs ⟨15, 0, 0, 0, 0, [], 1, 100, []⟩ (.slice none 0 0) (.slice none 0 0)).toList).toArray 35)) := (Below.refl _ _).alloc (Nat.le_refl _) _
  have hbk := Blk.new w3 ((mvCs ⟨25, 0, -1, 0, 0, [], 0, 0, []⟩ (.slice none 0 0) (.slice none 0 0)).toList ++ (mvCs ⟨15, 0, 0, 0, 0, [], 1, 100, []⟩ (.slice none 0 0) (.slice none 0 0)).toList).toArray 35
  obtain ⟨w4, hw4⟩ : ∃ w4, (w3.alloc (.cells ((mvCs ⟨25, 0, -1, 0, 0, [], 0, 0, []⟩ (.slice none 0 0) (.slice none 0 0)).toList ++ (mvCs ⟨15, 0, 0, 0, 0, [], 1, 100, []⟩ (.slice none 0 0) (.slice none 0 0)).toList).toArray 35)) = w4 := ⟨_, rfl⟩
  rw [hw4] at hb4 hbk ⊢
  have hms := msr_two w4 w3.heap.size _ ⟨25, 0, -1, 0, 0, [], 0, 0, []⟩ ⟨15, 0, 0, 0, 0, [], 1, 100, []⟩ _ _ _ _ _ _ _ _ _ _ _ _ hbk (BR.none w4) (BR.none w4) (BR.none w4) (BR.none w4)
  have B4 := Lib.hid (below_on B3.out hb4 B3.out.size)
  have HMS4 := Lib.hid hms
  have HV4 := Lib.hid (HV.out.below B4.out)
  clear hw4 hb4 hbk hms
  go_wp2_with (fail)
  refine (reads_any k2T k2L _ 2 2 w4 (by decide) k2_parse rfl HMS4.out (by decide) HV4.out).mono ?_
  rintro x w5 ⟨rfl, hb5⟩
  have B5 := Lib.hid (below_on B4.out hb5 B4.out.size)
  clear hb5
  go_wp2_with (fail)
  have HB6 := Lib.hid (show Blk (w5.alloc (.cells (strCs e6) 9)) w5.heap.size (strCs e6) 9 from Blk.new w5 _ _)
  have B6 := Lib.hid (show Below w.heap.size w (w5.alloc (.cells (strCs e6) 9)) from B5.out.alloc B5.out.size _)
  obtain ⟨w6, hw6⟩ : ∃ w6, w5.alloc (.cells #[.string ⟨#[104, 111, 112]⟩, .string ⟨#[100, 105, 97, 108, 32, 49]⟩, .string ⟨#[115, 101, 110, 100]⟩, .string ⟨#[115, 101, 110, 100, 32, 50, 53, 54]⟩, .string ⟨#[119, 114, 105, 116, 101, 32, 48, 32, 48, 32, 54]⟩, .string ⟨#[116, 111, 114, 110, 32, 45, 48]⟩] 9) = w6 := ⟨_, rfl⟩
  rw [show w5.alloc (.cells (strCs e6) 9) = w6 from hw6] at HB6 B6
  rw [hw6]
  clear hw6
  go_loopw [1, 2, 3, 4, 5, 6, 24] (fun _ _ _ _ _ _ i wr => ∃ k : Nat, i = .int .i64 k ∧ k ≤ 6 ∧ Hid (Below w6.heap.size w6 wr)) (fun _ _ _ _ _ _ i _ => 6 - (intOf i).toNat)
  case atStart => exact ⟨0, rfl, by omega, Lib.hid (Below.refl _ _)⟩
  case round =>
    obtain ⟨k, rfl, hk, bw⟩ := hrel
    by_cases hlt : k < 6
    · have hki : (k : Int) < 6 := by omega
      obtain ⟨t, er, ht, hpt, htl, h2, h3⟩ := e6_all k hlt
      have hcell := (HB6.out.below bw.out).cell k _ ht
      have hblt := (HB6.out.below bw.out).lt
      have BW := Lib.hid (below_on B6.out bw.out B6.out.size)
      have HP := Lib.hid (parse_any t wr (by omega) (HV.out.below BW.out))
      rw [hpt] at HP
      clear ht hpt htl
      by_cases hk2 : 2 < k
      · have hk2i : (2 : Int) < (k : Int) := by omega
        have := h2 hk2
        subst this
        clear h2 h3
        go_wp2_with (fail)
        refine HP.out.mono ?_
        rintro x w7 ⟨a, n, cap, rfl, hms, hb7⟩
        obtain rfl : n = 0 := hms.len
        have B7 := Lib.hid (below_on bw.out hb7 bw.out.size)
        clear hms hb7
        go_wp2_with (fail)
        exact ⟨⟨k + 1, by go_num, by omega, B7⟩, by simp [intOf]; omega⟩
      · have hk2i : ¬ (2 : Int) < (k : Int) := by omega
        have := h3 hk2
        subst this
        clear h2 h3
        go_wp2_with (fail)
        refine HP.out.mono ?_
        rintro x w7 ⟨a, n, cap, rfl, hms, hb7⟩
        obtain rfl : n = 0 := hms.len
        have B7 := Lib.hid (below_on bw.out hb7 bw.out.size)
        clear hms hb7
        go_wp2_with (fail)
        exact ⟨⟨k + 1, by go_num, by omega, B7⟩, by simp [intOf]; omega⟩
    · obtain rfl : k = 6 := by omega
      go_wp2_with (fail)
      go_returns
      exact ⟨rfl, below_on B6.out bw.out B6.out.size⟩
end Go.Proofs.YthangjgdjhhfgaaGreatDoor
