/- ScriptBack: the law, walked (written by gen_scl8.py). -/
import Derived.Test.YthangjgdjhhfgaaDoorScL3
import Derived.Test.YthangjgdjhhfgaaDoorScL7
import Derived.Test.YthangjgdjhhfgaaDoorScV5
import Derived.Test.YthangjgdjhhfgaaDoorScHd2
namespace Go.Proofs.YthangjgdjhhfgaaDoor
open Go.RowKit
set_option linter.unusedVariables false
theorem parseLs_few : ∀ (ls : List (List UInt8)) (k : Nat) (L : List Mv), L.length ≤ 2000 → (parseLs k ls L).1.length ≤ 2000
  | [], k, L, h => h
  | t :: r, k, L, h => by
    rw [parseLs]
    split
    · exact parseLs_few r _ L h
    · split
      · simp
      · split
        · simp
        · exact parseLs_few r _ _ (by simp; omega)
theorem msr_one (w : World) (g : Nat) (T : TypeId) (m : Mv) (a1 a2 : Option Addr) (n1 c1 n2 c2 : Nat) (hb : Blk w g (mvCs m (.slice a1 n1 c1) (.slice a2 n2 c2)) T) (h1 : BR w a1 n1 m.b) (h2 : BR w a2 n2 m.d) : MsR w (some ⟨g, 0, none⟩) [m] := by
  intro i hi
  match i, hi with
  | 0, _ => exact ⟨g, 0, a1, n1, c1, a2, n2, c2, rfl, hb.lt, fun j v hj => by rw [show 0 + 0 * 9 + j = j by omega]; exact hb.cell j v hj, h1, h2⟩
  | i + 1, hi => exact absurd hi (by simp)
theorem MEnc.small {w : World} {base : Nat} {L : List Mv} {xs : List Value} (h : MEnc w base L xs) : ∀ m ∈ L, m.b.length ≤ 4000000 ∧ m.d.length ≤ 4000000 := by
  induction h with
  | nil => simp
  | cons m L xs aB nB cB aD nD cD h1 h2 h ih =>
    intro x hx
    rcases List.mem_cons.1 hx with rfl | hx
    · exact ⟨Nat.le_trans h1.small (by decide), Nat.le_trans h2.small (by decide)⟩
    · exact ih x hx
section
variable {ops : Array Oper} {rest : List Oper} {o : Oper} {a : Act} {w : World} {Q : Exit → Act → World → Prop}
theorem stop_bsg {P : Program} {d : Option Tmp} {t : TypeId} {n : Nat} {x : Array (Nat × Operand)} {ty : TypeId} {pos : String} {aft : Array Edge} {g : Option (Nat × Bool)}
    (h : Stop (wpList P ops Q (⟨d, .buildSlice t n x, ty, pos, aft, g⟩ :: rest) a w)) : wpList P ops Q (⟨d, .buildSlice t n x, ty, pos, aft, g⟩ :: rest) a w := h
theorem wpList_bs1g (hgd : Region.wanted o (yielded ops a.tmps) = true) {x : Operand} (ho : o.op = .buildSlice 23 1 #[(0, x)]) {cs : Array Value} (hx : a.eval x = .agg cs) (h9 : cs.size = 9)
    (hz : ((Tryd.prog.info? 42).bind (·.zero)).isSome = true)
    (h : wpList Tryd.prog ops Q rest (a.put o.dst (.slice (some ⟨w.heap.size, 0, none⟩) 1 1)) (w.alloc (.cells cs 42))) : wpList Tryd.prog ops Q (o :: rest) a w := by
  have hs := move_size
  cases hie : Tryd.prog.info? 42 with
  | none => rw [hie] at hs; cases hs
  | some ie =>
    rw [hie] at hs hz
    simp only [Option.map_some, Option.some.injEq, Option.bind_some] at hs hz
    cases hzz : ie.zero with
    | none => rw [hzz] at hz; cases hz
    | some z =>
      refine BigFrame.wpList_want hgd fun K hK => ?_
      refine wp_buildSlice 23 42 1 _ ho _ ie z (by kernel_rfl) hie hzz (by omega) (by omega) ?_ (hK _ _ h)
      rw [hs]
      have hl : ((#[((0 : Nat), x)] : Array (Nat × Operand)).map fun (i, x) => (i, a.eval x)).toList = [((0 : Nat), Value.agg cs)] := by simp [hx]
      rw [hl]
      exact fill_nine _ _ (by simp) h9
end
/-- The call's own premises, in one place. -/
structure BkIn (w : World) (a : Option Addr) (L : List Mv) (s : List UInt8) : Prop where
  ms : MsR w a L
  ok : ∀ m ∈ L, MvOk m ∧ m.b.length ≤ 4000000 ∧ m.d.length ≤ 4000000
  len : L.length ≤ 1000
  text : s.length ≤ 20000
  vars : Vars w
theorem BkIn.below {w w' : World} {a : Option Addr} {L : List Mv} {s : List UInt8} (h : BkIn w a L s) (hb : Below w.heap.size w w') : BkIn w' a L s := ⟨h.ms.below hb, h.ok, h.len, h.text, h.vars.below hb⟩
set_option maxRecDepth 100000 in
set_option maxHeartbeats 32000000 in
theorem back_law (a : Option Addr) (n cap : Nat) (L : List Mv) (s : List UInt8) (w : World) (hn : n = L.length) (h : MsR w a L) (hok : ∀ m ∈ L, MvOk m ∧ m.b.length ≤ 140737488355328 ∧ m.d.length ≤ 140737488355328) (hl : n ≤ 140737488355328) (hs : s.length ≤ maxLen) (hV : Vars w) :
    Calls Tryd.prog 5 #[.slice a n cap, .string (tx s)] w fun x w' => x = .returned (.bool true) ∧ Below w.heap.size w w' := by
  obtain ⟨sl, hsl⟩ : ∃ sl, s.length = sl := ⟨_, rfl⟩
  have hsz : (tx s).size = sl := by rw [tx_size, hsl]
  rw [hsl] at hs
  simp only [maxLen] at hs
  have HSL := Lib.hid hsl
  have HN := Lib.hid hn
  have H := Lib.hid h
  have HOK := Lib.hid hok
  have HV := Lib.hid hV
  clear hsl hn h hok hV
  go_enter Tryd.func5, Tryd.ntmps5
  go_wp2_with (fail)
  refine (known_any w HV.out).mono ?_
  rintro x w1 ⟨rfl, b1⟩
  have B1 := Lib.hid b1
  clear b1
  go_wp2_with (fail)
  refine (great_any a n cap L w1 HN.out (H.out.below B1.out) (fun m hm => by have := HOK.out m hm; omega) (by omega)).mono ?_
  rintro x w2 ⟨rfl, b2⟩
  have B2 := Lib.hid (below_on B1.out b2 B1.out.size)
  clear b2
  by_cases hg : greatN L 0 > 1000
  · rw [decide_eq_true hg]
    clear hg
    go_wp2_with (fail)
    go_returns
    exact ⟨rfl, B2.out⟩
  · rw [decide_eq_false hg]
    obtain ⟨hL, hM⟩ := greatN_small L 0 (by omega)
    by_cases hbig : sl > 20000
    · have hbi : (sl : Int) > 20000 := by omega
      clear hg hL hM
      go_wp2_with (fail)
      go_returns
      exact ⟨rfl, B2.out⟩
    · have hbi : ¬ (sl : Int) > 20000 := by omega
      have I0 : Hid (BkIn w a L s) := Lib.hid ⟨H.out, fun m hm => by
        have h1 := HOK.out m hm
        have h2 := hM m hm
        exact ⟨h1.1, by omega, by omega⟩, by omega, by rw [HSL.out]; omega, HV.out⟩
      have I2 := Lib.hid (I0.out.below B2.out)
      have HLN : Hid (n ≤ 1000) := Lib.hid (by have := HN.out; omega)
      clear hg hL hM
      have HPR := Lib.hid (print_any a n cap L w2 HN.out (fun _ => I2.out.ms) (fun _ => I2.out.ok) I2.out.vars (by omega))
      have HPP := Lib.hid (print_parse L (fun m hm => (I2.out.ok m hm).1))
      obtain ⟨R, hR⟩ : ∃ R, printS L = R := ⟨_, rfl⟩
      rw [hR] at HPR HPP
      clear hR
      obtain ⟨t, k, er⟩ := R
      go_wp2_with (fail)
      refine HPR.out.mono ?_
      rintro x w3 ⟨rfl, b3⟩
      have B3 := Lib.hid (below_on B2.out b3 B2.out.size)
      have I3 := Lib.hid (I2.out.below b3)
      clear b3
      by_cases her : er = 0
      · subst her
        have hpp := HPP.out rfl
        have HP1 := Lib.hid hpp.1
        have HP2 := Lib.hid hpp.2.1
        clear hpp
        go_wp2_with (fail)
        have HPA := Lib.hid (parse_any t w3 HP2.out I3.out.vars)
        rw [HP1.out] at HPA
        refine HPA.out.mono ?_
        rintro x w4 ⟨a4, n4, c4, rfl, hm4, b4⟩
        have M4 := Lib.hid hm4
        have B4 := Lib.hid (below_on B3.out b4 B3.out.size)
        have I4 := Lib.hid (I3.out.below b4)
        clear hm4 b4
        go_wp2_with (fail)
        refine (same32_any a4 n4 c4 a n cap L w4 M4.out.len HN.out M4.out.msr I4.out.ms (by have := I4.out.len; omega)).mono ?_
        rintro x w5 ⟨rfl, b5⟩
        have B5 := Lib.hid (below_on B4.out b5 B4.out.size)
        clear b5
        go_wp2_with (fail)
        go_loopw [12, 13, 14, 15, 16, 17, 63] (fun _ _ _ _ _ _ i wr => ∃ k : Nat, i = .int .i64 k ∧ k ≤ n ∧ Hid (Below w.heap.size w wr)) (fun _ _ _ _ _ _ i _ => n - (intOf i).toNat)
        case atStart => exact ⟨0, rfl, by omega, B5⟩
        case round =>
          obtain ⟨k, rfl, hk, bw⟩ := hrel
          have IR := Lib.hid (I0.out.below bw.out)
          by_cases hlt : k < n
          · have hki : (k : Int) < (n : Int) := by omega
            have hkL : k < L.length := by have := HN.out; omega
            obtain ⟨g1, o1, aB, nB, cB, aD, nD, cD, rfl, hg1, c1, y1, z1⟩ := IR.out.ms k hkL
            obtain ⟨mok, mb, md⟩ := IR.out.ok (L[k]) (List.getElem_mem _)
            generalize L[k] = q at *
            have HLV := Lib.hid (show (∀ s, lineO q = some s → lineV q = .tuple #[.string (tx s), .bool true]) ∧ (lineO q = none → lineV q = .tuple #[.string (tx []), .bool false]) from ⟨fun s hs => by unfold lineV; rw [hs], fun hs => by unfold lineV; rw [hs]⟩)
            have HAR := Lib.hid (fun s hs => around_parse q mok s hs)
            obtain ⟨q0, q1, q2, q3, q4, q5, q6, q7, q8⟩ := q
            have d0 : wr.cell? ⟨g1, o1 + k * 9, none⟩ = some (.int .u8 q0) := c1 0 _ rfl
            have d1 : wr.cell? ⟨g1, o1 + k * 9 + 1, none⟩ = some (.int .u8 q1) := c1 1 _ rfl
            have d2 : wr.cell? ⟨g1, o1 + k * 9 + 2, none⟩ = some (.int .i64 q2) := c1 2 _ rfl
            have d3 : wr.cell? ⟨g1, o1 + k * 9 + 3, none⟩ = some (.int .u64 q3) := c1 3 _ rfl
            have d4 : wr.cell? ⟨g1, o1 + k * 9 + 4, none⟩ = some (.int .u64 q4) := c1 4 _ rfl
            have d5 : wr.cell? ⟨g1, o1 + k * 9 + 5, none⟩ = some (.slice aB nB cB) := c1 5 _ rfl
            have d6 : wr.cell? ⟨g1, o1 + k * 9 + 6, none⟩ = some (.int .u32 q6) := c1 6 _ rfl
            have d7 : wr.cell? ⟨g1, o1 + k * 9 + 7, none⟩ = some (.int .u32 q7) := c1 7 _ rfl
            have d8 : wr.cell? ⟨g1, o1 + k * 9 + 8, none⟩ = some (.slice aD nD cD) := c1 8 _ rfl
            have Y1 := Lib.hid y1
            have Z1 := Lib.hid z1
            have MOK := Lib.hid mok
            have MB := Lib.hid mb
            have MD := Lib.hid md
            have hqk : decide (n ≤ k) = false := by simp; omega
            clear c1 y1 z1 mok mb md
            go_wp2_with (with_reducible refine stop_storem ?_)
            refine Stop.out ?_
            refine wpList_storem rfl rfl (cs := mvCs ⟨q0, q1, q2, q3, q4, q5, q6, q7, q8⟩ (.slice aB nB cB) (.slice aD nD cD)) rfl rfl (mvCs_one _ _ _ _ _ _ _) rfl rfl (Blk.new _ _ _) move_size ?_
            intro w6 bk6 o6
            have b6 : Below wr.heap.size wr w6 := Below.trans ((Below.refl _ _).alloc (Nat.le_refl _) _) (below_of_only o6 (by simp) (by rintro k hk rfl; simp at hk))
            have Y6 := Lib.hid (Y1.out.below b6)
            have Z6 := Lib.hid (Z1.out.below b6)
            have B6 := Lib.hid (below_on bw.out b6 bw.out.size)
            have K6 := Lib.hid bk6
            clear b6 bk6 o6 d0 d1 d2 d3 d4 d5 d6 d7 d8
            go_wp2_with (with_reducible refine stop_loadm ?_)
            refine Stop.out ?_
            refine wpList_loadAll Tryd.underlying42 move_size rfl rfl rfl K6.out rfl ?_
            go_wp2_with (fail)
            refine (line_any _ aB nB cB aD nD cD w6 Y6.out Z6.out MOK.out MB.out MD.out (HV.out.below B6.out)).mono ?_
            rintro e w7 ⟨rfl, b7⟩
            have B7 := Lib.hid (below_on B6.out b7 B6.out.size)
            have K7 := Lib.hid (K6.out.below b7)
            have Y7 := Lib.hid (Y6.out.below b7)
            have Z7 := Lib.hid (Z6.out.below b7)
            clear b7
            cases hln : lineO ⟨q0, q1, q2, q3, q4, q5, q6, q7, q8⟩ with
            | none =>
              rw [HLV.out.2 hln]
              clear hln
              go_wp2_with (fail)
              exact ⟨⟨k + 1, by go_num, by omega, B7⟩, by simp [intOf]; omega⟩
            | some ln =>
              rw [HLV.out.1 ln hln]
              have hap := HAR.out ln hln
              obtain ⟨lz, hlz⟩ : ∃ lz, ln.length = lz := ⟨_, rfl⟩
              have hlsz : (tx ln).size = lz := by rw [tx_size, hlz]
              by_cases hlb : lz > 20000
              · have hlbi : (lz : Int) > 20000 := by omega
                clear hln hap hlz
                go_wp2_with (fail)
                exact ⟨⟨k + 1, by go_num, by omega, B7⟩, by simp [intOf]; omega⟩
              · have hlbi : ¬ (lz : Int) > 20000 := by omega
                have s1 : ∀ W, (Op.stringOp .add (tx [35, 32, 120, 10, 32, 32, 32]) (tx ln)).run Tryd.prog W = .ok (.string (tx ([35, 32, 120, 10, 32, 32, 32] ++ ln))) W := fun W => run_add _ _ _ _ (by simp only [List.length_cons, List.length_nil]; omega)
                obtain ⟨l1, hl1⟩ : ∃ y, [35, 32, 120, 10, 32, 32, 32] ++ ln = y := ⟨_, rfl⟩
                rw [hl1] at s1
                have l1l : l1.length = lz + 7 := by rw [← hl1, List.length_append, hlz]; simp; omega
                have s2 : ∀ W, (Op.stringOp .add (tx l1) (tx [32, 32, 35, 32, 104, 111, 112, 10])).run Tryd.prog W = .ok (.string (tx (l1 ++ [32, 32, 35, 32, 104, 111, 112, 10]))) W := fun W => run_add _ _ _ _ (by simp only [List.length_cons, List.length_nil]; omega)
                have hA : l1 ++ [32, 32, 35, 32, 104, 111, 112, 10] = aroundS ln := by rw [← hl1]; rfl
                obtain ⟨l2, hl2⟩ : ∃ y, aroundS ln = y := ⟨_, rfl⟩
                rw [hA, hl2] at s2
                rw [hl2] at hap
                have l2l : l2.length ≤ 262144 := by rw [← hl2, ← hA, List.length_append, l1l]; simp; omega
                have HAP := Lib.hid hap
                have HL2 := Lib.hid l2l
                clear hln hap hlz hl1 hA hl2 l1l l2l
                go_wp2_with (fail)
                have HPA := Lib.hid (parse_any l2 w7 HL2.out (HV.out.below B7.out))
                rw [HAP.out] at HPA
                refine HPA.out.mono ?_
                rintro x w8 ⟨a8, n8, c8, rfl, hm8, b8⟩
                have M8 := Lib.hid hm8
                have B8 := Lib.hid (below_on B7.out b8 B7.out.size)
                have K8 := Lib.hid (K7.out.below b8)
                have Y8 := Lib.hid (Y7.out.below b8)
                have Z8 := Lib.hid (Z7.out.below b8)
                clear hm8 b8
                go_wp2_with (with_reducible refine stop_loadm ?_)
                refine Stop.out ?_
                refine wpList_loadAll Tryd.underlying42 move_size rfl rfl rfl K8.out rfl ?_
                go_wp2_with (with_reducible refine stop_bsg ?_)
                refine Stop.out ?_
                refine wpList_bs1g rfl rfl rfl rfl (by kernel_rfl) ?_
                have k9 := Blk.new w8 (mvCs ⟨q0, q1, q2, q3, q4, q5, q6, q7, q8⟩ (.slice aB nB cB) (.slice aD nD cD)) 42
                have b9 : Below w8.heap.size w8 (w8.alloc (.cells (mvCs ⟨q0, q1, q2, q3, q4, q5, q6, q7, q8⟩ (.slice aB nB cB) (.slice aD nD cD)) 42)) := (Below.refl _ _).alloc (Nat.le_refl _) _
                obtain ⟨w9, hw9⟩ : ∃ w9, w8.alloc (.cells (mvCs ⟨q0, q1, q2, q3, q4, q5, q6, q7, q8⟩ (.slice aB nB cB) (.slice aD nD cD)) 42) = w9 := ⟨_, rfl⟩
                rw [hw9] at k9 b9 ⊢
                have MS9 := Lib.hid (msr_one w9 _ _ _ _ _ _ _ _ _ k9 (Y8.out.below b9) (Z8.out.below b9))
                have M9 := Lib.hid (M8.out.below b9)
                have B9 := Lib.hid (below_on B8.out b9 B8.out.size)
                clear k9 b9 hw9
                go_wp2_with (fail)
                refine (same32_any a8 n8 c8 (some ⟨w8.heap.size, 0, none⟩) 1 1 [⟨q0, q1, q2, q3, q4, q5, q6, q7, q8⟩] w9 M9.out.len rfl M9.out.msr MS9.out (by simp)).mono ?_
                rintro x w10 ⟨rfl, b10⟩
                have B10 := Lib.hid (below_on B9.out b10 B9.out.size)
                clear b10
                go_wp2_with (fail)
                exact ⟨⟨k + 1, by go_num, by omega, B10⟩, by simp [intOf]; omega⟩
          · have hki : ¬ (k : Int) < (n : Int) := by omega
            have HS := Lib.hid I0.out.text
            have HPN := Lib.hid (fun h => parse_none (pcs 10 s) 0 [] h)
            rw [show parseLs 0 (pcs 10 s) [] = parseS s from rfl] at HPN
            have HPB := Lib.hid (parse_print s (by have := HS.out; omega))
            have HPA := Lib.hid (parse_any s wr (by have := HS.out; omega) (HV.out.below bw.out))
            have HFW := Lib.hid (parseLs_few (pcs 10 s) 0 [] (by simp))
            rw [show parseLs 0 (pcs 10 s) [] = parseS s from rfl] at HFW
            obtain ⟨R3, hR3⟩ : ∃ R, parseS s = R := ⟨_, rfl⟩
            rw [hR3] at HPN HPB HPA HFW
            clear hR3
            obtain ⟨L3, k3, e3⟩ := R3
            go_wp2_with (fail)
            refine HPA.out.mono ?_
            rintro x w6 ⟨a6, n6, c6, rfl, hm6, b6⟩
            have M6 := Lib.hid hm6
            have B6 := Lib.hid (below_on bw.out b6 bw.out.size)
            clear hm6 b6
            by_cases he3 : e3 = 0
            · subst he3
              obtain ⟨p1, p2, p3, p4⟩ := HPB.out rfl
              have P1 := Lib.hid p1
              have P2 := Lib.hid p2
              have P3 := Lib.hid p3
              have P4 := Lib.hid p4
              clear p1 p2 p3 p4
              have HSM : Hid (∀ m ∈ L3, m.b.length ≤ 4000000 ∧ m.d.length ≤ 4000000) := Lib.hid (by obtain ⟨xs, _, he⟩ := M6.out.ex; exact he.small)
              have hn6 : n6 ≤ 2000 := by have h1 : n6 = L3.length := M6.out.len; have h2 : L3.length ≤ 2000 := HFW.out; omega
              have HPR := Lib.hid (print_any a6 n6 c6 L3 w6 M6.out.len (fun _ => M6.out.msr) (fun _ m hm => ⟨P1.out m hm, HSM.out m hm⟩) (HV.out.below B6.out) (by omega))
              rw [P2.out] at HPR
              go_wp2_with (fail)
              refine HPR.out.mono ?_
              rintro x w7 ⟨rfl, b7⟩
              have M7 := Lib.hid (M6.out.below b7)
              have B7 := Lib.hid (below_on B6.out b7 B6.out.size)
              clear b7
              have HPA2 := Lib.hid (parse_any (flatL L3) w7 (by have := P4.out; omega) (HV.out.below B7.out))
              rw [P3.out] at HPA2
              go_wp2_with (fail)
              refine HPA2.out.mono ?_
              rintro x w8 ⟨a8, n8, c8, rfl, hm8, b8⟩
              have M8 := Lib.hid hm8
              have M7' := Lib.hid (M7.out.below b8)
              have B8 := Lib.hid (below_on B7.out b8 B7.out.size)
              clear hm8 b8
              go_wp2_with (fail)
              refine (same32_any a8 n8 c8 a6 n6 c6 L3 w8 M8.out.len M7'.out.len M8.out.msr M7'.out.msr (by have h2 := HFW.out; omega)).mono ?_
              rintro x w9 ⟨rfl, b9⟩
              have B9 := Lib.hid (below_on B8.out b9 B8.out.size)
              clear b9
              go_wp2_with (fail)
              go_returns
              exact ⟨rfl, B9.out⟩
            · have hne3 : ((e3 : Int) != 0) = true := by simp; omega
              have hz : L3 = [] := HPN.out he3
              have hn0 : n6 = 0 := by have := M6.out.len; simp only [hz, List.length_nil] at this; exact this
              subst hn0
              clear hz
              go_wp2_with (fail)
              go_returns
              exact ⟨rfl, B6.out⟩
      · have hne : ((er : Int) == 0) = false := by simp; omega
        have B5 := Lib.hid B3.out
        go_wp2_with (fail)
        go_loopw [12, 13, 14, 15, 16, 17, 63] (fun _ _ _ _ _ _ i wr => ∃ k : Nat, i = .int .i64 k ∧ k ≤ n ∧ Hid (Below w.heap.size w wr)) (fun _ _ _ _ _ _ i _ => n - (intOf i).toNat)
        case atStart => exact ⟨0, rfl, by omega, B5⟩
        case round =>
          obtain ⟨k, rfl, hk, bw⟩ := hrel
          have IR := Lib.hid (I0.out.below bw.out)
          by_cases hlt : k < n
          · have hki : (k : Int) < (n : Int) := by omega
            have hkL : k < L.length := by have := HN.out; omega
            obtain ⟨g1, o1, aB, nB, cB, aD, nD, cD, rfl, hg1, c1, y1, z1⟩ := IR.out.ms k hkL
            obtain ⟨mok, mb, md⟩ := IR.out.ok (L[k]) (List.getElem_mem _)
            generalize L[k] = q at *
            have HLV := Lib.hid (show (∀ s, lineO q = some s → lineV q = .tuple #[.string (tx s), .bool true]) ∧ (lineO q = none → lineV q = .tuple #[.string (tx []), .bool false]) from ⟨fun s hs => by unfold lineV; rw [hs], fun hs => by unfold lineV; rw [hs]⟩)
            have HAR := Lib.hid (fun s hs => around_parse q mok s hs)
            obtain ⟨q0, q1, q2, q3, q4, q5, q6, q7, q8⟩ := q
            have d0 : wr.cell? ⟨g1, o1 + k * 9, none⟩ = some (.int .u8 q0) := c1 0 _ rfl
            have d1 : wr.cell? ⟨g1, o1 + k * 9 + 1, none⟩ = some (.int .u8 q1) := c1 1 _ rfl
            have d2 : wr.cell? ⟨g1, o1 + k * 9 + 2, none⟩ = some (.int .i64 q2) := c1 2 _ rfl
            have d3 : wr.cell? ⟨g1, o1 + k * 9 + 3, none⟩ = some (.int .u64 q3) := c1 3 _ rfl
            have d4 : wr.cell? ⟨g1, o1 + k * 9 + 4, none⟩ = some (.int .u64 q4) := c1 4 _ rfl
            have d5 : wr.cell? ⟨g1, o1 + k * 9 + 5, none⟩ = some (.slice aB nB cB) := c1 5 _ rfl
            have d6 : wr.cell? ⟨g1, o1 + k * 9 + 6, none⟩ = some (.int .u32 q6) := c1 6 _ rfl
            have d7 : wr.cell? ⟨g1, o1 + k * 9 + 7, none⟩ = some (.int .u32 q7) := c1 7 _ rfl
            have d8 : wr.cell? ⟨g1, o1 + k * 9 + 8, none⟩ = some (.slice aD nD cD) := c1 8 _ rfl
            have Y1 := Lib.hid y1
            have Z1 := Lib.hid z1
            have MOK := Lib.hid mok
            have MB := Lib.hid mb
            have MD := Lib.hid md
            have hqk : decide (n ≤ k) = false := by simp; omega
            clear c1 y1 z1 mok mb md
            go_wp2_with (with_reducible refine stop_storem ?_)
            refine Stop.out ?_
            refine wpList_storem rfl rfl (cs := mvCs ⟨q0, q1, q2, q3, q4, q5, q6, q7, q8⟩ (.slice aB nB cB) (.slice aD nD cD)) rfl rfl (mvCs_one _ _ _ _ _ _ _) rfl rfl (Blk.new _ _ _) move_size ?_
            intro w6 bk6 o6
            have b6 : Below wr.heap.size wr w6 := Below.trans ((Below.refl _ _).alloc (Nat.le_refl _) _) (below_of_only o6 (by simp) (by rintro k hk rfl; simp at hk))
            have Y6 := Lib.hid (Y1.out.below b6)
            have Z6 := Lib.hid (Z1.out.below b6)
            have B6 := Lib.hid (below_on bw.out b6 bw.out.size)
            have K6 := Lib.hid bk6
            clear b6 bk6 o6 d0 d1 d2 d3 d4 d5 d6 d7 d8
            go_wp2_with (with_reducible refine stop_loadm ?_)
            refine Stop.out ?_
            refine wpList_loadAll Tryd.underlying42 move_size rfl rfl rfl K6.out rfl ?_
            go_wp2_with (fail)
            refine (line_any _ aB nB cB aD nD cD w6 Y6.out Z6.out MOK.out MB.out MD.out (HV.out.below B6.out)).mono ?_
            rintro e w7 ⟨rfl, b7⟩
            have B7 := Lib.hid (below_on B6.out b7 B6.out.size)
            have K7 := Lib.hid (K6.out.below b7)
            have Y7 := Lib.hid (Y6.out.below b7)
            have Z7 := Lib.hid (Z6.out.below b7)
            clear b7
            cases hln : lineO ⟨q0, q1, q2, q3, q4, q5, q6, q7, q8⟩ with
            | none =>
              rw [HLV.out.2 hln]
              clear hln
              go_wp2_with (fail)
              exact ⟨⟨k + 1, by go_num, by omega, B7⟩, by simp [intOf]; omega⟩
            | some ln =>
              rw [HLV.out.1 ln hln]
              have hap := HAR.out ln hln
              obtain ⟨lz, hlz⟩ : ∃ lz, ln.length = lz := ⟨_, rfl⟩
              have hlsz : (tx ln).size = lz := by rw [tx_size, hlz]
              by_cases hlb : lz > 20000
              · have hlbi : (lz : Int) > 20000 := by omega
                clear hln hap hlz
                go_wp2_with (fail)
                exact ⟨⟨k + 1, by go_num, by omega, B7⟩, by simp [intOf]; omega⟩
              · have hlbi : ¬ (lz : Int) > 20000 := by omega
                have s1 : ∀ W, (Op.stringOp .add (tx [35, 32, 120, 10, 32, 32, 32]) (tx ln)).run Tryd.prog W = .ok (.string (tx ([35, 32, 120, 10, 32, 32, 32] ++ ln))) W := fun W => run_add _ _ _ _ (by simp only [List.length_cons, List.length_nil]; omega)
                obtain ⟨l1, hl1⟩ : ∃ y, [35, 32, 120, 10, 32, 32, 32] ++ ln = y := ⟨_, rfl⟩
                rw [hl1] at s1
                have l1l : l1.length = lz + 7 := by rw [← hl1, List.length_append, hlz]; simp; omega
                have s2 : ∀ W, (Op.stringOp .add (tx l1) (tx [32, 32, 35, 32, 104, 111, 112, 10])).run Tryd.prog W = .ok (.string (tx (l1 ++ [32, 32, 35, 32, 104, 111, 112, 10]))) W := fun W => run_add _ _ _ _ (by simp only [List.length_cons, List.length_nil]; omega)
                have hA : l1 ++ [32, 32, 35, 32, 104, 111, 112, 10] = aroundS ln := by rw [← hl1]; rfl
                obtain ⟨l2, hl2⟩ : ∃ y, aroundS ln = y := ⟨_, rfl⟩
                rw [hA, hl2] at s2
                rw [hl2] at hap
                have l2l : l2.length ≤ 262144 := by rw [← hl2, ← hA, List.length_append, l1l]; simp; omega
                have HAP := Lib.hid hap
                have HL2 := Lib.hid l2l
                clear hln hap hlz hl1 hA hl2 l1l l2l
                go_wp2_with (fail)
                have HPA := Lib.hid (parse_any l2 w7 HL2.out (HV.out.below B7.out))
                rw [HAP.out] at HPA
                refine HPA.out.mono ?_
                rintro x w8 ⟨a8, n8, c8, rfl, hm8, b8⟩
                have M8 := Lib.hid hm8
                have B8 := Lib.hid (below_on B7.out b8 B7.out.size)
                have K8 := Lib.hid (K7.out.below b8)
                have Y8 := Lib.hid (Y7.out.below b8)
                have Z8 := Lib.hid (Z7.out.below b8)
                clear hm8 b8
                go_wp2_with (with_reducible refine stop_loadm ?_)
                refine Stop.out ?_
                refine wpList_loadAll Tryd.underlying42 move_size rfl rfl rfl K8.out rfl ?_
                go_wp2_with (with_reducible refine stop_bsg ?_)
                refine Stop.out ?_
                refine wpList_bs1g rfl rfl rfl rfl (by kernel_rfl) ?_
                have k9 := Blk.new w8 (mvCs ⟨q0, q1, q2, q3, q4, q5, q6, q7, q8⟩ (.slice aB nB cB) (.slice aD nD cD)) 42
                have b9 : Below w8.heap.size w8 (w8.alloc (.cells (mvCs ⟨q0, q1, q2, q3, q4, q5, q6, q7, q8⟩ (.slice aB nB cB) (.slice aD nD cD)) 42)) := (Below.refl _ _).alloc (Nat.le_refl _) _
                obtain ⟨w9, hw9⟩ : ∃ w9, w8.alloc (.cells (mvCs ⟨q0, q1, q2, q3, q4, q5, q6, q7, q8⟩ (.slice aB nB cB) (.slice aD nD cD)) 42) = w9 := ⟨_, rfl⟩
                rw [hw9] at k9 b9 ⊢
                have MS9 := Lib.hid (msr_one w9 _ _ _ _ _ _ _ _ _ k9 (Y8.out.below b9) (Z8.out.below b9))
                have M9 := Lib.hid (M8.out.below b9)
                have B9 := Lib.hid (below_on B8.out b9 B8.out.size)
                clear k9 b9 hw9
                go_wp2_with (fail)
                refine (same32_any a8 n8 c8 (some ⟨w8.heap.size, 0, none⟩) 1 1 [⟨q0, q1, q2, q3, q4, q5, q6, q7, q8⟩] w9 M9.out.len rfl M9.out.msr MS9.out (by simp)).mono ?_
                rintro x w10 ⟨rfl, b10⟩
                have B10 := Lib.hid (below_on B9.out b10 B9.out.size)
                clear b10
                go_wp2_with (fail)
                exact ⟨⟨k + 1, by go_num, by omega, B10⟩, by simp [intOf]; omega⟩
          · have hki : ¬ (k : Int) < (n : Int) := by omega
            have HS := Lib.hid I0.out.text
            have HPN := Lib.hid (fun h => parse_none (pcs 10 s) 0 [] h)
            rw [show parseLs 0 (pcs 10 s) [] = parseS s from rfl] at HPN
            have HPB := Lib.hid (parse_print s (by have := HS.out; omega))
            have HPA := Lib.hid (parse_any s wr (by have := HS.out; omega) (HV.out.below bw.out))
            have HFW := Lib.hid (parseLs_few (pcs 10 s) 0 [] (by simp))
            rw [show parseLs 0 (pcs 10 s) [] = parseS s from rfl] at HFW
            obtain ⟨R3, hR3⟩ : ∃ R, parseS s = R := ⟨_, rfl⟩
            rw [hR3] at HPN HPB HPA HFW
            clear hR3
            obtain ⟨L3, k3, e3⟩ := R3
            go_wp2_with (fail)
            refine HPA.out.mono ?_
            rintro x w6 ⟨a6, n6, c6, rfl, hm6, b6⟩
            have M6 := Lib.hid hm6
            have B6 := Lib.hid (below_on bw.out b6 bw.out.size)
            clear hm6 b6
            by_cases he3 : e3 = 0
            · subst he3
              obtain ⟨p1, p2, p3, p4⟩ := HPB.out rfl
              have P1 := Lib.hid p1
              have P2 := Lib.hid p2
              have P3 := Lib.hid p3
              have P4 := Lib.hid p4
              clear p1 p2 p3 p4
              have HSM : Hid (∀ m ∈ L3, m.b.length ≤ 4000000 ∧ m.d.length ≤ 4000000) := Lib.hid (by obtain ⟨xs, _, he⟩ := M6.out.ex; exact he.small)
              have hn6 : n6 ≤ 2000 := by have h1 : n6 = L3.length := M6.out.len; have h2 : L3.length ≤ 2000 := HFW.out; omega
              have HPR := Lib.hid (print_any a6 n6 c6 L3 w6 M6.out.len (fun _ => M6.out.msr) (fun _ m hm => ⟨P1.out m hm, HSM.out m hm⟩) (HV.out.below B6.out) (by omega))
              rw [P2.out] at HPR
              go_wp2_with (fail)
              refine HPR.out.mono ?_
              rintro x w7 ⟨rfl, b7⟩
              have M7 := Lib.hid (M6.out.below b7)
              have B7 := Lib.hid (below_on B6.out b7 B6.out.size)
              clear b7
              have HPA2 := Lib.hid (parse_any (flatL L3) w7 (by have := P4.out; omega) (HV.out.below B7.out))
              rw [P3.out] at HPA2
              go_wp2_with (fail)
              refine HPA2.out.mono ?_
              rintro x w8 ⟨a8, n8, c8, rfl, hm8, b8⟩
              have M8 := Lib.hid hm8
              have M7' := Lib.hid (M7.out.below b8)
              have B8 := Lib.hid (below_on B7.out b8 B7.out.size)
              clear hm8 b8
              go_wp2_with (fail)
              refine (same32_any a8 n8 c8 a6 n6 c6 L3 w8 M8.out.len M7'.out.len M8.out.msr M7'.out.msr (by have h2 := HFW.out; omega)).mono ?_
              rintro x w9 ⟨rfl, b9⟩
              have B9 := Lib.hid (below_on B8.out b9 B8.out.size)
              clear b9
              go_wp2_with (fail)
              go_returns
              exact ⟨rfl, B9.out⟩
            · have hne3 : ((e3 : Int) != 0) = true := by simp; omega
              have hz : L3 = [] := HPN.out he3
              have hn0 : n6 = 0 := by have := M6.out.len; simp only [hz, List.length_nil] at this; exact this
              subst hn0
              clear hz
              go_wp2_with (fail)
              go_returns
              exact ⟨rfl, B6.out⟩
set_option maxRecDepth 100000 in
theorem walk_ScriptBack (H : Type) (enc : TypeId × Value → H) (w : World) (base : Nat) (v0 : Value) (d0 : DataW H) (p0 : List MemPlace) (v1 : Value) (d1 : DataW H) (p1 : List MemPlace)
    (o0 : Value.okWide Tryd.prog w .any base 23 v0) (h0 : DataW.Trod enc Tryd.prog w 0 (fun _ => true) true 23 v0 d0 p0)
    (o1 : Value.okWide Tryd.prog w .any base 9 v1) (h1 : DataW.Trod enc Tryd.prog w 0 (fun _ => true) true 9 v1 d1 p1)
    (z0 : Sized Tryd.prog 23 d0) (z1 : Sized Tryd.prog 9 d1)
    (hl : laidMet Tryd.prog Rows.scriptBackRow.laid w) (hS : w.ShapedOpen Tryd.prog) :
    Calls Tryd.prog 5 #[v0, v1] w fun e w' => e = .returned (.bool true) ∧ Below w.heap.size w w' := by
  obtain ⟨a, L, cap, rfl, h2, h3, h4⟩ := open_moves o0 h0 z0
  obtain ⟨s, rfl, h5⟩ := open_string o1 h1
  exact back_law a L.length cap L s w rfl h2 h4 h3 h5 ((script_laid hl).vars hS)
end Go.Proofs.YthangjgdjhhfgaaDoor
