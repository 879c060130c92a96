/- ScriptPrints: the law, walked. -/
import Derived.Test.YthangjgdjhhfgaaGreatDoorScE9
import Derived.Test.YthangjgdjhhfgaaGreatDoorScBk
import Derived.Test.YthangjgdjhhfgaaGreatDoorScV5
import Derived.Test.YthangjgdjhhfgaaGreatDoorScHd3
namespace Go.Proofs.YthangjgdjhhfgaaGreatDoor
open Go.RowKit
set_option linter.unusedVariables false
section
variable {P : Program} {ops : Array Oper} {rest : List Oper} {o : Oper} {a : Act} {w : World} {Q : Exit → Act → World → Prop}
theorem stop_eql {d : Option Tmp} {x y : Operand} {t2 ty : TypeId} {pos : String} {aft : Array Edge} {g : Option (Nat × Bool)}
    (h : Stop (wpList P ops Q (⟨d, .binOp .eql 9 x y t2, ty, pos, aft, g⟩ :: rest) a w)) : wpList P ops Q (⟨d, .binOp .eql 9 x y t2, ty, pos, aft, g⟩ :: rest) a w := h
theorem stop_neq {d : Option Tmp} {x y : Operand} {t2 ty : TypeId} {pos : String} {aft : Array Edge} {g : Option (Nat × Bool)}
    (h : Stop (wpList P ops Q (⟨d, .binOp .neq 9 x y t2, ty, pos, aft, g⟩ :: rest) a w)) : wpList P ops Q (⟨d, .binOp .neq 9 x y t2, ty, pos, aft, g⟩ :: rest) a w := h
theorem wpList_neqv {t ty : TypeId} (hgd : Region.wanted o (yielded ops a.tmps) = true) {x y : Operand} (ho : o.op = .binOp .neq t x y ty) {s u : ByteArray} (b : Bool) (hx : a.eval x = .string s) (hy : a.eval y = .string u) (hb : (!s.toList == u.toList) = b)
    (h : wpList P ops Q rest (a.put o.dst (.bool b)) w) : wpList P ops Q (o :: rest) a w := by
  refine BigFrame.wpList_want hgd fun K hK' => ?_
  have hr : binOp .neq t (.string s) (.string u) = pure (.bool b) := by rw [binOp_string_neq, ← hb]
  have hr2 : eqGuard .neq t x y (.string s) (.string u) = pure () := eqGuard_at_string ..
  unfold Oper.wp
  simp only [execOp, ho, hx, hy, hr, hr2]
  simp []
  exact hK' _ _ h
end
set_option maxRecDepth 100000 in
set_option maxHeartbeats 32000000 in
theorem prints_law (a : Option Addr) (n cap : Nat) (L : List Mv) (w : World) (hn : n = L.length) (h : MsR w a L) (hok : ∀ m ∈ L, MvOk m ∧ m.b.length ≤ 1048576 ∧ m.d.length ≤ 1048576) (hl : n ≤ 1048576) (hV : Vars w) :
    Calls Tryz.prog 3 #[.slice a n cap] w fun x w' => x = .returned (.bool true) ∧ Below w.heap.size w w' := by
  have HN := Lib.hid hn
  have H := Lib.hid h
  have HOK : Hid (∀ m ∈ L, MvOk m ∧ m.b.length ≤ 4000000 ∧ m.d.length ≤ 4000000) := Lib.hid (fun m hm => ⟨(hok m hm).1, by have := (hok m hm).2; omega, by have := (hok m hm).2; omega⟩)
  have HV := Lib.hid hV
  have HPR := Lib.hid (fun (u : World) (hu : Below w.heap.size w u) => print_any a n cap L u hn (fun _ => h.below hu) (fun _ => HOK.out) (hV.below hu) (by omega))
  have HRP := Lib.hid (fun (u : World) (hu : Below w.heap.size w u) => rprint_any a n cap L u hn (fun _ => h.below hu) (fun _ => HOK.out) (by omega))
  have HGR := Lib.hid (fun (u : World) (hu : Below w.heap.size w u) => great_any a n cap L u hn (h.below hu) (fun m hm => by have := (hok m hm).2; omega) (by omega))
  obtain ⟨R, hR⟩ : ∃ R, printS L = R := ⟨_, rfl⟩
  rw [hR] at HPR HRP
  obtain ⟨t, k, er⟩ := R
  obtain ⟨G, hG⟩ : ∃ G, decide (greatN L 0 > 1000) = G := ⟨_, rfl⟩
  rw [hG] at HGR
  clear hn h hok hV hR hG
  go_enter Tryz.func3, Tryz.ntmps3
  go_wp2_with (fail)
  refine (known_any w HV.out).mono ?_
  rintro x w1 ⟨rfl, b1⟩
  have B1 := Lib.hid b1
  clear b1
  go_wp2_with (fail)
  refine (HGR.out w1 B1.out).mono ?_
  rintro x w2 ⟨rfl, b2⟩
  have B2 := Lib.hid (below_on B1.out b2 B1.out.size)
  clear b2
  by_cases hskip : G = true ∧ n ≤ 2000
  · obtain ⟨rfl, hn2⟩ := hskip
    have hni : (n : Int) ≤ 2000 := by omega
    go_wp2_with (fail)
    go_returns
    exact ⟨rfl, B2.out⟩
  · have hpick : G = false ∨ (G = true ∧ ¬ (n : Int) ≤ 2000) := by
      cases G with
      | false => exact .inl rfl
      | true => exact .inr ⟨rfl, fun h => hskip ⟨rfl, by omega⟩⟩
    clear hskip
    rcases hpick with rfl | ⟨rfl, hni⟩
    all_goals
      go_wp2_with (fail)
      refine (HPR.out w2 B2.out).mono ?_
      rintro x w3 ⟨rfl, b3⟩
      have B3 := Lib.hid (below_on B2.out b3 B2.out.size)
      clear b3
      go_wp2_with (fail)
      refine (HRP.out w3 B3.out).mono ?_
      rintro x w4 ⟨rfl, b4⟩
      have B4 := Lib.hid (below_on B3.out b4 B3.out.size)
      clear b4
      go_wp2_with (fail)
      go_loopw [9, 10, 11, 12, 36] (fun _ _ _ _ i wr => ∃ k : Nat, i = .int .i64 k ∧ k ≤ n ∧ Hid (Below w.heap.size w wr)) (fun _ _ _ _ i _ => n - (intOf i).toNat)
      case atStart => exact ⟨0, rfl, by omega, B4⟩
      case round =>
        obtain ⟨k, rfl, hk, bw⟩ := hrel
        by_cases hlt : k < n
        · have hki : (k : Int) < (n : Int) := by omega
          have hkL : k < L.length := by have := HN.out; omega
          obtain ⟨g1, o1, aB, nB, cB, aD, nD, cD, rfl, hg1, c1, y1, z1⟩ := (H.out.below bw.out) k hkL
          obtain ⟨mok, mb, md⟩ := HOK.out (L[k]) (List.getElem_mem _)
          generalize L[k] = q at *
          have HLV := Lib.hid (show (∀ s, lineO q = some s → lineV q = .tuple #[.string (tx s), .bool true] ∧ lineR q = s ∧ s ≠ []) ∧ (lineO q = none → lineV q = .tuple #[.string (tx []), .bool false] ∧ lineR q = []) from ⟨fun s hs => ⟨by unfold lineV; rw [hs], by rw [lineR_O, hs]; rfl, lineO_ne hs⟩, fun hs => ⟨by unfold lineV; rw [hs], by rw [lineR_O, hs]; rfl⟩⟩)
          obtain ⟨q0, q1, q2, q3, q4, q5, q6, q7, q8⟩ := q
          have d0 : wr.cell? ⟨g1, o1 + k * 9, none⟩ = some (.int .u8 q0) := c1 0 _ rfl
          have d1 : wr.cell? ⟨g1, o1 + k * 9 + 1, none⟩ = some (.int .u8 q1) := c1 1 _ rfl
          have d2 : wr.cell? ⟨g1, o1 + k * 9 + 2, none⟩ = some (.int .i64 q2) := c1 2 _ rfl
          have d3 : wr.cell? ⟨g1, o1 + k * 9 + 3, none⟩ = some (.int .u64 q3) := c1 3 _ rfl
          have d4 : wr.cell? ⟨g1, o1 + k * 9 + 4, none⟩ = some (.int .u64 q4) := c1 4 _ rfl
          have d5 : wr.cell? ⟨g1, o1 + k * 9 + 5, none⟩ = some (.slice aB nB cB) := c1 5 _ rfl
          have d6 : wr.cell? ⟨g1, o1 + k * 9 + 6, none⟩ = some (.int .u32 q6) := c1 6 _ rfl
          have d7 : wr.cell? ⟨g1, o1 + k * 9 + 7, none⟩ = some (.int .u32 q7) := c1 7 _ rfl
          have d8 : wr.cell? ⟨g1, o1 + k * 9 + 8, none⟩ = some (.slice aD nD cD) := c1 8 _ rfl
          have Y1 := Lib.hid y1
          have Z1 := Lib.hid z1
          have MOK := Lib.hid mok
          have MB := Lib.hid mb
          have MD := Lib.hid md
          have hqk : decide (n ≤ k) = false := by simp; omega
          clear c1 y1 z1 mok mb md
          go_wp2_with (with_reducible refine stop_storem ?_)
          refine Stop.out ?_
          refine wpList_storem rfl rfl (cs := mvCs ⟨q0, q1, q2, q3, q4, q5, q6, q7, q8⟩ (.slice aB nB cB) (.slice aD nD cD)) rfl rfl (mvCs_one _ _ _ _ _ _ _) rfl rfl (Blk.new _ _ _) move_size ?_
          intro w6 bk6 o6
          have b6 : Below wr.heap.size wr w6 := Below.trans ((Below.refl _ _).alloc (Nat.le_refl _) _) (below_of_only o6 (by simp) (by rintro k hk rfl; simp at hk))
          have Y6 := Lib.hid (Y1.out.below b6)
          have Z6 := Lib.hid (Z1.out.below b6)
          have B6 := Lib.hid (below_on bw.out b6 bw.out.size)
          have K6 := Lib.hid bk6
          clear b6 bk6 o6 d0 d1 d2 d3 d4 d5 d6 d7 d8
          by_cases h1000 : k ≥ 1000
          · have hgi : (k : Int) ≥ 1000 := by omega
            go_wp2_with (with_reducible refine stop_eql ?_)
            refine Stop.out ?_
            refine wpList_same rfl rfl rfl rfl ?_
            go_wp2_with (fail)
            go_returns
            exact ⟨rfl, B6.out⟩
          · have hgi : ¬ (k : Int) ≥ 1000 := by omega
            go_wp2_with (with_reducible refine stop_loadm ?_)
            refine Stop.out ?_
            refine wpList_loadAll Tryz.underlying35 move_size rfl rfl rfl K6.out rfl ?_
            go_wp2_with (fail)
            refine (line_any _ aB nB cB aD nD cD w6 Y6.out Z6.out MOK.out MB.out MD.out (HV.out.below B6.out)).mono ?_
            rintro e w7 ⟨rfl, b7⟩
            have B7 := Lib.hid (below_on B6.out b7 B6.out.size)
            have K7 := Lib.hid (K6.out.below b7)
            have Y7 := Lib.hid (Y6.out.below b7)
            have Z7 := Lib.hid (Z6.out.below b7)
            clear b7
            cases hln : lineO ⟨q0, q1, q2, q3, q4, q5, q6, q7, q8⟩ with
            | none =>
              obtain ⟨e1, e2⟩ := HLV.out.2 hln
              rw [e1]
              have HR2 := Lib.hid e2
              clear hln e1 e2
              go_wp2_with (with_reducible refine stop_loadm ?_)
              refine Stop.out ?_
              refine wpList_loadAll Tryz.underlying35 move_size rfl rfl rfl K7.out rfl ?_
              go_wp2_with (fail)
              refine (rline_any _ aB nB cB aD nD cD w7 Y7.out Z7.out MOK.out MB.out MD.out).mono ?_
              rintro e w8 ⟨rfl, b8⟩
              rw [HR2.out]
              have B8 := Lib.hid (below_on B7.out b8 B7.out.size)
              clear b8
              go_wp2_with (with_reducible refine stop_neq ?_)
              refine Stop.out ?_
              refine wpList_unsame rfl rfl rfl rfl ?_
              go_wp2_with (with_reducible refine stop_neq ?_)
              refine Stop.out ?_
              refine wpList_neqv rfl rfl false rfl rfl (by rw [ByteArray.toList_eq]; rfl) ?_
              go_wp2_with (fail)
              exact ⟨⟨k + 1, by go_num, by omega, B8⟩, by simp [intOf]; omega⟩
            | some ln =>
              obtain ⟨e1, e2, e3⟩ := HLV.out.1 ln hln
              rw [e1]
              have HR2 := Lib.hid e2
              have hne : (!(tx ln).toList == (⟨#[]⟩ : ByteArray).toList) = true := by
                rw [ByteArray.toList_eq, ByteArray.toList_eq, tx_data]
                simpa using e3
              have HNE := Lib.hid hne
              clear hln e1 e2 e3 hne
              go_wp2_with (with_reducible refine stop_loadm ?_)
              refine Stop.out ?_
              refine wpList_loadAll Tryz.underlying35 move_size rfl rfl rfl K7.out rfl ?_
              go_wp2_with (fail)
              refine (rline_any _ aB nB cB aD nD cD w7 Y7.out Z7.out MOK.out MB.out MD.out).mono ?_
              rintro e w8 ⟨rfl, b8⟩
              rw [HR2.out]
              have B8 := Lib.hid (below_on B7.out b8 B7.out.size)
              clear b8
              go_wp2_with (with_reducible refine stop_neq ?_)
              refine Stop.out ?_
              refine wpList_unsame rfl rfl rfl rfl ?_
              go_wp2_with (with_reducible refine stop_neq ?_)
              refine Stop.out ?_
              refine wpList_neqv rfl rfl true rfl rfl HNE.out ?_
              go_wp2_with (fail)
              exact ⟨⟨k + 1, by go_num, by omega, B8⟩, by simp [intOf]; omega⟩
        · have hki : ¬ (k : Int) < (n : Int) := by omega
          go_wp2_with (with_reducible refine stop_eql ?_)
          refine Stop.out ?_
          refine wpList_same rfl rfl rfl rfl ?_
          go_wp2_with (fail)
          go_returns
          exact ⟨rfl, bw.out⟩
set_option maxRecDepth 100000 in
theorem walk_ScriptPrints (H : Type) (enc : TypeId × Value → H) (w : World) (base : Nat) (v0 : Value) (d0 : DataW H) (p0 : List MemPlace)
    (o0 : Value.okWide Tryz.prog w .any base 22 v0) (h0 : DataW.Trod enc Tryz.prog w 0 (fun _ => true) true 22 v0 d0 p0)
    (hkb : Rows.uptoBulkAll [d0] ≤ 1048576)
    (hl : laidMet Tryz.prog Rows.scriptPrintsUptoRow.laid w) (hS : w.ShapedOpen Tryz.prog) :
    Calls Tryz.prog 3 #[v0] w fun e w' => e = .returned (.bool true) ∧ Below w.heap.size w w' := by
  obtain ⟨a, L, cap, rfl, h2, h3, h4⟩ := open_moves_b o0 h0 (Bk.of hkb (List.mem_cons_self ..))
  exact prints_law a L.length cap L w rfl h2 h4 h3 ((script_laid hl).vars hS)
end Go.Proofs.YthangjgdjhhfgaaGreatDoor
