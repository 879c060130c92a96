/- ScriptParses: the law, walked. -/
import Derived.Test.YthangjgdjhhfgaaDoorScD9
import Derived.Test.YthangjgdjhhfgaaDoorScV5
import Derived.Test.YthangjgdjhhfgaaDoorScHd2
namespace Go.Proofs.YthangjgdjhhfgaaDoor
open Go.RowKit
set_option linter.unusedVariables false
theorem parseLs_few : ∀ (ls : List (List UInt8)) (k : Nat) (L : List Mv), L.length ≤ 2000 → (parseLs k ls L).1.length ≤ 2000
  | [], k, L, h => h
  | t :: r, k, L, h => by
    rw [parseLs]
    split
    · exact parseLs_few r _ L h
    · split
      · simp
      · split
        · simp
        · exact parseLs_few r _ _ (by simp; omega)
set_option maxRecDepth 100000 in
set_option maxHeartbeats 8000000 in
theorem parses_law (s : List UInt8) (w : World) (hl : s.length ≤ maxLen) (hV : Vars w) :
    Calls Tryd.prog 3 #[.string (tx s)] w fun x w' => x = .returned (.bool true) ∧ Below w.heap.size w w' := by
  obtain ⟨n, hn⟩ : ∃ n, s.length = n := ⟨_, rfl⟩
  have hsz : (tx s).size = n := by rw [tx_size, hn]
  rw [hn] at hl
  simp only [maxLen] at hl
  have HN := Lib.hid hn
  have HV := Lib.hid hV
  clear hn hV
  go_enter Tryd.func3, Tryd.ntmps3
  go_wp2_with (fail)
  refine (known_any w HV.out).mono ?_
  rintro x w1 ⟨rfl, b1⟩
  have B1 := Lib.hid b1
  clear b1
  by_cases hbig : n > 20000
  · have hb : (n : Int) > 20000 := by omega
    go_wp2_with (fail)
    go_returns
    exact ⟨rfl, B1.out⟩
  · have hb : ¬ (n : Int) > 20000 := by omega
    have HS : Hid (s.length ≤ 262144) := Lib.hid (by rw [HN.out]; omega)
    have HFW := Lib.hid (parseLs_few (pcs 10 s) 0 [] (by simp))
    rw [show parseLs 0 (pcs 10 s) [] = parseS s from rfl] at HFW
    have HP := Lib.hid (fun w => parse_any s w HS.out)
    have HR := Lib.hid (fun w => rparse_any s w HS.out)
    generalize parseS s = R at HP HR HFW
    obtain ⟨L, k, er⟩ := R
    go_wp2_with (fail)
    refine (HP.out w1 (HV.out.below B1.out)).mono ?_
    rintro x w2 ⟨a, q, c, rfl, hm2, b2⟩
    have B2 := Lib.hid (below_on B1.out b2 B1.out.size)
    have M2 := Lib.hid hm2
    clear b2 hm2
    go_wp2_with (fail)
    refine (HR.out w2).mono ?_
    rintro x w3 ⟨a3, q3, c3, rfl, hm3, b3⟩
    have B3 := Lib.hid (below_on B2.out b3 B2.out.size)
    have M3 := Lib.hid hm3
    have M2' := Lib.hid (M2.out.below b3)
    clear b3 hm3
    go_wp2_with (fail)
    refine (same32_any a q c a3 q3 c3 L w3 M2'.out.len M3.out.len M2'.out.msr M3.out.msr (by have := HFW.out; omega)).mono ?_
    rintro x w4 ⟨rfl, b4⟩
    have B4 := Lib.hid (below_on B3.out b4 B3.out.size)
    clear b4
    go_wp2_with (fail)
    go_returns
    exact ⟨rfl, B4.out⟩
set_option maxRecDepth 100000 in
theorem walk_ScriptParses (H : Type) (enc : TypeId × Value → H) (w : World) (base : Nat) (v0 : Value) (d0 : DataW H) (p0 : List MemPlace)
    (o0 : Value.okWide Tryd.prog w .any base 9 v0) (h0 : DataW.Trod enc Tryd.prog w 0 (fun _ => true) true 9 v0 d0 p0)
    (hl : laidMet Tryd.prog Rows.scriptParsesRow.laid w) (hS : w.ShapedOpen Tryd.prog) :
    Calls Tryd.prog 3 #[v0] w fun e w' => e = .returned (.bool true) ∧ Below w.heap.size w w' := by
  obtain ⟨s, rfl, hs⟩ := open_string o0 h0
  exact parses_law s w hs ((script_laid hl).vars hS)
end Go.Proofs.YthangjgdjhhfgaaDoor
