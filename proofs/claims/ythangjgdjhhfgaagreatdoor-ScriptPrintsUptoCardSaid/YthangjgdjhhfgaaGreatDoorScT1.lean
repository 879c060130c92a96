/- Digits of a number: strconv.FormatUint at base 10, trace.num, the document's Digits. -/
import Derived.Test.YthangjgdjhhfgaaGreatDoorScShC
import Derived.Test.YthangjgdjhhfgaaGreatDoorQuie
import Derived.Lib.ItoaMem
import Derived.Lib.Walk
import Derived.Lib.AppendIntMem
namespace Go.Proofs.YthangjgdjhhfgaaGreatDoor
open Go.RowKit Go.Sort
set_option linter.unusedVariables false

theorem var_below {w w' : World} {n : Nat} {name : String} {cs : Array Value} {g : Nat} (hg : Tryz.prog.globalNamed name = some g) (hn : g < n) (hb : Below n w w') (h : w.var? Tryz.prog name = some cs) : w'.var? Tryz.prog name = some cs := by
  unfold World.var? at h ⊢
  rw [hg] at h ⊢
  simp only [Option.bind_some] at h ⊢
  rw [hb.block g hn]
  exact h
def Pow10 (w : World) : Prop := Lib.TabIs Tryz.prog w "internal/strconv.uint64pow10" .u64 Lib.pow10Tab
theorem Pow10.below {w w' : World} {n : Nat} (h : Pow10 w) (hn : 1 < n) (hb : Below n w w') : Pow10 w' := var_below (by kernel_rfl) hn hb h

theorem holds_zero0 (w : World) (T : TypeId) (nd : Nat) (hs : nd ≤ 24) : Holds (fun (b : UInt8) => Value.int .u8 (b.toNat : Int)) (w.alloc (.cells Lib.zeros24 T)) w.heap.size 0 (Array.replicate nd (0 : UInt8)) := fun j hj => by
  have hj' : j < nd := by simpa using hj
  refine ⟨?_, World.frozen?_alloc_new _ _ _ _⟩
  rw [World.cell?_alloc_new, Lib.zeros24_at _ (by omega), getElem!_pos _ j hj]
  simp
set_option maxHeartbeats 4000000 in
set_option maxRecDepth 100000 in
theorem ifmt_any (u : Nat) (w : World) (hu : u ≤ 18446744073709551615) (htab : Pow10 w) :
    Calls Tryz.prog 53 #[.int .u64 u, .int .i64 10] w fun e w' => e = .returned (.string (tx (dig u))) ∧ Below w.heap.size w w' := by
  have hu40 : u < 10 ^ 40 := by omega
  by_cases hs : u < 100
  · have h1 : (u : Int) < 100 := by omega
    go_enter Tryz.func53, Tryz.ntmps53
    go_wp2_with (go_at_call 66; refine (Any.internal_strconv_small L.lays283 u hs _).mono ?_; rintro e w' ⟨rfl, rfl⟩)
    go_returns
    rw [dec_dig u hu40]
    exact ⟨rfl, Below.refl _ _⟩
  · have h1 : ¬ (u : Int) < 100 := by omega
    have hu1 : 1 ≤ u := by omega
    have hu64 : u < 18446744073709551616 := by omega
    have hnd20 : Lib.nDigits u ≤ 20 := by have := Lib.numDigits_eq u hu1 hu64; split at this <;> omega
    have hal : Tryz.prog.arrayLen 100 = 24 := by kernel_rfl
    have hsl1 : ∀ W, (Instr.sliceAt 100 (.pointer (some ⟨w.heap.size, 0, none⟩)) none (some (.int .i64 (Lib.nDigits u : Int))) none).run Tryz.prog W = .ok (.slice (some ⟨w.heap.size, 0, none⟩) (Lib.nDigits u) 24) W := fun W => by
      rw [run_sliceAt_array_h W 100 ⟨w.heap.size, 0, none⟩ (by simp [Program.arrayLen, Program.elem, Tryz.underlying100]) .i64 (Lib.nDigits u : Int) (by omega) (by rw [hal]; omega)]
      rw [hal]
      go_simp
    have hH0 := holds_zero0 w 100 (Lib.nDigits u) (by omega)
    have hfmt := Any.internal_strconv_formatBase10 L.lays285 w.heap.size 0 24 u (Array.replicate (Lib.nDigits u) 0) (w.alloc (.cells Lib.zeros24 100)) hH0 (by rw [Array.size_replicate]; exact Lib.lt_pow_nDigits u) hu64 (by rw [Array.size_replicate]; omega)
    rw [Array.size_replicate] at hfmt
    have HH0 := Lib.hid hH0
    clear hH0 hal
    go_enter Tryz.func53, Tryz.ntmps53
    go_wp2_with (go_at_call 67; refine (Any.internal_strconv_numDigits L.laysM284 u hu1 hu64 _ (Lib.tabIs_alloc htab _)).mono ?_; rintro e w' ⟨rfl, rfl⟩)
    go_at_call 68
    refine hfmt.mono ?_
    rintro e w' ⟨rfl, k, v', dk, rfl, hF⟩
    have hcv : (convert 30 9 (.slice (some ⟨w.heap.size, 0, none⟩) (Lib.nDigits u) 24)).run Tryz.prog ((putRow (fun (b : UInt8) => Value.int .u8 (b.toNat : Int)) (w.alloc (.cells Lib.zeros24 100)) w.heap.size 0 dk).drewN k) = .ok (.string ⟨(Lib.decDigits u).toArray⟩) ((putRow (fun (b : UInt8) => Value.int .u8 (b.toNat : Int)) (w.alloc (.cells Lib.zeros24 100)) w.heap.size 0 dk).drewN k) := by
      have h := run_convert_bytes_back (P := Tryz.prog) ((putRow (fun (b : UInt8) => Value.int .u8 (b.toNat : Int)) (w.alloc (.cells Lib.zeros24 100)) w.heap.size 0 dk).drewN k) 30 9 5 ⟨w.heap.size, 0, none⟩ 24 (Lib.decDigits u) Tryz.underlying30 Tryz.underlying5 Tryz.underlying9 (fun j hj => by
        rw [Lib.row_is_numeral hF j hj, Lib.add_plain, World.cell?_drewN]
        exact cell?_putRow (fun (b : UInt8) => Value.int .u8 (b.toNat : Int)) _ w.heap.size 0 _ dk HH0.out (by rw [hF.size, Array.size_replicate]) j (by rw [hF.size]; rw [Lib.decDigits_length] at hj; exact hj))
      rw [Lib.decDigits_length] at h
      exact h
    go_wp2
    go_returns
    obtain ⟨os', _, eo⟩ := putRow_grow_new (fun (b : UInt8) => Value.int .u8 (b.toNat : Int)) w #[.cells Lib.zeros24 100] w.heap.size 0 dk (Nat.le_refl _)
    rw [dec_dig u hu40]
    refine ⟨rfl, ?_⟩
    refine below_drewN' ?_ k
    rw [alloc_eq_grow, eo]
    exact Lib.below_grow _ w (Nat.le_refl _) 0 _
set_option maxRecDepth 100000 in
theorem fmt_any (u : Nat) (w : World) (hu : u ≤ 18446744073709551615) (htab : Pow10 w) :
    Calls Tryz.prog 41 #[.int .u64 u, .int .i64 10] w fun e w' => e = .returned (.string (tx (dig u))) ∧ Below w.heap.size w w' := by
  go_enter Tryz.func41, Tryz.ntmps41
  go_wp2_with (fail)
  refine (ifmt_any u _ hu htab).mono ?_
  rintro e w1 ⟨rfl, hb1⟩
  go_wp2_with (fail)
  go_returns
  exact ⟨rfl, hb1⟩
set_option maxRecDepth 100000 in
theorem num_any (u : Nat) (w : World) (hu : u ≤ 18446744073709551615) (htab : Pow10 w) :
    Calls Tryz.prog 28 #[.int .u64 u] w fun e w' => e = .returned (.string (tx (dig u))) ∧ Below w.heap.size w w' := by
  go_enter Tryz.func28, Tryz.ntmps28
  go_wp2_with (fail)
  refine (fmt_any u _ hu htab).mono ?_
  rintro e w1 ⟨rfl, hb1⟩
  go_wp2_with (fail)
  go_returns
  exact ⟨rfl, hb1⟩
theorem conv1 (u : Nat) (w : World) : (convert 30 9 (.slice (some ⟨w.heap.size, 0, none⟩) 1 1)).run Tryz.prog (w.alloc (.cells #[.int .u8 (48 + (u : Int) % 10)] 5)) = .ok (.string (tx [dg1 u])) (w.alloc (.cells #[.int .u8 (48 + (u : Int) % 10)] 5)) := by
  refine run_convert_bytes_back (P := Tryz.prog) (w.alloc (.cells #[.int .u8 (48 + (u : Int) % 10)] 5)) 30 9 5 ⟨w.heap.size, 0, none⟩ 1 [dg1 u] Tryz.underlying30 Tryz.underlying5 Tryz.underlying9 (fun j hj => ?_)
  obtain rfl : j = 0 := by simpa using hj
  rw [Lib.add_plain, World.cell?_alloc_new]
  simp [dg1_nat]
theorem run_add (P : Program) (w : World) (a b : List UInt8) (h : a.length + b.length ≤ 9223372036854775807) : (Op.stringOp .add (tx a) (tx b)).run P w = .ok (.string (tx (a ++ b))) w := by
  rw [run_string_add_sum (P := P) w _ _ (by rw [tx_size, tx_size]; exact h), tx_append]
set_option maxRecDepth 100000 in
theorem digits_any (k : Nat) : ∀ (u : Nat) (w : World), u ≤ k → u ≤ 18446744073709551615 →
    Calls Tryz.prog 32 #[.int .u64 u] w fun e w' => e = .returned (.string (tx (dig u))) ∧ Below w.heap.size w w' := by
  induction k using Nat.strongRecOn with
  | _ k ih =>
    intro u w huk hu
    have hcv := conv1 u w
    have hb0 : Below w.heap.size w (w.alloc (.cells #[.int .u8 (48 + (u : Int) % 10)] 5)) := (Below.refl _ _).alloc (Nat.le_refl _) _
    by_cases h : u < 10
    · have h1 : (u : Int) < 10 := by omega
      go_enter Tryz.func32, Tryz.ntmps32
      go_wp2_with (fail)
      go_returns
      rw [dig_small h]
      exact ⟨rfl, hb0⟩
    · have h1 : ¬ (u : Int) < 10 := by omega
      have hd := dig_big h (by omega)
      have hl := dig_len (n := u / 10) (by omega)
      have hadd : ∀ W, (Op.stringOp .add (tx (dig (u / 10))) (tx [dg1 u])).run Tryz.prog W = .ok (.string (tx (dig u))) W := fun W => by
        rw [hd]; exact run_add _ _ _ _ (by simp; omega)
      have hD := Lib.hid hd
      clear hd
      have hcall := ih (u / 10) (by omega) (u / 10) (w.alloc (.cells #[.int .u8 (48 + (u : Int) % 10)] 5)) (Nat.le_refl _) (by omega)
      have hL := Lib.hid hl
      clear hl
      go_enter Tryz.func32, Tryz.ntmps32
      go_wp2_with (fail)
      refine hcall.mono ?_
      rintro e w1 ⟨rfl, hb1⟩
      go_wp2_with (fail)
      go_returns
      exact ⟨rfl, below_on hb0 hb1 (by simp)⟩
end Go.Proofs.YthangjgdjhhfgaaGreatDoor
