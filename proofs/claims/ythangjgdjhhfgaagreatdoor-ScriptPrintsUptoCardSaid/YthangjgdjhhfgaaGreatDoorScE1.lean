/- The document's Form (as in ScD4, without its Unhex). -/
import Derived.Test.YthangjgdjhhfgaaGreatDoorScW8
import Derived.Great.BuildSlice
namespace Go.Proofs.YthangjgdjhhfgaaGreatDoor
open Go.RowKit
set_option linter.unusedVariables false
def wordsR : List (List UInt8) := [[], [100, 105, 97, 108], [115, 116, 97, 114, 116], [119, 114, 105, 116, 101], [102, 105, 110, 105, 115, 104], [100, 114, 111, 112], [114, 101, 97, 100], [114, 101, 102, 117, 115, 101], [117, 112, 100, 97, 116, 101], [99, 108, 111, 115, 101], [115, 101, 110, 100], [100, 101, 108, 105, 118, 101, 114], [108, 111, 115, 101], [100, 111, 117, 98, 108, 101], [116, 117, 114, 110], [105, 110, 106, 101, 99, 116], [116, 105, 99, 107], [98, 111, 111, 116], [99, 114, 97, 115, 104], [102, 114, 101, 101, 122, 101], [115, 97, 118, 101], [116, 104, 97, 119], [97, 100, 111, 112, 116], [99, 108, 97, 105, 109], [108, 111, 111, 107], [116, 111, 114, 110], [109, 111, 118, 101]]
def lettersR : List (List UInt8) := [[], [], [115, 110], [115, 105, 98], [115, 105], [115, 105, 99], [115, 105, 110], [115, 105, 99], [115], [115, 99, 98], [115], [110], [110], [110], [110, 99], [102, 116, 100], [110], [115], [115], [115], [115], [115], [115], [115], [115], [110], []]
def formRV (k : Nat) : Value := if isK k then .tuple #[.string (tx (wordsR.getD k [])), .string (tx (lettersR.getD k [])), .bool true] else .tuple #[.string (tx []), .string (tx []), .bool false]
theorem wordsR_K (k : Nat) (h : isK k = true) : wordsR.getD k [] = wordK k := by
  have : ∀ k : Fin 27, isK k.val = true → wordsR.getD k.val [] = wordK k.val := by decide
  have hk : k < 27 := by simp [isK] at h; omega
  exact this ⟨k, hk⟩ h
section
variable {ops : Array Oper} {rest : List Oper} {o : Oper} {a : Act} {w : World} {Q : Exit → Act → World → Prop}
theorem stop_bss {P : Program} {d : Option Tmp} {n : Nat} {x : Array (Nat × Operand)} {ty : TypeId} {pos : String} {aft : Array Edge} {g : Option (Nat × Bool)}
    (h : Stop (wpList P ops Q (⟨d, .buildSlice 40 n x, ty, pos, aft, g⟩ :: rest) a w)) : wpList P ops Q (⟨d, .buildSlice 40 n x, ty, pos, aft, g⟩ :: rest) a w := h
theorem wpList_bss (hg : o.guard = none) {n : Nat} {parts : Array (Nat × Operand)} (ho : o.op = .buildSlice 40 n parts) (L : List (List UInt8)) (hn : n = L.length) (hn0 : 0 < n) (hn1 : n ≤ 1000)
    (hp : parts.toList = (L.zipIdx 0).map fun x => (x.2, Operand.const (Value.string (tx x.1))))
    (h : wpList Tryz.prog ops Q rest (a.put o.dst (.slice (some ⟨w.heap.size, 0, none⟩) n n)) (w.alloc (.cells (strCs L) 9))) : wpList Tryz.prog ops Q (o :: rest) a w := by
  have hs : (Tryz.prog.info? 9).map (·.size) = some 1 := by kernel_rfl
  have hz : ((Tryz.prog.info? 9).bind (·.zero)).isSome = true := by kernel_rfl
  cases hie : Tryz.prog.info? 9 with
  | none => rw [hie] at hs; cases hs
  | some ie =>
    rw [hie] at hs hz
    simp only [Option.map_some, Option.some.injEq, Option.bind_some] at hs hz
    cases hzz : ie.zero with
    | none => rw [hzz] at hz; cases hz
    | some z =>
      refine wpList_buildSlice hg 40 9 n _ ho (strCs L) ie z (by kernel_rfl) hie hzz (by rw [hs]; omega) (by rw [hs]; omega) ?_ h
      rw [hs]
      have e1 : (parts.map fun (i, x) => (i, a.eval x)).toList = ((L.map fun l => Value.string (tx l)).zipIdx 0).map fun x => (x.2, x.1) := by
        rw [Array.toList_map, hp, List.zipIdx_map, List.map_map, List.map_map]
        rfl
      rw [e1, Great.fill_flat _ _ (fun v hv => by
        obtain ⟨l, _, rfl⟩ := List.mem_map.1 hv
        rfl) (by simp [hn])]
      rfl
end
set_option maxRecDepth 100000 in
set_option maxHeartbeats 8000000 in
theorem rform_any (k : Nat) (w : World) (hk : k ≤ 255) :
    Calls Tryz.prog 18 #[.int .u8 k] w fun x w' => x = .returned (formRV k) ∧ Below w.heap.size w w' := by
  by_cases hi : isK k = true
  · have h1 : 1 ≤ k ∧ k ≤ 26 := by simpa [isK] using hi
    rw [show formRV k = .tuple #[.string (tx (wordsR.getD k [])), .string (tx (lettersR.getD k [])), .bool true] from if_pos hi]
    obtain ⟨wk, hwk⟩ : ∃ x, wordsR.getD k [] = x := ⟨_, rfl⟩
    obtain ⟨lk, hlk⟩ : ∃ x, lettersR.getD k [] = x := ⟨_, rfl⟩
    rw [hwk, hlk]
    have HW := Lib.hid hwk
    have HL := Lib.hid hlk
    have d1 : ¬ (k : Int) < 1 := by omega
    have d2 : ¬ (27 : Int) ≤ (k : Int) := by omega
    clear hwk hlk
    go_enter Tryz.func18, Tryz.ntmps18
    go_wp2_with (with_reducible refine stop_bss ?_)
    refine Stop.out ?_
    refine wpList_bss rfl rfl wordsR rfl (by decide) (by decide) rfl ?_
    have hb1 := Blk.new w (strCs wordsR) 9
    have bb1 : Below w.heap.size w (w.alloc (.cells (strCs wordsR) 9)) := (Below.refl _ _).alloc (Nat.le_refl _) _
    obtain ⟨w1, hw1⟩ : ∃ w1, w.alloc (.cells (strCs wordsR) 9) = w1 := ⟨_, rfl⟩
    rw [hw1] at hb1 bb1 ⊢
    clear hw1
    go_wp2_with (with_reducible refine stop_bss ?_)
    refine Stop.out ?_
    refine wpList_bss rfl rfl lettersR rfl (by decide) (by decide) rfl ?_
    have hb2 := Blk.new w1 (strCs lettersR) 9
    have bb2 : Below w1.heap.size w1 (w1.alloc (.cells (strCs lettersR) 9)) := (Below.refl _ _).alloc (Nat.le_refl _) _
    obtain ⟨w2, hw2⟩ : ∃ w2, w1.alloc (.cells (strCs lettersR) 9) = w2 := ⟨_, rfl⟩
    rw [hw2] at hb2 bb2 ⊢
    clear hw2
    have B2 := Lib.hid (below_on bb1 bb2 bb1.size)
    have hb1' := hb1.below bb2
    clear hb1 bb1 bb2
    have c1 := hb1'.cell k _ (strCs_get wordsR k (by show k < 27; omega))
    have c2 := hb2.cell k _ (strCs_get lettersR k (by show k < 27; omega))
    rw [HW.out] at c1
    rw [HL.out] at c2
    have l1 := hb1'.lt
    have l2 := hb2.lt
    have hqk : decide (27 ≤ k) = false := by simp; omega
    clear hb1' hb2
    go_wp2_with (fail)
    refine rg_start 11 ?_
    refine rg_same fun p hx hne hC => ?_
    refine rg_quiet 0 [0,1,2,3,4,5,6,7,8,9,10] hC ?_
    simp only [pickD, List.map_cons, List.map_nil, List.getD_cons_zero, List.getD_cons_succ]; repeat (go_big_quiet_step (fail))
    refine wpQuiet_nil ?_
    refine rg_end ?_
    clear hx hne hC
    go_wp2_with (fail)
    go_returns
    exact ⟨rfl, B2.out.drew⟩
  · rw [show formRV k = .tuple #[.string (tx []), .string (tx []), .bool false] from if_neg hi]
    have hc : k < 1 ∨ 27 ≤ k := by
      have : ¬ (1 ≤ k ∧ k ≤ 26) := fun h => hi (by simpa [isK] using h)
      omega
    go_enter Tryz.func18, Tryz.ntmps18
    go_wp2_with (with_reducible refine stop_bss ?_)
    refine Stop.out ?_
    refine wpList_bss rfl rfl wordsR rfl (by decide) (by decide) rfl ?_
    have hb1 := Blk.new w (strCs wordsR) 9
    have bb1 : Below w.heap.size w (w.alloc (.cells (strCs wordsR) 9)) := (Below.refl _ _).alloc (Nat.le_refl _) _
    obtain ⟨w1, hw1⟩ : ∃ w1, w.alloc (.cells (strCs wordsR) 9) = w1 := ⟨_, rfl⟩
    rw [hw1] at hb1 bb1 ⊢
    clear hw1
    go_wp2_with (with_reducible refine stop_bss ?_)
    refine Stop.out ?_
    refine wpList_bss rfl rfl lettersR rfl (by decide) (by decide) rfl ?_
    have hb2 := Blk.new w1 (strCs lettersR) 9
    have bb2 : Below w1.heap.size w1 (w1.alloc (.cells (strCs lettersR) 9)) := (Below.refl _ _).alloc (Nat.le_refl _) _
    obtain ⟨w2, hw2⟩ : ∃ w2, w1.alloc (.cells (strCs lettersR) 9) = w2 := ⟨_, rfl⟩
    rw [hw2] at hb2 bb2 ⊢
    clear hw2
    have B2 := Lib.hid (below_on bb1 bb2 bb1.size)
    have hb1' := hb1.below bb2
    clear hb1 bb1 bb2
    clear hb1' hb2
    rcases hc with hc | hc
    · have d1 : (k : Int) < 1 := by omega
      go_wp2_with (fail)
      go_returns
      exact ⟨rfl, B2.out⟩
    · have d1 : ¬ (k : Int) < 1 := by omega
      have d2 : (27 : Int) ≤ (k : Int) := by omega
      go_wp2_with (fail)
      go_returns
      exact ⟨rfl, B2.out⟩
end Go.Proofs.YthangjgdjhhfgaaGreatDoor
