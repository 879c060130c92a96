/- The chapter's rows. -/
import Derived.Test.YtcpjehgoeibbeaaFrMi
import Derived.Test.YtcpjehgoeibbeaaFrMj
import Derived.Lib.SlBytesConst
namespace Go.Proofs.Ytcpjehgoeibbeaa
open Go.RowKit
set_option linter.unusedVariables false
namespace Frm
open Var
section
variable {ops : Array Oper} {rest : List Oper} {o : Oper} {a : Act} {w : World} {Q : Exit → Act → World → Prop}
theorem fill_60 (zs c1 c2 : Array Value) (h : zs.size = 60) (h1 : c1.size = 30) (h2 : c2.size = 30) : Instr.fill (fun i => some (i * 30, 30)) zs [(0, .agg c1), (1, .agg c2)] = some (c1 ++ c2) := by
  have := Great.fill_whole (s := 30) (by omega) [.agg c1, .agg c2] zs (fun v hv => by
    simp only [List.mem_cons, List.not_mem_nil, or_false] at hv
    rcases hv with rfl | rfl
    · exact h1
    · exact h2) (by rw [h]; rfl)
  rw [List.flatMap_cons, List.flatMap_cons, List.flatMap_nil, List.append_nil] at this
  rw [show [((0 : Nat), Value.agg c1), (1, .agg c2)] = _ from rfl]
  have e : c1 ++ c2 = (c1.toList ++ c2.toList).toArray := by apply Array.ext'; simp
  rw [e]
  simpa [Value.cells] using this
theorem wpList_bsf2 (hg : o.guard = none) {x y : Operand} (ho : o.op = .buildSlice 22 2 #[(0, x), (1, y)]) {c1 c2 : Array Value} (hx : a.eval x = .agg c1) (hy : a.eval y = .agg c2) (h1 : c1.size = 30) (h2 : c2.size = 30)
    (hz : ((Try.prog.info? 36).bind (·.zero)).isSome = true)
    (h : wpList Try.prog ops Q rest (a.put o.dst (.slice (some ⟨w.heap.size, 0, none⟩) 2 2)) (w.alloc (.cells (c1 ++ c2) 36))) : wpList Try.prog ops Q (o :: rest) a w := by
  have hs := fr_size
  cases hie : Try.prog.info? 36 with
  | none => rw [hie] at hs; cases hs
  | some ie =>
    rw [hie] at hs hz
    simp only [Option.map_some, Option.some.injEq, Option.bind_some] at hs hz
    cases hzz : ie.zero with
    | none => rw [hzz] at hz; cases hz
    | some z =>
      refine wpList_buildSlice hg 22 36 2 _ ho _ ie z (by kernel_rfl) hie hzz (by omega) (by omega) ?_ h
      rw [hs]
      have hl : ((#[((0 : Nat), x), (1, y)] : Array (Nat × Operand)).map fun (i, x) => (i, a.eval x)).toList = [((0 : Nat), Value.agg c1), (1, .agg c2)] := by simp [hx, hy]
      rw [hl]
      exact fill_60 _ _ _ (by simp) h1 h2
end
theorem cell_mark (w : World) (C : Array Value) (t : TypeId) (fr : Nat × Nat) (j : Nat) : (w.alloc (.cells C t fr)).cell? ⟨w.heap.size, j, none⟩ = C[j]? := by
  have : (w.alloc (.cells C t fr)).heap[w.heap.size]? = some (.cells C t fr) := by
    show (w.heap.push (.cells C t fr))[w.heap.size]? = _
    simp
  simp only [World.cell?, this]
  rfl
theorem sl_mark (w : World) (T : TypeId) (L : List Int) (fr : Nat × Nat) (hw : ∀ n ∈ L, (Lit.int .u8 n).wf = true) (hl : L.length ≤ 1000) : Sl .u8 (w.alloc (.cells (L.map (Value.int .u8)).toArray T fr)) (some ⟨w.heap.size, 0, none⟩) L.length L := by
  refine ⟨fun i hi => ⟨w.heap.size, 0, rfl, by simp, ?_, hw _ (by simp [hi])⟩, (fun h => nomatch h), Nat.le_refl _, by unfold maxLen; omega⟩
  rw [Nat.zero_add, cell_mark]
  simp [hi, List.getD_eq_getElem?_getD]
theorem conv_at (W : World) (A : Array Value) (C : Array Value) (n : Nat) : (convert 23 23 (.slice (some ⟨W.heap.size + 1, 0, none⟩) n n)).run Try.prog ((W.alloc (.cells A 5)).alloc (.cells C 5)) = .ok (.slice (some ⟨W.heap.size + 1, 0, none⟩) n n) ((W.alloc (.cells A 5)).alloc (.cells C 5 (C.size, C.size + 1))) := by
  have := Lib.run_convert_bytes_const (P := Try.prog) (W.alloc (.cells A 5)) 23 5 C n n Try.underlying23 Try.underlying5
  rwa [World.size_alloc] at this
/-- A slice of frames that was just made. -/
theorem fs_new (w : World) (L : List FM) (cs : Array Value) (hc : cs = (cellsF L).toArray) (n : Nat) (hn : n = L.length) (hl : n ≤ 100) (h16 : ∀ p ∈ L, p.f.tok.length = 16) : OwnS (w.alloc (.cells cs 36)) w.heap.size 36 30 (some ⟨w.heap.size, 0, none⟩) n n (cellsF L) := by
  have := OwnS.new w w.heap.size (Nat.le_refl _) 36 30 n cs (by unfold maxLen; omega) (by rw [hc, hn]; simp [cellsF_length h16])
  rw [hc] at this ⊢
  exact this
theorem frok_1 : FrOk { fr0 0 with n := 2 } := { fr0_ok 0 (by omega) with n := ⟨by decide, by decide⟩ }
theorem frok_2 : FrOk { fr0 2 with acks := [(3, 7), (8, 11)], delay := 5 } := { fr0_ok 2 (by omega) with
  acks := by
    intro r hr
    simp only [List.mem_cons, List.not_mem_nil, or_false] at hr
    rcases hr with rfl | rfl <;> exact ⟨⟨by decide, by decide⟩, ⟨by decide, by decide⟩⟩
  delay := ⟨by decide, by decide⟩ }
theorem frok_3 : FrOk { fr0 8 with id := 4, off := 2, fin := true, data := [120] } := { fr0_ok 8 (by omega) with
  id := ⟨by decide, by decide⟩
  off := ⟨by decide, by decide⟩
  data := by
    intro r hr
    simp only [List.mem_cons, List.not_mem_nil, or_false] at hr
    subst hr
    exact ⟨by decide, by decide⟩ }
theorem frok_4 : FrOk { fr0 8 with id := 4, off := 2, fin := false, data := [120, 121] } := { fr0_ok 8 (by omega) with
  id := ⟨by decide, by decide⟩
  off := ⟨by decide, by decide⟩
  data := by
    intro r hr
    simp only [List.mem_cons, List.not_mem_nil, or_false] at hr
    rcases hr with rfl | rfl <;> exact ⟨by decide, by decide⟩ }
theorem lst_1 : listF [0, 0, 1] = some [{ fr0 0 with n := 2 }, fr0 1] := by kernel_rfl
theorem lst_2 : listF [2, 10, 5, 1, 2, 0, 3] = some [{ fr0 2 with acks := [(3, 7), (8, 11)], delay := 5 }] := by kernel_rfl
theorem lst_3 : listF [15, 4, 2, 1, 120] = some [{ fr0 8 with id := 4, off := 2, fin := true, data := [120] }] := by kernel_rfl
theorem lst_4 : listF [12, 4, 2, 120, 121] = some [{ fr0 8 with id := 4, off := 2, fin := false, data := [120, 121] }] := by kernel_rfl
theorem bad_1 : listF [31] = none := by kernel_rfl
theorem bad_2 : listF [2, 1, 0, 0, 2] = none := by kernel_rfl
theorem bad_3 : listF [7, 0] = none := by kernel_rfl
theorem bad_4 : listF [64, 1] = none := by kernel_rfl
theorem bad_5 : listF [] = none := rfl
set_option maxHeartbeats 8000000 in
set_option maxRecDepth 100000 in
theorem known_any (w : World) : Calls Try.prog 6 #[] w fun e w' => e = .returned (.bool true) ∧ Below w.heap.size w w' := by
  have hc3 : ∀ W : World, (convert 23 23 (.slice (some ⟨W.heap.size + 1, 0, none⟩) 1 1)).run Try.prog ((W.alloc (.cells #[.int .u8 15, .int .u8 4, .int .u8 2, .int .u8 1, .int .u8 120] 5)).alloc (.cells #[.int .u8 120] 5)) = .ok (.slice (some ⟨W.heap.size + 1, 0, none⟩) 1 1) ((W.alloc (.cells #[.int .u8 15, .int .u8 4, .int .u8 2, .int .u8 1, .int .u8 120] 5)).alloc (.cells #[.int .u8 120] 5 (1, 2))) := fun W => conv_at W _ _ 1
  have hc4 : ∀ W : World, (convert 23 23 (.slice (some ⟨W.heap.size + 1, 0, none⟩) 2 2)).run Try.prog ((W.alloc (.cells #[.int .u8 12, .int .u8 4, .int .u8 2, .int .u8 120, .int .u8 121] 5)).alloc (.cells #[.int .u8 120, .int .u8 121] 5)) = .ok (.slice (some ⟨W.heap.size + 1, 0, none⟩) 2 2) ((W.alloc (.cells #[.int .u8 12, .int .u8 4, .int .u8 2, .int .u8 120, .int .u8 121] 5)).alloc (.cells #[.int .u8 120, .int .u8 121] 5 (2, 3))) := fun W => conv_at W _ _ 2
  go_enter Try.func6, Try.ntmps6
  go_wp2_with (with_reducible refine stop_bsf ?_)
  refine Stop.out ?_
  -- row 1
  have s1 := sl_new .u8 w 5 [0, 0, 1] _ rfl (by simp; decide) (by simp [maxLen])
  have k1 := (Below.refl w.heap.size w).alloc (Nat.le_refl _) (.cells ([0, 0, 1].map (Value.int .u8)).toArray 5)
  obtain ⟨w1, hw1⟩ : ∃ w1, w.alloc (.cells ([0, 0, 1].map (Value.int .u8)).toArray 5) = w1 := ⟨_, rfl⟩
  rw [hw1] at s1 k1
  have S1 := Lib.hid s1
  have K1 := Lib.hid k1
  rw [show w.alloc (.cells #[.int .u8 0, .int .u8 0, .int .u8 1] 5) = w1 from hw1]
  clear s1 k1 hw1
  refine wpList_bsf2 rfl rfl (c1 := ((fm0 0).setN 2).vals) (c2 := (fm0 1).vals) rfl rfl rfl rfl (by kernel_rfl) ?_
  have f1 := fs_new w1 [(fm0 0).setN 2, fm0 1] (((fm0 0).setN 2).vals ++ (fm0 1).vals) rfl 2 rfl (by decide) (by intro p hp; simp at hp; rcases hp with rfl | rfl <;> rfl)
  have k2 := (Below.refl w1.heap.size w1).alloc (Nat.le_refl _) (.cells (((fm0 0).setN 2).vals ++ (fm0 1).vals) 36)
  obtain ⟨w2, hw2⟩ : ∃ w2, w1.alloc (.cells (((fm0 0).setN 2).vals ++ (fm0 1).vals) 36) = w2 := ⟨_, rfl⟩
  rw [hw2] at f1 k2 ⊢
  have F1 := Lib.hid f1
  have K2 := Lib.hid k2
  clear f1 k2 hw2
  go_wp2_with (with_reducible refine stop_bsf ?_)
  refine Stop.out ?_
  -- row 2
  have s3 := sl_new .u8 w2 5 [2, 10, 5, 1, 2, 0, 3] _ rfl (by simp; decide) (by simp [maxLen])
  have k3 := (Below.refl w2.heap.size w2).alloc (Nat.le_refl _) (.cells ([2, 10, 5, 1, 2, 0, 3].map (Value.int .u8)).toArray 5)
  have z3 : (w2.alloc (.cells ([2, 10, 5, 1, 2, 0, 3].map (Value.int .u8)).toArray 5)).heap.size = w2.heap.size + 1 := by simp
  obtain ⟨w3, hw3⟩ : ∃ w3, w2.alloc (.cells ([2, 10, 5, 1, 2, 0, 3].map (Value.int .u8)).toArray 5) = w3 := ⟨_, rfl⟩
  rw [hw3] at s3 k3 z3
  rw [show w2.alloc (.cells #[.int .u8 2, .int .u8 10, .int .u8 5, .int .u8 1, .int .u8 2, .int .u8 0, .int .u8 3] 5) = w3 from hw3]
  have r4 := OwnS.new w3 w3.heap.size (Nat.le_refl _) 55 2 2 #[.int .u64 3, .int .u64 7, .int .u64 8, .int .u64 11] (by simp [maxLen]) rfl
  have k4 := (Below.refl w3.heap.size w3).alloc (Nat.le_refl _) (.cells #[.int .u64 3, .int .u64 7, .int .u64 8, .int .u64 11] 55)
  obtain ⟨w4, hw4⟩ : ∃ w4, w3.alloc (.cells #[.int .u64 3, .int .u64 7, .int .u64 8, .int .u64 11] 55) = w4 := ⟨_, rfl⟩
  rw [hw4] at r4 k4 ⊢
  have rs4 : Rs w4 (some ⟨w3.heap.size, 0, none⟩) 2 [((3 : Int), (7 : Int)), (8, 11)] := (OwnS.rs (L := [((3 : Int), (7 : Int)), (8, 11)]) r4 (by intro r hr; simp at hr; rcases hr with rfl | rfl <;> (dsimp only; omega))).2
  rw [z3] at rs4
  have S3 := Lib.hid s3
  have K3 := Lib.hid k3
  have K4 := Lib.hid k4
  have RS4 := Lib.hid rs4
  obtain ⟨x2, hx2⟩ : ∃ x2 : FM, x2 = { f := { fr0 2 with acks := [(3, 7), (8, 11)], delay := 5 }, da := none, dc := 0, ca := none, cc := 0, aa := some ⟨w2.heap.size + 1, 0, none⟩, ac := 2 } := ⟨_, rfl⟩
  have X2 := Lib.hid hx2
  clear s3 k3 z3 r4 k4 rs4 hw3 hw4
  refine wpList_bsf rfl rfl (cs := x2.vals) (by rw [hx2]; rfl) (by rw [hx2]; rfl) (by kernel_rfl) ?_
  have f5 := fs_new w4 [x2] x2.vals (by rw [cellsF_one]; rfl) 1 rfl (by decide) (by intro p hp; simp at hp; rw [hp, hx2]; rfl)
  have k5 := (Below.refl w4.heap.size w4).alloc (Nat.le_refl _) (.cells x2.vals 36)
  obtain ⟨w5, hw5⟩ : ∃ w5, w4.alloc (.cells x2.vals 36) = w5 := ⟨_, rfl⟩
  rw [hw5] at f5 k5 ⊢
  have F5 := Lib.hid f5
  have K5 := Lib.hid k5
  clear f5 k5 hw5 hx2
  go_wp2_with (with_reducible refine stop_bsf ?_)
  refine Stop.out ?_
  -- row 3
  have s6 := sl_new .u8 w5 5 [15, 4, 2, 1, 120] _ rfl (by simp; decide) (by simp [maxLen])
  have k6 := (Below.refl w5.heap.size w5).alloc (Nat.le_refl _) (.cells ([15, 4, 2, 1, 120].map (Value.int .u8)).toArray 5)
  have z6 : (w5.alloc (.cells ([15, 4, 2, 1, 120].map (Value.int .u8)).toArray 5)).heap.size = w5.heap.size + 1 := by simp
  obtain ⟨w6, hw6⟩ : ∃ z, w5.alloc (.cells ([15, 4, 2, 1, 120].map (Value.int .u8)).toArray 5) = z := ⟨_, rfl⟩
  rw [hw6] at s6 k6 z6
  rw [show w5.alloc (.cells #[.int .u8 15, .int .u8 4, .int .u8 2, .int .u8 1, .int .u8 120] 5) = w6 from hw6]
  have s7 := sl_mark w6 5 [120] (1, 1 + 1) (by simp; decide) (by simp)
  have k7 := (Below.refl w6.heap.size w6).alloc (Nat.le_refl _) (.cells ([120].map (Value.int .u8)).toArray 5 (1, 1 + 1))
  obtain ⟨w7, hw7⟩ : ∃ z, w6.alloc (.cells ([120].map (Value.int .u8)).toArray 5 (1, 1 + 1)) = z := ⟨_, rfl⟩
  rw [hw7] at s7 k7
  rw [show w6.alloc (.cells #[.int .u8 120] 5 (1, 2)) = w7 from hw7]
  rw [z6] at s7
  have S6 := Lib.hid s6
  have S7 := Lib.hid s7
  have K6 := Lib.hid k6
  have K7 := Lib.hid k7
  obtain ⟨x3, hx3⟩ : ∃ x : FM, x = { f := { fr0 8 with id := 4, off := 2, fin := true, data := [120] }, da := some ⟨w5.heap.size + 1, 0, none⟩, dc := 1, ca := none, cc := 0, aa := none, ac := 0 } := ⟨_, rfl⟩
  have X3 := Lib.hid hx3
  clear s6 k6 z6 s7 k7 hw6 hw7
  refine wpList_bsf rfl rfl (cs := x3.vals) (by rw [hx3]; rfl) (by rw [hx3]; rfl) (by kernel_rfl) ?_
  have f8 := fs_new w7 [x3] x3.vals (by rw [cellsF_one]; rfl) 1 rfl (by decide) (by intro p hp; simp at hp; rw [hp, hx3]; rfl)
  have k8 := (Below.refl w7.heap.size w7).alloc (Nat.le_refl _) (.cells x3.vals 36)
  obtain ⟨w8, hw8⟩ : ∃ z, w7.alloc (.cells x3.vals 36) = z := ⟨_, rfl⟩
  rw [hw8] at f8 k8 ⊢
  have F8 := Lib.hid f8
  have K8 := Lib.hid k8
  clear f8 k8 hw8 hx3
  go_wp2_with (with_reducible refine stop_bsf ?_)
  refine Stop.out ?_
  -- row 4
  have s9 := sl_new .u8 w8 5 [12, 4, 2, 120, 121] _ rfl (by simp; decide) (by simp [maxLen])
  have k9 := (Below.refl w8.heap.size w8).alloc (Nat.le_refl _) (.cells ([12, 4, 2, 120, 121].map (Value.int .u8)).toArray 5)
  have z9 : (w8.alloc (.cells ([12, 4, 2, 120, 121].map (Value.int .u8)).toArray 5)).heap.size = w8.heap.size + 1 := by simp
  obtain ⟨w9, hw9⟩ : ∃ z, w8.alloc (.cells ([12, 4, 2, 120, 121].map (Value.int .u8)).toArray 5) = z := ⟨_, rfl⟩
  rw [hw9] at s9 k9 z9
  rw [show w8.alloc (.cells #[.int .u8 12, .int .u8 4, .int .u8 2, .int .u8 120, .int .u8 121] 5) = w9 from hw9]
  have s10 := sl_mark w9 5 [120, 121] (2, 2 + 1) (by simp; decide) (by simp)
  have k10 := (Below.refl w9.heap.size w9).alloc (Nat.le_refl _) (.cells ([120, 121].map (Value.int .u8)).toArray 5 (2, 2 + 1))
  obtain ⟨w10, hw10⟩ : ∃ z, w9.alloc (.cells ([120, 121].map (Value.int .u8)).toArray 5 (2, 2 + 1)) = z := ⟨_, rfl⟩
  rw [hw10] at s10 k10
  rw [show w9.alloc (.cells #[.int .u8 120, .int .u8 121] 5 (2, 3)) = w10 from hw10]
  rw [z9] at s10
  have S9 := Lib.hid s9
  have S10 := Lib.hid s10
  have K9 := Lib.hid k9
  have K10 := Lib.hid k10
  obtain ⟨x4, hx4⟩ : ∃ x : FM, x = { f := { fr0 8 with id := 4, off := 2, fin := false, data := [120, 121] }, da := some ⟨w8.heap.size + 1, 0, none⟩, dc := 2, ca := none, cc := 0, aa := none, ac := 0 } := ⟨_, rfl⟩
  have X4 := Lib.hid hx4
  clear s9 k9 z9 s10 k10 hw9 hw10
  refine wpList_bsf rfl rfl (cs := x4.vals) (by rw [hx4]; rfl) (by rw [hx4]; rfl) (by kernel_rfl) ?_
  have f11 := fs_new w10 [x4] x4.vals (by rw [cellsF_one]; rfl) 1 rfl (by decide) (by intro p hp; simp at hp; rw [hp, hx4]; rfl)
  have k11 := (Below.refl w10.heap.size w10).alloc (Nat.le_refl _) (.cells x4.vals 36)
  obtain ⟨w11, hw11⟩ : ∃ z, w10.alloc (.cells x4.vals 36) = z := ⟨_, rfl⟩
  rw [hw11] at f11 k11 ⊢
  have F11 := Lib.hid f11
  have K11 := Lib.hid k11
  clear f11 k11 hw11 hx4
  have okA : ∀ p ∈ [(fm0 0).setN 2, fm0 1], p.ok w2 := by
    intro p hp
    simp only [List.mem_cons, List.not_mem_nil, or_false] at hp
    rcases hp with rfl | rfl
    · exact ⟨frok_1, Sl.nil _ _, Sl.nil _ _, Rs.nil _⟩
    · exact ⟨fr0_ok 1 (by omega), Sl.nil _ _, Sl.nil _ _, Rs.nil _⟩
  have okB : ∀ p ∈ [x2], p.ok w5 := by
    intro p hp
    rw [List.mem_singleton] at hp
    subst hp
    rw [X2.out]
    exact ⟨frok_2, Sl.nil _ _, Sl.nil _ _, RS4.out.below K5.out⟩
  have okC : ∀ p ∈ [x3], p.ok w8 := by
    intro p hp
    rw [List.mem_singleton] at hp
    subst hp
    rw [X3.out]
    exact ⟨frok_3, S7.out.below K8.out, Sl.nil _ _, Rs.nil _⟩
  have okD : ∀ p ∈ [x4], p.ok w11 := by
    intro p hp
    rw [List.mem_singleton] at hp
    subst hp
    rw [X4.out]
    exact ⟨frok_4, S10.out.below K11.out, Sl.nil _ _, Rs.nil _⟩
  have OKA := Lib.hid okA
  have OKB := Lib.hid okB
  have OKC := Lib.hid okC
  have OKD := Lib.hid okD
  have XE2 := Lib.hid (show [x2].map FM.f = [{ fr0 2 with acks := [(3, 7), (8, 11)], delay := 5 }] by rw [X2.out]; rfl)
  have XE3 := Lib.hid (show [x3].map FM.f = [{ fr0 8 with id := 4, off := 2, fin := true, data := [120] }] by rw [X3.out]; rfl)
  have XE4 := Lib.hid (show [x4].map FM.f = [{ fr0 8 with id := 4, off := 2, fin := false, data := [120, 121] }] by rw [X4.out]; rfl)
  have XE1 := Lib.hid (show [(fm0 0).setN 2, fm0 1].map FM.f = [{ fr0 0 with n := 2 }, fr0 1] from rfl)
  clear okA okB okC okD
  go_wp2_with (fail)
  have rw_ := Blk.new w11 #[.slice (some ⟨w.heap.size, 0, none⟩) 3 3, .slice (some ⟨w1.heap.size, 0, none⟩) 2 2, .slice (some ⟨w2.heap.size, 0, none⟩) 7 7, .slice (some ⟨w4.heap.size, 0, none⟩) 1 1, .slice (some ⟨w5.heap.size, 0, none⟩) 5 5, .slice (some ⟨w7.heap.size, 0, none⟩) 1 1, .slice (some ⟨w8.heap.size, 0, none⟩) 5 5, .slice (some ⟨w10.heap.size, 0, none⟩) 1 1] 53
  have B11 := (Below.refl w11.heap.size w11).alloc (Nat.le_refl _) (.cells #[.slice (some ⟨w.heap.size, 0, none⟩) 3 3, .slice (some ⟨w1.heap.size, 0, none⟩) 2 2, .slice (some ⟨w2.heap.size, 0, none⟩) 7 7, .slice (some ⟨w4.heap.size, 0, none⟩) 1 1, .slice (some ⟨w5.heap.size, 0, none⟩) 5 5, .slice (some ⟨w7.heap.size, 0, none⟩) 1 1, .slice (some ⟨w8.heap.size, 0, none⟩) 5 5, .slice (some ⟨w10.heap.size, 0, none⟩) 1 1] 53)
  obtain ⟨wt, hwt⟩ : ∃ z, w11.alloc (.cells #[.slice (some ⟨w.heap.size, 0, none⟩) 3 3, .slice (some ⟨w1.heap.size, 0, none⟩) 2 2, .slice (some ⟨w2.heap.size, 0, none⟩) 7 7, .slice (some ⟨w4.heap.size, 0, none⟩) 1 1, .slice (some ⟨w5.heap.size, 0, none⟩) 5 5, .slice (some ⟨w7.heap.size, 0, none⟩) 1 1, .slice (some ⟨w8.heap.size, 0, none⟩) 5 5, .slice (some ⟨w10.heap.size, 0, none⟩) 1 1] 53) = z := ⟨_, rfl⟩
  rw [hwt] at rw_ B11 ⊢
  clear hwt
  have B10 := below_on K11.out B11 K11.out.size
  have B9 := below_on K10.out B10 K10.out.size
  have B8 := below_on K9.out B9 K9.out.size
  have B7 := below_on K8.out B8 K8.out.size
  have B6 := below_on K7.out B7 K7.out.size
  have B5 := below_on K6.out B6 K6.out.size
  have B4 := below_on K5.out B5 K5.out.size
  have B3 := below_on K4.out B4 K4.out.size
  have B2 := below_on K3.out B3 K3.out.size
  have B1 := below_on K2.out B2 K2.out.size
  have BW := Lib.hid (below_on K1.out B1 K1.out.size)
  have ROW := Lib.hid rw_
  have TS1 := Lib.hid (S1.out.below B1)
  have TS3 := Lib.hid (S3.out.below B3)
  have TS6 := Lib.hid (S6.out.below B6)
  have TS9 := Lib.hid (S9.out.below B9)
  have GF1 := Lib.hid ((fs_of F1.out OKA.out).2.below B2)
  have GF5 := Lib.hid ((fs_of F5.out OKB.out).2.below B5)
  have GF8 := Lib.hid ((fs_of F8.out OKC.out).2.below B8)
  have GF11 := Lib.hid ((fs_of F11.out OKD.out).2.below B11)
  clear rw_ B1 B2 B3 B4 B5 B6 B7 B8 B9 B10 B11 K1 K2 K3 K4 K5 K6 K7 K8 K9 K10 K11
  refine wp_loop_rounds 5 ?_
  have Z0 := Lib.hid (Below.refl wt.heap.size wt)
  have q0 : wt.cell? ⟨w11.heap.size, 0, none⟩ = some (.slice (some ⟨w.heap.size, 0, none⟩) 3 3) := (Z0.out.cell (Blk.lt ROW.out)).trans (Blk.cell ROW.out 0 _ rfl)
  have q1 : wt.cell? ⟨w11.heap.size, 1, none⟩ = some (.slice (some ⟨w1.heap.size, 0, none⟩) 2 2) := (Z0.out.cell (Blk.lt ROW.out)).trans (Blk.cell ROW.out 1 _ rfl)
  rw [rounds_succ]
  go_wp2_with (fail)
  clear q0 q1
  have ba := (Below.refl wt.heap.size wt).alloc (Nat.le_refl _) (.cells #[.slice (some ⟨w.heap.size, 0, none⟩) 3 3, .slice (some ⟨w1.heap.size, 0, none⟩) 2 2] 53)
  have bt := Blk.new wt #[.slice (some ⟨w.heap.size, 0, none⟩) 3 3, .slice (some ⟨w1.heap.size, 0, none⟩) 2 2] 53
  obtain ⟨va0, hva⟩ : ∃ z, wt.alloc (.cells #[.slice (some ⟨w.heap.size, 0, none⟩) 3 3, .slice (some ⟨w1.heap.size, 0, none⟩) 2 2] 53) = z := ⟨_, rfl⟩
  rw [hva] at ba bt ⊢
  have BA0 := Lib.hid ba
  have BT0 := Lib.hid bt
  have TT0 := Lib.hid ((TS1.out.below Z0.out).below ba)
  have ZA0 := Lib.hid (below_on Z0.out ba Z0.out.size)
  clear ba bt hva
  refine (list_frame _ 3 3 [0, 0, 1] _ rfl TT0.out (by decide)).mono ?_
  rintro e vb0 ⟨hb, hy, _⟩
  obtain ⟨ps, a', c', m, rfl, hps, hm, hfs, hsm⟩ := hy _ lst_1
  obtain rfl : m = 2 := by rw [hm.out, ← List.length_map (f := FM.f), hps.out]; rfl
  have cw : vb0.cell? ⟨wt.heap.size, 1, none⟩ = some (.slice (some ⟨w1.heap.size, 0, none⟩) 2 2) := Blk.cell (Blk.below BT0.out hb) 1 _ rfl
  have ZB0 := Lib.hid (below_on ZA0.out hb ZA0.out.size)
  clear hy hb
  go_wp2_with (fail)
  refine (sameall_yes a' _ 2 c' 2 ps [(fm0 0).setN 2, fm0 1] vb0 hm.out hfs.out (GF1.out.below ZB0.out) (hps.out.trans XE1.out.symm) (fun p hp => by
    have h1 := (hsm.out p hp)
    have h2 : p.f ∈ ps.map FM.f := List.mem_map.2 ⟨p, hp, rfl⟩
    rw [hps.out] at h2
    refine ⟨h1.d, ?_, h1.a⟩
    simp only [List.mem_cons, List.not_mem_nil, or_false] at h2
    rcases h2 with h2 | h2 <;> (rw [h2]; decide)) (by decide)).mono ?_
  rintro e vc0 ⟨rfl, hb2⟩
  have Z1 := Lib.hid (below_on ZB0.out hb2 ZB0.out.size)
  clear hb2 cw hps hm hfs hsm
  go_wp2_with (fail)
  have q2 : vc0.cell? ⟨w11.heap.size, 2, none⟩ = some (.slice (some ⟨w2.heap.size, 0, none⟩) 7 7) := (Z1.out.cell (Blk.lt ROW.out)).trans (Blk.cell ROW.out 2 _ rfl)
  have q3 : vc0.cell? ⟨w11.heap.size, 3, none⟩ = some (.slice (some ⟨w4.heap.size, 0, none⟩) 1 1) := (Z1.out.cell (Blk.lt ROW.out)).trans (Blk.cell ROW.out 3 _ rfl)
  rw [rounds_succ]
  go_wp2_with (fail)
  clear q2 q3
  have ba := (Below.refl vc0.heap.size vc0).alloc (Nat.le_refl _) (.cells #[.slice (some ⟨w2.heap.size, 0, none⟩) 7 7, .slice (some ⟨w4.heap.size, 0, none⟩) 1 1] 53)
  have bt := Blk.new vc0 #[.slice (some ⟨w2.heap.size, 0, none⟩) 7 7, .slice (some ⟨w4.heap.size, 0, none⟩) 1 1] 53
  obtain ⟨va1, hva⟩ : ∃ z, vc0.alloc (.cells #[.slice (some ⟨w2.heap.size, 0, none⟩) 7 7, .slice (some ⟨w4.heap.size, 0, none⟩) 1 1] 53) = z := ⟨_, rfl⟩
  rw [hva] at ba bt ⊢
  have BA1 := Lib.hid ba
  have BT1 := Lib.hid bt
  have TT1 := Lib.hid ((TS3.out.below Z1.out).below ba)
  have ZA1 := Lib.hid (below_on Z1.out ba Z1.out.size)
  clear ba bt hva
  refine (list_frame _ 7 7 [2, 10, 5, 1, 2, 0, 3] _ rfl TT1.out (by decide)).mono ?_
  rintro e vb1 ⟨hb, hy, _⟩
  obtain ⟨ps, a', c', m, rfl, hps, hm, hfs, hsm⟩ := hy _ lst_2
  obtain rfl : m = 1 := by rw [hm.out, ← List.length_map (f := FM.f), hps.out]; rfl
  have cw : vb1.cell? ⟨vc0.heap.size, 1, none⟩ = some (.slice (some ⟨w4.heap.size, 0, none⟩) 1 1) := Blk.cell (Blk.below BT1.out hb) 1 _ rfl
  have ZB1 := Lib.hid (below_on ZA1.out hb ZA1.out.size)
  clear hy hb
  go_wp2_with (fail)
  refine (sameall_yes a' _ 1 c' 1 ps [x2] vb1 hm.out hfs.out (GF5.out.below ZB1.out) (hps.out.trans XE2.out.symm) (fun p hp => by
    have h1 := (hsm.out p hp)
    have h2 : p.f ∈ ps.map FM.f := List.mem_map.2 ⟨p, hp, rfl⟩
    rw [hps.out] at h2
    refine ⟨h1.d, ?_, h1.a⟩
    simp only [List.mem_cons, List.not_mem_nil, or_false] at h2
    rw [h2]; decide) (by decide)).mono ?_
  rintro e vc1 ⟨rfl, hb2⟩
  have Z2 := Lib.hid (below_on ZB1.out hb2 ZB1.out.size)
  clear hb2 cw hps hm hfs hsm
  go_wp2_with (fail)
  have q4 : vc1.cell? ⟨w11.heap.size, 4, none⟩ = some (.slice (some ⟨w5.heap.size, 0, none⟩) 5 5) := (Z2.out.cell (Blk.lt ROW.out)).trans (Blk.cell ROW.out 4 _ rfl)
  have q5 : vc1.cell? ⟨w11.heap.size, 5, none⟩ = some (.slice (some ⟨w7.heap.size, 0, none⟩) 1 1) := (Z2.out.cell (Blk.lt ROW.out)).trans (Blk.cell ROW.out 5 _ rfl)
  rw [rounds_succ]
  go_wp2_with (fail)
  clear q4 q5
  have ba := (Below.refl vc1.heap.size vc1).alloc (Nat.le_refl _) (.cells #[.slice (some ⟨w5.heap.size, 0, none⟩) 5 5, .slice (some ⟨w7.heap.size, 0, none⟩) 1 1] 53)
  have bt := Blk.new vc1 #[.slice (some ⟨w5.heap.size, 0, none⟩) 5 5, .slice (some ⟨w7.heap.size, 0, none⟩) 1 1] 53
  obtain ⟨va2, hva⟩ : ∃ z, vc1.alloc (.cells #[.slice (some ⟨w5.heap.size, 0, none⟩) 5 5, .slice (some ⟨w7.heap.size, 0, none⟩) 1 1] 53) = z := ⟨_, rfl⟩
  rw [hva] at ba bt ⊢
  have BA2 := Lib.hid ba
  have BT2 := Lib.hid bt
  have TT2 := Lib.hid ((TS6.out.below Z2.out).below ba)
  have ZA2 := Lib.hid (below_on Z2.out ba Z2.out.size)
  clear ba bt hva
  refine (list_frame _ 5 5 [15, 4, 2, 1, 120] _ rfl TT2.out (by decide)).mono ?_
  rintro e vb2 ⟨hb, hy, _⟩
  obtain ⟨ps, a', c', m, rfl, hps, hm, hfs, hsm⟩ := hy _ lst_3
  obtain rfl : m = 1 := by rw [hm.out, ← List.length_map (f := FM.f), hps.out]; rfl
  have cw : vb2.cell? ⟨vc1.heap.size, 1, none⟩ = some (.slice (some ⟨w7.heap.size, 0, none⟩) 1 1) := Blk.cell (Blk.below BT2.out hb) 1 _ rfl
  have ZB2 := Lib.hid (below_on ZA2.out hb ZA2.out.size)
  clear hy hb
  go_wp2_with (fail)
  refine (sameall_yes a' _ 1 c' 1 ps [x3] vb2 hm.out hfs.out (GF8.out.below ZB2.out) (hps.out.trans XE3.out.symm) (fun p hp => by
    have h1 := (hsm.out p hp)
    have h2 : p.f ∈ ps.map FM.f := List.mem_map.2 ⟨p, hp, rfl⟩
    rw [hps.out] at h2
    refine ⟨h1.d, ?_, h1.a⟩
    simp only [List.mem_cons, List.not_mem_nil, or_false] at h2
    rw [h2]; decide) (by decide)).mono ?_
  rintro e vc2 ⟨rfl, hb2⟩
  have Z3 := Lib.hid (below_on ZB2.out hb2 ZB2.out.size)
  clear hb2 cw hps hm hfs hsm
  go_wp2_with (fail)
  have q6 : vc2.cell? ⟨w11.heap.size, 6, none⟩ = some (.slice (some ⟨w8.heap.size, 0, none⟩) 5 5) := (Z3.out.cell (Blk.lt ROW.out)).trans (Blk.cell ROW.out 6 _ rfl)
  have q7 : vc2.cell? ⟨w11.heap.size, 7, none⟩ = some (.slice (some ⟨w10.heap.size, 0, none⟩) 1 1) := (Z3.out.cell (Blk.lt ROW.out)).trans (Blk.cell ROW.out 7 _ rfl)
  rw [rounds_succ]
  go_wp2_with (fail)
  clear q6 q7
  have ba := (Below.refl vc2.heap.size vc2).alloc (Nat.le_refl _) (.cells #[.slice (some ⟨w8.heap.size, 0, none⟩) 5 5, .slice (some ⟨w10.heap.size, 0, none⟩) 1 1] 53)
  have bt := Blk.new vc2 #[.slice (some ⟨w8.heap.size, 0, none⟩) 5 5, .slice (some ⟨w10.heap.size, 0, none⟩) 1 1] 53
  obtain ⟨va3, hva⟩ : ∃ z, vc2.alloc (.cells #[.slice (some ⟨w8.heap.size, 0, none⟩) 5 5, .slice (some ⟨w10.heap.size, 0, none⟩) 1 1] 53) = z := ⟨_, rfl⟩
  rw [hva] at ba bt ⊢
  have BA3 := Lib.hid ba
  have BT3 := Lib.hid bt
  have TT3 := Lib.hid ((TS9.out.below Z3.out).below ba)
  have ZA3 := Lib.hid (below_on Z3.out ba Z3.out.size)
  clear ba bt hva
  refine (list_frame _ 5 5 [12, 4, 2, 120, 121] _ rfl TT3.out (by decide)).mono ?_
  rintro e vb3 ⟨hb, hy, _⟩
  obtain ⟨ps, a', c', m, rfl, hps, hm, hfs, hsm⟩ := hy _ lst_4
  obtain rfl : m = 1 := by rw [hm.out, ← List.length_map (f := FM.f), hps.out]; rfl
  have cw : vb3.cell? ⟨vc2.heap.size, 1, none⟩ = some (.slice (some ⟨w10.heap.size, 0, none⟩) 1 1) := Blk.cell (Blk.below BT3.out hb) 1 _ rfl
  have ZB3 := Lib.hid (below_on ZA3.out hb ZA3.out.size)
  clear hy hb
  go_wp2_with (fail)
  refine (sameall_yes a' _ 1 c' 1 ps [x4] vb3 hm.out hfs.out (GF11.out.below ZB3.out) (hps.out.trans XE4.out.symm) (fun p hp => by
    have h1 := (hsm.out p hp)
    have h2 : p.f ∈ ps.map FM.f := List.mem_map.2 ⟨p, hp, rfl⟩
    rw [hps.out] at h2
    refine ⟨h1.d, ?_, h1.a⟩
    simp only [List.mem_cons, List.not_mem_nil, or_false] at h2
    rw [h2]; decide) (by decide)).mono ?_
  rintro e vc3 ⟨rfl, hb2⟩
  have Z4 := Lib.hid (below_on ZB3.out hb2 ZB3.out.size)
  clear hb2 cw hps hm hfs hsm
  go_wp2_with (fail)
  rw [rounds_succ]
  go_wp2_with (fail)
  have s1 := sl_new .u8 vc3 5 ([31] : List Int) _ rfl (by simp; decide) (by simp [maxLen])
  have k1 := (Below.refl vc3.heap.size vc3).alloc (Nat.le_refl _) (.cells (([31] : List Int).map (Value.int .u8)).toArray 5)
  have z1 : (vc3.alloc (.cells (([31] : List Int).map (Value.int .u8)).toArray 5)).heap.size = vc3.heap.size + 1 := by simp
  obtain ⟨u1, hu1⟩ : ∃ z, vc3.alloc (.cells (([31] : List Int).map (Value.int .u8)).toArray 5) = z := ⟨_, rfl⟩
  rw [hu1] at s1 k1 z1
  rw [show vc3.alloc (.cells #[.int .u8 31] 5) = u1 from hu1]
  have SS1 := Lib.hid s1
  have KK1 := Lib.hid k1
  clear s1 k1 hu1
  have s2 := sl_new .u8 u1 5 ([2, 1, 0, 0, 2] : List Int) _ rfl (by simp; decide) (by simp [maxLen])
  have k2 := (Below.refl u1.heap.size u1).alloc (Nat.le_refl _) (.cells (([2, 1, 0, 0, 2] : List Int).map (Value.int .u8)).toArray 5)
  have z2 : (u1.alloc (.cells (([2, 1, 0, 0, 2] : List Int).map (Value.int .u8)).toArray 5)).heap.size = vc3.heap.size + 1 + 1 := by simp [z1]
  obtain ⟨u2, hu2⟩ : ∃ z, u1.alloc (.cells (([2, 1, 0, 0, 2] : List Int).map (Value.int .u8)).toArray 5) = z := ⟨_, rfl⟩
  rw [hu2] at s2 k2 z2
  rw [show u1.alloc (.cells #[.int .u8 2, .int .u8 1, .int .u8 0, .int .u8 0, .int .u8 2] 5) = u2 from hu2]
  rw [z1] at s2
  have SS2 := Lib.hid s2
  have KK2 := Lib.hid k2
  clear s2 k2 hu2
  have s3 := sl_new .u8 u2 5 ([7, 0] : List Int) _ rfl (by simp; decide) (by simp [maxLen])
  have k3 := (Below.refl u2.heap.size u2).alloc (Nat.le_refl _) (.cells (([7, 0] : List Int).map (Value.int .u8)).toArray 5)
  have z3 : (u2.alloc (.cells (([7, 0] : List Int).map (Value.int .u8)).toArray 5)).heap.size = vc3.heap.size + 1 + 1 + 1 := by simp [z2]
  obtain ⟨u3, hu3⟩ : ∃ z, u2.alloc (.cells (([7, 0] : List Int).map (Value.int .u8)).toArray 5) = z := ⟨_, rfl⟩
  rw [hu3] at s3 k3 z3
  rw [show u2.alloc (.cells #[.int .u8 7, .int .u8 0] 5) = u3 from hu3]
  rw [z2] at s3
  have SS3 := Lib.hid s3
  have KK3 := Lib.hid k3
  clear s3 k3 hu3
  have s4 := sl_new .u8 u3 5 ([64, 1] : List Int) _ rfl (by simp; decide) (by simp [maxLen])
  have k4 := (Below.refl u3.heap.size u3).alloc (Nat.le_refl _) (.cells (([64, 1] : List Int).map (Value.int .u8)).toArray 5)
  have z4 : (u3.alloc (.cells (([64, 1] : List Int).map (Value.int .u8)).toArray 5)).heap.size = vc3.heap.size + 1 + 1 + 1 + 1 := by simp [z3]
  obtain ⟨u4, hu4⟩ : ∃ z, u3.alloc (.cells (([64, 1] : List Int).map (Value.int .u8)).toArray 5) = z := ⟨_, rfl⟩
  rw [hu4] at s4 k4 z4
  rw [show u3.alloc (.cells #[.int .u8 64, .int .u8 1] 5) = u4 from hu4]
  rw [z3] at s4
  have SS4 := Lib.hid s4
  have KK4 := Lib.hid k4
  clear s4 k4 hu4
  have s5 := sl_new .u8 u4 5 ([] : List Int) _ rfl (by simp) (by simp [maxLen])
  have k5 := (Below.refl u4.heap.size u4).alloc (Nat.le_refl _) (.cells (([] : List Int).map (Value.int .u8)).toArray 5)
  have z5 : (u4.alloc (.cells (([] : List Int).map (Value.int .u8)).toArray 5)).heap.size = vc3.heap.size + 1 + 1 + 1 + 1 + 1 := by simp [z4]
  obtain ⟨u5, hu5⟩ : ∃ z, u4.alloc (.cells (([] : List Int).map (Value.int .u8)).toArray 5) = z := ⟨_, rfl⟩
  rw [hu5] at s5 k5 z5
  rw [show u4.alloc (.cells #[] 5) = u5 from hu5]
  rw [z4] at s5
  have SS5 := Lib.hid s5
  have KK5 := Lib.hid k5
  clear s5 k5 hu5
  have rw2 := Blk.new u5 #[.slice (some ⟨vc3.heap.size, 0, none⟩) 1 1, .slice (some ⟨vc3.heap.size + 1, 0, none⟩) 5 5, .slice (some ⟨vc3.heap.size + 1 + 1, 0, none⟩) 2 2, .slice (some ⟨vc3.heap.size + 1 + 1 + 1, 0, none⟩) 2 2, .slice (some ⟨vc3.heap.size + 1 + 1 + 1 + 1, 0, none⟩) 0 0] 23
  have k6 := (Below.refl u5.heap.size u5).alloc (Nat.le_refl _) (.cells #[.slice (some ⟨vc3.heap.size, 0, none⟩) 1 1, .slice (some ⟨vc3.heap.size + 1, 0, none⟩) 5 5, .slice (some ⟨vc3.heap.size + 1 + 1, 0, none⟩) 2 2, .slice (some ⟨vc3.heap.size + 1 + 1 + 1, 0, none⟩) 2 2, .slice (some ⟨vc3.heap.size + 1 + 1 + 1 + 1, 0, none⟩) 0 0] 23)
  obtain ⟨u6, hu6⟩ : ∃ z, u5.alloc (.cells #[.slice (some ⟨vc3.heap.size, 0, none⟩) 1 1, .slice (some ⟨vc3.heap.size + 1, 0, none⟩) 5 5, .slice (some ⟨vc3.heap.size + 1 + 1, 0, none⟩) 2 2, .slice (some ⟨vc3.heap.size + 1 + 1 + 1, 0, none⟩) 2 2, .slice (some ⟨vc3.heap.size + 1 + 1 + 1 + 1, 0, none⟩) 0 0] 23) = z := ⟨_, rfl⟩
  rw [hu6] at rw2 k6 ⊢
  rw [z5] at rw2
  have ROW2 := Lib.hid rw2
  have C5 := k6
  have C4 := below_on KK5.out C5 KK5.out.size
  have C3 := below_on KK4.out C4 KK4.out.size
  have C2 := below_on KK3.out C3 KK3.out.size
  have C1 := below_on KK2.out C2 KK2.out.size
  have C0 := below_on KK1.out C1 KK1.out.size
  have TS1 := Lib.hid (SS1.out.below C1)
  have TS2 := Lib.hid (SS2.out.below C2)
  have TS3 := Lib.hid (SS3.out.below C3)
  have TS4 := Lib.hid (SS4.out.below C4)
  have TS5 := Lib.hid (SS5.out.below C5)
  have Y0 := Lib.hid (below_on Z4.out C0 Z4.out.size)
  have P0 := Lib.hid (Below.refl u6.heap.size u6)
  clear rw2 k6 hu6 C0 C1 C2 C3 C4 C5 z1 z2 z3 z4 z5
  refine wp_loop_rounds 6 ?_
  have q : u6.cell? ⟨vc3.heap.size + 1 + 1 + 1 + 1 + 1, 0, none⟩ = some (.slice (some ⟨vc3.heap.size, 0, none⟩) 1 1) := (P0.out.cell (Blk.lt ROW2.out)).trans (Blk.cell ROW2.out 0 _ rfl)
  rw [rounds_succ]
  go_wp2_with (fail)
  clear q
  refine (list_frame _ 1 1 ([31] : List Int) _ rfl (TS1.out.below P0.out) (by decide)).mono ?_
  rintro e ub1 ⟨hb, _, hno⟩
  obtain rfl := hno bad_1
  have P1 := Lib.hid (below_on P0.out hb P0.out.size)
  have Y1 := Lib.hid (below_on Y0.out hb Y0.out.size)
  clear hb hno
  go_wp2_with (fail)
  have q : ub1.cell? ⟨vc3.heap.size + 1 + 1 + 1 + 1 + 1, 1, none⟩ = some (.slice (some ⟨vc3.heap.size + 1, 0, none⟩) 5 5) := (P1.out.cell (Blk.lt ROW2.out)).trans (Blk.cell ROW2.out 1 _ rfl)
  rw [rounds_succ]
  go_wp2_with (fail)
  clear q
  refine (list_frame _ 5 5 ([2, 1, 0, 0, 2] : List Int) _ rfl (TS2.out.below P1.out) (by decide)).mono ?_
  rintro e ub2 ⟨hb, _, hno⟩
  obtain rfl := hno bad_2
  have P2 := Lib.hid (below_on P1.out hb P1.out.size)
  have Y2 := Lib.hid (below_on Y1.out hb Y1.out.size)
  clear hb hno
  go_wp2_with (fail)
  have q : ub2.cell? ⟨vc3.heap.size + 1 + 1 + 1 + 1 + 1, 2, none⟩ = some (.slice (some ⟨vc3.heap.size + 1 + 1, 0, none⟩) 2 2) := (P2.out.cell (Blk.lt ROW2.out)).trans (Blk.cell ROW2.out 2 _ rfl)
  rw [rounds_succ]
  go_wp2_with (fail)
  clear q
  refine (list_frame _ 2 2 ([7, 0] : List Int) _ rfl (TS3.out.below P2.out) (by decide)).mono ?_
  rintro e ub3 ⟨hb, _, hno⟩
  obtain rfl := hno bad_3
  have P3 := Lib.hid (below_on P2.out hb P2.out.size)
  have Y3 := Lib.hid (below_on Y2.out hb Y2.out.size)
  clear hb hno
  go_wp2_with (fail)
  have q : ub3.cell? ⟨vc3.heap.size + 1 + 1 + 1 + 1 + 1, 3, none⟩ = some (.slice (some ⟨vc3.heap.size + 1 + 1 + 1, 0, none⟩) 2 2) := (P3.out.cell (Blk.lt ROW2.out)).trans (Blk.cell ROW2.out 3 _ rfl)
  rw [rounds_succ]
  go_wp2_with (fail)
  clear q
  refine (list_frame _ 2 2 ([64, 1] : List Int) _ rfl (TS4.out.below P3.out) (by decide)).mono ?_
  rintro e ub4 ⟨hb, _, hno⟩
  obtain rfl := hno bad_4
  have P4 := Lib.hid (below_on P3.out hb P3.out.size)
  have Y4 := Lib.hid (below_on Y3.out hb Y3.out.size)
  clear hb hno
  go_wp2_with (fail)
  have q : ub4.cell? ⟨vc3.heap.size + 1 + 1 + 1 + 1 + 1, 4, none⟩ = some (.slice (some ⟨vc3.heap.size + 1 + 1 + 1 + 1, 0, none⟩) 0 0) := (P4.out.cell (Blk.lt ROW2.out)).trans (Blk.cell ROW2.out 4 _ rfl)
  rw [rounds_succ]
  go_wp2_with (fail)
  clear q
  refine (list_frame _ 0 0 ([] : List Int) _ rfl (TS5.out.below P4.out) (by decide)).mono ?_
  rintro e ub5 ⟨hb, _, hno⟩
  obtain rfl := hno bad_5
  have P5 := Lib.hid (below_on P4.out hb P4.out.size)
  have Y5 := Lib.hid (below_on Y4.out hb Y4.out.size)
  clear hb hno
  go_wp2_with (fail)
  rw [rounds_succ]
  go_wp2_with (fail)
  go_returns
  exact ⟨rfl, below_on BW.out Y5.out BW.out.size⟩
end Frm
end Go.Proofs.Ytcpjehgoeibbeaa
