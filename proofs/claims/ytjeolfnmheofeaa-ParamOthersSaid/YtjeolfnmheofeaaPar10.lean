/- Layer 4: the chapter's rows. -/
import Derived.Test.YtjeolfnmheofeaaPar9
namespace Go.Proofs.Ytjeolfnmheofeaa
open Go.RowKit
set_option linter.unusedVariables false
namespace Par
open Var (Byte wf_byte bytes_et)

def row1 : PV := { p0 with f2 := 30000, f7 := 3, C := [10, 11] }
theorem row1_may : mayF row1 = true := by decide
theorem row1_bytes : paramB row1 = [1, 4, 128, 0, 117, 48, 8, 1, 3, 15, 2, 10, 11] := by decide
def row2 : PV := { p0 with f3 := 5 }
theorem row2_take : takeP [15, 0, 33, 2, 0, 0, 4, 1, 5] = some row2 := by kernel_rfl
theorem bad1 : takeP [4, 1, 5, 4, 1, 5] = none := by kernel_rfl
theorem bad2 : takeP [4, 2, 5, 5] = none := by kernel_rfl
theorem bad3 : takeP [14, 1, 1] = none := by kernel_rfl
theorem bad4 : takeP [2, 1, 0] = none := by kernel_rfl
theorem bad5 : takeP [11, 4, 128, 0, 64, 0] = none := by kernel_rfl

theorem alike_symm {p q : PV} (h : Alike p q) : Alike q p := by unfold Alike at h ⊢; rw [h]
theorem row1_str : strOfNums [1, 4, 128, 0, 117, 48, 8, 1, 3, 15, 2, 10, 11] = ⟨#[1, 4, 128, 0, 117, 48, 8, 1, 3, 15, 2, 10, 11]⟩ := by rfl

set_option maxHeartbeats 8000000 in
set_option maxRecDepth 100000 in
theorem known_any (w : World) : Calls Try.prog 21 #[] w fun e w' => e = .returned (.bool true) ∧ Below w.heap.size w w' := by
  have wf : ∀ n : Int, 0 ≤ n → n ≤ 255 → (Lit.int .u8 n).wf = true := fun n h h' => wf_byte ⟨h, h'⟩
  have WF := Lib.hid wf
  clear wf
  have hs1 := Var.sl_new .u8 w 5 [10, 11] _ rfl (by simp; exact ⟨WF.out _ (by omega) (by omega), WF.out _ (by omega) (by omega)⟩) (by simp [maxLen])
  have hok1 : ({ row1 with ca := some ⟨w.heap.size, 0, none⟩, cc := 2 } : PV).ok (w.alloc (.cells ([10, 11].map (Value.int .u8)).toArray 5)) := by
    refine ⟨Sl.nil _ _, hs1, fun k => ?_, ?_⟩
    · unfold PV.num; split <;> simp [row1, p0]
    · intro x hx; simp [PV.tok, row1, p0] at hx; subst hx; exact ⟨by omega, by omega⟩
  have HOK1 := Lib.hid hok1
  clear hs1 hok1
  go_enter Try.func21, Try.ntmps21
  go_wp2_with (fail)
  refine (pappend_any none 0 0 [] { row1 with ca := some ⟨w.heap.size, 0, none⟩, cc := 2 } _ rfl (by simp) (Sl.nil _ _) HOK1.out).mono ?_
  rintro e w2 ⟨hb2, hyes, _⟩
  obtain ⟨a2, c2, rfl, ho2⟩ := hyes row1_may
  have e2 : [] ++ paramB { row1 with ca := some ⟨w.heap.size, 0, none⟩, cc := 2 } = [1, 4, 128, 0, 117, 48, 8, 1, 3, 15, 2, 10, 11] := row1_bytes
  rw [e2] at ho2 ⊢
  have HS2 := Lib.hid (ho2.sl (L := [1, 4, 128, 0, 117, 48, 8, 1, 3, 15, 2, 10, 11]) (by simp; decide)).2
  have k2 : Below w.heap.size w w2 := below_on ((Below.refl _ _).alloc (Nat.le_refl _) _) hb2 (by simp)
  clear hyes ho2 hb2 e2
  go_wp2_with (fail)
  have hwf9 : ∀ n ∈ ([15, 0, 33, 2, 0, 0, 4, 1, 5] : List Int), (Lit.int .u8 n).wf = true := by simp; decide
  refine (ptake_any _ 9 9 [15, 0, 33, 2, 0, 0, 4, 1, 5] _ rfl (by simp) (Var.sl_new .u8 w2 _ [15, 0, 33, 2, 0, 0, 4, 1, 5] _ rfl hwf9 (by simp [maxLen]))).mono ?_
  rintro e w3 ⟨hb3, q, hqok, hyes, _⟩
  obtain ⟨rfl, hal⟩ := hyes row2 row2_take
  have k3 := below_on (k2.alloc k2.size _) hb3 (by have := k2.size; simp; omega)
  have HS3 := Lib.hid ((HS2.out.below ((Below.refl _ _).alloc (Nat.le_refl _) _)).below hb3)
  have HQ := Lib.hid hqok
  have HAL := Lib.hid hal
  clear hyes hqok hal hb3 hwf9
  go_wp2_with (with_reducible refine stop_storep ?_)
  refine Stop.out ?_
  refine wpList_storep rfl rfl rfl rfl (Blk.new w3 p0.vals 46) params_size ?_
  intro w4 hb4 o4
  have k4 : Below w.heap.size w w4 := below_onto (k3.alloc k3.size _) o4 (by have := k3.size; simp; omega) (by intro z hz h; have := k3.size; omega)
  have ba4 : Below w3.heap.size w3 w4 := below_onto ((Below.refl _ _).alloc (Nat.le_refl _) _) o4 (by simp) (by intro z hz h; omega)
  have HS4 := Lib.hid (HS3.out.below ba4)
  have HQ4 := Lib.hid (HQ.out.below ba4)
  have HB4 := Lib.hid hb4
  clear hb4 o4
  go_wp2_with (with_reducible refine Var.stop_bstr ?_)
  refine Stop.out ?_
  refine wpList_str Try.underlying22 Try.underlying5 Try.underlying9 rfl rfl rfl rfl HS4.out.ints ?_
  rw [row1_str]
  go_wp2_with (with_reducible refine stop_ldp ?_)
  refine Stop.out ?_
  refine wpList_loadAll Try.underlying46 params_size rfl rfl rfl HB4.out rfl ?_
  go_wp2_with (fail)
  refine (same_any q row2 _ HQ4.out (by refine ⟨Sl.nil _ _, Sl.nil _ _, fun k => ?_, ?_⟩; (unfold PV.num; split <;> simp [row2, p0]); (intro x hx; simp [PV.tok, row2, p0] at hx; subst hx; exact ⟨by omega, by omega⟩)) (alike_symm HAL.out)).mono ?_
  rintro e w5 ⟨rfl, hb5⟩
  have k5 := below_on k4 hb5 k4.size
  clear HS2 HS3 HS4 HQ HQ4 HAL HB4 hb5 HOK1 k2 k3 k4 ba4
  go_wp2_with (fail)
  have s0 : Sl .u8 ((((((w5.alloc (.cells #[.int .u8 4, .int .u8 1, .int .u8 5, .int .u8 4, .int .u8 1, .int .u8 5] 5)).alloc (.cells #[.int .u8 4, .int .u8 2, .int .u8 5, .int .u8 5] 5)).alloc (.cells #[.int .u8 14, .int .u8 1, .int .u8 1] 5)).alloc (.cells #[.int .u8 2, .int .u8 1, .int .u8 0] 5)).alloc (.cells #[.int .u8 11, .int .u8 4, .int .u8 128, .int .u8 0, .int .u8 64, .int .u8 0] 5)).alloc (.cells #[.slice (some ⟨w5.heap.size, 0, none⟩) 6 6, .slice (some ⟨w5.heap.size + 1, 0, none⟩) 4 4, .slice (some ⟨w5.heap.size + 1 + 1, 0, none⟩) 3 3, .slice (some ⟨w5.heap.size + 1 + 1 + 1, 0, none⟩) 3 3, .slice (some ⟨w5.heap.size + 1 + 1 + 1 + 1, 0, none⟩) 6 6] 22)) (some ⟨w5.heap.size, 0, none⟩) 6 [4, 1, 5, 4, 1, 5] := (sl_new' .u8 w5 5 [4, 1, 5, 4, 1, 5] _ rfl (by simp; decide) (by simp [maxLen]) (by simp)).below ((((((Below.refl _ _).alloc (by simp) _).alloc (by simp) _).alloc (by simp) _).alloc (by simp) _).alloc (by simp) _)
  have s1 : Sl .u8 ((((((w5.alloc (.cells #[.int .u8 4, .int .u8 1, .int .u8 5, .int .u8 4, .int .u8 1, .int .u8 5] 5)).alloc (.cells #[.int .u8 4, .int .u8 2, .int .u8 5, .int .u8 5] 5)).alloc (.cells #[.int .u8 14, .int .u8 1, .int .u8 1] 5)).alloc (.cells #[.int .u8 2, .int .u8 1, .int .u8 0] 5)).alloc (.cells #[.int .u8 11, .int .u8 4, .int .u8 128, .int .u8 0, .int .u8 64, .int .u8 0] 5)).alloc (.cells #[.slice (some ⟨w5.heap.size, 0, none⟩) 6 6, .slice (some ⟨w5.heap.size + 1, 0, none⟩) 4 4, .slice (some ⟨w5.heap.size + 1 + 1, 0, none⟩) 3 3, .slice (some ⟨w5.heap.size + 1 + 1 + 1, 0, none⟩) 3 3, .slice (some ⟨w5.heap.size + 1 + 1 + 1 + 1, 0, none⟩) 6 6] 22)) (some ⟨w5.heap.size + 1, 0, none⟩) 4 [4, 2, 5, 5] := (sl_new' .u8 (w5.alloc (.cells #[.int .u8 4, .int .u8 1, .int .u8 5, .int .u8 4, .int .u8 1, .int .u8 5] 5)) 5 [4, 2, 5, 5] _ rfl (by simp; decide) (by simp [maxLen]) (by simp)).below (((((Below.refl _ _).alloc (by simp) _).alloc (by simp) _).alloc (by simp) _).alloc (by simp) _)
  have s2 : Sl .u8 ((((((w5.alloc (.cells #[.int .u8 4, .int .u8 1, .int .u8 5, .int .u8 4, .int .u8 1, .int .u8 5] 5)).alloc (.cells #[.int .u8 4, .int .u8 2, .int .u8 5, .int .u8 5] 5)).alloc (.cells #[.int .u8 14, .int .u8 1, .int .u8 1] 5)).alloc (.cells #[.int .u8 2, .int .u8 1, .int .u8 0] 5)).alloc (.cells #[.int .u8 11, .int .u8 4, .int .u8 128, .int .u8 0, .int .u8 64, .int .u8 0] 5)).alloc (.cells #[.slice (some ⟨w5.heap.size, 0, none⟩) 6 6, .slice (some ⟨w5.heap.size + 1, 0, none⟩) 4 4, .slice (some ⟨w5.heap.size + 1 + 1, 0, none⟩) 3 3, .slice (some ⟨w5.heap.size + 1 + 1 + 1, 0, none⟩) 3 3, .slice (some ⟨w5.heap.size + 1 + 1 + 1 + 1, 0, none⟩) 6 6] 22)) (some ⟨w5.heap.size + 1 + 1, 0, none⟩) 3 [14, 1, 1] := (sl_new' .u8 ((w5.alloc (.cells #[.int .u8 4, .int .u8 1, .int .u8 5, .int .u8 4, .int .u8 1, .int .u8 5] 5)).alloc (.cells #[.int .u8 4, .int .u8 2, .int .u8 5, .int .u8 5] 5)) 5 [14, 1, 1] _ rfl (by simp; decide) (by simp [maxLen]) (by simp)).below ((((Below.refl _ _).alloc (by simp) _).alloc (by simp) _).alloc (by simp) _)
  have s3 : Sl .u8 ((((((w5.alloc (.cells #[.int .u8 4, .int .u8 1, .int .u8 5, .int .u8 4, .int .u8 1, .int .u8 5] 5)).alloc (.cells #[.int .u8 4, .int .u8 2, .int .u8 5, .int .u8 5] 5)).alloc (.cells #[.int .u8 14, .int .u8 1, .int .u8 1] 5)).alloc (.cells #[.int .u8 2, .int .u8 1, .int .u8 0] 5)).alloc (.cells #[.int .u8 11, .int .u8 4, .int .u8 128, .int .u8 0, .int .u8 64, .int .u8 0] 5)).alloc (.cells #[.slice (some ⟨w5.heap.size, 0, none⟩) 6 6, .slice (some ⟨w5.heap.size + 1, 0, none⟩) 4 4, .slice (some ⟨w5.heap.size + 1 + 1, 0, none⟩) 3 3, .slice (some ⟨w5.heap.size + 1 + 1 + 1, 0, none⟩) 3 3, .slice (some ⟨w5.heap.size + 1 + 1 + 1 + 1, 0, none⟩) 6 6] 22)) (some ⟨w5.heap.size + 1 + 1 + 1, 0, none⟩) 3 [2, 1, 0] := (sl_new' .u8 (((w5.alloc (.cells #[.int .u8 4, .int .u8 1, .int .u8 5, .int .u8 4, .int .u8 1, .int .u8 5] 5)).alloc (.cells #[.int .u8 4, .int .u8 2, .int .u8 5, .int .u8 5] 5)).alloc (.cells #[.int .u8 14, .int .u8 1, .int .u8 1] 5)) 5 [2, 1, 0] _ rfl (by simp; decide) (by simp [maxLen]) (by simp)).below (((Below.refl _ _).alloc (by simp) _).alloc (by simp) _)
  have s4 : Sl .u8 ((((((w5.alloc (.cells #[.int .u8 4, .int .u8 1, .int .u8 5, .int .u8 4, .int .u8 1, .int .u8 5] 5)).alloc (.cells #[.int .u8 4, .int .u8 2, .int .u8 5, .int .u8 5] 5)).alloc (.cells #[.int .u8 14, .int .u8 1, .int .u8 1] 5)).alloc (.cells #[.int .u8 2, .int .u8 1, .int .u8 0] 5)).alloc (.cells #[.int .u8 11, .int .u8 4, .int .u8 128, .int .u8 0, .int .u8 64, .int .u8 0] 5)).alloc (.cells #[.slice (some ⟨w5.heap.size, 0, none⟩) 6 6, .slice (some ⟨w5.heap.size + 1, 0, none⟩) 4 4, .slice (some ⟨w5.heap.size + 1 + 1, 0, none⟩) 3 3, .slice (some ⟨w5.heap.size + 1 + 1 + 1, 0, none⟩) 3 3, .slice (some ⟨w5.heap.size + 1 + 1 + 1 + 1, 0, none⟩) 6 6] 22)) (some ⟨w5.heap.size + 1 + 1 + 1 + 1, 0, none⟩) 6 [11, 4, 128, 0, 64, 0] := (sl_new' .u8 ((((w5.alloc (.cells #[.int .u8 4, .int .u8 1, .int .u8 5, .int .u8 4, .int .u8 1, .int .u8 5] 5)).alloc (.cells #[.int .u8 4, .int .u8 2, .int .u8 5, .int .u8 5] 5)).alloc (.cells #[.int .u8 14, .int .u8 1, .int .u8 1] 5)).alloc (.cells #[.int .u8 2, .int .u8 1, .int .u8 0] 5)) 5 [11, 4, 128, 0, 64, 0] _ rfl (by simp; decide) (by simp [maxLen]) (by simp)).below ((Below.refl _ _).alloc (by simp) _)
  have so : Blk ((((((w5.alloc (.cells #[.int .u8 4, .int .u8 1, .int .u8 5, .int .u8 4, .int .u8 1, .int .u8 5] 5)).alloc (.cells #[.int .u8 4, .int .u8 2, .int .u8 5, .int .u8 5] 5)).alloc (.cells #[.int .u8 14, .int .u8 1, .int .u8 1] 5)).alloc (.cells #[.int .u8 2, .int .u8 1, .int .u8 0] 5)).alloc (.cells #[.int .u8 11, .int .u8 4, .int .u8 128, .int .u8 0, .int .u8 64, .int .u8 0] 5)).alloc (.cells #[.slice (some ⟨w5.heap.size, 0, none⟩) 6 6, .slice (some ⟨w5.heap.size + 1, 0, none⟩) 4 4, .slice (some ⟨w5.heap.size + 1 + 1, 0, none⟩) 3 3, .slice (some ⟨w5.heap.size + 1 + 1 + 1, 0, none⟩) 3 3, .slice (some ⟨w5.heap.size + 1 + 1 + 1 + 1, 0, none⟩) 6 6] 22)) (w5.heap.size + 1 + 1 + 1 + 1 + 1) #[.slice (some ⟨w5.heap.size, 0, none⟩) 6 6, .slice (some ⟨w5.heap.size + 1, 0, none⟩) 4 4, .slice (some ⟨w5.heap.size + 1 + 1, 0, none⟩) 3 3, .slice (some ⟨w5.heap.size + 1 + 1 + 1, 0, none⟩) 3 3, .slice (some ⟨w5.heap.size + 1 + 1 + 1 + 1, 0, none⟩) 6 6] 22 := by
    have := Blk.new (((((w5.alloc (.cells #[.int .u8 4, .int .u8 1, .int .u8 5, .int .u8 4, .int .u8 1, .int .u8 5] 5)).alloc (.cells #[.int .u8 4, .int .u8 2, .int .u8 5, .int .u8 5] 5)).alloc (.cells #[.int .u8 14, .int .u8 1, .int .u8 1] 5)).alloc (.cells #[.int .u8 2, .int .u8 1, .int .u8 0] 5)).alloc (.cells #[.int .u8 11, .int .u8 4, .int .u8 128, .int .u8 0, .int .u8 64, .int .u8 0] 5)) #[.slice (some ⟨w5.heap.size, 0, none⟩) 6 6, .slice (some ⟨w5.heap.size + 1, 0, none⟩) 4 4, .slice (some ⟨w5.heap.size + 1 + 1, 0, none⟩) 3 3, .slice (some ⟨w5.heap.size + 1 + 1 + 1, 0, none⟩) 3 3, .slice (some ⟨w5.heap.size + 1 + 1 + 1 + 1, 0, none⟩) 6 6] 22
    simpa using this
  have kk : Below w5.heap.size w5 ((((((w5.alloc (.cells #[.int .u8 4, .int .u8 1, .int .u8 5, .int .u8 4, .int .u8 1, .int .u8 5] 5)).alloc (.cells #[.int .u8 4, .int .u8 2, .int .u8 5, .int .u8 5] 5)).alloc (.cells #[.int .u8 14, .int .u8 1, .int .u8 1] 5)).alloc (.cells #[.int .u8 2, .int .u8 1, .int .u8 0] 5)).alloc (.cells #[.int .u8 11, .int .u8 4, .int .u8 128, .int .u8 0, .int .u8 64, .int .u8 0] 5)).alloc (.cells #[.slice (some ⟨w5.heap.size, 0, none⟩) 6 6, .slice (some ⟨w5.heap.size + 1, 0, none⟩) 4 4, .slice (some ⟨w5.heap.size + 1 + 1, 0, none⟩) 3 3, .slice (some ⟨w5.heap.size + 1 + 1 + 1, 0, none⟩) 3 3, .slice (some ⟨w5.heap.size + 1 + 1 + 1 + 1, 0, none⟩) 6 6] 22)) := ((((((Below.refl w5.heap.size w5).alloc (by simp) _).alloc (by simp; try omega) _).alloc (by simp; try omega) _).alloc (by simp; try omega) _).alloc (by simp; try omega) _).alloc (by simp; try omega) _
  generalize (((((w5.alloc (.cells #[.int .u8 4, .int .u8 1, .int .u8 5, .int .u8 4, .int .u8 1, .int .u8 5] 5)).alloc (.cells #[.int .u8 4, .int .u8 2, .int .u8 5, .int .u8 5] 5)).alloc (.cells #[.int .u8 14, .int .u8 1, .int .u8 1] 5)).alloc (.cells #[.int .u8 2, .int .u8 1, .int .u8 0] 5)).alloc (.cells #[.int .u8 11, .int .u8 4, .int .u8 128, .int .u8 0, .int .u8 64, .int .u8 0] 5)).alloc (.cells #[.slice (some ⟨w5.heap.size, 0, none⟩) 6 6, .slice (some ⟨w5.heap.size + 1, 0, none⟩) 4 4, .slice (some ⟨w5.heap.size + 1 + 1, 0, none⟩) 3 3, .slice (some ⟨w5.heap.size + 1 + 1 + 1, 0, none⟩) 3 3, .slice (some ⟨w5.heap.size + 1 + 1 + 1 + 1, 0, none⟩) 6 6] 22) = w6 at *
  have k6 := below_on k5 kk k5.size
  have HR : Hid (∀ k : Nat, k < 5 → ∃ (g : Nat) (V : List Int), w6.cell? ⟨w5.heap.size + 1 + 1 + 1 + 1 + 1, k, none⟩ = some (.slice (some ⟨g, 0, none⟩) V.length V.length) ∧ Sl .u8 w6 (some ⟨g, 0, none⟩) V.length V ∧ takeP V = none ∧ V.length ≤ 6) := Lib.hid (fun k hk => by
    rcases (by omega : k = 0 ∨ k = 1 ∨ k = 2 ∨ k = 3 ∨ k = 4) with rfl | rfl | rfl | rfl | rfl
    · exact ⟨_, [4, 1, 5, 4, 1, 5], so.cell 0 _ rfl, s0, bad1, by simp⟩
    · exact ⟨_, [4, 2, 5, 5], so.cell 1 _ rfl, s1, bad2, by simp⟩
    · exact ⟨_, [14, 1, 1], so.cell 2 _ rfl, s2, bad3, by simp⟩
    · exact ⟨_, [2, 1, 0], so.cell 3 _ rfl, s3, bad4, by simp⟩
    · exact ⟨_, [11, 4, 128, 0, 64, 0], so.cell 4 _ rfl, s4, bad5, by simp⟩)
  have hob := so.lt
  clear s0 s1 s2 s3 s4 so kk k5
  go_loopw [6, 7, 8, 44] (fun _ _ _ i wr => ∃ k : Nat, i = .int .i64 k ∧ k ≤ 5 ∧ Below w6.heap.size w6 wr) (fun _ _ _ i _ => 5 - (intOf i).toNat)
  case atStart => exact ⟨0, rfl, by omega, Below.refl _ _⟩
  case round =>
    obtain ⟨k, rfl, hk, kr⟩ := hrel
    by_cases hlt : k < 5
    · obtain ⟨g, V, hc, hs, ht, hl⟩ := HR.out k hlt
      have hc := (kr.cell (p := ⟨w5.heap.size + 1 + 1 + 1 + 1 + 1, k, none⟩) hob).trans hc
      have HSV := Lib.hid (hs.below kr)
      have HT := Lib.hid ht
      clear hs ht
      go_wp2_with (fail)
      refine (ptake_any _ _ _ V _ rfl (by omega) HSV.out).mono ?_
      rintro e w7 ⟨hb7, q, hqok, _, hno⟩
      obtain ⟨rfl, rfl⟩ := hno HT.out
      have k7 := below_on kr hb7 kr.size
      clear hno hqok hb7 hc
      go_wp2_with (with_reducible refine stop_storep ?_)
      refine Stop.out ?_
      refine wpList_storep rfl rfl rfl rfl (Blk.new w7 p0.vals 46) params_size ?_
      intro w8 hb8 o8
      have k8 : Below w6.heap.size w6 w8 := below_onto (k7.alloc k7.size _) o8 (by have := k7.size; simp; omega) (by intro z hz h; have := k7.size; omega)
      have HB8 := Lib.hid hb8
      clear hb8 o8
      go_wp2_with (with_reducible refine stop_ldp ?_)
      refine Stop.out ?_
      refine wpList_loadAll Try.underlying46 params_size rfl rfl rfl HB8.out rfl ?_
      go_wp2_with (fail)
      refine (same_any p0 p0 _ (p0_ok _) (p0_ok _) (alike_refl _)).mono ?_
      rintro e w9 ⟨rfl, hb9⟩
      have k9 := below_on k8 hb9 k8.size
      go_wp2_with (fail)
      exact ⟨⟨k + 1, by go_num, by omega, k9⟩, by simp [intOf]; omega⟩
    · obtain rfl : k = 5 := by omega
      go_wp2_with (fail)
      go_returns
      exact ⟨rfl, below_on k6 kr k6.size⟩

end Par
end Go.Proofs.Ytjeolfnmheofeaa
