/- Layer 4: one parameter's bytes. -/
import Derived.Test.YtjeolfnmheofeaaPar3
namespace Go.Proofs.Ytjeolfnmheofeaa
open Go.RowKit
set_option linter.unusedVariables false
namespace Par
open Var (Byte enc encs enc_length enc_bytes size_le wf_byte bytes_et Fits append_any rshort_any)

/-- A parameter's bytes. -/
def pb (id : Int) (V : List Int) : List Int := id :: (enc V.length ++ V)
theorem pb_encs (id : Int) (V : List Int) (h0 : 0 ≤ id) (h : id ≤ 63) (X : List Int) : X ++ encs [id, V.length] ++ V = X ++ pb id V := by
  have he : enc id = [id] := by
    unfold enc
    have hc : Var.classF id = 0 := by unfold Var.classF; rw [if_pos h]
    rw [hc]
    rfl
  simp [encs, he, pb]
theorem pb_len (id : Int) (V : List Int) : (pb id V).length ≤ V.length + 9 := by
  have := enc_length (V.length : Int) (by omega)
  have := size_le (V.length : Int)
  simp [pb]; omega
theorem pb_bytes (id : Int) (V : List Int) (h0 : 0 ≤ id) (h : id ≤ 63) (hV : ∀ x ∈ V, Byte x) : ∀ x ∈ pb id V, Byte x := by
  intro x hx
  rcases List.mem_cons.1 hx with rfl | hx
  · exact ⟨h0, by omega⟩
  · rcases List.mem_append.1 hx with hx | hx
    · exact enc_bytes _ (by omega) x hx
    · exact hV x hx

set_option maxHeartbeats 2000000 in
theorem one_any (id : Int) (a : Option Addr) (n cap : Nat) (V : List Int) (w : World) (hn : n = V.length) (h0 : 0 ≤ id) (h1 : id ≤ 63) (hsz : V.length ≤ 1073741824) (hV : Sl .u8 w a cap V) :
    Calls Try.prog 53 #[.int .i64 id, .slice a n cap] w fun e w' => ∃ a' cap', e = .returned (.slice a' (pb id V).length cap') ∧ OwnS w' w.heap.size 5 1 a' (pb id V).length cap' ((pb id V).map (Value.int .u8)) ∧ Below w.heap.size w w' := by
  subst hn
  have hel2 : (enc V.length).length ≤ 8 := by rw [enc_length (V.length : Int) (by omega)]; exact size_le _
  have HV := Lib.hid hV
  clear hV
  go_enter Try.func53, Try.ntmps53
  have ho0 := OwnS.new w w.heap.size (Nat.le_refl _) 5 1 1 #[.int .u8 id] (by simp [maxLen]) rfl
  go_wp2_with (fail)
  refine (rshort_any V.length _ (by omega) (by omega)).mono ?_
  rintro e w2 ⟨a2, cap2, rfl, ho2, hb2⟩
  have ho0 := ho0.below hb2
  have hs2 := (ho2.sl (L := enc V.length) (fun x hx => wf_byte (enc_bytes _ (by omega) x hx))).2
  have k2 : Below w.heap.size w w2 := below_on ((Below.refl _ _).alloc (Nat.le_refl _) _) hb2 (by simp)
  have z2 := k2.size
  clear ho2 hb2
  go_wp2_with (at_builtin; refine Stop.mk ?_)
  refine Stop.out ?_
  refine wpList_app bytes_et rfl rfl rfl rfl ho0 hs2.src (by unfold maxLen; omega) (by omega) z2 ?_
  intro a3 cap3 w3 ho3 hon3 hat3
  have k3 : Below w.heap.size w w3 := below_onto k2 hon3 z2 (by rintro z hz ⟨y, hy, rfl⟩; have := (ho0.block hy).1; omega)
  have z3 := k3.size
  clear hon3 hat3 hs2 ho0
  go_wp2_with (at_builtin; refine Stop.mk ?_)
  refine Stop.out ?_
  refine wpList_app bytes_et rfl rfl rfl rfl ho3 (HV.out.below k3).src (by unfold maxLen; omega) (by omega) z3 ?_
  intro a4 cap4 w4 ho4 hon4 hat4
  have k4 : Below w.heap.size w w4 := below_onto k3 hon4 z3 (by rintro z hz ⟨y, hy, rfl⟩; have := (ho3.block hy).1; omega)
  have hlen : 1 + (enc V.length).length + V.length = (pb id V).length := by simp [pb]; omega
  rw [hlen] at ho4 ⊢
  have HO := Lib.hid ho4
  clear ho4 ho3 hon4 hat4
  go_wp2_with (fail)
  go_returns
  exact ⟨a4, cap4, rfl, by simpa [pb] using HO.out, k4⟩

theorem only_onto {S T : Nat → Prop} {w w1 w2 : World} (h : Only S w w1) (h2 : Only T w1 w2) (ht : ∀ k, k < w.heap.size → T k → S k) : Only S w w2 :=
  ⟨h2.os.trans h.os, h2.tape.trans h.tape, h2.output.trans h.output, Nat.le_trans h.size h2.size, fun k hk hs => (h2.block k (Nat.lt_of_lt_of_le hk h.size) (fun t => hs (ht k hk t))).trans (h.block k hk hs)⟩
/-- The closure 'put' of Append: a parameter goes behind what stands in the cell. -/
structure OutAt (w : World) (base q : Nat) (X : List Int) : Prop where
  ex : ∃ oa oc, Blk w q #[.slice oa X.length oc] 22 ∧ OwnS w base 5 1 oa X.length oc (X.map (Value.int .u8)) ∧ ∀ y, oa = some y → y.block ≠ q
  by_ : ∀ x ∈ X, Byte x

set_option maxHeartbeats 2000000 in
theorem put_any (id : Int) (a : Option Addr) (n cap : Nat) (V X : List Int) (base q : Nat) (w : World) (hn : n = V.length) (h0 : 0 ≤ id) (h1 : id ≤ 63) (hsz : X.length + V.length ≤ 1073741824) (hV : Sl .u8 w a cap V) (hX : OutAt w base q X) (hbase : base ≤ w.heap.size) (hq : q < w.heap.size) (haq : ∀ y, a = some y → y.block ≠ q) :
    Calls Try.prog 47 #[.int .u64 id, .slice a n cap, .pointer (some ⟨q, 0, none⟩)] w fun e w' => e = .returned (.tuple #[]) ∧ OutAt w' base q (X ++ pb id V) ∧ Only (· = q) w w' := by
  subst hn
  obtain ⟨⟨oa, oc, hbq, ho, hoq⟩, hXb⟩ := hX
  have hVb := Var.sl_byte hV
  have hcq := hbq.cell 0 (.slice oa X.length oc) rfl
  have hfq := hbq.free 0
  have hsX := Lib.hid (ho.sl (L := X) (fun x hx => wf_byte (hXb x hx))).2
  have HV := Lib.hid hV
  have HQ := Lib.hid hbq
  have HOQ := Lib.hid hoq
  have HAQ := Lib.hid haq
  have HXB := Lib.hid hXb
  have HVB := Lib.hid hVb
  have hwn : ∀ m ∈ [id, (V.length : Int)], (Lit.int .u64 m).wf = true := by
    intro m hm
    simp at hm
    rcases hm with rfl | rfl <;> exact WalkArith.wf_u64 (by omega)
  have HWN := Lib.hid hwn
  clear hV hbq hoq ho haq hXb hVb hwn
  go_enter Try.func47, Try.ntmps47
  go_wp2_with (fail)
  have kA : Below w.heap.size w (w.alloc (.cells #[.int .u64 id, .int .u64 V.length] 24)) := (Below.refl _ _).alloc (Nat.le_refl _) _
  refine (append_any oa _ oc X _ 2 2 [id, V.length] _ rfl rfl (by simp; omega) (hsX.out.below kA) (Var.sl_new .u64 w _ [id, V.length] _ rfl HWN.out (by simp [maxLen]))).mono ?_
  rintro e w2 ⟨hb2, h2, _⟩
  obtain ⟨a2, cap2, rfl, ho2⟩ := h2 (by simp [Fits]; omega)
  have k2 : Below w.heap.size w w2 := below_on kA hb2 (by simp)
  have z2 := k2.size
  have hq2 := HQ.out.below k2
  have hc2 := hq2.cell 0 (.slice oa X.length oc) rfl
  have hf2 := hq2.free 0
  have HQ2 := Lib.hid hq2
  have HO2 := Lib.hid (ho2.base_le (base' := w.heap.size) (by simp))
  clear h2 ho2 hb2 hq2 hcq hfq
  go_wp2_with (at_builtin; refine Stop.mk ?_)
  refine Stop.out ?_
  have ho2 := HO2.out
  rw [List.length_append] at ho2
  have hon : Only (· = q) w2 (w2.setCell ⟨q, 0, none⟩ (.slice a2 (X.length + (encs [id, V.length]).length) cap2)) := (Only.refl _ _).set 0 _
  have hb3 : Blk (w2.setCell ⟨q, 0, none⟩ (.slice a2 (X.length + (encs [id, V.length]).length) cap2)) q #[.slice a2 (X.length + (encs [id, V.length]).length) cap2] 22 := HQ2.out.set 0 _
  have ho3 := ho2.only hon (fun x hx h => by have := (ho2.block hx).1; omega)
  have hv3 := (HV.out.below k2).only hon (fun x hx _ h => HAQ.out x hx h)
  have hel : (encs [id, V.length]).length ≤ 16 := by
    have := Var.encs_len [id, (V.length : Int)] (by simp; omega)
    simpa using this
  have o3 : Only (· = q) w (w2.setCell ⟨q, 0, none⟩ (.slice a2 (X.length + (encs [id, V.length]).length) cap2)) := (only_of_below k2 _).set 0 _
  generalize w2.setCell ⟨q, 0, none⟩ (.slice a2 (X.length + (encs [id, V.length]).length) cap2) = w3 at *
  have z3 := o3.size
  refine wpList_app bytes_et rfl rfl rfl rfl ho3 hv3.src (by unfold maxLen; omega) (by omega) z3 ?_
  intro a4 cap4 w4 ho4 hon4 hat4
  have ho4 : OwnS w4 w.heap.size 5 1 a4 (X ++ pb id V).length cap4 ((X ++ pb id V).map (Value.int .u8)) := by
    rw [← List.map_append, pb_encs id V h0 h1 X] at ho4
    have e := congrArg List.length (pb_encs id V h0 h1 X)
    simp only [List.length_append] at e
    rw [List.length_append, ← e]; exact ho4
  have e5 : X.length + (encs [id, V.length]).length + V.length = (X ++ pb id V).length := by
    have e := congrArg List.length (pb_encs id V h0 h1 X)
    simpa only [List.length_append] using e
  rw [e5]
  have hb4 : Blk w4 q #[.slice a2 (X.length + (encs [id, V.length]).length) cap2] 22 := hon4.blk hb3 (by rintro ⟨y, hy, he⟩; have := (ho3.block hy).1; omega)
  have hc4 := hb4.cell 0 (.slice a2 (X.length + (encs [id, V.length]).length) cap2) rfl
  have hf4 := hb4.free 0
  have o4 : Only (· = q) w w4 := only_onto o3 hon4 (fun k hk hs => by obtain ⟨y, hy, he⟩ := hs; have := (ho3.block hy).1; omega)
  have HO4 := Lib.hid ho4
  have HB4 := Lib.hid hb4
  generalize hY : X ++ pb id V = Y at *
  clear ho4 hb4 ho3 hb3 hon hon4 hat4 ho2 hv3 hc2 hf2 e5
  go_wp2_with (fail)
  go_returns
  have onF : Only (· = q) w4 (w4.setCell ⟨q, 0, none⟩ (.slice a4 Y.length cap4)) := (Only.refl _ _).set 0 _
  rw [hY]
  refine ⟨rfl, ⟨⟨a4, cap4, HB4.out.set 0 _, ((HO4.out.only onF (fun x hx h => by have := (HO4.out.block hx).1; omega))).base_le hbase, fun y hy h => by have := (HO4.out.block hy).1; omega⟩, ?_⟩, o4.set 0 _⟩
  intro x hx
  rw [← hY] at hx
  rcases List.mem_append.1 hx with hx | hx
  · exact HXB.out x hx
  · exact pb_bytes id V h0 h1 HVB.out x hx

end Par
end Go.Proofs.Ytjeolfnmheofeaa
