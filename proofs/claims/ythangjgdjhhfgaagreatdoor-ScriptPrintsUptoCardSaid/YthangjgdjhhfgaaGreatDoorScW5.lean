/- The reader's take: a datagram; all letters. -/
import Derived.Test.YthangjgdjhhfgaaGreatDoorScW4
namespace Go.Proofs.YthangjgdjhhfgaaGreatDoor
open Go.RowKit
set_option linter.unusedVariables false
set_option maxRecDepth 100000 in
set_option maxHeartbeats 16000000 in
theorem take_100 (W0 w : World) (rb wb mb : Nat) (s0 s1 s2 : List UInt8) (ws : List (List UInt8)) (st : Option Mv) (h : TkAt w W0.heap.size rb wb mb (s0 :: s1 :: s2 :: ws) st) (hV : Vars W0) (hW : Below W0.heap.size W0 w) (hrb : W0.heap.size ≤ rb) (hmb : W0.heap.size ≤ mb) (hne : mb ≠ rb) (hwm : wb ≠ mb) (hs0 : s0.length < 1000000) (hs1 : s1.length < 1000000) (hs2 : s2.length < 1000000) :
    Calls Tryz.prog 39 #[.pointer (some ⟨rb, 0, none⟩), .pointer (some ⟨mb, 0, none⟩), .int .i32 100] w fun e w' => TkPost W0.heap.size rb wb mb ws (st.bind (setO 100 (s0 :: s1 :: s2 :: ws))) w e w' := by
  obtain ⟨bad, m, hR, hM, hst⟩ := h
  have HC := Lib.hid (rnum_any W0 w rb wb 32 (by decide) s0 (s1 :: s2 :: ws) bad hR hV hW hrb (by omega))
  have HM := Lib.hid hM
  have HST := Lib.hid hst
  have HNE := Lib.hid hne
  have HWM := Lib.hid hwm
  have HV := Lib.hid hV
  have HW := Lib.hid hW
  have HRB := Lib.hid hrb
  have HMB := Lib.hid hmb
  have HS1 := Lib.hid hs1
  have HS2 := Lib.hid hs2
  have HLT : Hid (mb < w.heap.size) := Lib.hid (by obtain ⟨_, _, _, _, _, _, h1, _⟩ := hM; exact h1.lt)
  have HRLT : Hid (rb < w.heap.size) := Lib.hid (by obtain ⟨⟨_, h1, _⟩, _⟩ := hR; exact h1.lt)
  clear hV hW hrb hmb hne hwm hs0 hs1 hs2 hR hM hst
  go_enter Tryz.func39, Tryz.ntmps39
  go_wp2_with (fail)
  refine HC.out.mono ?_
  rintro e w1 ⟨u0, b0, rfl, hu0, hr1, on1, hd1⟩
  have M1 := Lib.hid (HM.out.only on1 HNE.out)
  have R1 := Lib.hid hr1
  have O1 := Lib.hid on1
  have f1 := M1.out.free 6
  obtain ⟨v1, c1⟩ := M1.out.some_ 6 (by decide)
  have HD1 := Lib.hid hd1
  clear on1 hr1 hd1
  have m1 := M1.out.set_from_ (u0 % 4294967296)
  have r1 := R1.out.other (only_set w1 mb 6 (.int .u32 ((u0 % 4294967296 : Nat) : Int))) (Ne.symm HNE.out) HWM.out
  have o1 := (only_rb (mb := mb) O1.out).trans (only_mb (only_set w1 mb 6 (.int .u32 ((u0 % 4294967296 : Nat) : Int))))
  have e1 : ((u0 % 4294967296 : Nat) : Int) = (u0 : Int) % 4294967296 := by omega
  rw [e1] at m1 r1 o1
  have HM1 := Lib.hid m1
  have HR1 := Lib.hid r1
  have HO1 := Lib.hid o1
  clear m1 r1 o1 e1
  go_wp2_with (fail)
  obtain ⟨w2, hw2⟩ : ∃ w2, w1.setCell ⟨mb, 6, none⟩ (.int .u32 ((u0 : Int) % 4294967296)) = w2 := ⟨_, rfl⟩
  rw [hw2] at HM1 HR1 HO1 ⊢
  clear hw2 f1 c1
  have W2 := Lib.hid (only_bel HW.out HO1.out HW.out.size (by have := HRB.out; have := HMB.out; omega))
  refine (rnum_any W0 w2 rb wb 32 (by decide) s1 (s2 :: ws) b0 HR1.out HV.out W2.out HRB.out (by have := HS1.out; omega)).mono ?_
  rintro e w3 ⟨u1, b1, rfl, hu1, hr3, on3, hd3⟩
  have M3 := Lib.hid (HM1.out.only on3 HNE.out)
  have R3 := Lib.hid hr3
  have O3 := Lib.hid (HO1.out.trans (only_rb on3))
  have f3 := M3.out.free 7
  obtain ⟨v3, c3⟩ := M3.out.some_ 7 (by decide)
  have HD3 := Lib.hid hd3
  clear on3 hr3 hd3
  have m3 := M3.out.set_to_ (u1 % 4294967296)
  have r3 := R3.out.other (only_set w3 mb 7 (.int .u32 ((u1 % 4294967296 : Nat) : Int))) (Ne.symm HNE.out) HWM.out
  have o3 := O3.out.trans (only_mb (only_set w3 mb 7 (.int .u32 ((u1 % 4294967296 : Nat) : Int))))
  have e3 : ((u1 % 4294967296 : Nat) : Int) = (u1 : Int) % 4294967296 := by omega
  rw [e3] at m3 r3 o3
  have HM3 := Lib.hid m3
  have HR3 := Lib.hid r3
  have HO3 := Lib.hid o3
  clear m3 r3 o3 e3
  go_wp2_with (fail)
  obtain ⟨w4, hw4⟩ : ∃ w4, w3.setCell ⟨mb, 7, none⟩ (.int .u32 ((u1 : Int) % 4294967296)) = w4 := ⟨_, rfl⟩
  rw [hw4] at HM3 HR3 HO3 ⊢
  clear hw4 f3 c3
  have W4 := Lib.hid (only_bel HW.out HO3.out HW.out.size (by have := HRB.out; have := HMB.out; omega))
  refine (rbytes_any W0 w4 rb wb s2 ws b1 HR3.out W4.out HRB.out HS2.out).mono ?_
  rintro e w5 ⟨a, n, cap, l, b2, rfl, hr5, on5, ho, hn, hln, hd5⟩
  have M5 := Lib.hid (HM3.out.only on5 HNE.out)
  have R5 := Lib.hid hr5
  have O5 := Lib.hid (HO3.out.trans (only_rb on5))
  have HO := Lib.hid ho
  have HN := Lib.hid hn
  have HLN := Lib.hid hln
  have f5 := M5.out.free 8
  obtain ⟨v5, c5⟩ := M5.out.some_ 8 (by decide)
  have HD5 := Lib.hid hd5
  have S4 : Hid (w.heap.size ≤ w4.heap.size) := Lib.hid HO3.out.size
  clear on5 hr5 hd5 ho hn hln
  go_wp2_with (fail)
  refine bodyPost_ret (results_none rfl _ _ _) rfl ?_
  have hby : By w5 W0.heap.size a n cap l := ⟨HO.out.base_le W4.out.size, HN.out, by have := HLN.out; have := HS2.out; omega⟩
  have hset := M5.out.set_d hby (fun x hx => by have := (HO.out.block hx).1; have := HLT.out; have := HRLT.out; have := S4.out; omega)
  refine ⟨rfl, ⟨b2, _, R5.out.other (only_set _ _ _ _) (Ne.symm HNE.out) HWM.out, hset, ?_⟩, O5.out.trans (only_mb (only_set _ _ _ _))⟩
  have hun : setO 100 (s0 :: s1 :: s2 :: ws) m = (match numM 4294967295 s0, numM 4294967295 s1, unhexO s2 with
    | some f, some t, some d => some { m with from_ := f, to_ := t, d := d }
    | _, _, _ => none) := rfl
  by_cases hall : bad = false ∧ (∃ x, numM 4294967295 s0 = some x) ∧ (∃ x, numM 4294967295 s1 = some x) ∧ ∃ x, unhexO s2 = some x
  · obtain ⟨hb, ⟨x, hx⟩, ⟨y, hy⟩, z, hz⟩ := hall
    left
    rcases HD1.out with ⟨k1, k2, k3⟩ | ⟨_, k2⟩
    · rcases HD3.out with ⟨k4, k5, k6⟩ | ⟨_, k5⟩
      · rcases HD5.out with ⟨k7, k8⟩ | ⟨_, k8⟩
        · refine ⟨k7.trans k4, ?_⟩
          have k3' : numM 4294967295 s0 = some u0 := k3
          have k6' : numM 4294967295 s1 = some u1 := k6
          have l0 := numM_le k3'
          have l1 := numM_le k6'
          rcases HST.out with ⟨_, h2⟩ | ⟨h1, _⟩
          · rw [h2]
            show setO 100 (s0 :: s1 :: s2 :: ws) m = _
            rw [hun, k3', k6', k8, Nat.mod_eq_of_lt (show u0 < 4294967296 by omega), Nat.mod_eq_of_lt (show u1 < 4294967296 by omega)]
          · rw [hb] at h1; cases h1
        · rw [hz] at k8; cases k8
      · rcases k5 with k5 | k5
        · rw [k1] at k5; cases k5
        · have k5' : numM 4294967295 s1 = none := k5
          rw [hy] at k5'; cases k5'
    · rcases k2 with k2 | k2
      · rw [hb] at k2; cases k2
      · have k2' : numM 4294967295 s0 = none := k2
        rw [hx] at k2'; cases k2'
  · right
    have hno : st.bind (setO 100 (s0 :: s1 :: s2 :: ws)) = none := by
      rcases HST.out with ⟨h1, h2⟩ | ⟨_, h2⟩
      · rw [h2]
        show setO 100 (s0 :: s1 :: s2 :: ws) m = none
        rw [hun]
        split
        · rename_i f t d k1 k2 k3
          exact absurd ⟨h1, ⟨f, k1⟩, ⟨t, k2⟩, d, k3⟩ hall
        · rfl
      · rw [h2]; rfl
    refine ⟨?_, hno⟩
    rcases HD5.out with ⟨k7, k8⟩ | ⟨k7, k8⟩
    · rcases HD3.out with ⟨k4, k5, k6⟩ | ⟨k4, _⟩
      · rcases HD1.out with ⟨k1, k2, k3⟩ | ⟨k1, _⟩
        · exact absurd ⟨k2, ⟨_, k3⟩, ⟨_, k6⟩, _, k8⟩ hall
        · rw [k1] at k5; cases k5
      · exact k7.trans k4
    · exact k7
/-- take, whatever letter a form has. -/
theorem take_any (W0 w : World) (rb wb mb : Nat) (c : UInt8) (hc : c = 115 ∨ c = 110 ∨ c = 105 ∨ c = 99 ∨ c = 98 ∨ c = 100) (ws : List (List UInt8)) (hl : cntL c ≤ ws.length) (st : Option Mv) (h : TkAt w W0.heap.size rb wb mb ws st) (hV : Vars W0) (hW : Below W0.heap.size W0 w) (hrb : W0.heap.size ≤ rb) (hmb : W0.heap.size ≤ mb) (hne : mb ≠ rb) (hwm : wb ≠ mb) (hs : ∀ s ∈ ws, s.length < 1000000) :
    Calls Tryz.prog 39 #[.pointer (some ⟨rb, 0, none⟩), .pointer (some ⟨mb, 0, none⟩), .int .i32 (c.toNat : Nat)] w fun e w' => TkPost W0.heap.size rb wb mb (ws.drop (cntL c)) (st.bind (setO c ws)) w e w' := by
  have one : ∀ c : UInt8, c ≠ 100 → cntL c = 1 := fun c hc => if_neg hc
  by_cases h100 : c = 100
  · subst h100
    match ws, hl, h, hs with
    | s0 :: s1 :: s2 :: ws, _, h, hs => exact take_100 W0 w rb wb mb s0 s1 s2 ws st h hV hW hrb hmb hne hwm (hs _ (by simp)) (hs _ (by simp)) (hs _ (by simp))
  · have h1 := one c h100
    rw [h1] at hl ⊢
    match ws, hl, h, hs with
    | s :: ws, _, h, hs =>
      have hs' := hs s (by simp)
      rcases hc with rfl | rfl | rfl | rfl | rfl | rfl
      · exact take_115 W0 w rb wb mb s ws st h hV hW hrb hmb hne hwm hs'
      · exact take_110 W0 w rb wb mb s ws st h hV hW hrb hmb hne hwm hs'
      · exact take_105 W0 w rb wb mb s ws st h hV hW hrb hmb hne hwm hs'
      · exact take_99 W0 w rb wb mb s ws st h hV hW hrb hmb hne hwm hs'
      · exact take_98 W0 w rb wb mb s ws st h hV hW hrb hmb hne hwm hs'
      · exact absurd rfl h100
end Go.Proofs.YthangjgdjhhfgaaGreatDoor
