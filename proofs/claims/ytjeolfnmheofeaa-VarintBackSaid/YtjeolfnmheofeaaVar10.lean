/- VarintBack. -/
import Derived.Test.YtjeolfnmheofeaaVar9
namespace Go.Proofs.Ytjeolfnmheofeaa
open Go.RowKit
set_option linter.unusedVariables false
namespace Var

theorem encs_drop (N : List Int) (k : Nat) (h : k < N.length) : encs (N.drop k) = enc (N.getD k 0) ++ encs (N.drop (k + 1)) := by
  unfold encs
  rw [List.drop_eq_getElem_cons h, List.flatMap_cons]
  simp [List.getD_eq_getElem?_getD, h]
theorem size_one (n : Int) (h : 0 ≤ n) (h1 : n ≤ 4611686018427387903) : 1 ≤ sizeF n := by
  unfold sizeF
  rw [if_pos (by rcases class_cases n h with h | h | h | h | h <;> omega)]
  exact Nat.one_le_two_pow

/-- What stands behind: taken, and appended as at most as many. -/
def TailOk (Q : Ending → World → Prop) (w : World) : Prop := ∀ w', Below w.heap.size w w' → Q (.returned (.bool true)) w'

set_option maxHeartbeats 4000000 in
theorem back_law (c : Option Addr) (ccap : Nat) (N : List Int) (a : Option Addr) (cap : Nat) (C : List Int) (w : World) (hN : Sl .u64 w c ccap N) (hC : Sl .u8 w a cap C) :
    Calls Try.prog 5 #[.slice c N.length ccap, .slice a C.length cap] w fun e w' => e = .returned (.bool true) ∧ Below w.heap.size w w' := by
  have hm1 := hC.len
  have hm2 := hN.len
  unfold maxLen at hm1 hm2
  have hn : ∀ y ∈ N, 0 ≤ y ∧ y ≤ 18446744073709551615 := fun y hy => by have := bounds_u64 (hN.wf y hy); exact this
  have HCB := Lib.hid (sl_byte hC)
  have HNN := Lib.hid hn
  have HC := Lib.hid hC
  have HN := Lib.hid hN
  clear hC hN hn
  go_enter Try.func5, Try.ntmps5
  go_wp2_with (fail)
  refine (known_any _).mono ?_
  rintro e w1 ⟨rfl, hb1⟩
  by_cases hl : N.length ≤ 300
  · by_cases hl2 : C.length ≤ 1000
    · have HN1 := Lib.hid (HN.out.below hb1)
      have HEL := encs_len N (fun n hn => (HNN.out n hn).1)
      go_wp2_with (fail)
      refine (append_any none 0 0 [] c _ ccap N _ rfl rfl (by simp; omega) (Sl.nil _ _) HN1.out).mono ?_
      rintro e w2 ⟨hb2, hyes, hno⟩
      have z1 := hb1.size
      have k2 := below_on hb1 hb2 z1
      by_cases hfit : Fits N
      · obtain ⟨a2, cap2, rfl, ho2⟩ := hyes hfit
        have HFT := Lib.hid hfit
        rw [List.nil_append] at ho2 ⊢
        clear hyes hno hfit
        have HE : Hid (∀ y ∈ encs N, (Lit.int .u8 y).wf = true) := Lib.hid fun y hy => wf_byte (encs_bytes _ (fun n hn => (HNN.out n hn).1) y hy)
        have HS2 := Lib.hid (ho2.sl (L := encs N) HE.out).2
        clear ho2
        have z2 := k2.size
        have ho3 := OwnS.new w2 w.heap.size z2 5 1 0 #[] (by simp) rfl
        go_wp2_with (at_builtin; refine Stop.mk ?_)
        refine Stop.out ?_
        refine wpList_app bytes_et rfl rfl rfl rfl ho3 (HS2.out.below ((Below.refl _ _).alloc (Nat.le_refl _) _)).src (by unfold maxLen; omega) (by omega) (by simp; omega) ?_
        intro a3 cap3 w3 ho3 hon3 hat3
        simp only [Nat.zero_add, List.nil_append] at ho3 ⊢
        have k3 : Below w.heap.size w w3 := below_onto (k2.alloc z2 _) hon3 (by simp; omega) (by rintro z hz ⟨y, hy, rfl⟩; cases hy; simp at hz; omega)
        have z3 := k3.size
        clear hon3 hat3
        go_wp2_with (at_builtin; refine Stop.mk ?_)
        refine Stop.out ?_
        refine wpList_app bytes_et rfl rfl rfl rfl ho3 (HC.out.below k3).src (by unfold maxLen; omega) (by omega) z3 ?_
        intro a4 cap4 w4 ho4 hon4 hat4
        have k4 : Below w.heap.size w w4 := below_onto k3 hon4 z3 (by rintro z hz ⟨y, hy, rfl⟩; have := (ho3.block hy).1; omega)
        have z4 := k4.size
        rw [← List.map_append] at ho4
        have hs4 := (ho4.sl (L := encs N ++ C) (fun y hy => by
          rcases List.mem_append.1 hy with hy | hy
          · exact HE.out y hy
          · exact wf_byte (HCB.out y hy))).2
        rw [← List.length_append]
        have HS4 := Lib.hid hs4
        clear ho3 ho4 hs4 hon4 hat4
        go_wp2_with (fail)
        go_loop [7, 9, 10, 11, 12, 13, 14, 15, 44] (fun r _ _ _ _ _ _ _ i => ∃ (k : Nat) (a' : Option Addr) (cap' : Nat), i = .int .i64 k ∧ k ≤ N.length ∧ r = .slice a' (encs (N.drop k) ++ C).length cap' ∧ Hid (Sl .u8 w4 a' cap' (encs (N.drop k) ++ C))) (fun _ _ _ _ _ _ _ _ i => N.length - (intOf i).toNat)
        case atStart => exact ⟨0, a4, cap4, rfl, by omega, by simp, by simpa using HS4⟩
        case round =>
          obtain ⟨k, a', cap', rfl, hk, rfl, hs⟩ := hrel
          by_cases hlt : k < N.length
          · obtain ⟨b1, off, h0, hb1', hcell, hwf⟩ := HN.out.ints k hlt
            cases h0
            have hcell := (k4.cell (p := ⟨b1, off + k, none⟩) hb1').trans hcell
            have hx := bounds_u64 hwf
            clear hwf
            have hed := encs_drop N k hlt
            have hxm : N.getD k 0 ≤ 4611686018427387903 := HFT.out _ (by simp [List.getD_eq_getElem?_getD, hlt])
            generalize hxe : N.getD k 0 = x at *
            have ht1 := take_enc x hx.1 hxm (encs (N.drop (k + 1)) ++ C)
            have ht2 := cut_enc x hx.1 hxm (encs (N.drop (k + 1)) ++ C)
            rw [← List.append_assoc, ← hed] at ht1 ht2
            have hs1 := size_one x hx.1 hxm
            have hs8 := size_le x
            have hsl : sizeF x ≤ (encs (N.drop k) ++ C).length := by rw [hed]; simp [enc_length x hx.1]
            have hdr : (encs (N.drop k) ++ C).drop (sizeF x) = encs (N.drop (k + 1)) ++ C := by
              rw [hed, List.append_assoc, List.drop_append_of_le_length (by rw [enc_length x hx.1]; exact Nat.le_refl _), List.drop_of_length_le (by rw [enc_length x hx.1]; exact Nat.le_refl _), List.nil_append]
            have HDR := Lib.hid hdr
            have HT1 := Lib.hid ht1
            have HT2 := Lib.hid ht2
            have hRl : (encs (N.drop k) ++ C).length ≤ 4000 := by
              have := encs_len (N.drop k) (fun n hn => (HNN.out n (List.mem_of_mem_drop hn)).1)
              simp at this ⊢; omega
            clear hed hdr ht1 ht2 hxe
            generalize encs (N.drop k) ++ C = R at *
            go_wp2_with (fail)
            refine (take_any a' _ cap' R _ rfl hs.out).mono ?_
            unfold takeN takeU
            rw [HT1.out]
            simp only [Option.map_some, Option.getD_some, Option.isSome_some]
            rintro e w5 ⟨rfl, rfl⟩
            go_wp2_with (with_reducible refine stop_max ?_)
            refine Stop.out ?_
            refine wpList_max rfl rfl ((sizeF x - 1 : Nat) : Int) rfl rfl (by omega) ?_
            go_wp2_with (with_reducible refine stop_cut ?_)
            refine Stop.out ?_
            refine wpList_cut_h bytes_et rfl rfl rfl rfl hs.out (sizeF x - 1) rfl (by omega) ?_
            intro a5 hs5 hbl5
            have HS5 := Lib.hid hs5
            have hl5 : (R.take (sizeF x - 1)).length = sizeF x - 1 := by simp; omega
            clear hs5 hbl5
            go_wp2_with (fail)
            refine (take_any a5 _ cap' (R.take (sizeF x - 1)) _ hl5.symm HS5.out).mono ?_
            unfold takeN takeU
            rw [HT2.out]
            simp only [Option.map_none, Option.getD_none, Option.isSome_none]
            rintro e w5 ⟨rfl, rfl⟩
            go_wp2_with (fail)
            refine (size_any x _ hx.1 hx.2).mono ?_
            rintro e w5 ⟨rfl, rfl⟩
            go_wp2_with (with_reducible refine stop_cut ?_)
            refine Stop.out ?_
            refine wpList_cut_l bytes_et rfl rfl rfl rfl rfl hs.out (sizeF x) rfl hsl ?_
            intro a6 hs6 hbl6
            rw [HDR.out] at hs6 ⊢
            have HS6 := Lib.hid hs6
            clear hs6 hbl6
            go_wp2_with (fail)
            exact ⟨⟨k + 1, a6, cap' - sizeF x, by go_num, by omega, by simp, HS6⟩, by simp [intOf]; omega⟩
          · have hek := Lib.hid (show k = N.length by omega)
            have hR : encs (N.drop k) ++ C = C := by rw [hek.out, List.drop_length]; rfl
            rw [hR] at hs ⊢
            clear hR
            have HC4 := Lib.hid (HC.out.below k4)
            go_wp2_with (with_reducible refine stop_bstr ?_)
            refine Stop.out ?_
            refine wpList_str Try.underlying22 Try.underlying5 Try.underlying9 rfl rfl rfl rfl hs.out.ints ?_
            go_wp2_with (with_reducible refine stop_bstr ?_)
            refine Stop.out ?_
            refine wpList_str Try.underlying22 Try.underlying5 Try.underlying9 rfl rfl rfl rfl HC4.out.ints ?_
            go_wp2_with (with_reducible refine stop_neq ?_)
            refine Stop.out ?_
            refine wpList_unsame rfl rfl rfl rfl ?_
            go_wp2_with (fail)
            refine (take_any a _ cap C _ rfl HC4.out).mono ?_
            unfold takeN takeU
            cases ht : takeF C with
            | none =>
              simp only [Option.map_none, Option.getD_none, Option.isSome_none]
              rintro e w7 ⟨rfl, rfl⟩
              clear ht
              go_wp2_with (fail)
              go_returns
              exact ⟨rfl, k4⟩
            | some v =>
              obtain ⟨m, u⟩ := v
              have hk := take_ok HCB.out ht
              cases C with
              | nil => simp [takeF] at ht
              | cons x r =>
                have hbd := take_bd x r (HCB.out x (by simp)) (fun y hy => HCB.out y (by simp [hy])) m u ht
                have hxb := HCB.out x (by simp)
                unfold Byte at hxb
                obtain ⟨b2, off2, h0, hb2', hcell2, hwf2⟩ := HC.out.ints 0 (by simp)
                cases h0
                have hu := hbd.1
                simp only [Option.map_some, Option.getD_some, Option.isSome_some, List.getD_cons_zero, Nat.add_zero] at hcell2 hwf2 ⊢
                rintro e w7 ⟨rfl, rfl⟩
                have hz := k4.size
                have hsz1 := enc_length m hk.2.1
                have hwm : ∀ n ∈ [m], (Lit.int .u64 n).wf = true := by simp; exact WalkArith.wf_u64 (by omega)
                clear ht hbd hwf2
                go_wp2_with (fail)
                refine (append_any none 0 0 [] _ 1 1 [m] _ rfl rfl (by simp) (Sl.nil _ _) (sl_new .u64 w4 _ [m] _ rfl hwm (by simp [maxLen]))).mono ?_
                rintro e w8 ⟨hb8, h8, _⟩
                obtain ⟨a8, cap8, rfl, _⟩ := h8 (by simp [Fits]; omega)
                have hl8 : ([] ++ encs [m]).length = sizeF m := by simp [encs, hsz1]
                rw [hl8]
                have k8 := below_on (k4.alloc hz _) hb8 (by simp; omega)
                have hcell8 := (k8.cell (p := ⟨b2, off2, none⟩) hb2').trans hcell2
                clear hcell2 h8 hb8 hl8 hsz1 hwm
                rcases pow4 (c := x / 64) (by omega) (by omega) with ⟨q1, q2⟩ | ⟨q1, q2⟩ | ⟨q1, q2⟩ | ⟨q1, q2⟩
                all_goals
                  rw [q2] at hu
                  subst hu
                  clear q2
                  go_wp2_with (fail)
                  go_returns
                  exact ⟨rfl, k8⟩
      · obtain rfl := hno hfit
        clear hyes hno
        have HC2 := Lib.hid (HC.out.below k2)
        go_wp2_with (fail)
        refine (take_any a _ cap C _ rfl HC2.out).mono ?_
        unfold takeN takeU
        cases ht : takeF C with
        | none =>
          simp only [Option.map_none, Option.getD_none, Option.isSome_none]
          rintro e w7 ⟨rfl, rfl⟩
          clear ht
          go_wp2_with (fail)
          go_returns
          exact ⟨rfl, k2⟩
        | some v =>
          obtain ⟨m, u⟩ := v
          have hk := take_ok HCB.out ht
          cases C with
          | nil => simp [takeF] at ht
          | cons x r =>
            have hbd := take_bd x r (HCB.out x (by simp)) (fun y hy => HCB.out y (by simp [hy])) m u ht
            have hxb := HCB.out x (by simp)
            unfold Byte at hxb
            obtain ⟨b2, off2, h0, hb2', hcell2, hwf2⟩ := HC.out.ints 0 (by simp)
            cases h0
            have hu := hbd.1
            simp only [Option.map_some, Option.getD_some, Option.isSome_some, List.getD_cons_zero, Nat.add_zero] at hcell2 hwf2 ⊢
            rintro e w7 ⟨rfl, rfl⟩
            have hz := k2.size
            have hsz1 := enc_length m hk.2.1
            have hwm : ∀ n ∈ [m], (Lit.int .u64 n).wf = true := by simp; exact WalkArith.wf_u64 (by omega)
            clear ht hbd hwf2
            go_wp2_with (fail)
            refine (append_any none 0 0 [] _ 1 1 [m] _ rfl rfl (by simp) (Sl.nil _ _) (sl_new .u64 w2 _ [m] _ rfl hwm (by simp [maxLen]))).mono ?_
            rintro e w8 ⟨hb8, h8, _⟩
            obtain ⟨a8, cap8, rfl, _⟩ := h8 (by simp [Fits]; omega)
            have hl8 : ([] ++ encs [m]).length = sizeF m := by simp [encs, hsz1]
            rw [hl8]
            have k8 := below_on (k2.alloc hz _) hb8 (by simp; omega)
            have hcell8 := (k8.cell (p := ⟨b2, off2, none⟩) hb2').trans hcell2
            clear hcell2 h8 hb8 hl8 hsz1 hwm
            rcases pow4 (c := x / 64) (by omega) (by omega) with ⟨q1, q2⟩ | ⟨q1, q2⟩ | ⟨q1, q2⟩ | ⟨q1, q2⟩
            all_goals
              rw [q2] at hu
              subst hu
              clear q2
              go_wp2_with (fail)
              go_returns
              exact ⟨rfl, k8⟩
    · go_wp2_with (fail)
      go_returns
      exact ⟨rfl, hb1⟩
  · go_wp2_with (fail)
    go_returns
    exact ⟨rfl, hb1⟩

set_option maxRecDepth 100000 in
theorem walk_VarintBack (H : Type) (enc : TypeId × Value → H) (w : World) (base : Nat) (v0 : Value) (d0 : DataW H) (p0 : List MemPlace) (v1 : Value) (d1 : DataW H) (p1 : List MemPlace)
    (o0 : Value.okWide Try.prog w .any base 34 v0) (h0 : DataW.Trod enc Try.prog w 0 (fun _ => true) true 34 v0 d0 p0)
    (o1 : Value.okWide Try.prog w .any base 22 v1) (h1 : DataW.Trod enc Try.prog w 0 (fun _ => true) true 22 v1 d1 p1) :
    Calls Try.prog 5 #[v0, v1] w fun e w' => e = .returned (.bool true) ∧ Below w.heap.size w w' := by
  obtain ⟨a, L, cap, rfl, hS⟩ := open_sl Try.underlying34 Try.underlying24 (by kernel_rfl) o0 h0
  obtain ⟨c, N, ccap, rfl, hN⟩ := open_sl Try.underlying22 Try.underlying5 (by kernel_rfl) o1 h1
  exact back_law a cap L c ccap N w hS hN

end Var
end Go.Proofs.Ytjeolfnmheofeaa
