/- VarintAppends. -/
import Derived.Test.YtjeolfnmheofeaaVar8
import Derived.Test.YtjeolfnmheofeaaArgSl
import Derived.Test.YtjeolfnmheofeaaText
namespace Go.Proofs.Ytjeolfnmheofeaa
open Go.RowKit
set_option linter.unusedVariables false
namespace Var

def fitsB (N : List Int) : Bool := N.all fun x => decide (x ≤ 4611686018427387903)
theorem fitsB_iff (N : List Int) : fitsB N = true ↔ Fits N := by simp [fitsB, Fits]
theorem fitsB_take (N : List Int) (k : Nat) (h : k < N.length) : fitsB (N.take (k + 1)) = (fitsB (N.take k) && decide (N.getD k 0 ≤ 4611686018427387903)) := by
  unfold fitsB
  rw [List.take_succ_eq_append_getElem h, List.all_append]
  simp [List.getD_eq_getElem?_getD, h]
theorem size_pos (n : Int) (h : 0 ≤ n) : decide (0 < sizeF n) = decide (n ≤ 4611686018427387903) := by
  unfold sizeF
  rcases class_cases n h with ⟨h, h1⟩ | ⟨h, h1⟩ | ⟨h, h1⟩ | ⟨h, h1⟩ | ⟨h, h1⟩ <;> rw [h] <;> simp <;> omega

set_option maxHeartbeats 4000000 in
theorem appends_law (a : Option Addr) (cap : Nat) (B : List Int) (c : Option Addr) (ccap : Nat) (N : List Int) (w : World) (hB : Sl .u8 w a cap B) (hN : Sl .u64 w c ccap N) :
    Calls Try.prog 4 #[.slice a B.length cap, .slice c N.length ccap] w fun e w' => e = .returned (.bool true) ∧ Below w.heap.size w w' := by
  have hm1 := hB.len
  have hm2 := hN.len
  unfold maxLen at hm1 hm2
  have hn : ∀ y ∈ N, 0 ≤ y ∧ y ≤ 18446744073709551615 := fun y hy => by have := bounds_u64 (hN.wf y hy); exact this
  have HBB := Lib.hid (sl_byte hB)
  have HNN := Lib.hid hn
  have HB := Lib.hid hB
  have HN := Lib.hid hN
  clear hB hN hn
  go_enter Try.func4, Try.ntmps4
  go_wp2_with (fail)
  refine (known_any _).mono ?_
  rintro e w1 ⟨rfl, hb1⟩
  by_cases hl : B.length ≤ 1000
  · by_cases hl2 : N.length ≤ 300
    · have H1 := Lib.hid (HB.out.below hb1)
      go_wp2_with (with_reducible refine stop_bstr ?_)
      refine Stop.out ?_
      refine wpList_str Try.underlying22 Try.underlying5 Try.underlying9 rfl rfl rfl rfl H1.out.ints ?_
      go_wp2_with (fail)
      go_loopw [5, 6, 8, 25] (fun s f _ i wr => ∃ k : Nat, i = .int .i64 k ∧ k ≤ N.length ∧ s = .string (strOfNums (B ++ encs (N.take k))) ∧ f = .bool (fitsB (N.take k)) ∧ Below w.heap.size w wr) (fun _ _ _ i _ => N.length - (intOf i).toNat)
      case atStart => exact ⟨0, rfl, by omega, by simp [encs], by simp [fitsB], hb1⟩
      case round =>
        obtain ⟨k, rfl, hk, rfl, rfl, hb⟩ := hrel
        by_cases hlt : k < N.length
        · obtain ⟨b1, off, h0, hb1', hcell, hwf⟩ := HN.out.ints k hlt
          cases h0
          have hcell := (hb.cell (p := ⟨b1, off + k, none⟩) hb1').trans hcell
          have hx := bounds_u64 hwf
          clear hwf
          have het := Lib.hid (encs_take N k hlt)
          have hft := Lib.hid (fitsB_take N k hlt)
          have hsp := Lib.hid (size_pos (N.getD k 0) hx.1)
          generalize N.getD k 0 = x at *
          generalize hs : B ++ encs (N.take k) = S at *
          generalize hf : fitsB (N.take k) = f at *
          have hSl : S.length ≤ 4000 := by
            rw [← hs]
            have := encs_len (N.take k) (fun n hn => (HNN.out n (List.mem_of_mem_take hn)).1)
            simp at this ⊢; omega
          have hel : (enc x).length ≤ 8 := by rw [enc_length x hx.1]; exact size_le x
          have HSE := Lib.hid hs
          clear hs hf
          go_wp2_with (fail)
          refine (size_any x _ hx.1 hx.2).mono ?_
          rintro e w2 ⟨rfl, rfl⟩
          go_wp2_with (fail)
          refine (rsize_any x _ hx.1 hx.2).mono ?_
          rintro e w2 ⟨rfl, rfl⟩
          cases f with
          | false =>
            go_wp2_with (fail)
            refine (rshort_any x _ hx.1 hx.2).mono ?_
            rintro e w3 ⟨a3, cap3, rfl, ho3, hb3⟩
            have HS3 := Lib.hid (ho3.sl (L := enc x) (fun y hy => wf_byte (enc_bytes x hx.1 y hy))).2
            have hb4 := below_on hb hb3 hb.size
            clear ho3
            go_wp2_with (with_reducible refine stop_bstr ?_)
            refine Stop.out ?_
            refine wpList_str Try.underlying22 Try.underlying5 Try.underlying9 rfl rfl rfl rfl HS3.out.ints ?_
            go_wp2_with (with_reducible refine stop_add ?_)
            refine Stop.out ?_
            refine wpList_concat rfl rfl rfl rfl (by omega) ?_
            go_wp2_with (fail)
            exact ⟨⟨k + 1, by go_num, by omega, by rw [het.out, ← List.append_assoc, HSE.out], by rw [hft.out]; rfl, hb4⟩, by simp [intOf]; omega⟩
          | true =>
            go_wp2_with (fail)
            refine (rsize_any x _ hx.1 hx.2).mono ?_
            rintro e w2 ⟨rfl, rfl⟩
            go_wp2_with (fail)
            refine (rshort_any x _ hx.1 hx.2).mono ?_
            rintro e w3 ⟨a3, cap3, rfl, ho3, hb3⟩
            have HS3 := Lib.hid (ho3.sl (L := enc x) (fun y hy => wf_byte (enc_bytes x hx.1 y hy))).2
            have hb4 := below_on hb hb3 hb.size
            clear ho3
            go_wp2_with (with_reducible refine stop_bstr ?_)
            refine Stop.out ?_
            refine wpList_str Try.underlying22 Try.underlying5 Try.underlying9 rfl rfl rfl rfl HS3.out.ints ?_
            go_wp2_with (with_reducible refine stop_add ?_)
            refine Stop.out ?_
            refine wpList_concat rfl rfl rfl rfl (by omega) ?_
            go_wp2_with (fail)
            exact ⟨⟨k + 1, by go_num, by omega, by rw [het.out, ← List.append_assoc, HSE.out], by rw [hft.out]; simp only [Bool.true_and, ← hsp.out], hb4⟩, by simp [intOf]; omega⟩
        · have hek := Lib.hid (show k = N.length by omega)
          have hff : fitsB (N.take k) = fitsB N := by rw [hek.out, List.take_length]
          have hss : B ++ encs (N.take k) = B ++ encs N := by rw [hek.out, List.take_length]
          rw [hff, hss]
          clear hff hss
          have HB5 := Lib.hid (HB.out.below hb)
          have HN5 := Lib.hid (HN.out.below hb)
          have hfi := Lib.hid (fitsB_iff N)
          have HW : Hid (∀ y ∈ B ++ encs N, (Lit.int .u8 y).wf = true) := Lib.hid fun y hy => by
            rcases List.mem_append.1 hy with hy | hy
            · exact wf_byte (HBB.out y hy)
            · exact wf_byte (encs_bytes _ (fun n hn => (HNN.out n hn).1) y hy)
          cases hfit : fitsB N with
          | false =>
            have hno := Lib.hid (show ¬ Fits N from fun h => by have := hfi.out.2 h; rw [hfit] at this; cases this)
            clear hfit
            go_wp2_with (fail)
            refine (append_any a _ cap B c _ ccap N _ rfl rfl (by omega) HB5.out HN5.out).mono ?_
            rintro e w6 ⟨hb6, _, h2⟩
            obtain rfl := h2 hno.out
            clear h2
            go_wp2_with (fail)
            go_returns
            exact ⟨rfl, below_on hb hb6 hb.size⟩
          | true =>
            have hyes := Lib.hid (hfi.out.1 hfit)
            clear hfit
            go_wp2_with (fail)
            refine (append_any a _ cap B c _ ccap N _ rfl rfl (by omega) HB5.out HN5.out).mono ?_
            rintro e w6 ⟨hb6, h2, _⟩
            obtain ⟨a7, cap7, rfl, ho7⟩ := h2 hyes.out
            have HS7 := Lib.hid (ho7.sl (L := B ++ encs N) HW.out).2
            clear h2 ho7
            generalize B ++ encs N = S at *
            go_wp2_with (with_reducible refine stop_bstr ?_)
            refine Stop.out ?_
            refine wpList_str Try.underlying22 Try.underlying5 Try.underlying9 rfl rfl rfl rfl HS7.out.ints ?_
            go_wp2_with (with_reducible refine stop_eql ?_)
            refine Stop.out ?_
            refine wpList_same rfl rfl rfl rfl ?_
            go_wp2_with (fail)
            go_returns
            exact ⟨rfl, below_on hb hb6 hb.size⟩
    · go_wp2_with (fail)
      go_returns
      exact ⟨rfl, hb1⟩
  · go_wp2_with (fail)
    go_returns
    exact ⟨rfl, hb1⟩

set_option maxRecDepth 100000 in
theorem walk_VarintAppends (H : Type) (enc : TypeId × Value → H) (w : World) (base : Nat) (v0 : Value) (d0 : DataW H) (p0 : List MemPlace) (v1 : Value) (d1 : DataW H) (p1 : List MemPlace)
    (o0 : Value.okWide Try.prog w .any base 22 v0) (h0 : DataW.Trod enc Try.prog w 0 (fun _ => true) true 22 v0 d0 p0)
    (o1 : Value.okWide Try.prog w .any base 34 v1) (h1 : DataW.Trod enc Try.prog w 0 (fun _ => true) true 34 v1 d1 p1) :
    Calls Try.prog 4 #[v0, v1] w fun e w' => e = .returned (.bool true) ∧ Below w.heap.size w w' := by
  obtain ⟨a, L, cap, rfl, hS⟩ := open_sl Try.underlying22 Try.underlying5 (by kernel_rfl) o0 h0
  obtain ⟨c, N, ccap, rfl, hN⟩ := open_sl Try.underlying34 Try.underlying24 (by kernel_rfl) o1 h1
  exact appends_law a cap L c ccap N w hS hN

end Var
end Go.Proofs.Ytjeolfnmheofeaa
