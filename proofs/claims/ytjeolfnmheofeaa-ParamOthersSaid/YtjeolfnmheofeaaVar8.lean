/- The document's bytes of a number. -/
import Derived.Test.YtjeolfnmheofeaaVar5
import Derived.Laws.OwnMore
import Derived.OwnWalk
namespace Go.Proofs.Ytjeolfnmheofeaa
open Go.RowKit
set_option linter.unusedVariables false
namespace Var

theorem u8_zero : ((Try.prog).info? 5).bind (·.zero) = some (.int .u8 0) := by kernel_rfl
theorem own_cell {kd : IntKind} {w : World} {base : Nat} {e : TypeId} {a : Option Addr} {n cap : Nat} {L : List Int} (h : OwnS w base e 1 a n cap (L.map (Value.int kd))) {i : Nat} (hi : i < L.length) :
    ∃ g, a = some ⟨g, 0, none⟩ ∧ base ≤ g ∧ g < w.heap.size ∧ w.cell? ⟨g, i, none⟩ = some (.int kd (L.getD i 0)) ∧ w.frozen? ⟨g, i, none⟩ = false := by
  obtain ⟨g, h1, h2, h3, h4, h5⟩ := h.at_ (i := i) (by simpa using hi)
  exact ⟨g, h1, h2, h3, by rw [h4]; simp [List.getD_eq_getElem?_getD, hi], h5⟩
theorem tail_step (E : List Int) (m : Nat) (hm : m < E.length) : (List.replicate (m + 1) 0 ++ E.drop (m + 1)).set m (E.getD m 0) = List.replicate m 0 ++ E.drop m := by
  rw [List.drop_eq_getElem_cons hm, List.replicate_succ', List.append_assoc, List.set_append_right _ _ (by simp)]
  simp [List.getD_eq_getElem?_getD, hm]
theorem byte_fits {c : Nat} (hc : c ≤ 3) (x : Int) (k : Nat) : x / 2 ^ (8 * k) / 256 = x / 2 ^ (8 * (k + 1)) := by
  rw [Int.ediv_ediv_of_nonneg (Int.le_of_lt (Int.pow_pos (by decide)))]
  congr 1
  rw [Nat.mul_add, Int.pow_add]; rfl

set_option maxHeartbeats 4000000 in
theorem rbytes_any (x : Int) (w : World) (h0 : 0 ≤ x) (h1 : x ≤ 4611686018427387903) :
    Calls Try.prog 46 #[.int .u64 x, .int .i64 (sizeF x)] w fun e w' => ∃ a' cap', e = .returned (.slice a' (enc x).length cap') ∧ OwnS w' w.heap.size 5 1 a' (enc x).length cap' ((enc x).map (Value.int .u8)) ∧ Below w.heap.size w w' := by
  have hlen := enc_length x h0
  have hc : classF x ≤ 3 := by rcases class_cases x h0 with h | h | h | h | h <;> omega
  have hsz : sizeF x = 2 ^ classF x := by unfold sizeF; rw [if_pos (by omega)]
  have hce := be_enc x h0 h1
  have hW := pow4 (c := classF x) (by omega) (by omega)
  simp only [Int.toNat_natCast] at hW
  rw [hlen, hsz]
  generalize classF x = cl at *
  generalize 2 ^ cl = W at *
  have hbl := be_length W x
  have hWb : 1 ≤ W ∧ W ≤ 8 := by omega
  have HW := Lib.hid hW
  have HCE := Lib.hid hce
  have HSZ := Lib.hid hsz
  have HLE := Lib.hid hlen
  clear hW hce hsz hlen
  go_enter Try.func46, Try.ntmps46
  go_wp2_with (at_make; refine Stop.mk ?_)
  refine Stop.out ?_
  obtain ⟨i, z, q1, q2, q3, q4, q5, q6, q7⟩ := bytes_et
  refine wpList_make_full _ rfl _ _ 22 rfl w.heap.size 5 i z 1 q1 q2 q3 q4 .i64 .i64 _ _ W rfl rfl rfl rfl (by rw [q5]; omega) (by unfold maxLen; omega) (Nat.le_refl _) ?_
  have hz : z = .int .u8 0 := by have := u8_zero; rw [q2] at this; simp only [Option.bind_some, q3, Option.some.injEq] at this; exact this
  subst hz
  intro w1 hr hg
  have ho1 : OwnS w1 w.heap.size 5 1 (some ⟨w.heap.size, 0, none⟩) W W ((List.replicate W (0 : Int)).map (Value.int .u8)) := by
    have e : (madeCells (Value.int .u8 0).cells (W * 1)).toList = (List.replicate W (0 : Int)).map (Value.int .u8) := by
      rw [Nat.mul_one, show (Value.int IntKind.u8 0).cells = #[Value.int IntKind.u8 0] from rfl, toList_madeCells_one, List.map_replicate]
    rw [← e]; exact hr
  have hb1 : Below w.heap.size w w1 := ⟨hg.os, hg.tape, hg.output, hg.size, fun k hk => hg.block k hk (by simp)⟩
  have HO1 := Lib.hid ho1
  clear hr hg ho1 q1 q2 q3 q4 q5 q6 q7
  go_wp2_with (fail)
  go_loopw [0, 6] (fun n i wr => ∃ j : Nat, i = .int .i64 (W - 1 - j) ∧ n = .int .u64 (x / 2 ^ (8 * j)) ∧ j ≤ W ∧ Hid (OwnS wr w.heap.size 5 1 (some ⟨w.heap.size, 0, none⟩) W W ((List.replicate (W - j) (0 : Int) ++ (be W x).drop (W - j)).map (Value.int .u8))) ∧ Below w.heap.size w wr) (fun _ i _ => (intOf i + 1).toNat)
  case atStart => exact ⟨0, by go_num, by simp, by omega, by rw [Nat.sub_zero, List.drop_of_length_le (by omega), List.append_nil]; exact HO1, hb1⟩
  case round =>
    obtain ⟨j, rfl, rfl, hj, ho, hb⟩ := hrel
    by_cases hjl : j < W
    · obtain ⟨g, hg, hg0, hgl, hc0, hf⟩ := own_cell ho.out (i := W - 1 - j) (by simp; omega)
      cases hg
      generalize hy : (List.replicate (W - j) (0 : Int) ++ (be W x).drop (W - j)).getD (W - 1 - j) 0 = y at hc0
      clear hy
      have hxj : 0 ≤ x / 2 ^ (8 * j) ∧ x / 2 ^ (8 * j) ≤ x := ⟨Int.ediv_nonneg h0 (Int.le_of_lt (Int.pow_pos (by decide))), Int.ediv_le_self _ h0⟩
      have hbf := Lib.hid (byte_fits hc x j)
      have hbg := Lib.hid (be_get W x (W - 1 - j) (by omega))
      generalize hn : x / 2 ^ (8 * j) = n at *
      have hidx : (W : Int) - 1 - j = ((W - 1 - j : Nat) : Int) := by omega
      rw [hidx]
      go_wp2_with (fail)
      have ho5 := OwnS.set ho.out w.heap.size rfl (W - 1 - j) (.int .u8 (n % 256))
      have e5 : ((List.replicate (W - j) (0 : Int) ++ (be W x).drop (W - j)).map (Value.int .u8)).set (W - 1 - j) (.int .u8 (n % 256)) = (List.replicate (W - (j + 1)) (0 : Int) ++ (be W x).drop (W - (j + 1))).map (Value.int .u8) := by
        have t := tail_step (be W x) (W - 1 - j) (by omega)
        rw [hbg.out, show W - 1 - (W - 1 - j) = j by omega, hn, show W - 1 - j + 1 = W - j by omega] at t
        rw [← List.map_set, t, show W - (j + 1) = W - 1 - j by omega]
      rw [e5] at ho5
      exact ⟨⟨j + 1, by congr 1; omega, by rw [hbf.out], by omega, Lib.hid ho5, hb.setCell (by omega) _⟩, by simp [intOf] <;> omega⟩
    · obtain rfl : j = W := by omega
      have ho2 := ho.out
      rw [Nat.sub_self, List.replicate_zero, List.nil_append, List.drop_zero] at ho2
      have HO2 := Lib.hid ho2
      clear ho ho2
      go_wp2_with (fail)
      go_loop [7, 8] (fun c k => ∃ (q r : Nat), c = .int .i64 q ∧ k = .int .i64 r ∧ q ≤ cl ∧ Hid (q = 0 ∧ r = 1 ∨ q = 1 ∧ r = 2 ∨ q = 2 ∧ r = 4 ∨ q = 3 ∧ r = 8)) (fun c _ => 4 - (intOf c).toNat)
      case atStart => exact ⟨0, 1, rfl, rfl, by omega, by simp [Hid]⟩
      case round =>
        obtain ⟨q, r, rfl, rfl, hq, hqr⟩ := hrel
        have hb8 : r ≤ 8 ∧ q ≤ 3 := by have := hqr.out; omega
        by_cases hlt : r < j
        · go_wp2_with (fail)
          exact ⟨⟨q + 1, 2 * r, by go_num, by go_num, by have := hqr.out; have := HW.out; omega, Lib.hid (by have := hqr.out; have := HW.out; omega)⟩, by simp [intOf]; omega⟩
        · obtain rfl : q = cl := by have := hqr.out; have := HW.out; omega
          obtain ⟨g, hg, hg0, hgl, hc0, hf⟩ := own_cell HO2.out (i := 0) (by omega)
          cases hg
          have hyb := be_byte j x ((be j x).getD 0 0) (by simp [List.getD_eq_getElem?_getD, List.getElem?_eq_getElem (show 0 < (be j x).length by omega)])
          unfold Byte at hyb
          have hy64 := HCE.out.2
          have he := Lib.hid HCE.out.1
          generalize (be j x).getD 0 0 = y at *
          go_wp2_with (fail)
          go_returns
          have ho5 := OwnS.set HO2.out w.heap.size rfl 0 (.int .u8 (y + 64 * q))
          rw [← List.map_set, ← he.out] at ho5
          exact ⟨_, _, rfl, ho5, hb.setCell (Nat.le_refl _) _⟩

/-- A number's shortest bytes. -/
theorem rshort_any (x : Int) (w : World) (h0 : 0 ≤ x) (h1 : x ≤ 18446744073709551615) :
    Calls Try.prog 19 #[.int .u64 x] w fun e w' => ∃ a' cap', e = .returned (.slice a' (enc x).length cap') ∧ OwnS w' w.heap.size 5 1 a' (enc x).length cap' ((enc x).map (Value.int .u8)) ∧ Below w.heap.size w w' := by
  have hlen := enc_length x h0
  by_cases hx : x ≤ 4611686018427387903
  · have hs : 1 ≤ sizeF x := by
      unfold sizeF
      rw [if_pos (by rcases class_cases x h0 with h | h | h | h | h <;> omega)]
      exact Nat.one_le_two_pow
    have HL := Lib.hid hlen
    clear hlen
    go_enter Try.func19, Try.ntmps19
    go_wp2_with (fail)
    refine (rsize_any x _ h0 h1).mono ?_
    rintro e w1 ⟨rfl, rfl⟩
    go_wp2_with (fail)
    refine (rbytes_any x _ h0 hx).mono ?_
    rintro e w1 ⟨a', cap', rfl, ho, hb⟩
    have HO := Lib.hid ho
    clear ho
    go_wp2_with (fail)
    go_returns
    exact ⟨a', cap', rfl, HO.out, hb⟩
  · have hs : sizeF x = 0 := by
      unfold sizeF
      rw [if_neg (by rcases class_cases x h0 with h | h | h | h | h <;> omega)]
    have hE : enc x = [] := List.length_eq_zero_iff.1 (by rw [hlen, hs])
    rw [hE]
    clear hlen hE
    go_enter Try.func19, Try.ntmps19
    go_wp2_with (fail)
    refine (rsize_any x _ h0 h1).mono ?_
    rw [hs]
    rintro e w1 ⟨rfl, rfl⟩
    go_wp2_with (fail)
    go_returns
    exact ⟨none, 0, rfl, OwnS.nil _ _ _ _, Below.refl _ _⟩

end Var
end Go.Proofs.Ytjeolfnmheofeaa
