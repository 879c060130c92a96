/- Sent: the law's own 'same'. -/
import Derived.Test.YtidfimpchbkppaaSt2
namespace Go.Proofs.Ytidfimpchbkppaa
open Go.RowKit Go.Maps
set_option linter.unusedVariables false

set_option maxRecDepth 100000 in
set_option maxHeartbeats 2000000 in
theorem same15_any (a b : Option Addr) (n m ca cb : Nat) (A B : List Int) (w : World) (hn : n = A.length) (hm : m = B.length) (hA : Sl .u64 w a ca A) (hB : Sl .u64 w b cb B) (hp : A.Perm B) (hd : B.Nodup) (hl : A.length ≤ 1000000) :
    Calls Try.prog 43 #[.slice a n ca, .slice b m cb] w fun e w' => Below w.heap.size w w' ∧ e = .returned (.bool true) := by
  have hnm : n = m := by rw [hn, hm, hp.length_eq]
  subst hnm
  have hn1 : n ≤ 1000000 := by omega
  have hcount : ∀ x ∈ B, A.reverse.count x = 1 := fun x hx => by rw [List.count_reverse, hp.count_eq, hd.count, if_pos hx]
  have HN := Lib.hid hn
  have HM := Lib.hid hm
  have HA := Lib.hid hA
  have HB := Lib.hid hB
  have HC := Lib.hid hcount
  clear hn hm hA hB hp hd hl hcount
  go_enter Try.func43, Try.ntmps43
  have hmm := @run_makeMap Try.prog
  go_wp2_with (fail)
  have hc0 := Cnt.made w
  obtain ⟨w1, hw1⟩ : ∃ w1, w.alloc (.map #[] 0) = w1 := ⟨_, rfl⟩
  have b1 : Below w.heap.size w w1 := by rw [← hw1]; exact (Below.refl _ _).alloc (Nat.le_refl _) _
  have hc1 : Cnt w1 w.heap.size [] := by rw [← hw1]; exact hc0
  rw [hw1]
  have HC1 := Lib.hid hc1
  clear hc0 hc1 hw1 hmm
  go_loopw [7, 18] (fun _ i wr => ∃ k : Nat, i = .int .i64 k ∧ k ≤ n ∧ Below w.heap.size w wr ∧ Hid (Cnt wr w.heap.size (A.take k).reverse)) (fun _ i _ => n - (intOf i).toNat)
  case atStart => exact ⟨0, rfl, by omega, b1, HC1⟩
  case round =>
    obtain ⟨k, rfl, hk, bw, hok⟩ := hrel
    by_cases hlt : k < n
    · have hkA : k < A.length := by have := HN.out; omega
      obtain ⟨g, off, rfl, hg, c0, hwf⟩ := (HA.out.below bw).ints k hkA
      have hts : (A.take (k + 1)).reverse = A.getD k 0 :: (A.take k).reverse := by
        rw [List.take_add_one, List.getElem?_eq_getElem hkA]
        simp [hkA]
      obtain ⟨y, hy⟩ : ∃ y, A.getD k 0 = y := ⟨_, rfl⟩
      rw [hy] at c0 hwf hts
      have hyb := u64_bd hwf
      have HTS := Lib.hid hts
      have HWF := Lib.hid hwf
      clear hts hwf hy
      obtain ⟨hy1, hy2⟩ := hyb
      have hcl : ((A.take k).reverse).count y ≤ 1000000 := by
        have h1 : ((A.take k).reverse).count y ≤ ((A.take k).reverse).length := List.count_le_length
        have h2 := HN.out
        rw [List.length_reverse, List.length_take] at h1
        omega
      obtain ⟨c, hc⟩ : ∃ c, ((A.take k).reverse).count y = c := ⟨_, rfl⟩
      rw [hc] at hcl
      have HCC := Lib.hid hc
      clear hc
      go_wp2_with (with_reducible refine stop_cget ?_)
      refine Stop.out ?_
      refine wpList_cget rfl rfl hok.out rfl rfl HWF.out ?_
      rw [HCC.out]
      go_wp2_with (with_reducible refine stop_cput ?_)
      refine Stop.out ?_
      refine wpList_cput rfl rfl hok.out (by have := HN.out; simp [maxLen]; omega) rfl rfl (by rw [HCC.out]; rfl) HWF.out ?_
      intro w2 hc2 o2
      have b2 : Below w.heap.size w w2 := below_onto bw o2 bw.size (fun z hz => by omega)
      rw [← HTS.out] at hc2
      have HC2 := Lib.hid hc2
      clear hok hc2 o2
      go_wp2_with (fail)
      exact ⟨⟨k + 1, rfl, by omega, b2, HC2⟩, by simp [intOf]; omega⟩
    · obtain rfl : k = n := by omega
      have hok2 := hok.out
      rw [show A.take k = A by rw [HN.out, List.take_length]] at hok2
      have HOK := Lib.hid hok2
      clear hok hok2
      go_wp2_with (fail)
      go_loopw [9, 29] (fun _ i w' => ∃ j : Nat, i = .int .i64 j ∧ j ≤ k ∧ w' = wr) (fun _ i _ => k - (intOf i).toNat)
      case atStart => exact ⟨0, rfl, by omega, rfl⟩
      case round =>
        obtain ⟨j, rfl, hj, rfl⟩ := hrel
        by_cases hlt : j < k
        · have hjB : j < B.length := by have := HM.out; omega
          obtain ⟨g, off, rfl, hg, c0, hwf⟩ := (HB.out.below bw).ints j hjB
          have hone := HC.out (B.getD j 0) (by simp [hjB])
          obtain ⟨y, hy⟩ : ∃ y, B.getD j 0 = y := ⟨_, rfl⟩
          rw [hy] at c0 hwf hone
          have hyb := u64_bd hwf
          have HONE := Lib.hid hone
          have HWF := Lib.hid hwf
          clear hwf hy hone
          obtain ⟨hy1, hy2⟩ := hyb
          go_wp2_with (with_reducible refine stop_cget ?_)
          refine Stop.out ?_
          refine wpList_cget rfl rfl HOK.out rfl rfl HWF.out ?_
          rw [HONE.out]
          go_wp2_with (fail)
          exact ⟨⟨j + 1, rfl, by omega, by trivial⟩, by simp [intOf]; omega⟩
        · obtain rfl : j = k := by omega
          go_wp2_with (fail)
          go_returns
          exact ⟨bw, by first | rfl | trivial⟩
end Go.Proofs.Ytidfimpchbkppaa
