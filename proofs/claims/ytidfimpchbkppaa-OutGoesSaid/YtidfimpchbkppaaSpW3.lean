/- Walks: the document's Ends. -/
import Derived.Test.YtidfimpchbkppaaSpW1
import Derived.Test.YtidfimpchbkppaaSpW2
namespace Go.Proofs.Ytidfimpchbkppaa
open Go.RowKit
set_option linter.unusedVariables false

def efold (L : List Rg) (k : Nat) (M : List Int) : List Int := ((flat L).take (2 * k)).foldl putP M
theorem efold_zero (L : List Rg) (M : List Int) : efold L 0 M = M := by simp [efold]
theorem efold_all (L : List Rg) (M : List Int) : efold L L.length M = (flat L).foldl putP M := by
  rw [efold, List.take_of_length_le (by rw [flat_length]; omega)]
theorem flat_take : ∀ (L : List Rg) (k : Nat), (flat L).take (2 * k) = flat (L.take k)
  | [], k => by simp [flat]
  | r :: L, 0 => by simp [flat]
  | r :: L, k + 1 => by
    rw [show 2 * (k + 1) = 2 * k + 1 + 1 from by omega, flat_cons, List.take_succ_cons, List.take_succ_cons, flat_take L k, List.take_succ_cons, flat_cons]
theorem efold_step (L : List Rg) (k : Nat) (hk : k < L.length) (M : List Int) : efold L (k + 1) M = putP (putP (efold L k M) (L.getD k default).1) (L.getD k default).2 := by
  unfold efold
  rw [flat_take, flat_take, List.take_succ_eq_append_getElem hk, flat_append, List.foldl_append]
  simp [flat, List.getD_eq_getElem?_getD, hk]
theorem efold_length (L : List Rg) (k : Nat) (M : List Int) (hM : M.Pairwise (· < ·)) : (efold L k M).length ≤ 2 * k + M.length := by
  have := (foldl_putP ((flat L).take (2 * k)) M hM).2.2
  unfold efold
  simp only [List.length_take] at this
  omega

set_option maxHeartbeats 2000000 in
theorem ends_any (a b : Option Addr) (n m cap cap' : Nat) (A B : List Rg) (w : World) (hn : n = A.length) (hm : m = B.length) (hA : Rs w a cap A) (hB : Rs w b cap' B) (lA : A.length ≤ 100000) (lB : B.length ≤ 100000) :
    Calls Try.prog 67 #[.slice a n cap, .slice b m cap'] w fun e w' => Below w.heap.size w w' ∧ ∃ a' c', e = .returned (.slice a' (endsR A B).length c') ∧ Sl .u64 w' a' c' (endsR A B) := by
  subst hn hm
  have HA := Lib.hid hA
  have HB := Lib.hid hB
  have BA := Lib.hid hA.bnd
  have BB := Lib.hid hB.bnd
  clear hA hB
  obtain ⟨E, hE⟩ : ∃ E, endsR A B = E := ⟨_, rfl⟩
  have HE := Lib.hid hE
  rw [hE]
  clear hE
  go_enter Try.func67, Try.ntmps67
  go_wp2_with (fail)
  go_loopw [5, 6] (fun l i wr => ∃ (k : Nat) (a' : Option Addr) (n' c' : Nat), i = .int .i64 k ∧ l = .slice a' n' c' ∧ k ≤ A.length ∧ Below w.heap.size w wr ∧ Hid (n' = (efold A k []).length ∧ Sl .u64 wr a' c' (efold A k []))) (fun _ i _ => A.length - (intOf i).toNat)
  case atStart => exact ⟨0, none, 0, 0, rfl, rfl, by omega, Below.refl _ _, Lib.hid (by rw [efold_zero]; exact ⟨rfl, Sl.nil _ _⟩)⟩
  case round =>
    obtain ⟨k, a', n', c', rfl, rfl, hk, bw, hok⟩ := hrel
    by_cases hlt : k < A.length
    · obtain ⟨bb, off, ha, hb, c1, c2⟩ := (HA.out.below bw).at_ hlt
      subst ha
      have hbd := BA.out.getD hlt
      have hst := efold_step A k hlt []
      have hlen := efold_length A k [] List.Pairwise.nil
      obtain ⟨x, hx⟩ : ∃ x, (A.getD k default).1 = x := ⟨_, rfl⟩
      obtain ⟨y, hy⟩ : ∃ y, (A.getD k default).2 = y := ⟨_, rfl⟩
      rw [hx] at c1 hbd hst
      rw [hy] at c2 hbd hst
      have HST := Lib.hid hst
      have HLEN : Hid ((efold A k []).length ≤ 400000) := Lib.hid (by simp at hlen; omega)
      clear hx hy hst hlen
      go_wp2_with (fail)
      refine rg_start 14 ?_
      refine rg_below fun p hx hne hC hbel => ?_
      have k1 : ∀ z : Wd p, z.w.cell? ⟨bb, off + k * 2, none⟩ = some (.int .u64 x) := fun z => (hx z _ _ _ hb).trans c1
      have k2 : ∀ z : Wd p, z.w.cell? ⟨bb, off + k * 2 + 1, none⟩ = some (.int .u64 y) := fun z => (hx z _ _ _ hb).trans c2
      refine rg_quiet 3 [0,1,2,3,4,5,7,8,9,10,11] hC ?_
      simp only [pickD, List.map_cons, List.map_nil, List.getD_cons_zero, List.getD_cons_succ]; repeat (go_big_quiet_step (fail))
      refine wpQuiet_nil ?_
      refine rg_act 6 ?_
      go_wp2_with (fail)
      refine (put_any a' n' c' _ x wr.drew hok.out.1 hbd.1 (by have := HLEN.out; omega) (hok.out.2.below ((Below.refl _ _).drew))).mono ?_
      rintro e w1 ⟨hb1, a1, cc1, rfl, hs1⟩
      have HS1 := Lib.hid hs1
      clear hs1
      go_wp2_with (fail)
      refine ⟨hbel _ hb1, ?_⟩
      refine rg_cut 12 ?_
      go_wp2_with (fail)
      refine (put_any a1 _ cc1 _ y w1 rfl hbd.2 (by have := HLEN.out; have := length_putP (efold A k []) x; omega) HS1.out).mono ?_
      rintro e w2 ⟨hb2, a2, cc2, rfl, hs2⟩
      rw [← HST.out] at hs2 ⊢
      have HS2 := Lib.hid hs2
      clear hs2
      go_wp2_with (fail)
      refine rg_same fun p hx hne hC => ?_
      refine rg_quiet 0 [13] hC ?_
      simp only [pickD, List.map_cons, List.map_nil, List.getD_cons_zero, List.getD_cons_succ]; repeat (go_big_quiet_step (fail))
      refine wpQuiet_nil ?_
      refine rg_end ?_
      go_wp2_with (fail)
      have b1 : Below w.heap.size w w1 := below_on bw.drew hb1 (by have := bw.size; exact this)
      exact ⟨⟨k + 1, a2, _, cc2, by go_num, rfl, by omega, below_on b1 hb2 b1.size, Lib.hid ⟨rfl, HS2.out⟩⟩, by simp [intOf]; omega⟩
    · obtain rfl : k = A.length := by omega
      obtain ⟨M1, hM1⟩ : ∃ M, efold A A.length [] = M := ⟨_, rfl⟩
      have hE2 : E = efold B B.length M1 := by rw [← HE.out, ← hM1, efold_all, efold_all, endsR, List.foldl_append]
      have HE2 := Lib.hid hE2
      have SM : Hid (M1.Pairwise (· < ·)) := Lib.hid (by rw [← hM1, efold_all]; exact (foldl_putP _ _ List.Pairwise.nil).1)
      have LM : Hid (M1.length ≤ 200000) := Lib.hid (by rw [← hM1]; have := efold_length A A.length [] List.Pairwise.nil; simp at this; omega)
      rw [hM1] at hok
      have HOK := Lib.hid hok.out
      clear hM1 hok hE2
      go_wp2_with (fail)
      go_loopw [5, 7] (fun l i wr => ∃ (k : Nat) (a' : Option Addr) (n' c' : Nat), i = .int .i64 k ∧ l = .slice a' n' c' ∧ k ≤ B.length ∧ Below w.heap.size w wr ∧ Hid (n' = (efold B k M1).length ∧ Sl .u64 wr a' c' (efold B k M1))) (fun _ i _ => B.length - (intOf i).toNat)
      case atStart => exact ⟨0, a', n', c', rfl, rfl, by omega, bw, Lib.hid (by rw [efold_zero]; exact HOK.out)⟩
      case round =>
        clear HOK bw
        obtain ⟨k, a', n', c', rfl, rfl, hk, bw, hok⟩ := hrel
        by_cases hlt : k < B.length
        · obtain ⟨bb, off, ha, hb, c1, c2⟩ := (HB.out.below bw).at_ hlt
          subst ha
          have hbd := BB.out.getD hlt
          have hst := efold_step B k hlt M1
          have hlen := efold_length B k M1 (SM.out)
          obtain ⟨x, hx⟩ : ∃ x, (B.getD k default).1 = x := ⟨_, rfl⟩
          obtain ⟨y, hy⟩ : ∃ y, (B.getD k default).2 = y := ⟨_, rfl⟩
          rw [hx] at c1 hbd hst
          rw [hy] at c2 hbd hst
          have HST := Lib.hid hst
          have HLEN : Hid ((efold B k M1).length ≤ 400000) := Lib.hid (by have := LM.out; omega)
          clear hx hy hst hlen
          go_wp2_with (fail)
          refine rg_start 14 ?_
          refine rg_below fun p hx hne hC hbel => ?_
          have k1 : ∀ z : Wd p, z.w.cell? ⟨bb, off + k * 2, none⟩ = some (.int .u64 x) := fun z => (hx z _ _ _ hb).trans c1
          have k2 : ∀ z : Wd p, z.w.cell? ⟨bb, off + k * 2 + 1, none⟩ = some (.int .u64 y) := fun z => (hx z _ _ _ hb).trans c2
          refine rg_quiet 3 [0,1,2,3,4,5,7,8,9,10,11] hC ?_
          simp only [pickD, List.map_cons, List.map_nil, List.getD_cons_zero, List.getD_cons_succ]; repeat (go_big_quiet_step (fail))
          refine wpQuiet_nil ?_
          refine rg_act 6 ?_
          go_wp2_with (fail)
          refine (put_any a' n' c' _ x wr.drew hok.out.1 hbd.1 (by have := HLEN.out; omega) (hok.out.2.below ((Below.refl _ _).drew))).mono ?_
          rintro e w1 ⟨hb1, a1, cc1, rfl, hs1⟩
          have HS1 := Lib.hid hs1
          clear hs1
          go_wp2_with (fail)
          refine ⟨hbel _ hb1, ?_⟩
          refine rg_cut 12 ?_
          go_wp2_with (fail)
          refine (put_any a1 _ cc1 _ y w1 rfl hbd.2 (by have := HLEN.out; have := length_putP (efold B k M1) x; omega) HS1.out).mono ?_
          rintro e w2 ⟨hb2, a2, cc2, rfl, hs2⟩
          rw [← HST.out] at hs2 ⊢
          have HS2 := Lib.hid hs2
          clear hs2
          go_wp2_with (fail)
          refine rg_same fun p hx hne hC => ?_
          refine rg_quiet 0 [13] hC ?_
          simp only [pickD, List.map_cons, List.map_nil, List.getD_cons_zero, List.getD_cons_succ]; repeat (go_big_quiet_step (fail))
          refine wpQuiet_nil ?_
          refine rg_end ?_
          go_wp2_with (fail)
          have b1 : Below w.heap.size w w1 := below_on bw.drew hb1 (by have := bw.size; exact this)
          exact ⟨⟨k + 1, a2, _, cc2, by go_num, rfl, by omega, below_on b1 hb2 b1.size, Lib.hid ⟨rfl, HS2.out⟩⟩, by simp [intOf]; omega⟩
        · obtain rfl : k = B.length := by omega
          go_wp2_with (fail)
          go_returns
          refine ⟨bw, a', c', ?_, ?_⟩
          · rw [HE2.out, ← hok.out.1]; rfl
          · rw [HE2.out]; exact hok.out.2
end Go.Proofs.Ytidfimpchbkppaa
