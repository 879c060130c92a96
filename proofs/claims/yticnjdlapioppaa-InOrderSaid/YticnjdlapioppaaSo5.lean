/- Sorting pieces: insertionSort. -/
import Derived.Test.YticnjdlapioppaaSo4
namespace Go.Proofs.Yticnjdlapioppaa
open Go.RowKit Go.Shelf Go.Lib Go.Sort
set_option linter.unusedVariables false

set_option maxHeartbeats 8000000 in
set_option maxRecDepth 1000000 in
theorem insert_any (g n cap a b : Nat) (L : List Pc) (d0 : Array Pc) (w0 w : World) (R : RowK encQ 2 w0 g 0 d0) (hs : d0.size = L.length) (S : SWK encQ 2 w0 g 0 L.toArray w) (hn : n = L.length) (hab : a ≤ b) (hb : b ≤ n) (hsz : n ≤ 1000000) :
    Calls Try.prog 74 #[.slice (some ⟨g, 0, none⟩) n cap, .int .i64 a, .int .i64 b, .func (.func 64) #[] #[]] w fun e w' => SymPost w0 g a b L w' e := by
  have mixed : Try.prog.follows .mixedOrders = true := by kernel_rfl
  have HN := Lib.hid hn
  have HS := Lib.hid hs
  have S0 : Aside (SWK encQ 2 w0 g 0 L.toArray w) := S
  clear S hn hs
  go_enter Try.func74, Try.ntmps74
  go_wp2_with (fail)
  go_loopw [8, 9] (fun s _ wr => ∃ (i : Nat) (M : List Pc), s = .int .i64 i ∧ a + 1 ≤ i ∧ (i ≤ b ∨ i = a + 1) ∧ Aside (SWK encQ 2 w0 g 0 M.toArray wr) ∧ Hid (M.length = L.length ∧ Moved a b L M ∧ Ord keyQ a i M)) (fun s _ _ => b + 1 - (intOf s).toNat)
  case atStart => exact ⟨a + 1, L, by go_num, by omega, .inr rfl, S0, Lib.hid ⟨rfl, Moved.refl _ _ _, Ord.one _ _ _⟩⟩
  case round =>
    clear S0
    obtain ⟨i, M0, rfl, hi1, hi2, S1, hM⟩ := hrel
    by_cases hlt : i < b
    · have hM0 := hM
      have hMl : M0.length = n := by have := hM.out.1; have := HN.out; omega
      have HML := Lib.hid hMl
      clear hMl hM hi2
      go_wp2_with (fail)
      go_loopw [9] (fun s wr => ∃ (j : Nat) (M : List Pc), s = .int .i64 j ∧ a ≤ j ∧ j ≤ i ∧ Aside (SWK encQ 2 w0 g 0 M.toArray wr) ∧ Hid (M.length = M0.length ∧ Moved a b M0 M ∧ InsD M0 M i j ∧ ∀ k, j ≤ k → k < i → keyQ (at' M0 i) < keyQ (at' M0 k))) (fun s _ => (intOf s).toNat)
      case atStart => exact ⟨i, M0, rfl, by omega, by omega, S1, Lib.hid ⟨rfl, Moved.refl _ _ _, InsD.start M0 i, fun k h1 h2 => by omega⟩⟩
      case round =>
        clear S1
        obtain ⟨j, M, rfl, hj1, hj2, S1, hM⟩ := hrel
        have hend : (∀ k, a ≤ k → k < j → keyQ (at' M0 k) ≤ keyQ (at' M0 i)) → M.length = L.length ∧ Moved a b L M ∧ Ord keyQ a (i + 1) M := fun hlo =>
          ⟨hM.out.1.trans hM0.out.1, hM0.out.2.1.trans hM.out.2.1, hM.out.2.2.1.ord hM0.out.2.2 hj1 hj2 hlo hM.out.2.2.2⟩
        have HEND := Lib.hid hend
        clear hend
        by_cases hja : j = a
        · have hK := Lib.hid (HEND.out (fun k h1 h2 => by omega))
          have hnj : ¬ a < j := by omega
          have hdj : decide ((a : Int) < (j : Int)) = false := decide_eq_false (by omega)
          go_wp2_with (fail)
          refine rg_start 17 ?_
          refine rg_same fun p hx hne hC => ?_
          refine rg_quiet 3 [0,1,2,3,4,5,6,7,8,9,10,11,12,13] hC ?_
          simp only [pickD, List.map_cons, List.map_nil, List.getD_cons_zero, List.getD_cons_succ]; repeat (go_big_quiet_step (fail))
          refine wpQuiet_nil ?_
          refine rg_cut 14 ?_
          clear hx hne hC
          have S2 : Aside (SWK encQ 2 w0 g 0 M.toArray wr.drew) := S1.out.drew
          clear S1
          go_wp2_with (fail)
          refine rg_below fun p hx hne hC hbel => ?_
          refine rg_quiet 0 [15,16] hC ?_
          simp only [pickD, List.map_cons, List.map_nil, List.getD_cons_zero, List.getD_cons_succ]; repeat (go_big_quiet_step (fail))
          refine wpQuiet_nil ?_
          refine rg_end ?_
          clear hx hne hC hbel
          go_wp2_with (fail)
          exact ⟨⟨i + 1, M, by go_num, by omega, .inl (by omega), S2, hK⟩, by simp [intOf]; omega⟩
        · obtain ⟨q, hq⟩ : ∃ q, j - 1 = q := ⟨_, rfl⟩
          have hja2 : a < j := by omega
          have hq1 : (j : Int) - 1 = (q : Int) := by omega
          have hqj : a ≤ q ∧ q < j := by omega
          have hML : M.length = n := by have := hM.out.1; have := HML.out; omega
          have hpl : j < M.length := by omega
          have hql : q < M.length := by omega
          have hpn : (j : Int) < (n : Int) := by omega
          have hqn : (q : Int) < (n : Int) := by omega
          obtain ⟨P, hP, p0, p1, p2, p3⟩ := swk_cells2 S1.out R (by have := HS.out; have := HN.out; omega) hpl
          obtain ⟨Qq, hQ, q0, q1', q2, q3⟩ := swk_cells2 S1.out R (by have := HS.out; have := HN.out; omega) hql
          have ePi : at' M0 i = P := by
            rw [← hP, hM.out.2.2.1 j, if_neg (by omega), if_pos rfl]
          have eQq : at' M0 q = Qq := by
            rw [← hQ, hM.out.2.2.1 q, if_neg (by omega), if_neg (by omega)]
          have S9 := swk_swap2 (W := wr.drew) S1.out.drew R hpl hql hP hQ
          obtain ⟨z, hz⟩ : ∃ z, cmpQ P.off Qq.off = z := ⟨_, rfl⟩
          have hzb := cmpQ_bnd P.off Qq.off
          have hzn := cmpQ_neg P.off Qq.off
          rw [hz] at hzb hzn
          have HC := fun W => cmpc_any P Qq W
          unfold pcV at HC
          rw [hz] at HC
          have HZN := Lib.hid hzn
          have EP := Lib.hid ePi
          have EQ := Lib.hid eQq
          have HP := Lib.hid hP
          have HQ := Lib.hid hQ
          have HQJ := Lib.hid hq
          have hdj : decide ((a : Int) < (j : Int)) = true := decide_eq_true (by omega)
          clear hz hzn ePi eQq S9 hP hQ hq
          go_wp2_with (fail)
          refine rg_start 17 ?_
          refine rg_same fun p hx hne hC => ?_
          refine rg_quiet 3 [0,1,2,3,4,5,6,7,8,9,10,11,12,13] hC ?_
          simp only [pickD, List.map_cons, List.map_nil, List.getD_cons_zero, List.getD_cons_succ]; repeat (go_big_quiet_step (fail))
          refine wpQuiet_nil ?_
          refine rg_cut 14 ?_
          clear hx hne hC
          go_wp2_with (fail)
          refine (HC _).mono ?_
          rintro e w2 ⟨rfl, hw2⟩
          have S2 : Aside (SWK encQ 2 w0 g 0 M.toArray w2) := by rw [hw2]; exact ((S1.out.drew).alloc _).alloc _
          clear S1 p0 p1 p2 p3 q0 q1' q2 q3 hw2 HC
          by_cases hzz : z < 0
          · have hdz : decide (z < 0) = true := decide_eq_true hzz
            have HLT := Lib.hid (HZN.out.1 hzz)
            go_wp2_with (fail)
            refine rg_below fun p hx hne hC hbel => ?_
            refine rg_quiet 0 [15,16] hC ?_
            simp only [pickD, List.map_cons, List.map_nil, List.getD_cons_zero, List.getD_cons_succ]; repeat (go_big_quiet_step (fail))
            refine wpQuiet_nil ?_
            refine rg_end ?_
            clear hx hne hC hbel hdz
            obtain ⟨P', hP', p0, p1, p2, p3⟩ := swk_cells2 S2.out R (by have := HS.out; have := HN.out; omega) hpl
            obtain ⟨Q', hQ', q0, q1', q2, q3⟩ := swk_cells2 S2.out R (by have := HS.out; have := HN.out; omega) hql
            have S3 : Aside (SWK encQ 2 w0 g 0 (swapL M j q).toArray ((((w2.drew.setCell ⟨g, j * 2, none⟩ (.int .u64 Q'.off)).setCell ⟨g, j * 2 + 1, none⟩ (.slice Q'.a Q'.n Q'.c)).setCell ⟨g, q * 2, none⟩ (.int .u64 P'.off)).setCell ⟨g, q * 2 + 1, none⟩ (.slice P'.a P'.n P'.c))) := swk_swap2 S2.out R hpl hql hP' hQ'
            have hnx : (swapL M j q).length = M0.length ∧ Moved a b M0 (swapL M j q) ∧ InsD M0 (swapL M j q) i q ∧ ∀ k, q ≤ k → k < i → keyQ (at' M0 i) < keyQ (at' M0 k) := by
              have hq9 := HQJ.out
              refine ⟨by rw [swapL_length]; exact hM.out.1, hM.out.2.1.trans (Moved.swap (by omega) (by omega) (by omega) (by omega) (by omega)), ?_, fun k h1 h2 => ?_⟩
              · obtain rfl : j = q + 1 := by omega
                exact hM.out.2.2.1.step (by omega) (by omega)
              · by_cases hk : k = q
                · rw [hk, EP.out, EQ.out]; exact HLT.out
                · exact hM.out.2.2.2 k (by omega) h2
            have HNX := Lib.hid hnx
            have hpq : ¬ j = q := by omega
            have n0 : ¬ q * 2 = j * 2 := by omega
            have n1 : ¬ q * 2 = j * 2 + 1 := by omega
            have n2 : ¬ q * 2 + 1 = j * 2 := by omega
            have n3 : ¬ q * 2 + 1 = j * 2 + 1 := by omega
            have wpp : IntKind.i64.wrap (j : Int) = (j : Int) := by rw [IntKind.wrap_i64]; omega
            have wqq : IntKind.i64.wrap (q : Int) = (q : Int) := by rw [IntKind.wrap_i64]; omega
            clear S2 hnx hP' hQ' hM HEND hpl hql hML
            go_wp2_with (fail)
            go_big_region_o
            go_wp2_with (fail)
            exact ⟨⟨q, _, rfl, by omega, by omega, S3, HNX⟩, by simp [intOf]; omega⟩
          · have hdz : decide (z < 0) = false := decide_eq_false hzz
            have hkk : ¬ P.off < Qq.off := fun h9 => hzz (HZN.out.2 h9)
            have hK := Lib.hid (HEND.out (fun k h1 h2 => by
              have h9 := hM0.out.2.2 k q h1 (by have := HQJ.out; omega) (by omega)
              rw [EQ.out] at h9
              rw [EP.out]
              unfold keyQ at *
              omega))
            clear hkk
            go_wp2_with (fail)
            refine rg_below fun p hx hne hC hbel => ?_
            refine rg_quiet 0 [15,16] hC ?_
            simp only [pickD, List.map_cons, List.map_nil, List.getD_cons_zero, List.getD_cons_succ]; repeat (go_big_quiet_step (fail))
            refine wpQuiet_nil ?_
            refine rg_end ?_
            clear hx hne hC hbel
            go_wp2_with (fail)
            exact ⟨⟨i + 1, M, by go_num, by omega, .inl (by omega), S2, hK⟩, by simp [intOf]; omega⟩
    · have hord : Ord keyQ a b M0 := fun x y h1 h2 h3 => hM.out.2.2 x y h1 h2 (by omega)
      have HF := Lib.hid (And.intro hM.out.2.1 hord)
      clear hord hM
      go_wp2_with (fail)
      go_returns
      exact ⟨rfl, M0, S1.out, HF.out.1, HF.out.2⟩
end Go.Proofs.Yticnjdlapioppaa
