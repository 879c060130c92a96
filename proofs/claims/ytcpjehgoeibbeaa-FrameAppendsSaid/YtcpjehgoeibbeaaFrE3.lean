/- The document's ranges. -/
import Derived.Test.YtcpjehgoeibbeaaFrE2
namespace Go.Proofs.Ytcpjehgoeibbeaa
open Go.RowKit
set_option linter.unusedVariables false
namespace Frm
open Var
set_option maxHeartbeats 1000000 in
theorem rranges_any (a : Option Addr) (n cap : Nat) (L : List Rg) (r : Bool) (w : World) (hn : n = L.length) (hR : Rs w a cap L) (hr : acksOk L = r) :
    Calls Try.prog 31 #[.slice a n cap] w fun e w' => e = .returned (.bool r) ∧ Below w.heap.size w w' := by
  have hlen := hR.len
  unfold maxLen at hlen
  have HB := Lib.hid hR.bnd
  have HR := Lib.hid hR
  have HX := Lib.hid (acksOk_iff L)
  have HRR := Lib.hid hr
  have HN := Lib.hid hn
  rw [← hn] at hlen
  clear hR hr hn
  obtain ⟨q0, hq0⟩ : ∃ q, decide (0 < n) = q := ⟨_, rfl⟩
  have HQ0 := Lib.hid hq0
  go_enter Try.func31, Try.ntmps31
  go_wp2_with (fail)
  go_loopw [3, 4] (fun b i wr => ∃ (k : Nat) (bb : Bool), i = .int .i64 k ∧ b = .bool bb ∧ k ≤ n ∧ Below w.heap.size w wr ∧ Hid (bb = true → 0 < n ∧ ∀ j : Nat, j < k → okG L j) ∧ Hid (bb = false → r = false)) (fun _ i _ => n - (intOf i).toNat)
  case atStart =>
    refine ⟨0, q0, rfl, rfl, by omega, Below.refl _ _, Lib.hid (fun h => ⟨?_, fun j hj => by omega⟩), Lib.hid (fun h => ?_)⟩
    · rw [h] at hq0; simpa using hq0
    · rw [h] at hq0
      rw [← HRR.out, Bool.eq_false_iff]
      intro h2
      have := (HX.out.1 h2).1
      rw [← HN.out] at this
      simp at hq0
      omega
  case round =>
    obtain ⟨k, bb, rfl, rfl, hk, bw, ht, hf⟩ := hrel
    clear hq0
    by_cases hlt : k < n
    · cases bb with
      | false =>
        obtain rfl := hf.out rfl
        go_wp2_with (fail)
        go_returns
        exact ⟨rfl, bw⟩
      | true =>
        obtain ⟨b, off, ha, hb, c1, c2⟩ := (HR.out.below bw).at_ (i := k) (by rw [← HN.out]; exact hlt)
        subst ha
        have hbd := HB.out.getD (i := k) (by rw [← HN.out]; exact hlt)
        have hko : okG L k ↔ (L.getD k default).1 < (L.getD k default).2 ∧ (L.getD k default).2 ≤ 4611686018427387904 ∧ (0 < k → (L.getD (k - 1) default).2 < (L.getD k default).1) := Iff.rfl
        generalize (L.getD k default).1 = x at *
        generalize (L.getD k default).2 = y at *
        have HKO := Lib.hid hko
        clear hko
        have hbad : ∀ h : ¬ okG L k, r = false := fun h => by rw [← HRR.out]; exact acksOk_bad (by rw [← HN.out]; exact hlt) h
        have HBAD := Lib.hid hbad
        clear hbad
        obtain ⟨q1, hq1⟩ : ∃ q, decide (x < y) = q := ⟨_, rfl⟩
        obtain ⟨q2, hq2⟩ : ∃ q, decide (y ≤ 4611686018427387904) = q := ⟨_, rfl⟩
        have HQ1 := Lib.hid hq1
        have HQ2 := Lib.hid hq2
        rcases Nat.eq_zero_or_pos k with hk0 | hk0
        · have g2 : decide (0 < k) = false := by simp; omega
          have HK0 := Lib.hid hk0
          clear hk0
          cases q1
          · go_wp2_with (fail)
            refine rg_start 20 ?_
            refine rg_same fun p hx hne hC => ?_
            refine rg_quiet 0 [0,1,2,3,4,5,6,7,8,9,10,11,12,13,14,15,16,17,18,19] hC ?_
            simp only [pickD, List.map_cons, List.map_nil, List.getD_cons_zero, List.getD_cons_succ]; repeat (go_big_quiet_step (fail))
            refine wpQuiet_nil ?_
            refine rg_end ?_
            go_wp2_with (fail)
            refine ⟨⟨k + 1, false, by go_num, rfl, by omega, bw.drew, Lib.hid (fun h => nomatch h), Lib.hid fun _ => HBAD.out fun h => ?_⟩, by simp [intOf]; omega⟩
            have := (HKO.out.1 h).1
            have := HQ1.out
            simp at this
            omega
          · go_wp2_with (fail)
            refine rg_start 20 ?_
            refine rg_same fun p hx hne hC => ?_
            refine rg_quiet 0 [0,1,2,3,4,5,6,7,8,9,10,11,12,13,14,15,16,17,18,19] hC ?_
            simp only [pickD, List.map_cons, List.map_nil, List.getD_cons_zero, List.getD_cons_succ]; repeat (go_big_quiet_step (fail))
            refine wpQuiet_nil ?_
            refine rg_end ?_
            go_wp2_with (fail)
            refine ⟨⟨k + 1, q2, by go_num, rfl, by omega, bw.drew, Lib.hid (fun h => ⟨by omega, fun j hj => ?_⟩), Lib.hid fun hq => HBAD.out fun h => ?_⟩, by simp [intOf]; omega⟩
            · have hk0 := HK0.out
              obtain rfl : j = k := by omega
              have h1 := HQ1.out
              have h2 := HQ2.out
              rw [h] at h2
              simp at h1 h2
              exact HKO.out.2 ⟨h1, h2, fun h => by omega⟩
            · have := (HKO.out.1 h).2.1
              have h2 := HQ2.out
              rw [hq] at h2
              simp at h2
              omega
        · obtain ⟨m, rfl⟩ : ∃ m, k = m + 1 := ⟨k - 1, by omega⟩
          have g2 : decide (0 < m + 1) = true := by simp
          obtain ⟨b', off', ha', hb', c3, c4⟩ := (HR.out.below bw).at_ (i := m) (by rw [← HN.out]; omega)
          cases ha'
          have hbd' := HB.out.getD (i := m) (by rw [← HN.out]; omega)
          have hko : okG L (m + 1) ↔ x < y ∧ y ≤ 4611686018427387904 ∧ (L.getD m default).2 < x := HKO.out.trans (by simp)
          clear HKO
          have HKO := Lib.hid hko
          clear hko
          generalize (L.getD m default).1 = x' at *
          generalize (L.getD m default).2 = y' at *
          obtain ⟨q3, hq3⟩ : ∃ q, decide (y' < x) = q := ⟨_, rfl⟩
          have HQ3 := Lib.hid hq3
          cases q1
          · go_wp2_with (fail)
            refine rg_start 20 ?_
            refine rg_same fun p hx hne hC => ?_
            refine rg_quiet 0 [0,1,2,3,4,5,6,7,8,9,10,11,12,13,14,15,16,17,18,19] hC ?_
            simp only [pickD, List.map_cons, List.map_nil, List.getD_cons_zero, List.getD_cons_succ]; repeat (go_big_quiet_step (fail))
            refine wpQuiet_nil ?_
            refine rg_end ?_
            go_wp2_with (fail)
            refine rg_start 16 ?_
            refine rg_same fun p hx hne hC => ?_
            refine rg_quiet 0 [0,1,2,3,4,5,6,7,8,9,10,11,12,13,14,15] hC ?_
            simp only [pickD, List.map_cons, List.map_nil, List.getD_cons_zero, List.getD_cons_succ]; repeat (go_big_quiet_step (fail))
            refine wpQuiet_nil ?_
            refine rg_end ?_
            go_wp2_with (fail)
            refine ⟨⟨m + 1 + 1, false, by go_num, rfl, by omega, bw.drew.drew, Lib.hid (fun h => nomatch h), Lib.hid fun _ => HBAD.out fun h => ?_⟩, by simp [intOf]; omega⟩
            have := (HKO.out.1 h).1
            have := HQ1.out
            simp at this
            omega
          · cases q2
            · go_wp2_with (fail)
              refine rg_start 20 ?_
              refine rg_same fun p hx hne hC => ?_
              refine rg_quiet 0 [0,1,2,3,4,5,6,7,8,9,10,11,12,13,14,15,16,17,18,19] hC ?_
              simp only [pickD, List.map_cons, List.map_nil, List.getD_cons_zero, List.getD_cons_succ]; repeat (go_big_quiet_step (fail))
              refine wpQuiet_nil ?_
              refine rg_end ?_
              go_wp2_with (fail)
              refine rg_start 16 ?_
              refine rg_same fun p hx hne hC => ?_
              refine rg_quiet 0 [0,1,2,3,4,5,6,7,8,9,10,11,12,13,14,15] hC ?_
              simp only [pickD, List.map_cons, List.map_nil, List.getD_cons_zero, List.getD_cons_succ]; repeat (go_big_quiet_step (fail))
              refine wpQuiet_nil ?_
              refine rg_end ?_
              go_wp2_with (fail)
              refine ⟨⟨m + 1 + 1, false, by go_num, rfl, by omega, bw.drew.drew, Lib.hid (fun h => nomatch h), Lib.hid fun _ => HBAD.out fun h => ?_⟩, by simp [intOf]; omega⟩
              have := (HKO.out.1 h).2.1
              have := HQ2.out
              simp at this
              omega
            · go_wp2_with (fail)
              refine rg_start 20 ?_
              refine rg_same fun p hx hne hC => ?_
              refine rg_quiet 0 [0,1,2,3,4,5,6,7,8,9,10,11,12,13,14,15,16,17,18,19] hC ?_
              simp only [pickD, List.map_cons, List.map_nil, List.getD_cons_zero, List.getD_cons_succ]; repeat (go_big_quiet_step (fail))
              refine wpQuiet_nil ?_
              refine rg_end ?_
              go_wp2_with (fail)
              refine rg_start 16 ?_
              refine rg_same fun p hx hne hC => ?_
              refine rg_quiet 0 [0,1,2,3,4,5,6,7,8,9,10,11,12,13,14,15] hC ?_
              simp only [pickD, List.map_cons, List.map_nil, List.getD_cons_zero, List.getD_cons_succ]; repeat (go_big_quiet_step (fail))
              refine wpQuiet_nil ?_
              refine rg_end ?_
              go_wp2_with (fail)
              refine ⟨⟨m + 1 + 1, q3, by go_num, rfl, by omega, bw.drew.drew, Lib.hid (fun hq => ⟨by omega, fun j hj => ?_⟩), Lib.hid fun hq => HBAD.out fun h => ?_⟩, by simp [intOf]; omega⟩
              · rcases Nat.lt_or_ge j (m + 1) with h | h
                · exact (ht.out trivial).2 j h
                · obtain rfl : j = m + 1 := by omega
                  have h1 := HQ1.out
                  have h2 := HQ2.out
                  have h3 := HQ3.out
                  rw [hq] at h3
                  simp at h1 h2 h3
                  exact HKO.out.2 ⟨h1, h2, h3⟩
              · have := (HKO.out.1 h).2.2
                have h3 := HQ3.out
                rw [hq] at h3
                simp at h3
                omega
    · obtain rfl : k = n := by omega
      have hr : r = bb := by
        cases bb with
        | false => exact hf.out rfl
        | true =>
          rw [← HRR.out]
          have := ht.out rfl
          exact HX.out.2 ⟨by rw [← HN.out]; exact this.1, by rw [← HN.out]; exact this.2⟩
      subst hr
      go_wp2_with (fail)
      go_returns
      exact ⟨rfl, bw⟩
end Frm
end Go.Proofs.Ytcpjehgoeibbeaa
