/- Walks: Neat; the document's In, Same. -/
import Derived.Test.YtidfimpchbkppaaSpM
import Derived.Laws.StructEq
namespace Go.Proofs.Ytidfimpchbkppaa
open Go.RowKit
set_option linter.unusedVariables false

set_option maxHeartbeats 1000000 in
theorem neat_any (a : Option Addr) (n cap : Nat) (L : List Rg) (w : World) (hn : n = L.length) (hR : Rs w a cap L) :
    Calls Try.prog 21 #[.slice a n cap] w fun e w' => Below w.heap.size w w' ∧ ∃ v, e = .returned (.bool v) ∧ (v = true ↔ NeatFrom (-1) L) := by
  subst hn
  have hlen := hR.len
  unfold maxLen at hlen
  have hb := hR.bnd
  have HR := Lib.hid hR
  have HN := Lib.hid (neat_iff hb)
  have HB := Lib.hid hb
  clear hR hb
  go_enter Try.func21, Try.ntmps21
  go_wp2_with (fail)
  go_loopw [3, 4, 7] (fun _ _ i wr => ∃ k : Nat, i = .int .i64 k ∧ k ≤ L.length ∧ Below w.heap.size w wr ∧ Hid (∀ j : Nat, j < k → okAt L j)) (fun _ _ i _ => L.length - (intOf i).toNat)
  case atStart => exact ⟨0, rfl, by omega, Below.refl _ _, Lib.hid (fun j h => by omega)⟩
  case round =>
    obtain ⟨k, rfl, hk, bw, hok⟩ := hrel
    by_cases hlt : k < L.length
    · obtain ⟨b, off, ha, hb, c1, c2⟩ := (HR.out.below bw).at_ hlt
      subst ha
      have hbd := HB.out.getD hlt
      have hko : okAt L k ↔ (L.getD k default).1 < (L.getD k default).2 ∧ (0 < k → (L.getD (k - 1) default).2 < (L.getD k default).1) := Iff.rfl
      generalize (L.getD k default).1 = x at *
      generalize (L.getD k default).2 = y at *
      have HKO := Lib.hid hko
      clear hko
      by_cases h1 : x < y
      · have g1 : decide (y ≤ x) = false := by simp; omega
        rcases Nat.eq_zero_or_pos k with hk0 | hk0
        · have g2 : decide (0 < k) = false := by simp; omega
          have HK0 := Lib.hid hk0
          clear hk0
          go_wp2_with (fail)
          refine rg_start 20 ?_
          refine rg_same fun p hx hne hC => ?_
          refine rg_quiet 0 [0,1,2,3,4,5,6,7,8,9,10,11,12,13,14,15,16,17,18,19] hC ?_
          simp only [pickD, List.map_cons, List.map_nil, List.getD_cons_zero, List.getD_cons_succ]; repeat (go_big_quiet_step (fail))
          refine wpQuiet_nil ?_
          refine rg_end ?_
          go_wp2_with (fail)
          have hk0 := HK0.out
          refine ⟨⟨k + 1, by go_num, by omega, ?_, Lib.hid ?_⟩, by simp [intOf]; omega⟩
          · exact (bw.alloc bw.size _).drew
          · intro j hj
            rcases Nat.lt_or_ge j k with h | h
            · exact hok.out j h
            · obtain rfl : j = k := by omega
              exact HKO.out.2 ⟨h1, fun h => by omega⟩
        · obtain ⟨m, rfl⟩ : ∃ m, k = m + 1 := ⟨k - 1, by omega⟩
          have g2 : decide (0 < m + 1) = true := by simp
          obtain ⟨b', off', ha', hb', c3, c4⟩ := (HR.out.below bw).at_ (i := m) (by omega)
          cases ha'
          have hbd' := HB.out.getD (i := m) (by omega)
          have hko : okAt L (m + 1) ↔ x < y ∧ (L.getD m default).2 < x := HKO.out.trans (by simp)
          clear HKO
          have HKO := Lib.hid hko
          clear hko
          generalize (L.getD m default).1 = x' at *
          generalize (L.getD m default).2 = y' at *
          by_cases h2 : y' < x
          · go_wp2_with (fail)
            refine rg_start 20 ?_
            refine rg_same fun p hx hne hC => ?_
            refine rg_quiet 0 [0,1,2,3,4,5,6,7,8,9,10,11,12,13,14,15,16,17,18,19] hC ?_
            simp only [pickD, List.map_cons, List.map_nil, List.getD_cons_zero, List.getD_cons_succ]; repeat (go_big_quiet_step (fail))
            refine wpQuiet_nil ?_
            refine rg_end ?_
            go_wp2_with (fail)
            refine ⟨⟨m + 1 + 1, by go_num, by omega, ?_, Lib.hid ?_⟩, by simp [intOf]; omega⟩
            · exact (bw.alloc bw.size _).drew
            · intro j hj
              rcases Nat.lt_or_ge j (m + 1) with h | h
              · exact hok.out j h
              · obtain rfl : j = m + 1 := by omega
                exact HKO.out.2 ⟨h1, h2⟩
          · go_wp2_with (fail)
            refine rg_start 20 ?_
            refine rg_same fun p hx hne hC => ?_
            refine rg_quiet 0 [0,1,2,3,4,5,6,7,8,9,10,11,12,13,14,15,16,17,18,19] hC ?_
            simp only [pickD, List.map_cons, List.map_nil, List.getD_cons_zero, List.getD_cons_succ]; repeat (go_big_quiet_step (fail))
            refine wpQuiet_nil ?_
            refine rg_end ?_
            go_wp2_with (fail)
            go_returns
            refine ⟨(bw.alloc bw.size _).drew, false, rfl, ?_⟩
            simp only [Bool.false_eq_true, false_iff]
            intro h
            have := (HKO.out.1 (HN.out.1 h _ hlt)).2
            omega
      · have g1 : decide (y ≤ x) = true := by simp; omega
        go_wp2_with (fail)
        refine rg_start 20 ?_
        refine rg_same fun p hx hne hC => ?_
        refine rg_quiet 0 [0,1,2,3,4,5,6,7,8,9,10,11,12,13,14,15,16,17,18,19] hC ?_
        simp only [pickD, List.map_cons, List.map_nil, List.getD_cons_zero, List.getD_cons_succ]; repeat (go_big_quiet_step (fail))
        refine wpQuiet_nil ?_
        refine rg_end ?_
        go_wp2_with (fail)
        go_returns
        refine ⟨(bw.alloc bw.size _).drew, false, rfl, ?_⟩
        simp only [Bool.false_eq_true, false_iff]
        intro h
        have := (HKO.out.1 (HN.out.1 h _ hlt)).1
        omega
    · obtain rfl : k = L.length := by omega
      go_wp2_with (fail)
      go_returns
      exact ⟨bw, true, rfl, by simp only [true_iff]; exact HN.out.2 hok.out⟩

set_option maxHeartbeats 1000000 in
theorem in_any (a : Option Addr) (n cap : Nat) (L : List Rg) (x : Int) (w : World) (hn : n = L.length) (hx : 0 ≤ x ∧ x ≤ 18446744073709551615) (hR : Rs w a cap L) :
    Calls Try.prog 25 #[.slice a n cap, .int .u64 x] w fun e w' => w' = w ∧ e = .returned (.bool (inB L x)) := by
  subst hn
  have hlen := hR.len
  unfold maxLen at hlen
  have hb := hR.bnd
  have HR := Lib.hid hR
  have HB := Lib.hid hb
  clear hR hb
  obtain ⟨v, hv⟩ : ∃ v, inB L x = v := ⟨_, rfl⟩
  have HV := Lib.hid hv
  rw [hv]
  clear hv
  go_enter Try.func25, Try.ntmps25
  go_wp2_with (fail)
  go_loop [5] (fun i => ∃ k : Nat, i = .int .i64 k ∧ k ≤ L.length ∧ Hid (∀ j : Nat, j < k → ¬ ((L.getD j default).1 ≤ x ∧ x < (L.getD j default).2))) (fun i => L.length - (intOf i).toNat)
  case atStart => exact ⟨0, rfl, by omega, Lib.hid (fun j h => by omega)⟩
  case round =>
    obtain ⟨k, rfl, hk, hok⟩ := hrel
    by_cases hlt : k < L.length
    · obtain ⟨b, off, ha, hb, c1, c2⟩ := HR.out.at_ hlt
      subst ha
      have hbd := HB.out.getD hlt
      obtain ⟨x1, e1⟩ : ∃ x1, (L.getD k default).1 = x1 := ⟨_, rfl⟩
      obtain ⟨y1, e2⟩ : ∃ x1, (L.getD k default).2 = x1 := ⟨_, rfl⟩
      rw [e1] at c1 hbd
      rw [e2] at c2 hbd
      have E1 := Lib.hid e1
      have E2 := Lib.hid e2
      clear e1 e2
      by_cases h1 : x1 ≤ x
      · by_cases h2 : x < y1
        · go_wp2_with (fail)
          go_returns
          refine ⟨rfl, ?_⟩
          have : v = true := by
            rw [← HV.out, inB_iff]
            exact ⟨L.getD k default, by simp [hlt], by rw [E1.out]; exact h1, by rw [E2.out]; exact h2⟩
          rw [this]; rfl
        · go_wp2_with (fail)
          refine ⟨⟨k + 1, by go_num, by omega, Lib.hid ?_⟩, by simp [intOf]; omega⟩
          intro j hj
          rcases Nat.lt_or_ge j k with h | h
          · exact hok.out j h
          · obtain rfl : j = k := by omega
            rw [E1.out, E2.out]; omega
      · go_wp2_with (fail)
        refine ⟨⟨k + 1, by go_num, by omega, Lib.hid ?_⟩, by simp [intOf]; omega⟩
        intro j hj
        rcases Nat.lt_or_ge j k with h | h
        · exact hok.out j h
        · obtain rfl : j = k := by omega
          rw [E1.out, E2.out]; omega
    · obtain rfl : k = L.length := by omega
      go_wp2_with (fail)
      go_returns
      refine ⟨rfl, ?_⟩
      have : v = false := by
        rw [← HV.out, ← Bool.not_eq_true, inB_iff]
        rintro ⟨r, hr, h1, h2⟩
        obtain ⟨j, hj, rfl⟩ := List.getElem_of_mem hr
        have := hok.out j hj
        simp [hj] at this
        omega
      rw [this]; rfl

theorem rg_eq : ∀ (r s : Rg) (w : World), (binOp .eql 31 (rgV r) (rgV s)).run Try.prog w = .ok (.bool (decide (r = s))) w := by
  intro x y w
  have u3 := Try.underlying28
  have a3 := Try.isAgg28
  have z3 := Try.sizeOf28
  have hS : Try.prog.underlying 31 = some (.struct (Try.prog.fieldsOf 31)) := by kernel_rfl
  have hp : Try.prog.stoodInHeld 31 = false := by kernel_rfl
  simp only [rgV]
  rw [run_eql_struct, show (10000 : Nat) = 9999 + 1 from rfl, run_equalIn_agg w 9999 31 _ _ hS hp]
  simp only [Program.fieldsOf, Try.underlying31]
  go_simp
  by_cases h1 : x.fst = y.fst <;> by_cases h2 : x.snd = y.snd <;> simp [Prod.ext_iff, h1, h2]
theorem rg_eq' (x y x' y' : Int) (w : World) : (binOp .eql 31 (.agg #[.int .u64 x, .int .u64 y]) (.agg #[.int .u64 x', .int .u64 y'])).run Try.prog w = .ok (.bool (decide ((x, y) = (x', y')))) w := rg_eq (x, y) (x', y') w
attribute [go_sem ↓] rg_eq'
set_option maxHeartbeats 1000000 in
theorem same_any (a b : Option Addr) (n m cap cap' : Nat) (L M : List Rg) (w : World) (hn : n = L.length) (hm : m = M.length) (hL : Rs w a cap L) (hM : Rs w b cap' M) :
    Calls Try.prog 16 #[.slice a n cap, .slice b m cap'] w fun e w' => Below w.heap.size w w' ∧ e = .returned (.bool (decide (L = M))) := by
  subst hn hm
  have hlen := hL.len
  have hlen2 := hM.len
  unfold maxLen at hlen hlen2
  have HL := Lib.hid hL
  have HM := Lib.hid hM
  clear hL hM
  go_enter Try.func16, Try.ntmps16
  go_wp2_with (fail)
  go_loopw [5, 6] (fun o i wr => ∃ (k : Nat) (v : Bool), i = .int .i64 k ∧ o = .bool v ∧ k ≤ L.length ∧ Below w.heap.size w wr ∧ Hid (v = true ↔ L.length = M.length ∧ ∀ j : Nat, j < k → L.getD j default = M.getD j default)) (fun _ i _ => L.length - (intOf i).toNat)
  case atStart => exact ⟨0, decide (L.length = M.length), rfl, by simp [BEq.beq, Int.ofNat_inj], by omega, Below.refl _ _, Lib.hid (by simp)⟩
  case round =>
    obtain ⟨k, v, rfl, rfl, hk, bw, hok⟩ := hrel
    cases v with
    | false =>
      by_cases hlt : k < L.length
      · go_wp2_with (fail)
        go_returns
        refine ⟨bw, ?_⟩
        rw [show decide (L = M) = false by
          simp only [decide_eq_false_iff_not]
          rintro rfl
          have := hok.out.2 ⟨rfl, fun _ _ => rfl⟩
          cases this]
        rfl
      · go_wp2_with (fail)
        go_returns
        refine ⟨bw, ?_⟩
        rw [show decide (L = M) = false by
          simp only [decide_eq_false_iff_not]
          rintro rfl
          have := hok.out.2 ⟨rfl, fun _ _ => rfl⟩
          cases this]
        rfl
    | true =>
      by_cases hlt : k < L.length
      · have hml : k < M.length := by have := (hok.out.1 rfl).1; omega
        obtain ⟨b1, off1, ha1, hb1, c1, c2⟩ := (HL.out.below bw).at_ hlt
        obtain ⟨b2, off2, ha2, hb2, c3, c4⟩ := (HM.out.below bw).at_ hml
        subst ha1 ha2
        obtain ⟨r, hr⟩ : ∃ r, L.getD k default = r := ⟨_, rfl⟩
        obtain ⟨s, hs⟩ : ∃ r, M.getD k default = r := ⟨_, rfl⟩
        rw [hr] at c1 c2
        rw [hs] at c3 c4
        have H1 := Lib.hid hr
        have H2 := Lib.hid hs
        clear hr hs
        go_wp2_with (fail)
        refine rg_start 10 ?_
        refine rg_same fun p hx hne hC => ?_
        refine rg_quiet 0 [0,1,2,3,4,5,6,7,8,9] hC ?_
        simp only [pickD, List.map_cons, List.map_nil, List.getD_cons_zero, List.getD_cons_succ]; repeat (go_big_quiet_step (fail))
        refine wpQuiet_nil ?_
        refine rg_end ?_
        go_wp2_with (fail)
        refine ⟨⟨k + 1, decide (r = s), by go_num, by rw [show decide (r = s) = (decide (r.fst = s.fst) && decide (r.snd = s.snd)) by rw [Bool.eq_iff_iff]; simp [Prod.ext_iff]], by omega, bw.drew, Lib.hid ?_⟩, by simp [intOf]; omega⟩
        simp only [decide_eq_true_eq]
        have hok' := hok.out.1 (by trivial)
        constructor
        · intro h
          refine ⟨hok'.1, fun j hj => ?_⟩
          rcases Nat.lt_or_ge j k with h3 | h3
          · exact hok'.2 j h3
          · obtain rfl : j = k := by omega
            rw [H1.out, H2.out, h]
        · intro h
          have := h.2 k (by omega)
          rw [H1.out, H2.out] at this
          exact this
      · go_wp2_with (fail)
        go_returns
        refine ⟨bw, ?_⟩
        have hok' := hok.out.1 (by trivial)
        rw [show decide (L = M) = true by
          simp only [decide_eq_true_eq]
          refine List.ext_getElem hok'.1 fun j h1 h2 => ?_
          have := hok'.2 j (by omega)
          simpa [h1, h2] using this]
        rfl
end Go.Proofs.Ytidfimpchbkppaa
