/- Statements of layer 14: RenoFlight: the walk. -/
import Derived.Test.YtnnlejllhmhmmaaReno
import Derived.Test.YtnnlejllhmhmmaaOwn
import Derived.Test.YtnnlejllhmhmmaaArgs
namespace Go.Proofs.Ytnnlejllhmhmmaa
open Go.RowKit
set_option linter.unusedVariables false
namespace Reno

theorem ints_et : ET Try.prog 37 24 1 8 := et_of (by kernel_rfl)

theorem sent_sum : ∀ (L : List Int) (f : Int), (∀ n ∈ L, 0 ≤ n ∧ n ≤ 1073741824) → f + L.length * 1073741824 ≤ 4611686018427387904 → L.foldl sentF f = f + L.sum ∧ 0 ≤ L.sum ∧ L.sum ≤ L.length * 1073741824 := by
  intro L
  induction L with
  | nil => intro f _ _; simp
  | cons n L ih =>
    intro f h hf
    have hn := h n (by simp)
    simp only [List.length_cons] at hf
    have e : sentF f n = f + n := by unfold sentF; omega
    obtain ⟨i1, i2, i3⟩ := ih (f + n) (fun m hm => h m (by simp [hm])) (by omega)
    refine ⟨?_, ?_, ?_⟩
    · simp only [List.foldl_cons, e, i1, List.sum_cons]; omega
    · simp only [List.sum_cons]; omega
    · simp only [List.sum_cons, List.length_cons]; omega
theorem sum_take (L : List Int) (k : Nat) (h : k < L.length) : (L.take (k + 1)).sum = (L.take k).sum + L.getD k 0 := by
  rw [List.take_succ_eq_append_getElem h, List.sum_append]
  simp [h]
theorem sum_bd : ∀ (L : List Int), (∀ n ∈ L, 0 ≤ n ∧ n ≤ 1073741824) → 0 ≤ L.sum ∧ L.sum ≤ L.length * 1073741824
  | [], _ => by simp
  | n :: L, h => by
    have := sum_bd L (fun m hm => h m (by simp [hm]))
    have hn := h n (by simp)
    simp only [List.sum_cons, List.length_cons]; omega
theorem sum_take_bd (L : List Int) (h : ∀ n ∈ L, 0 ≤ n ∧ n ≤ 1073741824) (k : Nat) (hk : k ≤ L.length) : 0 ≤ (L.take k).sum ∧ (L.take k).sum ≤ k * 1073741824 := by
  have := sum_bd (L.take k) (fun n hn => h n (List.mem_of_mem_take hn))
  rw [List.length_take_of_le hk] at this
  exact this

set_option maxRecDepth 100000 in
set_option maxHeartbeats 4000000 in
theorem flight_law (a c : Option Addr) (acap ccap : Nat) (A C : List Int) (w : World) (hA : IntsAt .u64 w a A) (hC : IntsAt .u64 w c C) (hal : A.length ≤ maxLen) (hcl : C.length ≤ maxLen) (han : a = none → acap = 0) (hcn : c = none → ccap = 0)  :
    Calls Try.prog 6 #[.slice a A.length acap, .slice c C.length ccap] w fun e w' => e = .returned (.bool true) ∧ Below w.heap.size w w' := by
  have hab := hA.lt
  have hcb := hC.lt
  have hal' : A.length ≤ 9223372036854775807 := by unfold maxLen at hal; omega
  have hcl' : C.length ≤ 9223372036854775807 := by unfold maxLen at hcl; omega
  by_cases hbig : 100 < A.length ∨ 100 < C.length
  · have hHA := Lib.hid hA
    have hHC := Lib.hid hC
    clear hA hC
    by_cases h1 : 100 < A.length
    all_goals
      go_enter Try.func6, Try.ntmps6
      go_wp2_with (fail)
      refine (works_any _).mono ?_
      rintro e w1 ⟨rfl, hb1⟩
      go_wp2_with (fail)
      refine (works_any _).mono ?_
      rintro e w2 ⟨rfl, hb2⟩
      go_wp2_with (fail)
      go_returns
      exact ⟨rfl, below_on hb1 hb2 hb1.size⟩
  · have h1 : A.length ≤ 100 := by omega
    have h2 : C.length ≤ 100 := by omega
    have hHA := Lib.hid hA
    have hHC := Lib.hid hC
    clear hA hC hbig
    go_enter Try.func6, Try.ntmps6
    go_wp2_with (fail)
    refine (works_any _).mono ?_
    rintro e w1 ⟨rfl, hb1⟩
    have z1 := hb1.size
    have hA1 := hHA.out.below hb1
    have hC1 := hHC.out.below hb1
    have ho0 := OwnS.new w1 w.heap.size z1 24 1 0 #[] (by simp) rfl
    have hs0 := SrcAt.ints (hA1.below ((Below.refl _ _).alloc (Nat.le_refl _) (.cells #[] 24))) han
    have HA1 := Lib.hid hA1
    have HC1 := Lib.hid hC1
    clear hA1 hC1
    go_wp2_with (at_builtin; refine Stop.mk ?_)
    refine Stop.out ?_
    refine wpList_app ints_et rfl rfl rfl rfl ho0 hs0 (by unfold maxLen; omega) (by omega) (by simp; omega) ?_
    intro a2 cap2 w2 ho2 hon2 hat2
    have hs2 : SrcAt w2 c C.length ccap 1 (C.map (Value.int .u64)) := SrcAt.ints (HC1.out.only (((Only.refl _ w1).alloc (.cells #[] 24)).trans (hon2.mono (S' := fun k => k = w1.heap.size) (by rintro k _ ⟨y, hy, rfl⟩; cases hy; rfl))) (by intro x hx h0; have := hcb x hx h0; omega)) hcn
    have ho2 : OwnS w2 w.heap.size 24 1 a2 A.length cap2 (A.map (Value.int .u64)) := by simpa using ho2
    have z2 := hon2.size
    simp only [World.size_alloc] at z2
    go_wp2_with (at_builtin; refine Stop.mk ?_)
    refine Stop.out ?_
    refine wpList_app ints_et rfl rfl rfl rfl ho2 hs2 (by unfold maxLen; omega) (by omega) (by omega) ?_
    intro a3 cap3 w3 ho3 hon3 hat3
    have hW : ∀ x ∈ A ++ C, (Lit.int .u64 x).wf = true := by
      intro x hx
      rcases List.mem_append.1 hx with hx | hx
      · exact hHA.out.wf x hx
      · exact hHC.out.wf x hx
    have hi3 : IntsAt .u64 w3 a3 (A ++ C) := (OwnS.ints (L := A ++ C) (by simpa using ho3) hW).2
    have z3 := hon3.size
    have k2 : Below w.heap.size w w2 := below_onto (hb1.alloc z1 (.cells #[] 24)) hon2 (by simp; omega) (by rintro k hk ⟨y, hy, rfl⟩; cases hy; simp at hk; omega)
    have k3 : Below w.heap.size w w3 := below_onto k2 hon3 (by omega) (by rintro k hk ⟨y, hy, rfl⟩; have := (ho2.block hy).1; omega)
    have hi3' := Lib.hid hi3
    have hW' := Lib.hid hW
    clear hi3 hW hat2 hat3 hon2 hon3 ho0 hs0 hs2
    go_wp2_with (fail)
    go_loop [7, 30] (fun _ i => ∃ k : Nat, i = .int .i64 k ∧ k ≤ A.length + C.length ∧ Hid (∀ j, j < k → (A ++ C).getD j 0 ≤ 1073741824)) (fun _ i => A.length + C.length - (intOf i).toNat)
    case atStart => exact ⟨0, rfl, by omega, fun j hj => by omega⟩
    case round =>
      obtain ⟨k, rfl, hk, hall⟩ := hrel
      by_cases hlt : k < A.length + C.length
      · obtain ⟨b3, o3, rfl, _, hc3, hw3⟩ := hi3'.out k (by simp; omega)
        have hbd := bounds_u64 hw3
        obtain ⟨x, hx⟩ : ∃ x, Hid ((A ++ C).getD k 0 = x) := ⟨_, rfl⟩
        rw [hx.out] at hc3 hbd
        clear hw3
        by_cases hbigx : 1073741824 < x
        · go_wp2_with (fail)
          refine (works_any _).mono ?_
          rintro e w4 ⟨rfl, hb4⟩
          go_wp2_with (fail)
          go_returns
          exact ⟨rfl, below_on k3 hb4 (by omega)⟩
        · go_wp2_with (fail)
          refine ⟨⟨k + 1, by go_num, by omega, fun j hj => ?_⟩, by simp [intOf]; omega⟩
          by_cases hjk : j < k
          · exact hall.out j hjk
          · obtain rfl : j = k := by omega
            rw [hx.out]; omega
      · obtain rfl : k = A.length + C.length := by omega
        have hbA : Hid (∀ n ∈ A, 0 ≤ n ∧ n ≤ 1073741824) := fun n hn => by
          have h0 := (bounds_u64 (hW'.out n (by simp [hn]))).1
          obtain ⟨j, hj, rfl⟩ := List.getElem_of_mem hn
          have := hall.out j (by omega)
          rw [List.getD_eq_getElem?_getD, List.getElem?_append_left hj, List.getElem?_eq_getElem hj] at this
          exact ⟨h0, this⟩
        have hbC : Hid (∀ n ∈ C, 0 ≤ n ∧ n ≤ 1073741824) := fun n hn => by
          have h0 := (bounds_u64 (hW'.out n (by simp [hn]))).1
          obtain ⟨j, hj, rfl⟩ := List.getElem_of_mem hn
          have := hall.out (A.length + j) (by omega)
          rw [List.getD_eq_getElem?_getD, List.getElem?_append_right (by omega), show A.length + j - A.length = j from by omega, List.getElem?_eq_getElem hj] at this
          exact ⟨h0, this⟩
        obtain ⟨sA, hsA⟩ : ∃ x, Hid (A.sum = x) := ⟨_, rfl⟩
        obtain ⟨sC, hsC⟩ : ∃ x, Hid (C.sum = x) := ⟨_, rfl⟩
        obtain ⟨eA, bA0, bA1⟩ := sent_sum A 0 hbA.out (by omega)
        rw [hsA.out] at eA bA0 bA1
        obtain ⟨eC, bC0, bC1⟩ := sent_sum C sA hbC.out (by omega)
        rw [hsC.out] at eC bC0 bC1
        have eA' := Lib.hid eA
        have eC' := Lib.hid eC
        clear eA eC
        go_wp2_with (fail)
        refine (new_any _).mono ?_
        rintro e w4 ⟨rfl, rfl⟩
        have bl4 := Blk.new w3 fresh.vals 44
        have k4 := k3.alloc (by omega : w.heap.size ≤ w3.heap.size) (.cells fresh.vals 44)
        have hA4 := hHA.out.below k4
        have hC4 := hHC.out.below k4
        have HC4 := Lib.hid hC4
        clear hC4
        generalize hw4 : w3.alloc (.cells fresh.vals 44) = w4 at *
        have z4 : w4.heap.size = w3.heap.size + 1 := by rw [← hw4]; simp
        clear hw4
        go_wp2_with (fail)
        refine (sent_any _ fresh a acap A w4 hal hA4 (by intro x hx h0; have := hab x hx h0; omega) (by simp [fresh]) bl4).mono ?_
        rintro e w5 ⟨rfl, bl5, ho5⟩
        rw [show ({ fresh with fl := A.foldl sentF fresh.fl } : NS) = ⟨12000, 4611686018427387904, sA, 0, false, 0⟩ from by simp only [fresh]; rw [show (A.foldl sentF 0) = sA from by rw [eA'.out]; omega]] at bl5
        have k5 := below_onto k4 ho5 (by omega) (by intro k hk; omega)
        have hC5 : IntsAt .u64 w5 c C := HC4.out.only ho5 (by intro x hx h0; have := hcb x hx h0; omega)
        have HC5 := Lib.hid hC5
        clear hA4 hC5
        have c5 : w5.cell? ⟨w3.heap.size, 2, none⟩ = some (.int .u64 sA) := bl5.cell 2 _ rfl
        go_wp2_with (fail)
        refine (sent_any _ _ c ccap C w5 hcl HC5.out (by intro x hx h0; have := hcb x hx h0; omega) (by simp only; omega) bl5).mono ?_
        rintro e w6 ⟨rfl, bl6, ho6⟩
        rw [show ({ (⟨12000, 4611686018427387904, sA, 0, false, 0⟩ : NS) with fl := C.foldl sentF sA } : NS) = ⟨12000, 4611686018427387904, sA + sC, 0, false, 0⟩ from by rw [eC'.out]] at bl6
        have k6 := below_onto k5 ho6 (by have := bl5.lt; omega) (by intro k hk; omega)
        have hC6 : IntsAt .u64 w6 c C := HC5.out.only ho6 (by intro x hx h0; have := hcb x hx h0; omega)
        have HC6 := Lib.hid hC6
        clear hC6 c5
        have c60 : w6.cell? ⟨w3.heap.size, 0, none⟩ = some (.int .u64 12000) := bl6.cell 0 _ rfl
        have c6 : w6.cell? ⟨w3.heap.size, 2, none⟩ = some (.int .u64 (sA + sC)) := bl6.cell 2 _ rfl
        go_wp2_with (fail)
        go_loop [5, 11, 52] (fun s _ i => ∃ k : Nat, ∃ t : Int, i = .int .i64 k ∧ s = .int .u64 t ∧ k ≤ C.length ∧ Hid ((C.take k).sum = t)) (fun _ _ i => C.length - (intOf i).toNat)
        case atStart => exact ⟨0, 0, rfl, rfl, by omega, rfl⟩
        case round =>
          obtain ⟨k, t, rfl, rfl, hk, ht⟩ := hrel
          have ht0 := sum_take_bd C hbC.out k hk
          rw [ht.out] at ht0
          by_cases hlt : k < C.length
          · obtain ⟨b3, o3, rfl, _, hc3, hw3⟩ := HC6.out k hlt
            have hst := sum_take C k hlt
            rw [ht.out] at hst
            have hbx : 0 ≤ C.getD k 0 ∧ C.getD k 0 ≤ 1073741824 := by rw [List.getD_eq_getElem?_getD, List.getElem?_eq_getElem hlt]; exact hbC.out _ (List.getElem_mem hlt)
            have hst' := Lib.hid hst
            clear hst hw3
            generalize C.getD k 0 = x at *
            go_wp2_with (fail)
            exact ⟨⟨k + 1, t + x, by go_num, rfl, by omega, hst'.out⟩, by simp [intOf]; omega⟩
          · obtain rfl : k = C.length := by omega
            rw [List.take_of_length_le (Nat.le_refl _), hsC.out] at ht
            obtain rfl : sC = t := ht.out
            clear ht
            go_wp2_with (fail)
            go_loopw [12] (fun i wr => ∃ j : Nat, ∃ n t : Int, i = .int .i64 n ∧ j ≤ C.length ∧ n ≤ (j : Int) - 1 ∧ (j : Int) - 1 ≤ n ∧ Hid ((C.take j).sum = t) ∧ Blk wr w3.heap.size (NS.vals ⟨12000, 4611686018427387904, sA + t, 0, false, 0⟩) 44 ∧ Only (· = w3.heap.size) w6 wr) (fun i _ => (intOf i + 1).toNat)
            case atStart => exact ⟨C.length, _, sC, rfl, by omega, by omega, by omega, by rw [List.take_of_length_le (Nat.le_refl _)]; exact hsC, bl6, Only.refl _ _⟩
            case round =>
              obtain ⟨j, n, t, rfl, hj, hn1, hn2, ht, blr, hor⟩ := hrel
              clear c6 c60
              cases j with
              | zero =>
                obtain rfl : n = -1 := by omega
                obtain rfl : t = 0 := by have := ht.out; simpa using this.symm
                have cr0 : wr.cell? ⟨w3.heap.size, 0, none⟩ = some (.int .u64 12000) := blr.cell 0 _ rfl
                have cr : wr.cell? ⟨w3.heap.size, 2, none⟩ = some (.int .u64 (sA + 0)) := blr.cell 2 _ rfl
                rw [Int.add_zero] at cr
                have kr := below_onto k6 hor (by have := bl6.lt; omega) (by intro k hk; omega)
                go_wp2_with (fail)
                refine (works_any _).mono ?_
                rintro e w8 ⟨rfl, hb8⟩
                go_wp2_with (fail)
                go_returns
                exact ⟨rfl, below_on kr hb8 (by have := blr.lt; omega)⟩
              | succ j =>
                obtain rfl : n = j := by omega
                obtain ⟨b3, o3, rfl, hb3, hc3, hw3⟩ := (HC6.out.only hor (by intro x hx h0; have := hcb x hx h0; omega)) j (by omega)
                have hst := sum_take C j (by omega)
                rw [ht.out] at hst
                have hbx : 0 ≤ C.getD j 0 ∧ C.getD j 0 ≤ 1073741824 := by rw [List.getD_eq_getElem?_getD, List.getElem?_eq_getElem (by omega : j < C.length)]; exact hbC.out _ (List.getElem_mem _)
                have ht0 := sum_take_bd C hbC.out j (by omega)
                have hst' := Lib.hid hst
                clear hst
                generalize C.getD j 0 = x at *
                have zr := blr.lt
                go_wp2_with (fail)
                refine (gone_any _ _ (some ⟨wr.heap.size, 0, none⟩) 1 [x] _ (by simp [maxLen]) (one_ints hw3 _ (Blk.new _ _ _)) (by intro y hy _; cases hy; simp; omega) (by simp only; have := hst'.out; omega) (blr.alloc _)).mono ?_
                rintro e w9 ⟨rfl, bl9, ho9⟩
                go_wp2_with (fail)
                refine ⟨⟨j, (j : Int) - 1, (C.take j).sum, rfl, by omega, by omega, by omega, rfl, ?_, (hor.alloc _).trans ho9⟩, by simp [intOf]⟩
                have := hst'.out
                rw [show (⟨12000, 4611686018427387904, sA + (C.take j).sum, 0, false, 0⟩ : NS) = { (⟨12000, 4611686018427387904, sA + t, 0, false, 0⟩ : NS) with fl := [x].foldl goneF (sA + t) } from by simp [goneF]; omega]
                exact bl9

theorem walk_RenoFlight (H : Type) (enc : TypeId × Value → H) (w : World) (base : Nat) (v0 : Value) (d0 : DataW H) (p0 : List MemPlace) (v1 : Value) (d1 : DataW H) (p1 : List MemPlace)
    (o0 : Value.okWide Try.prog w .any base 37 v0) (h0 : DataW.Trod enc Try.prog w 0 (fun _ => true) true 37 v0 d0 p0)
    (o1 : Value.okWide Try.prog w .any base 37 v1) (h1 : DataW.Trod enc Try.prog w 0 (fun _ => true) true 37 v1 d1 p1) :
    Calls Try.prog 6 #[v0, v1] w fun e w' => e = .returned (.bool true) ∧ Below w.heap.size w w' := by
  obtain ⟨a, A, ac, rfl, hal, hA, han⟩ := open_intslice Try.underlying37 Try.underlying24 (by kernel_rfl) o0 h0
  obtain ⟨c, C, cc, rfl, hcl, hC, hcn⟩ := open_intslice Try.underlying37 Try.underlying24 (by kernel_rfl) o1 h1
  exact flight_law a c ac cc A C w hA hC hal hcl han hcn

end Reno
end Go.Proofs.Ytnnlejllhmhmmaa
