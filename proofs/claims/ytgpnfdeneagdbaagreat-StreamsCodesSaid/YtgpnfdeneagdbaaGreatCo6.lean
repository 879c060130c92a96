/- The search for a stream's place. -/
import Derived.Test.YtgpnfdeneagdbaaGreatCo5
import Derived.Test.YtgpnfdeneagdbaaGreatPrt
namespace Go.Proofs.YtgpnfdeneagdbaaGreat
open Go.RowKit
set_option linter.unusedVariables false
theorem ss_size : ((Tryz.prog).info? 68).map (·.size) = some 28 := by kernel_rfl
theorem part_of {w : World} {g o : Nat} {x : Strm} (h : ∀ j, j < 28 → w.cell? ⟨g, o + j, none⟩ = (ssV x)[j]? ∧ w.frozen? ⟨g, o + j, none⟩ = false) : ∀ j v, (ssV x)[j]? = some v → w.cell? ⟨g, o + j, none⟩ = some v := fun j v hv => by
  have hj : j < 28 := (List.getElem?_eq_some_iff.1 hv).1
  rw [(h j hj).1, hv]
set_option maxRecDepth 100000 in
set_option maxHeartbeats 2000000 in
theorem bsearch_any (base : Nat) (a : Option Addr) (n cap : Nat) (L : List Strm) (id : Nat) (w : World) (hn : n = L.length) (hO : OwnS w base 68 28 a n cap (L.flatMap ssV)) (hA : Asc L) (hlen : L.length ≤ 256) :
    Calls Tryz.prog 75 #[.slice a n cap, .int .u64 id, .func (.func 76) #[] #[]] w fun e w' => Below w.heap.size w w' ∧ e = .returned (.tuple #[.int .i64 (posL id L : Nat), .bool (hasL id L)]) := by
  subst hn
  have HO := Lib.hid hO
  have HA := Lib.hid hA
  obtain ⟨n, hn⟩ : ∃ n, L.length = n := ⟨_, rfl⟩
  have HN := Lib.hid hn
  rw [hn] at hlen
  rw [hn] at HO
  rw [hn]
  obtain ⟨R, hR⟩ : ∃ R, (Ending.returned (.tuple #[.int .i64 (posL id L : Nat), .bool (hasL id L)])) = R := ⟨_, rfl⟩
  rw [hR]
  have HR := Lib.hid hR
  clear hO hA hn hR
  go_enter Tryz.func75, Tryz.ntmps75
  go_wp2_with (fail)
  go_loopw [9, 10, 11] (fun i j _ wr => ∃ lo hi : Nat, i = .int .i64 lo ∧ j = .int .i64 hi ∧ lo ≤ hi ∧ hi ≤ n ∧ Below w.heap.size w wr ∧ Hid ((∀ t, t < lo → (L.getD t default).id < id) ∧ (∀ t, hi ≤ t → t < n → id ≤ (L.getD t default).id))) (fun i j _ _ => (intOf j).toNat - (intOf i).toNat)
  case atStart => exact ⟨0, n, rfl, rfl, by omega, by omega, Below.refl _ _, Lib.hid ⟨fun t h => by omega, fun t h1 h2 => by omega⟩⟩
  case round =>
    obtain ⟨lo, hi, rfl, rfl, hlh, hhn, bw, hI⟩ := hrel
    by_cases hlt : lo < hi
    · obtain ⟨m, hm⟩ : ∃ m, (lo + hi) / 2 = m := ⟨_, rfl⟩
      have hml : lo ≤ m ∧ m < hi := by omega
      obtain ⟨x, hx⟩ : ∃ x, L[m]? = some x := by have := HN.out; exact ⟨L[m], by simp⟩
      obtain ⟨g, ha, hb, hg, hall⟩ := (HO.out.below bw).getS hx
      subst ha
      have HPT := Lib.hid (part_of hall)
      clear hall
      have hgx : L.getD m default = x := by simp [List.getD_eq_getElem?_getD, hx]
      have HG := Lib.hid hgx
      clear hgx hx
      have hc := at1_any x id wr
      have HC := Lib.hid hc
      clear hc
      have hmi : ((lo : Int) + (hi : Int)) / 2 = (m : Int) := by omega
      go_wp2_with (with_reducible refine stop_load ?_)
      refine Stop.out ?_
      refine wpList_loadPart (ssV x) Tryz.underlying68 rfl ss_size rfl rfl rfl HPT.out ?_
      go_wp2_with (fail)
      refine HC.out.mono ?_
      rintro e w1 ⟨hb1, rfl⟩
      have b1 := below_on bw hb1 bw.size
      by_cases h1 : x.id < id
      · have hcm : cmpI x.id id = -1 := by unfold cmpI; rw [if_pos h1]
        rw [hcm]
        clear hcm
        go_wp2_with (fail)
        refine ⟨⟨m + 1, hi, by go_num, rfl, by omega, by omega, b1, Lib.hid ⟨fun t ht => ?_, hI.out.2⟩⟩, by simp [intOf]; omega⟩
        rcases Nat.lt_or_ge t m with h | h
        · have := HA.out.lt h (by have := HN.out; omega)
          rw [HG.out] at this; omega
        · obtain rfl : t = m := by omega
          rw [HG.out]; exact h1
      · have hcm : ((cmpI x.id id) < 0) = False := by unfold cmpI; rw [if_neg h1]; split <;> simp
        obtain ⟨v, hv⟩ : ∃ v, cmpI x.id id = v := ⟨_, rfl⟩
        rw [hv] at hcm ⊢
        have hv0 : ¬ v < 0 := by rw [hcm]; exact fun h => h
        clear hv hcm
        go_wp2_with (fail)
        refine ⟨⟨lo, m, rfl, rfl, by omega, by omega, b1, Lib.hid ⟨hI.out.1, fun t h2 h3 => ?_⟩⟩, by simp [intOf]; omega⟩
        rcases Nat.lt_or_ge m t with h | h
        · have := HA.out.lt h (by have := HN.out; omega)
          rw [HG.out] at this; omega
        · obtain rfl : t = m := by omega
          rw [HG.out]; omega
    · obtain rfl : lo = hi := by omega
      have hpos : lo = posL id L := posL_eq id HA.out (by have := HN.out; omega) (fun j hj => hI.out.1 j hj) (fun j h1 h2 => hI.out.2 j h1 (by have := HN.out; omega))
      have hhas := hasL_iff id HA.out
      rw [← hpos, HN.out] at hhas
      have HH := Lib.hid hhas
      have HP := Lib.hid hpos
      clear hpos hhas
      by_cases hln : lo < n
      · obtain ⟨x, hx⟩ : ∃ x, L[lo]? = some x := by have := HN.out; exact ⟨L[lo], by simp⟩
        obtain ⟨g, ha, hb, hg, hall⟩ := (HO.out.below bw).getS hx
        subst ha
        have HPT := Lib.hid (part_of hall)
        clear hall
        have hgx : L.getD lo default = x := by simp [List.getD_eq_getElem?_getD, hx]
        have HG := Lib.hid hgx
        clear hgx hx
        have hc := at1_any x id wr
        have HC := Lib.hid hc
        clear hc
        obtain ⟨bv, hbv⟩ : ∃ bv, (cmpI x.id id == 0) = bv := ⟨_, rfl⟩
        have HB := Lib.hid hbv
        go_wp2_with (with_reducible refine stop_load ?_)
        refine Stop.out ?_
        refine wpList_loadPart (ssV x) Tryz.underlying68 rfl ss_size rfl rfl rfl HPT.out ?_
        go_wp2_with (fail)
        refine HC.out.mono ?_
        rintro e w1 ⟨hb1, rfl⟩
        have b1 := below_on bw hb1 bw.size
        go_wp2_with (fail)
        go_returns
        refine ⟨b1, ?_⟩
        rw [← HR.out, ← HP.out]
        have e1 : hasL id L = bv := by
          rw [← HB.out, Bool.eq_iff_iff, HH.out, HG.out]
          unfold cmpI
          constructor
          · rintro ⟨_, rfl⟩
            rw [if_neg (by omega), if_neg (by omega)]; rfl
          · intro h
            refine ⟨hln, ?_⟩
            by_cases h1 : x.id < id
            · rw [if_pos h1] at h; cases h
            · rw [if_neg h1] at h
              by_cases h2 : id < x.id
              · rw [if_pos h2] at h; cases h
              · omega
        rw [e1]
        rfl
      · obtain rfl : lo = n := by omega
        go_wp2_with (fail)
        go_returns
        refine ⟨bw, ?_⟩
        rw [← HR.out, ← HP.out]
        have e1 : hasL id L = false := by
          rw [Bool.eq_false_iff]
          intro h
          have := (HH.out.1 h).1
          omega
        rw [e1]
        rfl
end Go.Proofs.YtgpnfdeneagdbaaGreat
