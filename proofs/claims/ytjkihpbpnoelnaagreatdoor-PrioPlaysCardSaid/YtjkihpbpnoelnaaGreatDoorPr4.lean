/- Plans in memory; the search for a stream's place. -/
import Derived.Test.YtjkihpbpnoelnaaGreatDoorPr3
import Derived.Test.YtjkihpbpnoelnaaGreatDoorRowK
import Derived.Test.YtjkihpbpnoelnaaGreatDoorArgSl
import Derived.Test.YtjkihpbpnoelnaaGreatDoorLoad
import Derived.Test.YtjkihpbpnoelnaaGreatDoorQuie
namespace Go.Proofs.YtjkihpbpnoelnaaGreatDoor
open Go.RowKit
set_option linter.unusedVariables false

def strmV (x : Strm) : List Value := [.int .u64 x.id, .int .u8 x.urg, .bool x.inc, .bool x.ready, .int .u64 x.served]
theorem strmV_len (x : Strm) : (strmV x).length = 5 := rfl
theorem strm_et : ET Tryz.prog 65 64 5 24 := et_of (by kernel_rfl)
/-- One stream of a row, by its cells. -/
theorem OwnS.getF {w : World} {base n cap : Nat} {a : Option Addr} {e : TypeId} {L : List Strm} (h : OwnS w base e 5 a n cap (L.flatMap strmV)) {i : Nat} {x : Strm} (hx : L[i]? = some x) : ∃ g, a = some ⟨g, 0, none⟩ ∧ base ≤ g ∧ g < w.heap.size ∧
    (w.cell? ⟨g, i * 5, none⟩ = some (.int .u64 x.id) ∧ w.cell? ⟨g, i * 5 + 1, none⟩ = some (.int .u8 x.urg) ∧ w.cell? ⟨g, i * 5 + 2, none⟩ = some (.bool x.inc) ∧ w.cell? ⟨g, i * 5 + 3, none⟩ = some (.bool x.ready) ∧ w.cell? ⟨g, i * 5 + 4, none⟩ = some (.int .u64 x.served)) ∧
    ∀ j, j < 5 → w.frozen? ⟨g, i * 5 + j, none⟩ = false := by
  have hi : i < L.length := (List.getElem?_eq_some_iff.1 hx).1
  have key : ∀ j, j < 5 → ∃ g, a = some ⟨g, 0, none⟩ ∧ base ≤ g ∧ g < w.heap.size ∧ w.cell? ⟨g, i * 5 + j, none⟩ = (strmV x)[j]? ∧ w.frozen? ⟨g, i * 5 + j, none⟩ = false := fun j hj => by
    obtain ⟨g, h1, h2, h3, h4, h5⟩ := h.at_ (i := i * 5 + j) (by rw [flat_len strmV_len]; omega)
    exact ⟨g, h1, h2, h3, h4.trans (flat_get strmV_len L i j x hx hj), h5⟩
  obtain ⟨g, ha, hb, hg, c0, f0⟩ := key 0 (by omega)
  subst ha
  have rest : ∀ j, j < 5 → w.cell? ⟨g, i * 5 + j, none⟩ = (strmV x)[j]? ∧ w.frozen? ⟨g, i * 5 + j, none⟩ = false := fun j hj => by
    obtain ⟨g', h1, _, _, h4, h5⟩ := key j hj
    cases h1; exact ⟨h4, h5⟩
  exact ⟨g, rfl, hb, hg, ⟨c0, (rest 1 (by omega)).1, (rest 2 (by omega)).1, (rest 3 (by omega)).1, (rest 4 (by omega)).1⟩, fun j hj => (rest j hj).2⟩
def cmpI (x y : Nat) : Int := if x < y then -1 else if y < x then 1 else 0
set_option maxRecDepth 100000 in
theorem find1_any (x : Strm) (id : Nat) (w : World) : Calls Tryz.prog 49 #[.agg (strmV x).toArray, .int .u64 id] w fun e w' => Below w.heap.size w w' ∧ e = .returned (.int .i64 (cmpI x.id id)) := by
  obtain ⟨y, urg, inc, ready, served⟩ := x
  simp only [strmV]
  obtain ⟨v, hv⟩ : ∃ v, cmpI y id = v := ⟨_, rfl⟩
  rw [hv]
  unfold cmpI at hv
  by_cases h1 : y < id
  · rw [if_pos h1] at hv
    subst hv
    go_enter Tryz.func49, Tryz.ntmps49
    go_wp2_with (fail)
    go_returns
    exact ⟨(Below.refl _ _).alloc (Nat.le_refl _) _, rfl⟩
  · rw [if_neg h1] at hv
    by_cases h2 : id < y
    · rw [if_pos h2] at hv
      subst hv
      go_enter Tryz.func49, Tryz.ntmps49
      go_wp2_with (fail)
      go_returns
      exact ⟨(Below.refl _ _).alloc (Nat.le_refl _) _, rfl⟩
    · rw [if_neg h2] at hv
      subst hv
      go_enter Tryz.func49, Tryz.ntmps49
      go_wp2_with (fail)
      go_returns
      exact ⟨(Below.refl _ _).alloc (Nat.le_refl _) _, rfl⟩
set_option maxRecDepth 100000 in
set_option maxHeartbeats 2000000 in
theorem bsearch_any (base : Nat) (a : Option Addr) (n cap : Nat) (L : List Strm) (id : Nat) (w : World) (hn : n = L.length) (hO : OwnS w base 64 5 a n cap (L.flatMap strmV)) (hA : Asc L) (hlen : L.length ≤ 256) :
    Calls Tryz.prog 48 #[.slice a n cap, .int .u64 id, .func (.func 49) #[] #[]] w fun e w' => Below w.heap.size w w' ∧ e = .returned (.tuple #[.int .i64 (posL id L : Nat), .bool (hasL id L)]) := by
  subst hn
  have HO := Lib.hid hO
  have HA := Lib.hid hA
  obtain ⟨n, hn⟩ : ∃ n, L.length = n := ⟨_, rfl⟩
  have HN := Lib.hid hn
  rw [hn] at hlen
  rw [hn] at HO
  rw [hn]
  obtain ⟨R, hR⟩ : ∃ R, (Ending.returned (.tuple #[.int .i64 (posL id L : Nat), .bool (hasL id L)])) = R := ⟨_, rfl⟩
  rw [hR]
  have HR := Lib.hid hR
  clear hO hA hn hR
  go_enter Tryz.func48, Tryz.ntmps48
  go_wp2_with (fail)
  go_loopw [9, 10, 11] (fun i j _ wr => ∃ lo hi : Nat, i = .int .i64 lo ∧ j = .int .i64 hi ∧ lo ≤ hi ∧ hi ≤ n ∧ Below w.heap.size w wr ∧ Hid ((∀ t, t < lo → (L.getD t default).id < id) ∧ (∀ t, hi ≤ t → t < n → id ≤ (L.getD t default).id))) (fun i j _ _ => (intOf j).toNat - (intOf i).toNat)
  case atStart => exact ⟨0, n, rfl, rfl, by omega, by omega, Below.refl _ _, Lib.hid ⟨fun t h => by omega, fun t h1 h2 => by omega⟩⟩
  case round =>
    obtain ⟨lo, hi, rfl, rfl, hlh, hhn, bw, hI⟩ := hrel
    by_cases hlt : lo < hi
    · obtain ⟨m, hm⟩ : ∃ m, (lo + hi) / 2 = m := ⟨_, rfl⟩
      have hml : lo ≤ m ∧ m < hi := by omega
      obtain ⟨x, hx⟩ : ∃ x, L[m]? = some x := by have := HN.out; exact ⟨L[m], by simp⟩
      obtain ⟨g, ha, hb, hg, ⟨c0, c1, c2, c3, c4⟩, _⟩ := (HO.out.below bw).getF hx
      subst ha
      have hgx : L.getD m default = x := by simp [List.getD_eq_getElem?_getD, hx]
      have HG := Lib.hid hgx
      clear hgx hx
      have hc := find1_any x id wr
      simp only [strmV] at hc
      have HC := Lib.hid hc
      clear hc
      have hmi : ((lo : Int) + (hi : Int)) / 2 = (m : Int) := by omega
      go_wp2_with (fail)
      refine HC.out.mono ?_
      rintro e w1 ⟨hb1, rfl⟩
      have b1 := below_on bw hb1 bw.size
      by_cases h1 : x.id < id
      · have hcm : cmpI x.id id = -1 := by unfold cmpI; rw [if_pos h1]
        rw [hcm]
        clear hcm
        go_wp2_with (fail)
        refine ⟨⟨m + 1, hi, by go_num, rfl, by omega, by omega, b1, Lib.hid ⟨fun t ht => ?_, hI.out.2⟩⟩, by simp [intOf]; omega⟩
        rcases Nat.lt_or_ge t m with h | h
        · have := HA.out.lt h (by have := HN.out; omega)
          rw [HG.out] at this; omega
        · obtain rfl : t = m := by omega
          rw [HG.out]; exact h1
      · have hcm : ((cmpI x.id id) < 0) = False := by unfold cmpI; rw [if_neg h1]; split <;> simp
        obtain ⟨v, hv⟩ : ∃ v, cmpI x.id id = v := ⟨_, rfl⟩
        rw [hv] at hcm ⊢
        have hv0 : ¬ v < 0 := by rw [hcm]; exact fun h => h
        clear hv hcm
        go_wp2_with (fail)
        refine ⟨⟨lo, m, rfl, rfl, by omega, by omega, b1, Lib.hid ⟨hI.out.1, fun t h2 h3 => ?_⟩⟩, by simp [intOf]; omega⟩
        rcases Nat.lt_or_ge m t with h | h
        · have := HA.out.lt h (by have := HN.out; omega)
          rw [HG.out] at this; omega
        · obtain rfl : t = m := by omega
          rw [HG.out]; omega
    · obtain rfl : lo = hi := by omega
      have hpos : lo = posL id L := posL_eq id HA.out (by have := HN.out; omega) (fun j hj => hI.out.1 j hj) (fun j h1 h2 => hI.out.2 j h1 (by have := HN.out; omega))
      have hhas := hasL_iff id HA.out
      rw [← hpos, HN.out] at hhas
      have HH := Lib.hid hhas
      have HP := Lib.hid hpos
      clear hpos hhas
      by_cases hln : lo < n
      · obtain ⟨x, hx⟩ : ∃ x, L[lo]? = some x := by have := HN.out; exact ⟨L[lo], by simp⟩
        obtain ⟨g, ha, hb, hg, ⟨c0, c1, c2, c3, c4⟩, _⟩ := (HO.out.below bw).getF hx
        subst ha
        have hgx : L.getD lo default = x := by simp [List.getD_eq_getElem?_getD, hx]
        have HG := Lib.hid hgx
        clear hgx hx
        have hc := find1_any x id wr
        simp only [strmV] at hc
        have HC := Lib.hid hc
        clear hc
        obtain ⟨bv, hbv⟩ : ∃ bv, (cmpI x.id id == 0) = bv := ⟨_, rfl⟩
        have HB := Lib.hid hbv
        go_wp2_with (fail)
        refine HC.out.mono ?_
        rintro e w1 ⟨hb1, rfl⟩
        have b1 := below_on bw hb1 bw.size
        go_wp2_with (fail)
        go_returns
        refine ⟨b1, ?_⟩
        rw [← HR.out, ← HP.out]
        have e1 : hasL id L = bv := by
          rw [← HB.out, Bool.eq_iff_iff, HH.out, HG.out]
          unfold cmpI
          constructor
          · rintro ⟨_, rfl⟩
            rw [if_neg (by omega), if_neg (by omega)]; rfl
          · intro h
            refine ⟨hln, ?_⟩
            by_cases h1 : x.id < id
            · rw [if_pos h1] at h; cases h
            · rw [if_neg h1] at h
              by_cases h2 : id < x.id
              · rw [if_pos h2] at h; cases h
              · omega
        rw [e1]
        rfl
      · obtain rfl : lo = n := by omega
        go_wp2_with (fail)
        go_returns
        refine ⟨bw, ?_⟩
        rw [← HR.out, ← HP.out]
        have e1 : hasL id L = false := by
          rw [Bool.eq_false_iff]
          intro h
          have := (HH.out.1 h).1
          omega
        rw [e1]
        rfl
end Go.Proofs.YtjkihpbpnoelnaaGreatDoor
