/- Sorting pieces: the row in memory; swapRange, rotate. -/
import Derived.Test.YticnjdlapioppaaSo1
import Derived.Shelf.SlSortCmp.KitK
import Derived.Shelf.RegionOpenPlain
namespace Go.Proofs.Yticnjdlapioppaa
open Go.RowKit Go.Shelf Go.Lib Go.Sort
set_option linter.unusedVariables false

/-- A piece: where, and its bytes. -/
structure Pc where
  off : Int
  a : Option Addr
  n : Nat
  c : Nat
instance : Inhabited Pc := ⟨⟨0, none, 0, 0⟩⟩
def encQ (p : Pc) : List Value := [.int .u64 p.off, .slice p.a p.n p.c]
theorem swp_list (L : List Pc) {i j : Nat} (hi : i < L.length) (hj : j < L.length) : swp L.toArray i j = (swapL L i j).toArray := by
  unfold swp swapL
  simp [hi, hj, at']
theorem at_list (L : List Pc) {i : Nat} (hi : i < L.length) : L.toArray[i]! = at' L i := by simp [at', hi]
set_option maxHeartbeats 4000000 in
set_option maxRecDepth 1000000 in
theorem swapr_any (g n cap x y k : Nat) (L : List Pc) (d0 : Array Pc) (cv : Value) (w0 w : World) (R : RowK encQ 2 w0 g 0 d0) (hs : d0.size = L.length) (S : SWK encQ 2 w0 g 0 L.toArray w) (hn : n = L.length) (hx : x + k ≤ n) (hy : y + k ≤ n) (hd : x + k ≤ y ∨ y + k ≤ x) (hsz : n ≤ 1000000) :
    Calls Try.prog 80 #[.slice (some ⟨g, 0, none⟩) n cap, .int .i64 x, .int .i64 y, .int .i64 k, cv] w fun e w' => e = .returned (.tuple #[]) ∧ SWK encQ 2 w0 g 0 (swapR L x y k).toArray w' := by
  have mixed : Try.prog.follows .mixedOrders = true := by kernel_rfl
  have HN := Lib.hid hn
  have HS := Lib.hid hs
  have S0 : Aside (SWK encQ 2 w0 g 0 L.toArray w) := S
  clear S hn hs
  go_enter Try.func80, Try.ntmps80
  go_wp2_with (fail)
  go_loopw [10] (fun i wr => ∃ j : Nat, i = .int .i64 j ∧ j ≤ k ∧ Aside (SWK encQ 2 w0 g 0 (swapR L x y j).toArray wr)) (fun i _ => k - (intOf i).toNat)
  case atStart => exact ⟨0, rfl, by omega, S0⟩
  case round =>
    clear S0
    obtain ⟨j, rfl, hj, S1⟩ := hrel
    by_cases hlt : j < k
    · have hl := swapR_length L x y j
      obtain ⟨M, hM⟩ : ∃ M, swapR L x y j = M := ⟨_, rfl⟩
      have hnext : swapR L x y (j + 1) = swapL M (x + j) (y + j) := by rw [swapR, hM]
      have HNX := Lib.hid hnext
      rw [hM] at S1 hl
      obtain ⟨p, hp⟩ : ∃ p, x + j = p := ⟨_, rfl⟩
      obtain ⟨q, hq⟩ : ∃ q, y + j = q := ⟨_, rfl⟩
      rw [hp, hq] at HNX
      have hpl : p < M.length := by have := HN.out; omega
      have hql : q < M.length := by have := HN.out; omega
      have hpn : (p : Int) < (n : Int) := by have := HN.out; omega
      have hqn : (q : Int) < (n : Int) := by have := HN.out; omega
      have hp1 : (x : Int) + (j : Int) = (p : Int) := by omega
      have hq1 : (y : Int) + (j : Int) = (q : Int) := by omega
      have hsM : M.toArray.size = d0.size := by have := HS.out; simp; omega
      have S2 : Aside (SWK encQ 2 w0 g 0 (swapR L x y (j + 1)).toArray ((wr.drew.setCells g (0 + p * 2) (encQ M.toArray[q]!)).setCells g (0 + q * 2) (encQ M.toArray[p]!))) := by
        rw [HNX.out, ← swp_list M hpl hql]
        exact S1.out.swapped R p q (by simpa using hpl) (by simpa using hql)
      have hHW := S1.out.drew.holds R.hblk R.hH hsM
      obtain ⟨⟨po, pa, pn, pc⟩, hP⟩ : ∃ P, M.toArray[p]! = P := ⟨_, rfl⟩
      obtain ⟨⟨qo, qa, qn, qc⟩, hQ⟩ : ∃ P, M.toArray[q]! = P := ⟨_, rfl⟩
      have rp := fun c hc => hHW.cell (i := p) (c := c) (by simpa using hpl) hc
      have rq := fun c hc => hHW.cell (i := q) (c := c) (by simpa using hql) hc
      rw [hP] at rp S2
      rw [hQ] at rq S2
      have p0 : wr.drew.cell? ⟨g, p * 2, none⟩ = some (.int .u64 po) ∧ wr.drew.frozen? ⟨g, p * 2, none⟩ = false := by simpa [encQ] using rp 0 (by omega)
      have p1 : wr.drew.cell? ⟨g, p * 2 + 1, none⟩ = some (.slice pa pn pc) ∧ wr.drew.frozen? ⟨g, p * 2 + 1, none⟩ = false := by simpa [encQ] using rp 1 (by omega)
      have q0 : wr.drew.cell? ⟨g, q * 2, none⟩ = some (.int .u64 qo) ∧ wr.drew.frozen? ⟨g, q * 2, none⟩ = false := by simpa [encQ] using rq 0 (by omega)
      have q1 : wr.drew.cell? ⟨g, q * 2 + 1, none⟩ = some (.slice qa qn qc) ∧ wr.drew.frozen? ⟨g, q * 2 + 1, none⟩ = false := by simpa [encQ] using rq 1 (by omega)
      obtain ⟨p0, p0f⟩ := p0
      obtain ⟨p1, p1f⟩ := p1
      obtain ⟨q0, q0f⟩ := q0
      obtain ⟨q1, q1f⟩ := q1
      have v0 : wr.cell? ⟨g, p * 2, none⟩ = some (.int .u64 po) := p0
      have v1 : wr.cell? ⟨g, p * 2 + 1, none⟩ = some (.slice pa pn pc) := p1
      have v2 : wr.cell? ⟨g, q * 2, none⟩ = some (.int .u64 qo) := q0
      have v3 : wr.cell? ⟨g, q * 2 + 1, none⟩ = some (.slice qa qn qc) := q1
      have f0 : wr.frozen? ⟨g, p * 2, none⟩ = false := p0f
      have f1 : wr.frozen? ⟨g, p * 2 + 1, none⟩ = false := p1f
      have f2 : wr.frozen? ⟨g, q * 2, none⟩ = false := q0f
      have f3 : wr.frozen? ⟨g, q * 2 + 1, none⟩ = false := q1f
      have hpq : ¬ p = q := by omega
      have n0 : ¬ q * 2 = p * 2 := by omega
      have n1 : ¬ q * 2 = p * 2 + 1 := by omega
      have n2 : ¬ q * 2 + 1 = p * 2 := by omega
      have n3 : ¬ q * 2 + 1 = p * 2 + 1 := by omega
      have wpp : IntKind.i64.wrap (p : Int) = (p : Int) := by rw [IntKind.wrap_i64]; omega
      have wqq : IntKind.i64.wrap (q : Int) = (q : Int) := by rw [IntKind.wrap_i64]; omega
      simp only [Nat.zero_add, encQ, World.setCells] at S2
      clear S1 hM hl hp hq hpl hql HNX rp rq hP hQ hHW
      go_wp2_with (fail)
      go_big_region_o
      go_wp2_with (fail)
      exact ⟨⟨j + 1, by go_num, by omega, S2⟩, by simp [intOf]; omega⟩
    · obtain rfl : j = k := by omega
      go_wp2_with (fail)
      go_returns
      exact ⟨rfl, S1.out⟩
set_option maxHeartbeats 4000000 in
set_option maxRecDepth 1000000 in
theorem rotate_any (g n cap a m b : Nat) (L : List Pc) (d0 : Array Pc) (cv : Value) (w0 w : World) (R : RowK encQ 2 w0 g 0 d0) (hs : d0.size = L.length) (S : SWK encQ 2 w0 g 0 L.toArray w) (hn : n = L.length) (ham : a < m) (hmb : m < b) (hb : b ≤ n) (hsz : n ≤ 1000000) :
    Calls Try.prog 79 #[.slice (some ⟨g, 0, none⟩) n cap, .int .i64 a, .int .i64 m, .int .i64 b, cv] w fun e w' => e = .returned (.tuple #[]) ∧ ∃ M, SWK encQ 2 w0 g 0 M.toArray w' ∧ Moved a b L M ∧ ∀ k, at' M k = rotF (at' L) a m b k := by
  have HN := Lib.hid hn
  have HS := Lib.hid hs
  have S0 : Aside (SWK encQ 2 w0 g 0 L.toArray w) := S
  clear S hn hs
  obtain ⟨i0, hi0⟩ : ∃ i0, m - a = i0 := ⟨_, rfl⟩
  obtain ⟨j0, hj0⟩ : ∃ j0, b - m = j0 := ⟨_, rfl⟩
  have e1 : (m : Int) - (a : Int) = (i0 : Int) := by omega
  have e2 : (b : Int) - (m : Int) = (j0 : Int) := by omega
  have hi1 : 1 ≤ i0 ∧ i0 ≤ 1000000 := by omega
  have hj1 : 1 ≤ j0 ∧ j0 ≤ 1000000 := by omega
  have HI0 := Lib.hid hi0
  have HJ0 := Lib.hid hj0
  clear hi0 hj0
  go_enter Try.func79, Try.ntmps79
  go_wp2_with (fail)
  go_loopw [10, 11] (fun s t wr => ∃ (i j : Nat) (M : List Pc), s = .int .i64 i ∧ t = .int .i64 j ∧ 1 ≤ i ∧ i ≤ i0 ∧ 1 ≤ j ∧ j ≤ j0 ∧ Aside (SWK encQ 2 w0 g 0 M.toArray wr) ∧ Hid (M.length = L.length ∧ Moved a b L M ∧ ∀ k, rotF (at' M) (m - i) m (m + j) k = rotF (at' L) a m b k)) (fun s t _ => (intOf s).toNat + (intOf t).toNat)
  case atStart => exact ⟨i0, j0, L, rfl, rfl, by omega, by omega, by omega, by omega, S0, Lib.hid ⟨rfl, Moved.refl _ _ _, fun k => by rw [show m - i0 = a by have := HI0.out; omega, show m + j0 = b by have := HJ0.out; omega]⟩⟩
  case round =>
    clear S0
    obtain ⟨i, j, M, rfl, rfl, hi2, hi3, hj2, hj3, S1, hM⟩ := hrel
    have hI := HI0.out
    have hJ := HJ0.out
    have hNN := HN.out
    have hML := hM.out.1
    have him : i ≤ m := by omega
    have hjb : m + j ≤ n := by omega
    obtain ⟨x, hx⟩ : ∃ x, m - i = x := ⟨_, rfl⟩
    have x1 : (m : Int) - (i : Int) = (x : Int) := by omega
    have hxn : x ≤ 1000000 := by omega
    clear hI hJ hNN
    by_cases hij : (i : Int) = (j : Int)
    · obtain rfl : i = j := by omega
      have hc := swapr_any g n cap x m i M d0 cv w0 wr R (by have := HS.out; omega) S1.out (by have := HN.out; omega) (by omega) hjb (by omega) hsz
      have HC := Lib.hid hc
      have hmv := (hM.out.2.1).trans (swapR_moved (a := a) (b := b) (L := M) (x := x) (y := m) (by have := HN.out; omega) i (by have := HI0.out; omega) (by have := HJ0.out; omega) (by omega) (by have := HJ0.out; omega))
      have hrt : ∀ k, at' (swapR M x m i) k = rotF (at' L) a m b k := fun k => by rw [← hM.out.2.2 k, ← hx]; exact rot_end him (by have := HN.out; omega) k
      have HMV := Lib.hid hmv
      have HRT := Lib.hid hrt
      clear hc hmv hrt hx hML
      go_wp2_with (fail)
      refine HC.out.mono ?_
      rintro e w2 ⟨rfl, S2⟩
      go_wp2_with (fail)
      go_returns
      exact ⟨rfl, _, S2, HMV.out, HRT.out⟩
    · have hne : ((i : Int) == (j : Int)) = false := by simpa using hij
      by_cases hgt : (j : Int) < (i : Int)
      · have hc := swapr_any g n cap x m j M d0 cv w0 wr R (by have := HS.out; omega) S1.out (by have := HN.out; omega) (by omega) hjb (by omega) hsz
        have HC := Lib.hid hc
        have hmv := (hM.out.2.1).trans (swapR_moved (a := a) (b := b) (L := M) (x := x) (y := m) (by have := HN.out; omega) j (by have := HI0.out; omega) (by have := HJ0.out; omega) (by omega) (by have := HJ0.out; omega))
        have hrt : ∀ k, rotF (at' (swapR M x m j)) (m - (i - j)) m (m + j) k = rotF (at' L) a m b k := fun k => by rw [← hM.out.2.2 k, ← hx]; exact rot_left him (by omega) (by have := HN.out; omega) k
        have hlen : (swapR M x m j).length = L.length := by rw [swapR_length]; exact hML
        have HH := Lib.hid (And.intro hlen (And.intro hmv hrt))
        clear hc hmv hrt hx hML hlen
        go_wp2_with (fail)
        refine HC.out.mono ?_
        rintro e w2 ⟨rfl, S2⟩
        have S3 : Aside (SWK encQ 2 w0 g 0 (swapR M x m j).toArray w2) := S2
        clear S2 S1
        go_wp2_with (fail)
        exact ⟨⟨i - j, j, _, by go_num, rfl, by omega, by omega, by omega, by omega, S3, HH⟩, by simp [intOf]; omega⟩
      · obtain ⟨y, hy⟩ : ∃ y, m + j - i = y := ⟨_, rfl⟩
        have y1 : (m : Int) + (j : Int) - (i : Int) = (y : Int) := by omega
        have hyn : y ≤ 2000000 := by omega
        have hc := swapr_any g n cap x y i M d0 cv w0 wr R (by have := HS.out; omega) S1.out (by have := HN.out; omega) (by omega) (by omega) (by omega) hsz
        have HC := Lib.hid hc
        have hmv := (hM.out.2.1).trans (swapR_moved (a := a) (b := b) (L := M) (x := x) (y := y) (by have := HN.out; omega) i (by have := HI0.out; omega) (by have := HJ0.out; omega) (by omega) (by have := HJ0.out; omega))
        have hrt : ∀ k, rotF (at' (swapR M x y i)) (m - i) m (m + (j - i)) k = rotF (at' L) a m b k := fun k => by rw [← hM.out.2.2 k, ← hx, ← hy]; exact rot_right him (by omega) (by have := HN.out; omega) k
        have hlen : (swapR M x y i).length = L.length := by rw [swapR_length]; exact hML
        have HH := Lib.hid (And.intro hlen (And.intro hmv hrt))
        clear hc hmv hrt hx hy hML hlen
        go_wp2_with (fail)
        refine HC.out.mono ?_
        rintro e w2 ⟨rfl, S2⟩
        have S3 : Aside (SWK encQ 2 w0 g 0 (swapR M x y i).toArray w2) := S2
        clear S2 S1
        go_wp2_with (fail)
        exact ⟨⟨i, j - i, _, rfl, by go_num, by omega, by omega, by omega, by omega, S3, HH⟩, by simp [intOf]; omega⟩
end Go.Proofs.Yticnjdlapioppaa
