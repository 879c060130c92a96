/- Streams in memory: 28 cells each. -/
import Derived.Test.YtgpnfdeneagdbaaGreatCo4
import Derived.Test.YtgpnfdeneagdbaaGreatRowK
namespace Go.Proofs.YtgpnfdeneagdbaaGreat
open Go.RowKit
set_option linter.unusedVariables false
/-- A stream to which nothing came, and that sent nothing: its number, what may be sent, what may come. -/
def ssV (x : Strm) : List Value := [.int .u64 x.id, .slice none 0 0, .int .u64 0, .int .u64 0, .int .u64 x.urg, .slice none 0 0, .slice none 0 0, .bool false, .bool false, .bool false, .bool false, .int .u64 0, .bool false, .bool false, .bool false,
  .slice none 0 0, .int .u64 0, .slice none 0 0, .int .u64 0, .int .u64 x.served, .bool false, .int .u64 0, .bool false, .bool false, .int .u64 0, .bool false, .int .u64 0, .bool false]
theorem ssV_len (x : Strm) : (ssV x).length = 28 := rfl
theorem ss_et : ET Tryz.prog 52 68 28 256 := et_of (by kernel_rfl)
theorem ssV_one (x : Strm) : ∀ u ∈ ssV x, u.oneCell' = true := by
  intro u hu
  have h : (ssV x).all (fun u => u.oneCell') = true := rfl
  exact List.all_eq_true.1 h u hu
theorem sss_one (L : List Strm) : ∀ u ∈ L.flatMap ssV, u.oneCell' = true := by
  intro u hu
  obtain ⟨x, _, h⟩ := List.mem_flatMap.1 hu
  exact ssV_one x u h
/-- One stream of a row, by its cells. -/
theorem OwnS.getS {w : World} {base n cap : Nat} {a : Option Addr} {e : TypeId} {L : List Strm} (h : OwnS w base e 28 a n cap (L.flatMap ssV)) {i : Nat} {x : Strm} (hx : L[i]? = some x) : ∃ g, a = some ⟨g, 0, none⟩ ∧ base ≤ g ∧ g < w.heap.size ∧
    ∀ j, j < 28 → w.cell? ⟨g, i * 28 + j, none⟩ = (ssV x)[j]? ∧ w.frozen? ⟨g, i * 28 + j, none⟩ = false := by
  have hi : i < L.length := (List.getElem?_eq_some_iff.1 hx).1
  have key : ∀ j, j < 28 → ∃ g, a = some ⟨g, 0, none⟩ ∧ base ≤ g ∧ g < w.heap.size ∧ w.cell? ⟨g, i * 28 + j, none⟩ = (ssV x)[j]? ∧ w.frozen? ⟨g, i * 28 + j, none⟩ = false := fun j hj => by
    obtain ⟨g, h1, h2, h3, h4, h5⟩ := h.at_ (i := i * 28 + j) (by rw [flat_len ssV_len]; omega)
    exact ⟨g, h1, h2, h3, h4.trans (flat_get ssV_len L i j x hx hj), h5⟩
  obtain ⟨g, ha, hb, hg, c0, f0⟩ := key 0 (by omega)
  subst ha
  refine ⟨g, rfl, hb, hg, fun j hj => ?_⟩
  obtain ⟨g', h1, _, _, h4, h5⟩ := key j hj
  cases h1; exact ⟨h4, h5⟩
def cmpI (x y : Nat) : Int := if x < y then -1 else if y < x then 1 else 0
set_option maxRecDepth 100000 in
theorem at1_any (x : Strm) (id : Nat) (w : World) : Calls Tryz.prog 76 #[.agg (ssV x).toArray, .int .u64 id] w fun e w' => Below w.heap.size w w' ∧ e = .returned (.int .i64 (cmpI x.id id)) := by
  obtain ⟨y, urg, inc, ready, served⟩ := x
  simp only [ssV]
  obtain ⟨v, hv⟩ : ∃ v, cmpI y id = v := ⟨_, rfl⟩
  rw [hv]
  unfold cmpI at hv
  by_cases h1 : y < id
  · rw [if_pos h1] at hv
    subst hv
    go_enter Tryz.func76, Tryz.ntmps76
    go_wp2_with (fail)
    go_returns
    exact ⟨(Below.refl _ _).alloc (Nat.le_refl _) _, rfl⟩
  · rw [if_neg h1] at hv
    by_cases h2 : id < y
    · rw [if_pos h2] at hv
      subst hv
      go_enter Tryz.func76, Tryz.ntmps76
      go_wp2_with (fail)
      go_returns
      exact ⟨(Below.refl _ _).alloc (Nat.le_refl _) _, rfl⟩
    · rw [if_neg h2] at hv
      subst hv
      go_enter Tryz.func76, Tryz.ntmps76
      go_wp2_with (fail)
      go_returns
      exact ⟨(Below.refl _ _).alloc (Nat.le_refl _) _, rfl⟩
end Go.Proofs.YtgpnfdeneagdbaaGreat
