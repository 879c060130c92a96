/- Heard: the scripts that come in; Heavy. -/
import Derived.Test.YtidfimpchbkppaaHd3
import Derived.Test.YtidfimpchbkppaaArgs
namespace Go.Proofs.Ytidfimpchbkppaa
open Go.RowKit
set_option linter.unusedVariables false

structure DoR where
  kind : Int
  pn : Int
  wants : Bool
  now : Int
  delay : Int
instance : Inhabited DoR := ⟨⟨0, 0, false, 0, 0⟩⟩
/-- The slice at a is this script. -/
def DoAt (w : World) (a : Option Addr) (D : List DoR) : Prop := ∀ i, i < D.length → ∃ b off, a = some ⟨b, off, none⟩ ∧ b < w.heap.size ∧
  w.cell? ⟨b, off + i * 5, none⟩ = some (.int .u8 (D.getD i default).kind) ∧ w.cell? ⟨b, off + i * 5 + 1, none⟩ = some (.int .u64 (D.getD i default).pn) ∧ w.cell? ⟨b, off + i * 5 + 2, none⟩ = some (.bool (D.getD i default).wants) ∧
  w.cell? ⟨b, off + i * 5 + 3, none⟩ = some (.int .u64 (D.getD i default).now) ∧ w.cell? ⟨b, off + i * 5 + 4, none⟩ = some (.int .u64 (D.getD i default).delay) ∧
  (0 ≤ (D.getD i default).kind ∧ (D.getD i default).kind ≤ 255) ∧ u64b (D.getD i default).pn ∧ u64b (D.getD i default).now ∧ u64b (D.getD i default).delay
theorem DoAt.below {w w' : World} {a : Option Addr} {D : List DoR} (h : DoAt w a D) (hb : Below w.heap.size w w') : DoAt w' a D := fun i hi => by
  obtain ⟨b, off, ha, hlt, c0, c1, c2, c3, c4, r⟩ := h i hi
  exact ⟨b, off, ha, Nat.lt_of_lt_of_le hlt hb.size, (hb.cell (p := ⟨b, off + i * 5, none⟩) hlt).trans c0, (hb.cell (p := ⟨b, off + i * 5 + 1, none⟩) hlt).trans c1, (hb.cell (p := ⟨b, off + i * 5 + 2, none⟩) hlt).trans c2, (hb.cell (p := ⟨b, off + i * 5 + 3, none⟩) hlt).trans c3, (hb.cell (p := ⟨b, off + i * 5 + 4, none⟩) hlt).trans c4, r⟩

def HeavyOk (v : Bool) (D : List DoR) : Prop := v = false → D.length ≤ 300 ∧ ∀ i, i < D.length → (D.getD i default).pn ≤ 4611686018427387903
def HeavyPost (e : Ending) (D : List DoR) : Prop := ∃ v, e = .returned (.bool v) ∧ HeavyOk v D
def boolOf : Value → Bool
  | .bool b => b
  | _ => false
set_option maxRecDepth 100000 in
set_option maxHeartbeats 2000000 in
theorem heavy_any (a : Option Addr) (n cap : Nat) (D : List DoR) (w : World) (hn : n = D.length) (hm : D.length ≤ 9223372036854775807) (hD : DoAt w a D) :
    Calls Try.prog 36 #[.slice a n cap] w fun e w' => Below w.heap.size w w' ∧ HeavyPost e D := by
  subst hn
  have HD := Lib.hid hD
  clear hD
  go_enter Try.func36, Try.ntmps36
  go_wp2_with (fail)
  go_loopw [4, 7] (fun _ i wr => ∃ k : Nat, i = .int .i64 k ∧ k ≤ D.length ∧ Below w.heap.size w wr ∧ Hid (∀ j, j < k → (D.getD j default).pn ≤ 4611686018427387903)) (fun _ i _ => D.length - (intOf i).toNat)
  case atStart => exact ⟨0, rfl, by omega, Below.refl _ _, Lib.hid (fun j h => by omega)⟩
  case round =>
    obtain ⟨k, rfl, hk, bw, hok⟩ := hrel
    by_cases hlt : k < D.length
    · obtain ⟨b, off, ha, hb, c0, c1, c2, c3, c4, h0, h1, h3, h4⟩ := (HD.out.below bw) k hlt
      subst ha
      obtain ⟨r, hr⟩ : ∃ r, D.getD k default = r := ⟨_, rfl⟩
      rw [hr] at c0 c1 c2 c3 c4 h0 h1 h3 h4
      obtain ⟨kind, pn, wants, now, delay⟩ := r
      simp only at c0 c1 c2 c3 c4 h0 h1 h3 h4
      have HRR := Lib.hid hr
      clear hr
      unfold u64b at *
      have b1 : Below w.heap.size w (wr.alloc (.cells #[.int .u8 kind, .int .u64 pn, .bool wants, .int .u64 now, .int .u64 delay] 58)) := bw.alloc bw.size _
      by_cases g1 : 4611686018427387903 < pn
      · go_wp2_with (fail)
        go_returns
        exact ⟨b1, true, rfl, fun h => by cases h⟩
      · by_cases g2 : 4611686018427387904 < now
        · go_wp2_with (fail)
          go_returns
          exact ⟨b1, true, rfl, fun h => by cases h⟩
        · by_cases g3 : 4611686018427387904 < delay
          · go_wp2_with (fail)
            go_returns
            exact ⟨b1, true, rfl, fun h => by cases h⟩
          · go_wp2_with (fail)
            refine ⟨⟨k + 1, by go_num, by omega, b1, Lib.hid (fun j hj => ?_)⟩, by simp [intOf]; omega⟩
            rcases Nat.lt_or_ge j k with h | h
            · exact hok.out j h
            · obtain rfl : j = k := by omega
              rw [HRR.out]; simp only; omega
    · obtain rfl : k = D.length := by omega
      go_wp2_with (fail)
      go_returns
      refine ⟨bw, decide ((300 : Int) < D.length), rfl, fun h => ⟨by simp at h; omega, hok.out⟩⟩

section
variable {H : Type} {enc : TypeId × Value → H} {w : World} {base : Nat} {v : Value} {d : DataW H} {p : List MemPlace}
set_option maxRecDepth 100000 in
theorem open_do (o : Value.okWide Try.prog w .any base 55 v) (h : DataW.Trod enc Try.prog w 0 (fun _ => true) true 55 v d p) : ∃ (a : Option Addr) (D : List DoR) (cap : Nat), v = .slice a D.length cap ∧ D.length ≤ maxLen ∧ DoAt w a D := by
  obtain ⟨a, len, cap, V, rfl, h1, h2, h3, hall⟩ := open_structslice (nf := 5) Try.underlying55 Try.underlying58 rfl (by kernel_rfl) (by kernel_rfl) (by omega) o h
  have hlen : ((List.range len).map fun i => (⟨intOf (V i 0), intOf (V i 1), boolOf (V i 2), intOf (V i 3), intOf (V i 4)⟩ : DoR)).length = len := by simp
  refine ⟨a, (List.range len).map fun i => ⟨intOf (V i 0), intOf (V i 1), boolOf (V i 2), intOf (V i 3), intOf (V i 4)⟩, cap, by rw [hlen], by rw [hlen]; omega, fun i hi => ?_⟩
  rw [hlen] at hi
  have e : ((List.range len).map fun i => (⟨intOf (V i 0), intOf (V i 1), boolOf (V i 2), intOf (V i 3), intOf (V i 4)⟩ : DoR)).getD i default = ⟨intOf (V i 0), intOf (V i 1), boolOf (V i 2), intOf (V i 3), intOf (V i 4)⟩ := by simp [hi]
  rw [e]
  simp only
  obtain ⟨b, off, ha, hb, hc⟩ := hall i hi
  obtain ⟨c0, n0, y0, t0⟩ := hc 0 _ rfl
  obtain ⟨c1, n1, y1, t1⟩ := hc 1 _ rfl
  obtain ⟨c2, n2, y2, t2⟩ := hc 2 _ rfl
  obtain ⟨c3, n3, y3, t3⟩ := hc 3 _ rfl
  obtain ⟨c4, n4, y4, t4⟩ := hc 4 _ rfl
  obtain ⟨m0, e0, _, w0⟩ := DataW.trod_int Try.underlying5 t0
  obtain ⟨m1, e1, _, w1⟩ := DataW.trod_int Try.underlying28 t1
  obtain ⟨m2, e2, _⟩ := DataW.trod_bool Try.underlying4 t2
  obtain ⟨m3, e3, _, w3⟩ := DataW.trod_int Try.underlying28 t3
  obtain ⟨m4, e4, _, w4⟩ := DataW.trod_int Try.underlying28 t4
  simp at e0 e1 e2 e3 e4
  rw [e0] at c0 ⊢
  rw [e1] at c1 ⊢
  rw [e2] at c2 ⊢
  rw [e3] at c3 ⊢
  rw [e4] at c4 ⊢
  have b0 := bounds_u8 w0
  refine ⟨b, off, ha, hb, c0, c1, ?_, c3, c4, b0, u64_bd w1, u64_bd w3, u64_bd w4⟩
  exact c2
end
end Go.Proofs.Ytidfimpchbkppaa
