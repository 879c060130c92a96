/- The reader's word, num, whole, bytes. -/
import Derived.Test.YthangjgdjhhfgaaGreatDoorScW1
import Derived.Test.YthangjgdjhhfgaaGreatDoorQuie
namespace Go.Proofs.YthangjgdjhhfgaaGreatDoor
open Go.RowKit
set_option linter.unusedVariables false
/-- The reader's cells: its words lie in another block. -/
structure RdAt (w : World) (rb : Nat) (ws : List (List UInt8)) (bad : Bool) (wb : Nat) : Prop where
  ex : ∃ o, Blk w rb #[.slice (some ⟨wb, o, none⟩) ws.length ws.length, .bool bad] 80 ∧ ∀ i, i < ws.length → w.cell? ⟨wb, o + i, none⟩ = some (.string (tx (ws.getD i [])))
  ne : wb ≠ rb
  lt : wb < w.heap.size
  small : ws.length ≤ 1000000
theorem RdAt.only {w w' : World} {rb wb : Nat} {ws : List (List UInt8)} {bad : Bool} (h : RdAt w rb ws bad wb) (hb : Below w.heap.size w w') : RdAt w' rb ws bad wb := by
  obtain ⟨⟨o, h1, h2⟩, h3, h4, h5⟩ := h
  exact ⟨⟨o, h1.below hb, fun i hi => (hb.cell (p := ⟨wb, o + i, none⟩) h4).trans (h2 i hi)⟩, h3, Nat.lt_of_lt_of_le h4 hb.size, h5⟩
set_option maxRecDepth 100000 in
set_option maxHeartbeats 4000000 in
theorem word_any (w : World) (rb wb : Nat) (s : List UInt8) (ws : List (List UInt8)) (bad : Bool) (h : RdAt w rb (s :: ws) bad wb) :
    Calls Tryz.prog 61 #[.pointer (some ⟨rb, 0, none⟩)] w fun e w' => e = .returned (.string (tx s)) ∧ RdAt w' rb ws bad wb ∧ Only (· = rb) w w' := by
  obtain ⟨⟨o, h1, h2⟩, h3, h4, h5⟩ := h
  obtain ⟨m, hm⟩ : ∃ m, ws.length = m := ⟨_, rfl⟩
  have hlen : (s :: ws).length = m + 1 := by simp [hm]
  rw [hlen] at h1 h2 h5
  have c0 := h1.cell 0 _ rfl
  have f0 := h1.free 0
  have q0 : w.cell? ⟨wb, o, none⟩ = some (.string (tx s)) := by have := h2 0 (by omega); rw [Nat.add_zero] at this; exact this
  have H1 := Lib.hid h1
  have H2 := Lib.hid h2
  have H3 := Lib.hid h3
  have H4 := Lib.hid h4
  have H5 := Lib.hid hm
  clear h1 h2 h3 h4 hm hlen
  go_enter Tryz.func61, Tryz.ntmps61
  go_wp2_with (fail)
  · go_returns
    have hz : ws = [] := List.length_eq_zero_iff.1 (H5.out.trans (by assumption))
    subst hz
    refine ⟨rfl, ⟨⟨o, ?_, fun i hi => absurd hi (Nat.not_lt_zero _)⟩, H3.out, by simpa [World.setCell] using H4.out, by simp⟩, (Only.refl _ _).set 0 _⟩
    exact (H1.out.set 0 _).congr rfl
  · go_returns
    have h2' := H2.out
    refine ⟨rfl, ⟨⟨o + 1, ?_, fun i hi => ?_⟩, H3.out, by simpa [World.setCell] using H4.out, by rw [H5.out]; omega⟩, (Only.refl _ _).set 0 _⟩
    · rw [H5.out]; exact (H1.out.set 0 _).congr rfl
    · rw [World.cell?_setCell_other _ _ _ _ (by intro e; injection e with e1; exact H3.out e1.symm)]
      have := h2' (i + 1) (by have := H5.out; omega)
      rw [show o + 1 + i = o + (i + 1) by omega]
      simpa using this
theorem RdAt.turn {w w' : World} {rb wb : Nat} {ws : List (List UInt8)} {bad : Bool} (h : RdAt w rb ws bad wb) (hb : Below w.heap.size w w') (b : Bool) : RdAt (w'.setCell ⟨rb, 1, none⟩ (.bool b)) rb ws b wb ∧ Only (· = rb) w (w'.setCell ⟨rb, 1, none⟩ (.bool b)) := by
  obtain ⟨⟨o, h1, h2⟩, h3, h4, h5⟩ := h.only hb
  refine ⟨⟨⟨o, ((h1.set 1 (.bool b)).congr rfl), fun i hi => ?_⟩, h3, by simpa [World.setCell] using h4, h5⟩, (only_of_below hb _).set 1 _⟩
  rw [World.cell?_setCell_other _ _ _ _ (by intro e; injection e with e1; exact h3 e1.symm)]
  exact h2 i hi
/-- ParseUint of so many bits. -/
theorem puintB_ok (B : Nat) (hB : B = 8 ∨ B = 32 ∨ B = 64) (l : List UInt8) (u : Nat) (w : World) (hs : l.length < 4294967281) (h : Lib.parseUintB B l = .ok u) :
    Calls Tryz.prog 62 #[.string (tx l), .int .i64 10, .int .i64 B] w fun e w' => e = .returned (.tuple #[.int .u64 u, .nilIface]) ∧ Below w.heap.size w w' := by
  rcases hB with rfl | rfl | rfl
  · refine (Any.strconv_ParseUint_10_at8_ok L.laysPu14 (tx l) (by rw [tx_size]; omega) u (by rw [tx_data]; exact h) w).mono ?_
    rintro e w' ⟨rfl, rfl | rfl⟩
    · exact ⟨rfl, Below.refl _ _⟩
    · exact ⟨rfl, below_bytes _ _ _⟩
  · refine (Any.strconv_ParseUint_10_at32_ok L.laysPu14 (tx l) (by rw [tx_size]; omega) u (by rw [tx_data]; exact h) w).mono ?_
    rintro e w' ⟨rfl, rfl | rfl⟩
    · exact ⟨rfl, Below.refl _ _⟩
    · exact ⟨rfl, below_bytes _ _ _⟩
  · exact puint_ok l u w hs h
theorem puintB_no (B : Nat) (hB : B = 8 ∨ B = 32 ∨ B = 64) (l : List UInt8) (w : World) (hs : l.length < 4294967281) (hE : ErrAt w) (h : ∀ u, Lib.parseUintB B l ≠ .ok u) :
    Calls Tryz.prog 62 #[.string (tx l), .int .i64 10, .int .i64 B] w fun e w' => ∃ n p t, e = .returned (.tuple #[.int .u64 (n : Nat), .iface t p]) ∧ n ≤ 18446744073709551615 ∧ Below w.heap.size w w' := by
  obtain ⟨⟨v, h1, h2⟩, v', h3, h4⟩ := hE
  cases hp : Lib.parseUintB B l with
  | ok u => exact absurd hp (h u)
  | range =>
    rcases hB with rfl | rfl | rfl
    · refine (Any.strconv_ParseUint_10_at8_range L.laysPu14 (tx l) (by rw [tx_size]; omega) (by rw [tx_data]; exact hp) v' w h3 h4).mono ?_
      rintro e w' ⟨N, rfl, _, _, hb⟩
      exact ⟨255, _, _, rfl, by omega, hb⟩
    · refine (Any.strconv_ParseUint_10_at32_range L.laysPu14 (tx l) (by rw [tx_size]; omega) (by rw [tx_data]; exact hp) v' w h3 h4).mono ?_
      rintro e w' ⟨N, rfl, _, _, hb⟩
      exact ⟨4294967295, _, _, rfl, by omega, hb⟩
    · refine (Any.strconv_ParseUint_10_at64_range L.laysPu14 (tx l) (by rw [tx_size]; omega) (by rw [tx_data]; exact hp) v' w h3 h4).mono ?_
      rintro e w' ⟨N, rfl, _, _, hb⟩
      exact ⟨18446744073709551615, _, _, rfl, by omega, hb⟩
  | _ =>
    rcases hB with rfl | rfl | rfl
    · refine (Any.strconv_ParseUint_10_at8_syntax L.laysPu14 (tx l) (by rw [tx_size]; omega) (by rw [tx_data]; exact hp) v w h1 h2).mono ?_
      rintro e w' ⟨N, rfl, _, _, hb⟩
      exact ⟨0, _, _, rfl, by omega, hb⟩
    · refine (Any.strconv_ParseUint_10_at32_syntax L.laysPu14 (tx l) (by rw [tx_size]; omega) (by rw [tx_data]; exact hp) v w h1 h2).mono ?_
      rintro e w' ⟨N, rfl, _, _, hb⟩
      exact ⟨0, _, _, rfl, by omega, hb⟩
    · refine (Any.strconv_ParseUint_10_at64_syntax L.laysPu14 (tx l) (by rw [tx_size]; omega) (by rw [tx_data]; exact hp) v w h1 h2).mono ?_
      rintro e w' ⟨N, rfl, _, _, hb⟩
      exact ⟨0, _, _, rfl, by omega, hb⟩
/-- What the library's variables hold. -/
structure Vars (w : World) : Prop where
  pow : Pow10 w
  err : ErrAt w
  mx : MaxLenAt w
  g1 : 1 < w.heap.size
  g2 : 0 < w.heap.size
  g3 : 4 < w.heap.size ∧ 5 < w.heap.size
theorem Vars.below {w w' : World} (h : Vars w) (hb : Below w.heap.size w w') : Vars w' :=
  ⟨h.pow.below h.g1 hb, h.err.below h.g3 hb, h.mx.below h.g2 hb, Nat.lt_of_lt_of_le h.g1 hb.size, Nat.lt_of_lt_of_le h.g2 hb.size, Nat.lt_of_lt_of_le h.g3.1 hb.size, Nat.lt_of_lt_of_le h.g3.2 hb.size⟩
theorem numM_ok {B : Nat} (hB : B = 8 ∨ B = 32 ∨ B = 64) (s : List UInt8) (u : Nat) : numM (2 ^ B - 1) s = some u ↔ Lib.parseUintB B s = .ok u ∧ dig u = s := by
  rw [numM_iff _ (by rcases hB with rfl | rfl | rfl <;> decide) (by rcases hB with rfl | rfl | rfl <;> decide), parseB_M]
def RnPost (rb wb B : Nat) (s : List UInt8) (ws : List (List UInt8)) (bad : Bool) (w : World) (e : Ending) (w' : World) : Prop := ∃ (u : Nat) (b : Bool), e = .returned (.int .u64 u) ∧ u ≤ 18446744073709551615 ∧ RdAt w' rb ws b wb ∧ Only (· = rb) w w' ∧ ((b = false ∧ bad = false ∧ numM (2 ^ B - 1) s = some u) ∨ (b = true ∧ (bad = true ∨ numM (2 ^ B - 1) s = none)))
set_option maxRecDepth 100000 in
set_option maxHeartbeats 4000000 in
theorem rnum_any (W0 w : World) (rb wb B : Nat) (hB : B = 8 ∨ B = 32 ∨ B = 64) (s : List UInt8) (ws : List (List UInt8)) (bad : Bool) (h : RdAt w rb (s :: ws) bad wb) (hV : Vars W0) (hW : Below W0.heap.size W0 w) (hrb : W0.heap.size ≤ rb) (hs : s.length < 4294967281) :
    Calls Tryz.prog 50 #[.pointer (some ⟨rb, 0, none⟩), .int .i64 B] w fun e w' => RnPost rb wb B s ws bad w e w' := by
  have HR := Lib.hid (word_any w rb wb s ws bad h)
  have HV := Lib.hid hV
  have HW := Lib.hid hW
  have HRB := Lib.hid hrb
  have HS := Lib.hid hs
  have HB := Lib.hid hB
  clear h hV hW hrb hs hB
  go_enter Tryz.func50, Tryz.ntmps50
  go_wp2_with (fail)
  refine HR.out.mono ?_
  rintro e w1 ⟨rfl, hr1, on1⟩
  have R1 := Lib.hid hr1
  have O1 := Lib.hid on1
  have W1 := Lib.hid (below_onto HW.out on1 HW.out.size (by intro z hz e; have := HRB.out; omega))
  clear hr1 on1
  by_cases hpn : ∃ u, Lib.parseUintB B s = .ok u
  · obtain ⟨u, hpu⟩ := hpn
    have hu : u ≤ 18446744073709551615 := by
      have h1 := (parseB_M B s u).1 hpu
      have hb : 2 ^ B - 1 ≤ M64 := by rcases HB.out with rfl | rfl | rfl <;> decide
      have := ((parseMM_iff _ hb s 0 u (by omega)).1 h1.2).2.2
      simp only [M64] at hb; omega
    go_wp2_with (fail)
    refine (puintB_ok B HB.out s u w1 HS.out hpu).mono ?_
    rintro e w2 ⟨rfl, hb2⟩
    have R2 := Lib.hid (R1.out.only hb2)
    have O2 := Lib.hid (O1.out.trans (only_of_below hb2 _))
    have V2 := Lib.hid (HV.out.below (below_on W1.out hb2 W1.out.size))
    have HPU := Lib.hid hpu
    clear hb2 hpu
    obtain ⟨o2, hk2⟩ := R2.out.ex
    have c1 := hk2.1.cell 1 _ rfl
    have f1 := hk2.1.free 1
    clear hk2
    cases bad with
    | true =>
      go_wp2_with (fail)
      go_returns
      obtain ⟨hA, hBb⟩ := R2.out.turn (Below.refl _ _) true
      exact ⟨u, true, rfl, hu, hA, O2.out.trans hBb, .inr ⟨rfl, .inl rfl⟩⟩
    | false =>
      go_wp2_with (fail)
      refine (num_any u w2 hu V2.out.pow).mono ?_
      rintro e w3 ⟨rfl, hb3⟩
      have HB3 := Lib.hid hb3
      obtain ⟨x, hx⟩ : ∃ x, dig u = x := ⟨_, rfl⟩
      rw [hx]
      have f1' : w3.frozen? ⟨rb, 1, none⟩ = false := by
        obtain ⟨o3, hk3⟩ := (R2.out.only hb3).ex
        exact hk3.1.free 1
      have c1' : w3.cell? ⟨rb, 1, none⟩ = some (.bool false) := by
        obtain ⟨o3, hk3⟩ := (R2.out.only hb3).ex
        exact hk3.1.cell 1 _ rfl
      by_cases hxs : x = s
      · have q1 : (x == s) = true := by simpa using hxs
        have q2 : (s == x) = true := by simpa using hxs.symm
        have HN := Lib.hid ((numM_ok HB.out s u).2 ⟨HPU.out, by rw [hx]; exact hxs⟩)
        clear hx hxs hb3
        go_wp2_with (fail)
        go_returns
        obtain ⟨hA, hBb⟩ := R2.out.turn HB3.out false
        exact ⟨u, false, rfl, hu, hA, O2.out.trans hBb, .inl ⟨rfl, rfl, HN.out⟩⟩
      · have q1 : (x == s) = false := by simpa using hxs
        have q2 : (s == x) = false := by simpa using fun h => hxs h.symm
        have HN : Hid (numM (2 ^ B - 1) s = none) := Lib.hid (by
          cases h : numM (2 ^ B - 1) s with
          | none => rfl
          | some v =>
            exfalso
            have h1 := (numM_ok HB.out s v).1 h
            have h2 := HPU.out
            rw [h1.1] at h2
            cases h2
            exact hxs (by rw [← hx]; exact h1.2))
        clear hx hxs hb3
        go_wp2_with (fail)
        go_returns
        obtain ⟨hA, hBb⟩ := R2.out.turn HB3.out true
        exact ⟨u, true, rfl, hu, hA, O2.out.trans hBb, .inr ⟨rfl, .inr HN.out⟩⟩
  · have HN : Hid (numM (2 ^ B - 1) s = none) := Lib.hid (by
      cases h : numM (2 ^ B - 1) s with
      | none => rfl
      | some v => exact absurd ⟨v, ((numM_ok HB.out s v).1 h).1⟩ hpn)
    go_wp2_with (fail)
    refine (puintB_no B HB.out s w1 HS.out (HV.out.below W1.out).err (fun u hu => hpn ⟨u, hu⟩)).mono ?_
    rintro e w2 ⟨u, p, t, rfl, hu, hb2⟩
    have R2 := Lib.hid (R1.out.only hb2)
    have O2 := Lib.hid (O1.out.trans (only_of_below hb2 _))
    clear hb2 hpn
    obtain ⟨o2, hk2⟩ := R2.out.ex
    have c1 := hk2.1.cell 1 _ rfl
    have f1 := hk2.1.free 1
    clear hk2
    cases bad with
    | true =>
      go_wp2_with (fail)
      go_returns
      obtain ⟨hA, hBb⟩ := R2.out.turn (Below.refl _ _) true
      exact ⟨u, true, rfl, hu, hA, O2.out.trans hBb, .inr ⟨rfl, .inl rfl⟩⟩
    | false =>
      go_wp2_with (fail)
      go_returns
      obtain ⟨hA, hBb⟩ := R2.out.turn (Below.refl _ _) true
      exact ⟨u, true, rfl, hu, hA, O2.out.trans hBb, .inr ⟨rfl, .inr HN.out⟩⟩
end Go.Proofs.YthangjgdjhhfgaaGreatDoor
