/- The reader's whole and bytes. -/
import Derived.Test.YthangjgdjhhfgaaGreatDoorScW2
namespace Go.Proofs.YthangjgdjhhfgaaGreatDoor
open Go.RowKit
set_option linter.unusedVariables false
theorem atoi_ok (l : List UInt8) (v : Int) (w : World) (hs : l.length < 4294967281) (h : Lib.atoiAll l = .ok v) :
    Calls Tryz.prog 63 #[.string (tx l)] w fun e w' => e = .returned (.tuple #[.int .i64 v, .nilIface]) ∧ Below w.heap.size w w' := by
  refine (Any.strconv_Atoi_ok L.laysC172 (tx l) (by rw [tx_size]; omega) v (by rw [tx_data]; exact h) w).mono ?_
  rintro e w' ⟨rfl, rfl | ⟨t, rfl⟩⟩
  · exact ⟨rfl, Below.refl _ _⟩
  · exact ⟨rfl, below_bytes _ _ _⟩
theorem atoi_no (l : List UInt8) (w : World) (hs : l.length < 4294967281) (hE : ErrAt w) (h : ∀ v, Lib.atoiAll l ≠ .ok v) :
    Calls Tryz.prog 63 #[.string (tx l)] w fun e w' => ∃ (n : Int) (p : Value) (t : TypeId), e = .returned (.tuple #[.int .i64 n, .iface t p]) ∧ Below w.heap.size w w' := by
  obtain ⟨⟨v, h1, h2⟩, v', h3, h4⟩ := hE
  cases hp : Lib.atoiAll l with
  | ok u => exact absurd hp (h u)
  | range =>
    refine (Any.strconv_Atoi_range L.laysC172 (tx l) (by rw [tx_size]; omega) (by rw [tx_data]; exact hp) v' w h3 h4).mono ?_
    rintro e w' ⟨N, rfl, _, _, hb⟩
    exact ⟨_, _, _, rfl, hb⟩
  | _ =>
    refine (Any.strconv_Atoi_syntax L.laysC172 (tx l) (by rw [tx_size]; omega) (by rw [tx_data]; exact hp) v w h1 h2).mono ?_
    rintro e w' ⟨N, rfl, _, _, hb⟩
    exact ⟨0, _, _, rfl, hb⟩
theorem itoa_whole (n : Int) (h0 : -9223372036854775808 ≤ n) (h1 : n ≤ 9223372036854775807) : Lib.itoa n = wholeS n := by
  unfold Lib.itoa wholeS
  split
  · rw [dec_dig _ (by omega)]
  · rw [dec_dig _ (by omega)]
theorem itoa_any (n : Int) (w : World) (h0 : -9223372036854775808 ≤ n) (h1 : n ≤ 9223372036854775807) (hp : Pow10 w) :
    Calls Tryz.prog 29 #[.int .i64 n] w fun e w' => e = .returned (.string (tx (wholeS n))) ∧ Below w.heap.size w w' := by
  refine (Any.strconv_Itoa L.laysM171 n h0 h1 w hp).mono ?_
  rintro e w' ⟨rfl, k, os, rfl⟩
  rw [itoa_whole n h0 h1]
  refine ⟨rfl, ?_⟩
  have h := Lib.below_grow w.heap.size (w.drewN k) (Nat.le_refl _) 0 os
  exact (below_drewN' (Below.refl _ _) k).trans (by simpa using h)
def RwPost (rb wb : Nat) (s : List UInt8) (ws : List (List UInt8)) (bad : Bool) (w : World) (e : Ending) (w' : World) : Prop := ∃ (u : Int) (b : Bool), e = .returned (.int .i64 u) ∧ RdAt w' rb ws b wb ∧ Only (· = rb) w w' ∧ ((b = false ∧ bad = false ∧ intO s = some u) ∨ (b = true ∧ (bad = true ∨ intO s = none)))
theorem atoi_bounds {l : List UInt8} {v : Int} (h : Lib.atoiAll l = .ok v) : -9223372036854775808 ≤ v ∧ v ≤ 9223372036854775807 := by
  cases l with
  | nil => simp [Lib.atoiAll] at h
  | cons c r =>
    simp only [Lib.atoiAll] at h
    split at h
    · cases h
    · cases h
    · rename_i u hu
      split at h
      · cases h
      · split at h
        · cases h
        · rename_i h1 h2
          injection h with h
          subst h
          split <;> omega
set_option maxRecDepth 100000 in
set_option maxHeartbeats 4000000 in
theorem rwhole_any (W0 w : World) (rb wb : Nat) (s : List UInt8) (ws : List (List UInt8)) (bad : Bool) (h : RdAt w rb (s :: ws) bad wb) (hV : Vars W0) (hW : Below W0.heap.size W0 w) (hrb : W0.heap.size ≤ rb) (hs : s.length < 4294967281) :
    Calls Tryz.prog 51 #[.pointer (some ⟨rb, 0, none⟩)] w fun e w' => RwPost rb wb s ws bad w e w' := by
  have HR := Lib.hid (word_any w rb wb s ws bad h)
  have HV := Lib.hid hV
  have HW := Lib.hid hW
  have HRB := Lib.hid hrb
  have HS := Lib.hid hs
  clear h hV hW hrb hs
  go_enter Tryz.func51, Tryz.ntmps51
  go_wp2_with (fail)
  refine HR.out.mono ?_
  rintro e w1 ⟨rfl, hr1, on1⟩
  have R1 := Lib.hid hr1
  have O1 := Lib.hid on1
  have W1 := Lib.hid (below_onto HW.out on1 HW.out.size (by intro z hz e; have := HRB.out; omega))
  clear hr1 on1
  by_cases hpn : ∃ u, Lib.atoiAll s = .ok u
  · obtain ⟨u, hpu⟩ := hpn
    obtain ⟨hu0, hu1⟩ := atoi_bounds hpu
    go_wp2_with (fail)
    refine (atoi_ok s u w1 HS.out hpu).mono ?_
    rintro e w2 ⟨rfl, hb2⟩
    have R2 := Lib.hid (R1.out.only hb2)
    have O2 := Lib.hid (O1.out.trans (only_of_below hb2 _))
    have V2 := Lib.hid (HV.out.below (below_on W1.out hb2 W1.out.size))
    have HPU := Lib.hid hpu
    clear hb2 hpu
    obtain ⟨o2, hk2⟩ := R2.out.ex
    have c1 := hk2.1.cell 1 _ rfl
    have f1 := hk2.1.free 1
    clear hk2
    cases bad with
    | true =>
      go_wp2_with (fail)
      go_returns
      obtain ⟨hA, hBb⟩ := R2.out.turn (Below.refl _ _) true
      exact ⟨u, true, rfl, hA, O2.out.trans hBb, .inr ⟨rfl, .inl rfl⟩⟩
    | false =>
      go_wp2_with (fail)
      refine (itoa_any u w2 hu0 hu1 V2.out.pow).mono ?_
      rintro e w3 ⟨rfl, hb3⟩
      have HB3 := Lib.hid hb3
      obtain ⟨x, hx⟩ : ∃ x, wholeS u = x := ⟨_, rfl⟩
      rw [hx]
      have f1' : w3.frozen? ⟨rb, 1, none⟩ = false := by
        obtain ⟨o3, hk3⟩ := (R2.out.only hb3).ex
        exact hk3.1.free 1
      have c1' : w3.cell? ⟨rb, 1, none⟩ = some (.bool false) := by
        obtain ⟨o3, hk3⟩ := (R2.out.only hb3).ex
        exact hk3.1.cell 1 _ rfl
      by_cases hxs : x = s
      · have q1 : (x == s) = true := by simpa using hxs
        have q2 : (s == x) = true := by simpa using hxs.symm
        have HN := Lib.hid ((int_iff s u).2 ⟨HPU.out, by rw [hx]; exact hxs⟩)
        clear hx hxs hb3
        go_wp2_with (fail)
        go_returns
        obtain ⟨hA, hBb⟩ := R2.out.turn HB3.out false
        exact ⟨u, false, rfl, hA, O2.out.trans hBb, .inl ⟨rfl, rfl, HN.out⟩⟩
      · have q1 : (x == s) = false := by simpa using hxs
        have q2 : (s == x) = false := by simpa using fun h => hxs h.symm
        have HN : Hid (intO s = none) := Lib.hid (by
          cases h : intO s with
          | none => rfl
          | some v =>
            exfalso
            have h1 := (int_iff s v).1 h
            have h2 := HPU.out
            rw [h1.1] at h2
            cases h2
            exact hxs (by rw [← hx]; exact h1.2))
        clear hx hxs hb3
        go_wp2_with (fail)
        go_returns
        obtain ⟨hA, hBb⟩ := R2.out.turn HB3.out true
        exact ⟨u, true, rfl, hA, O2.out.trans hBb, .inr ⟨rfl, .inr HN.out⟩⟩
  · have HN : Hid (intO s = none) := Lib.hid (by
      cases h : intO s with
      | none => rfl
      | some v => exact absurd ⟨v, ((int_iff s v).1 h).1⟩ hpn)
    go_wp2_with (fail)
    refine (atoi_no s w1 HS.out (HV.out.below W1.out).err (fun u hu => hpn ⟨u, hu⟩)).mono ?_
    rintro e w2 ⟨u, p, t, rfl, hb2⟩
    have R2 := Lib.hid (R1.out.only hb2)
    have O2 := Lib.hid (O1.out.trans (only_of_below hb2 _))
    clear hb2 hpn
    obtain ⟨o2, hk2⟩ := R2.out.ex
    have c1 := hk2.1.cell 1 _ rfl
    have f1 := hk2.1.free 1
    clear hk2
    cases bad with
    | true =>
      go_wp2_with (fail)
      go_returns
      obtain ⟨hA, hBb⟩ := R2.out.turn (Below.refl _ _) true
      exact ⟨u, true, rfl, hA, O2.out.trans hBb, .inr ⟨rfl, .inl rfl⟩⟩
    | false =>
      go_wp2_with (fail)
      go_returns
      obtain ⟨hA, hBb⟩ := R2.out.turn (Below.refl _ _) true
      exact ⟨u, true, rfl, hA, O2.out.trans hBb, .inr ⟨rfl, .inr HN.out⟩⟩
/-! ### bytes -/
theorem dw_nil {p : UInt8 → Bool} : ∀ {l : List UInt8}, l.dropWhile p = [] ↔ ∀ x ∈ l, p x = true
  | [] => by simp
  | x :: l => by
    by_cases h : p x = true
    · rw [List.dropWhile_cons_of_pos h, dw_nil (l := l)]
      simp [h]
    · rw [List.dropWhile_cons_of_neg h]
      simp [h]
theorem trim_nil (s : List UInt8) : Lib.trimS s hexT = [] ↔ s.all (hexT.contains ·) = true := by
  unfold Lib.trimS Lib.trimLeftS
  rw [dw_nil]
  unfold Lib.trimRightS
  constructor
  · intro h
    have h2 : s.reverse.dropWhile (hexT.contains ·) = [] := by
      apply Classical.byContradiction
      intro hne
      have h3 := List.head_dropWhile_not (hexT.contains ·) hne
      have h4 := h ((s.reverse.dropWhile (hexT.contains ·)).head hne) (by rw [List.mem_reverse]; exact List.head_mem hne)
      rw [h4] at h3; cases h3
    rw [dw_nil] at h2
    rw [List.all_eq_true]
    intro x hx
    exact h2 x (by simpa using hx)
  · intro h x hx
    rw [List.all_eq_true] at h
    have := (List.dropWhile_sublist (hexT.contains ·)).subset (by simpa using hx)
    exact h x (by simpa using this)
set_option maxRecDepth 100000 in
theorem hv_index : ∀ n, n < 256 → (hexT.contains (UInt8.ofNat n) = true → ∃ k, k < 16 ∧ hv (UInt8.ofNat n) = some k ∧ Lib.indexByte hexT (UInt8.ofNat n) = k) ∧ (hexT.contains (UInt8.ofNat n) = false → hv (UInt8.ofNat n) = none) := by
  have h0 : ∀ n, n < 256 → (match hv (UInt8.ofNat n) with
    | some k => hexT.contains (UInt8.ofNat n) && decide (k < 16) && decide (Lib.indexByte hexT (UInt8.ofNat n) = k)
    | none => !hexT.contains (UInt8.ofNat n)) = true := by decide
  have h : ∀ n, n < 256 → (match hv (UInt8.ofNat n) with
    | some k => hexT.contains (UInt8.ofNat n) = true ∧ k < 16 ∧ Lib.indexByte hexT (UInt8.ofNat n) = k
    | none => hexT.contains (UInt8.ofNat n) = false) := by
    intro n hn
    have := h0 n hn
    cases hk : hv (UInt8.ofNat n) with
    | none => rw [hk] at this; simpa only [Bool.not_eq_true'] using this
    | some k => rw [hk] at this; simpa only [Bool.and_eq_true, decide_eq_true_eq, and_assoc] using this
  intro n hn
  have := h n hn
  cases hk : hv (UInt8.ofNat n) with
  | none => rw [hk] at this; simp only at this; exact ⟨fun h => (by rw [this] at h; cases h), fun _ => rfl⟩
  | some k => rw [hk] at this; simp only at this; exact ⟨fun _ => ⟨k, this.2.1, rfl, this.2.2⟩, fun h => (by rw [this.1] at h; cases h)⟩
theorem hv_of (c : UInt8) (h : hexT.contains c = true) : ∃ k, k < 16 ∧ hv c = some k ∧ Lib.indexByte hexT c = k := by
  have := (hv_index c.toNat c.toNat_lt).1
  rw [UInt8.ofNat_toNat] at this
  exact this h
theorem hv_no (c : UInt8) (h : hexT.contains c = false) : hv c = none := by
  have := (hv_index c.toNat c.toNat_lt).2
  rw [UInt8.ofNat_toNat] at this
  exact this h
def hexV : List UInt8 → List UInt8
  | a :: b :: r => UInt8.ofNat ((hv a).getD 0 * 16 + (hv b).getD 0) :: hexV r
  | _ => []
theorem hexP_all : ∀ (k : Nat) (s : List UInt8), s.length = 2 * k → s.all (hexT.contains ·) = true → hexP s = some (hexV s)
  | 0, s, h, _ => by rw [List.length_eq_zero_iff.1 (by omega : s.length = 0)]; rfl
  | k + 1, s, h, ha => by
    match s, h, ha with
    | a :: b :: r, h, ha =>
      simp only [List.all_cons, Bool.and_eq_true] at ha
      obtain ⟨x, hx, h1, _⟩ := hv_of a ha.1
      obtain ⟨y, hy, h2, _⟩ := hv_of b ha.2.1
      rw [hexP, h1, h2, hexP_all k r (by simp at h; omega) ha.2.2, hexV, h1, h2]
      rfl
theorem hexP_none : ∀ (k : Nat) (s : List UInt8), s.length ≤ k → (s.length % 2 = 1 ∨ s.all (hexT.contains ·) = false) → hexP s = none
  | k, [], _, h => by simp at h
  | k, [a], _, _ => rfl
  | 0, a :: b :: r, h, _ => by simp at h
  | k + 1, a :: b :: r, hl, h => by
    rw [hexP]
    cases ha : hexT.contains a with
    | false => rw [hv_no a ha]
    | true =>
      cases hb : hexT.contains b with
      | false => rw [hv_no b hb]; split <;> simp_all
      | true =>
        have : hexP r = none := hexP_none k r (by simp at hl; omega) (by
          rcases h with h | h
          · left; simp at h; omega
          · right; simp only [List.all_cons, ha, hb, Bool.true_and] at h; exact h)
        rw [this]
        split <;> simp_all
theorem unhex_eq (s : List UInt8) (h45 : s ≠ [45]) : unhexO s = if s ≠ [] ∧ s.length % 2 = 0 ∧ s.all (hexT.contains ·) = true then some (hexV s) else none := by
  unfold unhexO
  rw [if_neg h45]
  by_cases h0 : s = []
  · simp [h0]
  · rw [if_neg h0]
    by_cases h1 : s.length % 2 = 0 ∧ s.all (hexT.contains ·) = true
    · rw [if_pos ⟨h0, h1⟩, hexP_all (s.length / 2) s (by omega) h1.2]
    · rw [if_neg (fun h => h1 h.2), hexP_none s.length s (Nat.le_refl _) (by
        by_cases h2 : s.length % 2 = 0
        · right
          cases h3 : s.all (hexT.contains ·) with
          | false => rfl
          | true => exact absurd ⟨h2, h3⟩ h1
        · left; omega)]
theorem hexV_step : ∀ (m i : Nat) (s : List UInt8), i = 2 * m → i + 1 < s.length → hexV (s.take (i + 2)) = hexV (s.take i) ++ [UInt8.ofNat ((hv (s.getD i 0)).getD 0 * 16 + (hv (s.getD (i + 1) 0)).getD 0)]
  | 0, i, s, hi, h => by
    subst hi
    match s, h with
    | a :: b :: r, _ => simp [hexV]
  | m + 1, i, s, hi, h => by
    match s, h with
    | a :: b :: r, h =>
      obtain ⟨j, rfl⟩ : ∃ j, i = j + 2 := ⟨i - 2, by omega⟩
      have ih := hexV_step m j r (by omega) (by simp at h; omega)
      show hexV (a :: b :: r.take (j + 2)) = hexV (a :: b :: r.take j) ++ _
      rw [hexV, hexV, ih]
      simp
theorem or_hex : ∀ x, x < 16 → ∀ y, y < 16 → bits BinOp.or IntKind.i64 (((x : Nat) : Int) * 16) ((y : Nat) : Int) = ((x * 16 + y : Nat) : Int) := by decide
theorem u8_et : ET Tryz.prog 30 5 1 1 := et_of (by kernel_rfl)
theorem trim_any (s : List UInt8) (w : World) (hs : s.length < 4294967281) :
    Calls Tryz.prog 64 #[.string (tx s), .string (tx hexT)] w fun e w' => e = .returned (.string (tx (Lib.trimS s hexT))) ∧ Below w.heap.size w w' := by
  refine (Any.strings_Trim_laid L.lays160 (by kernel_rfl) (tx s) (tx hexT) w (by rw [tx_size]; omega) (by rw [tx_size]; decide) (fun j b hj => ?_)).mono ?_
  · rw [tx_data] at hj
    have hall : ∀ b ∈ hexT, b.toNat < 128 := by decide
    exact hall b (List.mem_of_getElem? hj)
  · rintro e w' ⟨rfl, hb⟩
    have e1 : (tx s).data.toList = s := tx_data s
    have e2 : (tx hexT).data.toList = hexT := tx_data hexT
    rw [e1, e2]
    exact ⟨rfl, hb⟩
theorem ixb_any (c : UInt8) (w : World) :
    Calls Tryz.prog 65 #[.string (tx hexT), .int .u8 (c.toNat : Int)] w fun e w' => e = .returned (.int .i64 (Lib.indexByte hexT c)) ∧ w' = w := by
  refine (Any.strings_IndexByte L.lays137 (tx hexT) _ w).mono ?_
  rintro e w' ⟨rfl, rfl⟩
  refine ⟨?_, rfl⟩
  have e2 : (tx hexT).data.toList = hexT := tx_data hexT
  rw [e2]
  simp
theorem tx_get (s : List UInt8) (i : Nat) (h : i < (tx s).size) : (tx s)[i]'h = s.getD i 0 := by
  have h' : i < s.length := by rw [tx_size] at h; exact h
  show s.toArray[i] = _
  simp [h']
def RbPost (rb wb : Nat) (s : List UInt8) (ws : List (List UInt8)) (bad : Bool) (w : World) (e : Ending) (w' : World) : Prop := ∃ (a : Option Addr) (n cap : Nat) (l : List UInt8) (b : Bool), e = .returned (.slice a n cap) ∧ RdAt w' rb ws b wb ∧ Only (· = rb) w w' ∧ OwnS w' w.heap.size 5 1 a n cap (l.map fun c => Value.int .u8 c.toNat) ∧ n = l.length ∧ l.length ≤ s.length ∧ ((b = bad ∧ unhexO s = some l) ∨ (b = true ∧ unhexO s = none))
/-- What a round of bytes keeps. -/
structure ByI (w0 : World) (rb wb : Nat) (s : List UInt8) (ws : List (List UInt8)) (bad : Bool) (a : Option Addr) (n cap i : Nat) (w : World) : Prop where
  below : Below w0.heap.size w0 w
  own : OwnS w w0.heap.size 5 1 a n cap ((hexV (s.take i)).map fun c => Value.int .u8 c.toNat)
  half : ∃ m, i = 2 * m ∧ n = m
  le : i ≤ s.length
theorem hexV_len : ∀ (m : Nat) (s : List UInt8), s.length = 2 * m → (hexV s).length = m
  | 0, s, h => by rw [List.length_eq_zero_iff.1 (by omega : s.length = 0)]; rfl
  | m + 1, s, h => by
    match s, h with
    | a :: b :: r, h => rw [hexV, List.length_cons, hexV_len m r (by simp at h; omega)]
set_option maxRecDepth 100000 in
set_option maxHeartbeats 8000000 in
theorem rbytes_any (W0 w : World) (rb wb : Nat) (s : List UInt8) (ws : List (List UInt8)) (bad : Bool) (h : RdAt w rb (s :: ws) bad wb) (hW : Below W0.heap.size W0 w) (hrb : W0.heap.size ≤ rb) (hs : s.length < 1000000) :
    Calls Tryz.prog 52 #[.pointer (some ⟨rb, 0, none⟩)] w fun e w' => RbPost rb wb s ws bad w e w' := by
  have HR := Lib.hid (word_any w rb wb s ws bad h)
  have HRB := Lib.hid hrb
  have HS := Lib.hid hs
  clear h hW hrb hs
  by_cases h45 : s = [45]
  · subst h45
    have hq : (([45] : List UInt8) == [45]) = true := rfl
    go_enter Tryz.func52, Tryz.ntmps52
    go_wp2_with (fail)
    refine HR.out.mono ?_
    rintro e w1 ⟨rfl, hr1, on1⟩
    have R1 := Lib.hid hr1
    have O1 := Lib.hid on1
    clear hr1 on1
    go_wp2_with (fail)
    go_returns
    exact ⟨none, 0, 0, [], bad, rfl, R1.out, O1.out, OwnS.nil _ _ _ _, rfl, by simp, .inl ⟨rfl, rfl⟩⟩
  · have hq : (s == [45]) = false := by simpa using h45
    have hq' : ([45] == s) = false := by simpa using fun h => h45 h.symm
    have HUN := Lib.hid (unhex_eq s h45)
    clear h45
    obtain ⟨n, hn⟩ : ∃ n, s.length = n := ⟨_, rfl⟩
    have hsz : (tx s).size = n := by rw [tx_size, hn]
    have hnb : n < 1000000 := by rw [← hn]; exact HS.out
    have HN := Lib.hid hn
    clear hn
    go_enter Tryz.func52, Tryz.ntmps52
    go_wp2_with (fail)
    refine HR.out.mono ?_
    rintro e w1 ⟨rfl, hr1, on1⟩
    have R1 := Lib.hid hr1
    have O1 := Lib.hid on1
    clear hr1 on1
    obtain ⟨o1, hk1⟩ := R1.out.ex
    have f1 := hk1.1.free 1
    have c1 := hk1.1.cell 1 _ rfl
    clear hk1
    by_cases h0 : n = 0
    · have hz : s = [] := List.length_eq_zero_iff.1 (HN.out.trans h0)
      subst hz
      go_wp2_with (fail)
      go_returns
      obtain ⟨hA, hBb⟩ := R1.out.turn (Below.refl _ _) true
      exact ⟨none, 0, 0, [], true, rfl, hA, O1.out.trans hBb, OwnS.nil _ _ _ _, rfl, by simp, .inr ⟨rfl, rfl⟩⟩
    · have hz : (s == []) = false := by
        have : s ≠ [] := fun e => h0 (by rw [← HN.out, e]; rfl)
        simpa using this
      by_cases hodd : n % 2 = 0
      · have ho : ((n : Int) % 2 = 0) := by omega
        have ho2 : ((n : Int) % 2 != 0) = false := by simp; omega
        go_wp2_with (fail)
        refine (trim_any s w1 (by have := HS.out; omega)).mono ?_
        rintro e w2 ⟨rfl, hb2⟩
        have B2 := Lib.hid hb2
        have f2 : w2.frozen? ⟨rb, 1, none⟩ = false := by
          obtain ⟨o3, hk3⟩ := (R1.out.only hb2).ex
          exact hk3.1.free 1
        have c2 : w2.cell? ⟨rb, 1, none⟩ = some (.bool bad) := by
          obtain ⟨o3, hk3⟩ := (R1.out.only hb2).ex
          exact hk3.1.cell 1 _ rfl
        clear hb2
        obtain ⟨t, ht⟩ : ∃ t, Lib.trimS s hexT = t := ⟨_, rfl⟩
        have htn := trim_nil s
        rw [ht] at htn ⊢
        by_cases htt : t = []
        · have q1 : (t == []) = true := by simpa using htt
          have hall := htn.1 htt
          have HALL := Lib.hid hall
          have hun : unhexO s = some (hexV s) := by
            rw [HUN.out, if_pos ⟨by simpa using hz, by rw [HN.out]; exact hodd, hall⟩]
          have HU := Lib.hid hun
          have HST := Lib.hid (show ByI w1 rb wb s ws bad none 0 0 0 w2 from ⟨B2.out, OwnS.nil _ _ _ _, ⟨0, rfl, rfl⟩, Nat.zero_le _⟩)
          clear ht htn htt hall hun f1 c1 f2 c2
          go_wp2_with (fail)
          go_loopw [4, 5] (fun v i wr => ∃ (a : Option Addr) (m cap k : Nat), v = .slice a m cap ∧ i = .int .i64 k ∧ k ≤ n ∧ k % 2 = 0 ∧ m ≤ n ∧ Hid (ByI w1 rb wb s ws bad a m cap k wr)) (fun _ i _ => n - (intOf i).toNat)
          case atStart => exact ⟨none, 0, 0, 0, rfl, rfl, by omega, by omega, by omega, HST⟩
          case round =>
            obtain ⟨a, m, cap, k, rfl, rfl, hk, hk2, hmn, hok⟩ := hrel
            by_cases hlt : k < n
            · have hki : (k : Int) < n := by omega
              have hki1 : (k : Int) + 1 < n := by omega
              obtain ⟨ca, hca⟩ : ∃ c, s.getD k 0 = c := ⟨_, rfl⟩
              obtain ⟨cb, hcb⟩ : ∃ c, s.getD (k + 1) 0 = c := ⟨_, rfl⟩
              have g1 : ∀ h, (tx s)[k]'h = ca := fun h => by rw [tx_get, hca]
              have g2 : ∀ h, (tx s)[k + 1]'h = cb := fun h => by rw [tx_get, hcb]
              have hmem : ∀ j, j < n → hexT.contains (s.getD j 0) = true := by
                intro j hj
                have h1 := HALL.out
                rw [List.all_eq_true] at h1
                exact h1 _ (by have := HN.out; simp [show j < s.length by omega])
              have ma := hmem k hlt
              have mb := hmem (k + 1) (by omega)
              rw [hca] at ma
              rw [hcb] at mb
              obtain ⟨x, hx, vx, ix⟩ := hv_of ca ma
              obtain ⟨y, hy, vy, iy⟩ := hv_of cb mb
              have HV2 : Hid (hexV (s.take (k + 2)) = hexV (s.take k) ++ [UInt8.ofNat (x * 16 + y)]) := Lib.hid (by
                obtain ⟨mm, h1, _⟩ := hok.out.half
                rw [hexV_step mm k s h1 (by rw [HN.out]; omega), hca, hcb, vx, vy]
                rfl)
              have hor := or_hex x hx y hy
              obtain ⟨v, hv2⟩ : ∃ v, x * 16 + y = v := ⟨_, rfl⟩
              have hv256 : v < 256 := by omega
              have hvm : (v : Int) % 256 = (v : Int) := by omega
              rw [hv2] at hor HV2
              clear hv2
              have KA := Lib.hid (fun W => ixb_any ca W)
              have KB := Lib.hid (fun W => ixb_any cb W)
              rw [ix] at KA
              rw [iy] at KB
              clear hca hcb hmem ma mb vx vy ix iy
              go_wp2_with (fail)
              refine rg_start 16 ?_
              refine rg_below fun p hx' hne hC hbel => ?_
              refine rg_quiet 8 [0,1,2,3,6,7,8,9] hC ?_
              simp only [pickD, List.map_cons, List.map_nil, List.getD_cons_zero, List.getD_cons_succ]; repeat (go_big_quiet_step (fail))
              refine wpQuiet_nil ?_
              refine rg_act 4 ?_
              go_wp2_with (fail)
              refine (KA.out _).mono ?_
              rintro e w3 ⟨rfl, rfl⟩
              go_wp2_with (fail)
              refine ⟨hC, ?_⟩
              refine rg_quiet 6 [5] hC ?_
              simp only [pickD, List.map_cons, List.map_nil, List.getD_cons_zero, List.getD_cons_succ]; repeat (go_big_quiet_step (fail))
              refine wpQuiet_nil ?_
              refine rg_act 10 ?_
              go_wp2_with (fail)
              refine (KB.out _).mono ?_
              rintro e w4 ⟨rfl, rfl⟩
              go_wp2_with (fail)
              refine ⟨hC, ?_⟩
              refine rg_quiet 3 [11,12] hC ?_
              simp only [pickD, List.map_cons, List.map_nil, List.getD_cons_zero, List.getD_cons_succ]; repeat (go_big_quiet_step (fail))
              refine wpQuiet_nil ?_
              have hb7 : Below w1.heap.size w1 (wr.drew.alloc (.cells #[.int .u8 v] 5)) := hok.out.below.drew.alloc hok.out.below.size _
              refine rg_act 13 ?_
              go_wp2_with (fail)
              refine ⟨hbel _ ((Below.refl _ _).alloc (Nat.le_refl _) _), ?_⟩
              refine rg_cut 14 ?_
              go_wp2_with (at_builtin; refine Stop.mk ?_)
              refine Stop.out ?_
              refine wpList_app u8_et rfl rfl (base := w1.heap.size) rfl rfl ((hok.out.own.below (Below.refl _ _).drew).below ((Below.refl _ _).alloc (Nat.le_refl _) _)) (SrcAt.one wr.drew (.int .u8 v) 5 rfl) (by simp only [maxLen]; omega) (by omega) hb7.size ?_
              intro a6 c6 w6 ho6 on6 at6
              have b6 : Below w1.heap.size w1 w6 := below_onto hb7 on6 hb7.size (by rintro z hz ⟨y, hy, rfl⟩; have := (hok.out.own.block hy).1; omega)
              have ho7 : OwnS w6 w1.heap.size 5 1 a6 (m + 1) c6 ((hexV (s.take (k + 2))).map fun c => Value.int .u8 c.toNat) := by
                rw [HV2.out, List.map_append]
                have e : ([UInt8.ofNat v].map fun c => Value.int .u8 (c.toNat : Int)) = [Value.int .u8 (v : Int)] := by simp [Nat.mod_eq_of_lt hv256]
                rw [e]; exact ho6
              have FIN := Lib.hid (show ByI w1 rb wb s ws bad a6 (m + 1) c6 (k + 2) w6 from ⟨b6, ho7, by obtain ⟨mm, h1, h2⟩ := hok.out.half; exact ⟨mm + 1, by omega, by omega⟩, by rw [HN.out]; omega⟩)
              have hm1 : m + 1 ≤ n := by obtain ⟨mm, h1, h2⟩ := hok.out.half; omega
              clear ho6 ho7 on6 at6 b6 hb7
              go_wp2_with (fail)
              refine rg_below fun p hx' hne hC hbel => ?_
              refine rg_quiet 0 [15] hC ?_
              simp only [pickD, List.map_cons, List.map_nil, List.getD_cons_zero, List.getD_cons_succ]; repeat (go_big_quiet_step (fail))
              refine wpQuiet_nil ?_
              refine rg_end ?_
              go_wp2_with (fail)
              exact ⟨⟨a6, m + 1, c6, k + 2, rfl, by go_num, by omega, by omega, by omega, FIN⟩, by simp [intOf]; omega⟩
            · obtain rfl : k = n := by omega
              have ho := hok.out.own
              rw [List.take_of_length_le (by rw [HN.out]; exact Nat.le_refl _)] at ho
              have HO := Lib.hid (ho.base_le (base' := w.heap.size) O1.out.size)
              have hml : m = (hexV s).length := by
                obtain ⟨mm, h1, h2⟩ := hok.out.half
                rw [hexV_len mm s (by rw [HN.out]; omega)]; omega
              have HML := Lib.hid hml
              clear ho hml
              go_wp2_with (fail)
              go_returns
              exact ⟨a, m, cap, hexV s, bad, rfl, R1.out.only hok.out.below, O1.out.trans (only_of_below hok.out.below _), HO.out, HML.out, by rw [← HML.out]; have := HN.out; omega, .inl ⟨rfl, HU.out⟩⟩
        · have q1 : (t == []) = false := by simpa using htt
          have hun : unhexO s = none := by
            rw [HUN.out, if_neg (fun h => htt (htn.2 h.2.2))]
          have HU := Lib.hid hun
          clear ht htn htt hun f1 c1
          go_wp2_with (fail)
          go_returns
          obtain ⟨hA, hBb⟩ := R1.out.turn B2.out true
          exact ⟨none, 0, 0, [], true, rfl, hA, O1.out.trans hBb, OwnS.nil _ _ _ _, rfl, by simp, .inr ⟨rfl, HU.out⟩⟩
      · have ho : ((n : Int) % 2 != 0) = true := by simp; omega
        have hun : unhexO s = none := by
          rw [HUN.out, if_neg (fun h => hodd (by rw [← HN.out]; exact h.2.1))]
        have HU := Lib.hid hun
        clear hun
        go_wp2_with (fail)
        go_returns
        obtain ⟨hA, hBb⟩ := R1.out.turn (Below.refl _ _) true
        exact ⟨none, 0, 0, [], true, rfl, hA, O1.out.trans hBb, OwnS.nil _ _ _ _, rfl, by simp, .inr ⟨rfl, HU.out⟩⟩
end Go.Proofs.YthangjgdjhhfgaaGreatDoor
