/- The document's Unhex. -/
import Derived.Test.YthangjgdjhhfgaaDoorScD2
import Derived.Test.YthangjgdjhhfgaaDoorScW4
namespace Go.Proofs.YthangjgdjhhfgaaDoor
open Go.RowKit
set_option linter.unusedVariables false
theorem scd_u8_et : ET Tryd.prog 30 5 1 1 := et_of (by kernel_rfl)
/-- What is left to read: none: a byte begins; some d: half a byte is read. -/
def uxR : Option Nat → List UInt8 → Option (List UInt8)
  | none, [] => some []
  | some _, [] => none
  | none, c :: l => match hv c with
    | some x => uxR (some x) l
    | none => none
  | some d, c :: l => match hv c with
    | some x => (uxR none l).map (UInt8.ofNat (d * 16 + x) :: ·)
    | none => none
theorem uxR_hexP : ∀ l : List UInt8, uxR none l = hexP l
  | [] => rfl
  | [c] => by rw [uxR, hexP]; cases hv c <;> rfl
  | a :: b :: r => by
    rw [uxR, hexP]
    cases hv a with
    | none => rfl
    | some x =>
      simp only
      rw [uxR]
      cases hv b with
      | none => rfl
      | some y =>
        simp only
        rw [uxR_hexP r]
        cases hexP r <;> rfl
theorem hexP_odd : ∀ l : List UInt8, l.length % 2 = 1 → hexP l = none
  | [], h => by simp at h
  | [c], _ => rfl
  | a :: b :: r, h => by
    rw [hexP, hexP_odd r (by simp at h; omega)]
    cases hv a <;> cases hv b <;> rfl
/-- What Unhex tells. -/
def UxPost (base : Nat) (s : List UInt8) (e : Ending) (w' : World) : Prop := match unhexO s with
  | some l => ∃ a n cap, e = .returned (.tuple #[.slice a n cap, .bool true]) ∧ By w' base a n cap l
  | none => e = .returned (.tuple #[.slice none 0 0, .bool false])
/-- What a round keeps. -/
structure UxI (w0 : World) (s : List UInt8) (a : Option Addr) (n cap d k : Nat) (w : World) : Prop where
  below : Below w0.heap.size w0 w
  out : ∃ out st, By w w0.heap.size a n cap out ∧ out.length ≤ k ∧ (uxR st (s.drop k)).map (out ++ ·) = unhexO s ∧ ((k % 2 = 0 ∧ st = none ∧ d = 0) ∨ (k % 2 = 1 ∧ st = some d ∧ d ≤ 15))
set_option maxRecDepth 100000 in
set_option maxHeartbeats 16000000 in
theorem runhex_any (s : List UInt8) (w : World) (hs : s.length ≤ 500000) :
    Calls Tryd.prog 57 #[.string (tx s)] w fun x w' => UxPost w.heap.size s x w' ∧ Below w.heap.size w w' := by
  obtain ⟨n, hn⟩ : ∃ n, s.length = n := ⟨_, rfl⟩
  have hsz : (tx s).size = n := by rw [tx_size, hn]
  by_cases h45 : s = [45]
  · subst h45
    clear hn hsz
    go_enter Tryd.func57, Tryd.ntmps57
    go_wp2_with (fail)
    go_returns
    exact ⟨⟨none, 0, 0, rfl, By.nil _ _⟩, Below.refl _ _⟩
  · have q1 : (s == [45]) = false := by simpa using h45
    have q2 : ([45] == s) = false := by simpa using fun h => h45 h.symm
    by_cases h0 : n = 0
    · subst h0
      have hz : s = [] := List.length_eq_zero_iff.1 hn
      subst hz
      clear hn h45
      go_enter Tryd.func57, Tryd.ntmps57
      go_wp2_with (fail)
      go_returns
      exact ⟨rfl, Below.refl _ _⟩
    · have hq0 : ((n : Int) == 0) = false := by simp; omega
      have hnb : n ≤ 500000 := by omega
      have hne : s ≠ [] := fun e => h0 (by rw [← hn, e]; rfl)
      have hux : unhexO s = hexP s := by rw [unhexO, if_neg h45, if_neg hne]
      by_cases hodd : n % 2 = 1
      · have hq1 : ((n : Int) % 2 == 1) = true := by simp; omega
        have hpn : unhexO s = none := by rw [hux]; exact hexP_odd s (by omega)
        have HP := Lib.hid (show ∀ e w', e = Ending.returned (.tuple #[.slice none 0 0, .bool false]) → UxPost w.heap.size s e w' from fun e w' h => by unfold UxPost; rw [hpn]; exact h)
        clear hux hne hpn h45 hn hs hodd
        go_enter Tryd.func57, Tryd.ntmps57
        go_wp2_with (fail)
        go_returns
        exact ⟨HP.out _ _ rfl, Below.refl _ _⟩
      · have hq1 : ((n : Int) % 2 == 1) = false := by simp; omega
        have HN := Lib.hid hn
        have HST := Lib.hid (show UxI w s none 0 0 0 0 w from ⟨Below.refl _ _, [], none, By.nil _ _, by simp, by rw [List.drop_zero, uxR_hexP, hux]; cases hexP s <;> simp, .inl ⟨rfl, rfl, rfl⟩⟩)
        have HOD := Lib.hid hodd
        clear hux hne h45 hn hs hodd
        go_enter Tryd.func57, Tryd.ntmps57
        go_wp2_with (fail)
        clear q1 q2 hq1 hq0
        go_loopw [4, 5, 6] (fun v x i wr => ∃ (a : Option Addr) (m cap d k : Nat), v = .slice a m cap ∧ x = .int .u8 d ∧ i = .int .i64 k ∧ k ≤ n ∧ d ≤ 15 ∧ Hid (UxI w s a m cap d k wr)) (fun _ _ i _ => n - (intOf i).toNat)
        case atStart => exact ⟨none, 0, 0, 0, 0, rfl, rfl, rfl, by omega, by omega, HST⟩
        case round =>
          obtain ⟨a, q, cap, d, k, rfl, rfl, rfl, hk, hd, hok⟩ := hrel
          by_cases hlt : k < n
          · have hki : (k : Int) < n := by omega
            obtain ⟨c, hc⟩ : ∃ c, s.getD k 0 = c := ⟨_, rfl⟩
            have hdr : s.drop k = c :: s.drop (k + 1) := by rw [drop_at (by rw [HN.out]; exact hlt), hc]
            have HDR := Lib.hid hdr
            obtain ⟨m, hm⟩ : ∃ m, c.toNat = m := ⟨_, rfl⟩
            have hm255 : m ≤ 255 := by rw [← hm]; have := c.toNat_lt; omega
            have hmi : ∀ h, (((tx s)[k]'h).toNat : Int) = m := fun h => by rw [tx_get, hc, hm]
            have HM := Lib.hid hm
            clear hc hdr hm
            by_cases hg : 48 ≤ m ∧ m ≤ 57
            · have e1 : (48 : Int) ≤ (m : Int) := by omega
              have e2 : (m : Int) ≤ 57 := by omega
              obtain ⟨out, st, h1, h2, h3, h4⟩ := hok.out.out
              obtain ⟨x, hx⟩ : ∃ x, m - 48 = x := ⟨_, rfl⟩
              have hx15 : x ≤ 15 := by omega
              have hv1 : hv c = some x := by rw [hv, HM.out]; rw [if_pos hg, hx]
              rw [HDR.out] at h3
              obtain ⟨v, hv⟩ : ∃ v, d * 16 + x = v := ⟨_, rfl⟩
              have e5 : ((16 * (d : Int) + (m : Int)) % 256 - 48) % 256 = (v : Int) := by omega
              have e6 : (16 * (d : Int) + (m : Int) - 48) % 256 = (v : Int) := by omega
              by_cases hev : k % 2 = 1
              · have hq2 : ((k : Int) % 2 == 1) = true := by simp; omega
                have hst : st = some d := by
                  rcases h4 with ⟨h5, _⟩ | ⟨_, h5, _⟩
                  · omega
                  · exact h5
                subst hst
                rw [uxR, hv1] at h3
                simp only at h3
                rw [hv] at h3
                have hvb : v ≤ 255 := by omega
                have H1 := Lib.hid h1
                have H2 := Lib.hid h2
                have H3 := Lib.hid h3
                have HEV := Lib.hid hev
                have hql : q ≤ 500000 := by have := h1.len; omega
                clear h1 h2 h3 h4 hv hv1 hx hev
                go_wp2_with (at_builtin; refine Stop.mk ?_)
                refine Stop.out ?_
                have hb5 : Below wr.heap.size wr (wr.alloc (.cells #[.int .u8 (v : Int)] 5)) := (Below.refl _ _).alloc (Nat.le_refl _) _
                refine wpList_app scd_u8_et rfl rfl (base := w.heap.size) rfl rfl (H1.out.own.below hb5) (SrcAt.one _ _ _ rfl) (by simp only [maxLen]; omega) (by omega) (by have := hok.out.below.size; simp; omega) ?_
                intro a6 c6 w6 ho6 on6 at6
                have b6 : Below w.heap.size w w6 := below_onto (below_on hok.out.below hb5 hok.out.below.size) on6 (by have := hok.out.below.size; simp; omega) (by rintro z hz ⟨y, hy, rfl⟩; have := (H1.out.own.block hy).1; omega)
                have FIN := Lib.hid (show UxI w s a6 (q + 1) c6 0 (k + 1) w6 from ⟨b6, out ++ [UInt8.ofNat v], none, ⟨by
                    have e7 : ((out ++ [UInt8.ofNat v]).map fun c => Value.int .u8 c.toNat) = (out.map fun c => Value.int .u8 c.toNat) ++ [Value.int .u8 (v : Int)] := by
                      rw [List.map_append, List.map_cons, List.map_nil, UInt8.toNat_ofNat', Nat.mod_eq_of_lt (by omega)]
                    rw [e7]; exact ho6, by rw [List.length_append, ← H1.out.len]; rfl, by have := H2.out; simp; omega⟩, by have := H2.out; simp; omega, by
                    rw [← H3.out, Option.map_map]
                    congr 1
                    funext l
                    simp, .inl ⟨by have := HEV.out; omega, rfl, rfl⟩⟩)
                clear ho6 on6 at6 b6 hb5
                go_wp2_with (fail)
                exact ⟨⟨a6, q + 1, c6, 0, k + 1, rfl, rfl, by go_num, by omega, by omega, FIN⟩, by simp [intOf]; omega⟩
              · have hq2 : ((k : Int) % 2 == 1) = false := by simp; omega
                have hst : st = none ∧ d = 0 := by
                  rcases h4 with ⟨_, h5, h6⟩ | ⟨h5, _⟩
                  · exact ⟨h5, h6⟩
                  · exact absurd h5 hev
                obtain ⟨rfl, rfl⟩ := hst
                rw [uxR, hv1] at h3
                simp only at h3
                have hvx : v = x := by omega
                have FIN : ∀ w6, Below wr.heap.size wr w6 → Hid (UxI w s a q cap v (k + 1) w6) := fun w6 b6 => Lib.hid ⟨below_on hok.out.below b6 hok.out.below.size, out, some v, h1.only (only_of_below b6 (fun _ => False)) (fun _ _ h => h), by omega, by rw [hvx]; exact h3, .inr ⟨by omega, rfl, by omega⟩⟩
                have hv15 : v ≤ 15 := by omega
                have HF := Lib.hid FIN
                clear h1 h2 h3 h4 hv hv1 hx hev FIN hvx
                go_wp2_with (fail)
                refine ⟨⟨a, q, cap, v, k + 1, rfl, ?_, by go_num, by omega, hv15, HF.out _ (by repeat first | exact Below.refl _ _ | apply Below.drew)⟩, by simp [intOf]; omega⟩
                first | rfl | (simp only [e5]) | (congr 1; omega)
            · by_cases hg2 : 97 ≤ m ∧ m ≤ 102
              · have e0 : (48 : Int) ≤ (m : Int) := by omega
                have e1 : ¬ (m : Int) ≤ 57 := by omega
                have e2 : (97 : Int) ≤ (m : Int) := by omega
                have e3 : (m : Int) ≤ 102 := by omega
                obtain ⟨out, st, h1, h2, h3, h4⟩ := hok.out.out
                obtain ⟨x, hx⟩ : ∃ x, m - 87 = x := ⟨_, rfl⟩
                have hx15 : x ≤ 15 := by omega
                have hv1 : hv c = some x := by rw [hv, HM.out]; rw [if_neg hg, if_pos hg2, hx]
                rw [HDR.out] at h3
                obtain ⟨v, hv⟩ : ∃ v, d * 16 + x = v := ⟨_, rfl⟩
                have e5 : ((16 * (d : Int) + (m : Int)) % 256 - 87) % 256 = (v : Int) := by omega
                have e6 : (16 * (d : Int) + (m : Int) - 87) % 256 = (v : Int) := by omega
                by_cases hev : k % 2 = 1
                · have hq2 : ((k : Int) % 2 == 1) = true := by simp; omega
                  have hst : st = some d := by
                    rcases h4 with ⟨h5, _⟩ | ⟨_, h5, _⟩
                    · omega
                    · exact h5
                  subst hst
                  rw [uxR, hv1] at h3
                  simp only at h3
                  rw [hv] at h3
                  have hvb : v ≤ 255 := by omega
                  have H1 := Lib.hid h1
                  have H2 := Lib.hid h2
                  have H3 := Lib.hid h3
                  have HEV := Lib.hid hev
                  have hql : q ≤ 500000 := by have := h1.len; omega
                  clear h1 h2 h3 h4 hv hv1 hx hev
                  go_wp2_with (at_builtin; refine Stop.mk ?_)
                  refine Stop.out ?_
                  have hb5 : Below wr.heap.size wr (wr.alloc (.cells #[.int .u8 (v : Int)] 5)) := (Below.refl _ _).alloc (Nat.le_refl _) _
                  refine wpList_app scd_u8_et rfl rfl (base := w.heap.size) rfl rfl (H1.out.own.below hb5) (SrcAt.one _ _ _ rfl) (by simp only [maxLen]; omega) (by omega) (by have := hok.out.below.size; simp; omega) ?_
                  intro a6 c6 w6 ho6 on6 at6
                  have b6 : Below w.heap.size w w6 := below_onto (below_on hok.out.below hb5 hok.out.below.size) on6 (by have := hok.out.below.size; simp; omega) (by rintro z hz ⟨y, hy, rfl⟩; have := (H1.out.own.block hy).1; omega)
                  have FIN := Lib.hid (show UxI w s a6 (q + 1) c6 0 (k + 1) w6 from ⟨b6, out ++ [UInt8.ofNat v], none, ⟨by
                      have e7 : ((out ++ [UInt8.ofNat v]).map fun c => Value.int .u8 c.toNat) = (out.map fun c => Value.int .u8 c.toNat) ++ [Value.int .u8 (v : Int)] := by
                        rw [List.map_append, List.map_cons, List.map_nil, UInt8.toNat_ofNat', Nat.mod_eq_of_lt (by omega)]
                      rw [e7]; exact ho6, by rw [List.length_append, ← H1.out.len]; rfl, by have := H2.out; simp; omega⟩, by have := H2.out; simp; omega, by
                      rw [← H3.out, Option.map_map]
                      congr 1
                      funext l
                      simp, .inl ⟨by have := HEV.out; omega, rfl, rfl⟩⟩)
                  clear ho6 on6 at6 b6 hb5
                  go_wp2_with (fail)
                  exact ⟨⟨a6, q + 1, c6, 0, k + 1, rfl, rfl, by go_num, by omega, by omega, FIN⟩, by simp [intOf]; omega⟩
                · have hq2 : ((k : Int) % 2 == 1) = false := by simp; omega
                  have hst : st = none ∧ d = 0 := by
                    rcases h4 with ⟨_, h5, h6⟩ | ⟨h5, _⟩
                    · exact ⟨h5, h6⟩
                    · exact absurd h5 hev
                  obtain ⟨rfl, rfl⟩ := hst
                  rw [uxR, hv1] at h3
                  simp only at h3
                  have hvx : v = x := by omega
                  have FIN : ∀ w6, Below wr.heap.size wr w6 → Hid (UxI w s a q cap v (k + 1) w6) := fun w6 b6 => Lib.hid ⟨below_on hok.out.below b6 hok.out.below.size, out, some v, h1.only (only_of_below b6 (fun _ => False)) (fun _ _ h => h), by omega, by rw [hvx]; exact h3, .inr ⟨by omega, rfl, by omega⟩⟩
                  have hv15 : v ≤ 15 := by omega
                  have HF := Lib.hid FIN
                  clear h1 h2 h3 h4 hv hv1 hx hev FIN hvx
                  go_wp2_with (fail)
                  refine ⟨⟨a, q, cap, v, k + 1, rfl, ?_, by go_num, by omega, hv15, HF.out _ (by repeat first | exact Below.refl _ _ | apply Below.drew)⟩, by simp [intOf]; omega⟩
                  first | rfl | (simp only [e5]) | (congr 1; omega)
              · skip
                obtain ⟨out, st, h1, h2, h3, h4⟩ := hok.out.out
                have hv1 : hv c = none := by rw [hv, HM.out, if_neg hg, if_neg hg2]
                rw [HDR.out] at h3
                have hfin : unhexO s = none := by
                  rw [← h3]
                  cases st with
                  | none => rw [uxR, hv1]; rfl
                  | some d => rw [uxR, hv1]; rfl
                have HF := Lib.hid (show UxPost w.heap.size s (.returned (.tuple #[.slice none 0 0, .bool false])) wr from by unfold UxPost; rw [hfin])
                clear h1 h2 h3 h4 hfin hv1
                have hcase : m < 48 ∨ (57 < m ∧ m < 97) ∨ 102 < m := by omega
                clear hg hg2
                rcases hcase with hm1 | ⟨hm1, hm2⟩ | hm1
                · have e0 : ¬ (48 : Int) ≤ (m : Int) := by omega
                  have e1 : ¬ (97 : Int) ≤ (m : Int) := by omega
                  go_wp2_with (fail)
                  go_returns
                  exact ⟨HF.out, hok.out.below⟩
                · have e0 : (48 : Int) ≤ (m : Int) := by omega
                  have e1 : ¬ (m : Int) ≤ 57 := by omega
                  have e2 : ¬ (97 : Int) ≤ (m : Int) := by omega
                  go_wp2_with (fail)
                  go_returns
                  exact ⟨HF.out, hok.out.below⟩
                · have e0 : (48 : Int) ≤ (m : Int) := by omega
                  have e1 : ¬ (m : Int) ≤ 57 := by omega
                  have e2 : (97 : Int) ≤ (m : Int) := by omega
                  have e3 : ¬ (m : Int) ≤ 102 := by omega
                  go_wp2_with (fail)
                  go_returns
                  exact ⟨HF.out, hok.out.below⟩
          · obtain rfl : k = n := by omega
            obtain ⟨out, st, h1, h2, h3, h4⟩ := hok.out.out
            have hfin : unhexO s = some out := by
              rw [← h3, List.drop_of_length_le (by rw [HN.out]; omega)]
              rcases h4 with ⟨_, rfl, _⟩ | ⟨h5, _⟩
              · simp [uxR]
              · exact absurd h5 HOD.out
            have HF := Lib.hid (show UxPost w.heap.size s (.returned (.tuple #[.slice a q cap, .bool true])) wr from by unfold UxPost; rw [hfin]; exact ⟨a, q, cap, rfl, h1⟩)
            clear h1 h2 h3 h4 hfin
            go_wp2_with (fail)
            go_returns
            exact ⟨HF.out, hok.out.below⟩
end Go.Proofs.YthangjgdjhhfgaaDoor
