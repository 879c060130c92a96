/- Sorting pieces: blocks that are doubled; stable. -/
import Derived.Test.YticnjdlapioppaaSo5
namespace Go.Proofs.Yticnjdlapioppaa
open Go.RowKit Go.Shelf Go.Lib Go.Sort
set_option linter.unusedVariables false

/-- Blocks of bs are in order each. -/
def BlkOrd (bs n : Nat) (M : List Pc) : Prop := ∀ k, Ord keyQ (bs * k) (min (bs * k + bs) n) M
/-- Blocks of 2 bs below a, and blocks of bs from a on. -/
def Half (bs n a : Nat) (M : List Pc) : Prop := (∀ k, 2 * bs * k + 2 * bs ≤ a → Ord keyQ (2 * bs * k) (2 * bs * k + 2 * bs) M) ∧ ∀ k, a ≤ bs * k → Ord keyQ (bs * k) (min (bs * k + bs) n) M
theorem Half.start {bs n : Nat} {M : List Pc} (h : BlkOrd bs n M) (hb : 0 < bs) : Half bs n 0 M := ⟨fun k h1 => by omega, fun k _ => h k⟩
theorem blk_of {c k t : Nat} (hc : 0 < c) (h1 : c * k + c ≤ c * t + c) (h2 : ¬ c * k + c ≤ c * t) : k = t := by
  have h3 : k ≤ t := Nat.le_of_mul_le_mul_left (by omega) hc
  have h4 : ¬ k + 1 ≤ t := fun h => h2 (by have := Nat.mul_le_mul_left c h; rw [Nat.mul_add, Nat.mul_one] at this; exact this)
  omega
theorem Half.parts {bs n t : Nat} {M : List Pc} (h : Half bs n (2 * bs * t) M) : Ord keyQ (2 * bs * t) (min (2 * bs * t + bs) n) M ∧ Ord keyQ (2 * bs * t + bs) (min (2 * bs * t + bs + bs) n) M := by
  have e1 : bs * (2 * t) = 2 * bs * t := by rw [← Nat.mul_assoc, Nat.mul_comm bs 2]
  have e2 : bs * (2 * t + 1) = 2 * bs * t + bs := by rw [Nat.mul_add, e1, Nat.mul_one]
  have h1 := h.2 (2 * t) (by rw [e1]; exact Nat.le_refl _)
  have h2 := h.2 (2 * t + 1) (by rw [e2]; omega)
  rw [e1] at h1
  rw [e2] at h2
  exact ⟨h1, h2⟩
theorem Half.step {bs n t : Nat} {M N : List Pc} (h : Half bs n (2 * bs * t) M) (hb : 0 < bs) (hm : Moved (2 * bs * t) (2 * bs * t + 2 * bs) M N) (ho : Ord keyQ (2 * bs * t) (2 * bs * t + 2 * bs) N) : Half bs n (2 * bs * (t + 1)) N := by
  have e : 2 * bs * (t + 1) = 2 * bs * t + 2 * bs := by rw [Nat.mul_add, Nat.mul_one]
  rw [e]
  refine ⟨fun k h1 => ?_, fun k h1 => ?_⟩
  · by_cases h2 : 2 * bs * k + 2 * bs ≤ 2 * bs * t
    · exact (h.1 k h2).same fun i h3 h4 => hm.out i (.inl (by omega))
    · obtain rfl := blk_of (c := 2 * bs) (by omega) h1 h2
      exact ho
  · exact (h.2 k (by omega)).same fun i h3 h4 => hm.out i (.inr (by omega))
theorem Half.last {bs n t : Nat} {M N : List Pc} (h : Half bs n (2 * bs * t) M) (hb : 0 < bs) (hn : n < 2 * bs * t + 2 * bs) (hm : Moved (2 * bs * t) n M N) (ho : Ord keyQ (2 * bs * t) n N) : BlkOrd (2 * bs) n N := fun k => by
  by_cases h2 : 2 * bs * k + 2 * bs ≤ 2 * bs * t
  · have h3 := h.1 k h2
    intro x y h4 h5 h6
    rw [hm.out x (.inl (by omega)), hm.out y (.inl (by omega))]
    exact h3 x y h4 h5 (by omega)
  · by_cases h3 : 2 * bs * k + 2 * bs ≤ 2 * bs * t + 2 * bs
    · obtain rfl := blk_of (c := 2 * bs) (by omega) h3 h2
      intro x y h4 h5 h6
      exact ho x y h4 h5 (by omega)
    · have h4 : t + 1 ≤ k := by
        by_cases h5 : t + 1 ≤ k
        · exact h5
        · exfalso
          have := Nat.mul_le_mul_left (2 * bs) (show k ≤ t by omega)
          omega
      have h5 := Nat.mul_le_mul_left (2 * bs) h4
      rw [Nat.mul_add, Nat.mul_one] at h5
      intro x y h6 h7 h8
      omega
theorem BlkOrd.done {bs n : Nat} {M : List Pc} (h : BlkOrd bs n M) (hb : n ≤ bs) : Ord keyQ 0 n M := by
  have := h 0
  rw [Nat.mul_zero, Nat.zero_add, Nat.min_eq_right hb] at this
  exact this
/-- Blocks of 20 below a are in order. -/
def Blk20 (a : Nat) (M : List Pc) : Prop := ∀ k, 20 * k + 20 ≤ a → Ord keyQ (20 * k) (20 * k + 20) M
theorem Blk20.step {t : Nat} {M N : List Pc} (h : Blk20 (20 * t) M) (hm : Moved (20 * t) (20 * t + 20) M N) (ho : Ord keyQ (20 * t) (20 * t + 20) N) : Blk20 (20 * (t + 1)) N := fun k h1 => by
  by_cases h2 : k = t
  · rw [h2]; exact ho
  · exact (h k (by omega)).same fun i h3 h4 => hm.out i (.inl (by omega))
theorem Blk20.last {t n : Nat} {M N : List Pc} (h : Blk20 (20 * t) M) (hn : n < 20 * t + 20) (hm : Moved (20 * t) n M N) (ho : Ord keyQ (20 * t) n N) : BlkOrd 20 n N := fun k => by
  by_cases h2 : k < t
  · intro x y h4 h5 h6
    rw [hm.out x (.inl (by omega)), hm.out y (.inl (by omega))]
    exact h k (by omega) x y h4 h5 (by omega)
  · intro x y h4 h5 h6
    by_cases h3 : k = t
    · exact ho x y (by omega) h5 (by omega)
    · omega

def StabPost (w0 : World) (g n : Nat) (L : List Pc) (w' : World) (e : Ending) : Prop := e = .returned (.tuple #[]) ∧ ∃ M, SWK encQ 2 w0 g 0 M.toArray w' ∧ Moved 0 n L M ∧ Ord keyQ 0 n M
set_option maxHeartbeats 8000000 in
set_option maxRecDepth 1000000 in
theorem stable_any (g n cap : Nat) (L : List Pc) (d0 : Array Pc) (w0 w : World) (R : RowK encQ 2 w0 g 0 d0) (hs : d0.size = L.length) (S : SWK encQ 2 w0 g 0 L.toArray w) (hn : n = L.length) (hsz : n ≤ 1000000) :
    Calls Try.prog 70 #[.slice (some ⟨g, 0, none⟩) n cap, .int .i64 n, .func (.func 64) #[] #[]] w fun e w' => StabPost w0 g n L w' e := by
  have HN := Lib.hid hn
  have HS := Lib.hid hs
  have S0 : Aside (SWK encQ 2 w0 g 0 L.toArray w) := S
  clear S hn hs
  go_enter Try.func70, Try.ntmps70
  go_wp2_with (fail)
  go_loopw [7, 8] (fun s u wr => ∃ (a c : Nat) (M : List Pc), s = .int .i64 a ∧ u = .int .i64 c ∧ a < c ∧ c ≤ n + 20 ∧ a ≤ n ∧ Hid (c = a + 20) ∧ Aside (SWK encQ 2 w0 g 0 M.toArray wr) ∧ Hid (M.length = L.length ∧ Moved 0 n L M ∧ ∃ t, a = 20 * t ∧ Blk20 (20 * t) M)) (fun s _ _ => n + 1 - (intOf s).toNat)
  case atStart => exact ⟨0, 20, L, rfl, rfl, by omega, by omega, by omega, Lib.hid rfl, S0, Lib.hid ⟨rfl, Moved.refl _ _ _, 0, rfl, fun k h => by omega⟩⟩
  case round =>
    clear S0
    obtain ⟨a, c, M, rfl, rfl, hac, hcn, han, HC, S1, hM⟩ := hrel
    by_cases hlt : c ≤ n
    · have hI := insert_any g n cap a c M d0 w0 wr R (by have := hM.out.1; have := HS.out; omega) S1.out (by have := hM.out.1; have := HN.out; omega) (by omega) hlt hsz
      have HI := Lib.hid hI
      clear hI S1
      go_wp2_with (fail)
      refine HI.out.mono ?_
      rintro e w2 ⟨rfl, M2, S2', mv, od⟩
      have S2 : Aside (SWK encQ 2 w0 g 0 M2.toArray w2) := S2'
      have hnx : M2.length = L.length ∧ Moved 0 n L M2 ∧ ∃ t, c = 20 * t ∧ Blk20 (20 * t) M2 := by
        obtain ⟨h1, h2, t, h3, h4⟩ := hM.out
        have hc := HC.out
        subst h3
        rw [hc] at mv od
        exact ⟨mv.len.trans h1, h2.trans (mv.wider (by omega) (by omega)), t + 1, by omega, h4.step mv od⟩
      have HNX := Lib.hid hnx
      clear S2' mv od hnx hM HI
      go_wp2_with (fail)
      exact ⟨⟨c, c + 20, M2, rfl, by go_num, by omega, by omega, hlt, Lib.hid rfl, S2, HNX⟩, by simp [intOf]; omega⟩
    · have hI := insert_any g n cap a n M d0 w0 wr R (by have := hM.out.1; have := HS.out; omega) S1.out (by have := hM.out.1; have := HN.out; omega) han (Nat.le_refl _) hsz
      have HI := Lib.hid hI
      clear hI S1
      go_wp2_with (fail)
      refine HI.out.mono ?_
      rintro e w2 ⟨rfl, M2, S2', mv, od⟩
      have S2 : Aside (SWK encQ 2 w0 g 0 M2.toArray w2) := S2'
      have hnx : M2.length = L.length ∧ Moved 0 n L M2 ∧ BlkOrd 20 n M2 := by
        obtain ⟨h1, h2, t, h3, h4⟩ := hM.out
        have hc := HC.out
        subst h3
        exact ⟨mv.len.trans h1, h2.trans (mv.wider (by omega) (Nat.le_refl _)), h4.last (by omega) mv od⟩
      have HNX := Lib.hid hnx
      clear S2' mv od hnx hM HI
      go_wp2_with (fail)
      go_loopw [6, 7, 8, 9] (fun s _ _ _ wr => ∃ (bs : Nat) (M : List Pc), s = .int .i64 bs ∧ 0 < bs ∧ bs ≤ 2000000 ∧ Aside (SWK encQ 2 w0 g 0 M.toArray wr) ∧ Hid (M.length = L.length ∧ Moved 0 n L M ∧ BlkOrd bs n M)) (fun s _ _ _ _ => n - (intOf s).toNat)
      case atStart => exact ⟨20, M2, rfl, by omega, by omega, S2, HNX⟩
      case round =>
        clear S2 HNX
        obtain ⟨bs, M, rfl, hb0, hb1, S1, hM⟩ := hrel
        by_cases hlt2 : bs < n
        · obtain ⟨d, hd⟩ : ∃ d, 2 * bs = d := ⟨_, rfl⟩
          have hd1 : 2 * (bs : Int) = (d : Int) := by omega
          have hd2 : (bs : Int) * 2 = (d : Int) := by omega
          have hdb : bs < d ∧ d ≤ 2000000 := by omega
          have HD := Lib.hid hd
          clear hd
          go_wp2_with (fail)
          go_loopw [7, 8] (fun s u wr => ∃ (a c : Nat) (M' : List Pc), s = .int .i64 a ∧ u = .int .i64 c ∧ a < c ∧ c ≤ n + d ∧ a ≤ n ∧ Hid (c = a + d) ∧ Aside (SWK encQ 2 w0 g 0 M'.toArray wr) ∧ Hid (M'.length = L.length ∧ Moved 0 n L M' ∧ ∃ t, a = 2 * bs * t ∧ Half bs n (2 * bs * t) M')) (fun s _ _ => n + 1 - (intOf s).toNat)
          case atStart => exact ⟨0, d, M, rfl, rfl, by omega, by omega, by omega, Lib.hid (by omega), S1, Lib.hid ⟨hM.out.1, hM.out.2.1, 0, by simp, by simpa using Half.start hM.out.2.2 hb0⟩⟩
          case round =>
            clear S1 hM
            obtain ⟨a, c, M', rfl, rfl, hac, hcn, han, HC, S1, hM⟩ := hrel
            obtain ⟨m, hm⟩ : ∃ m, a + bs = m := ⟨_, rfl⟩
            have hm1 : (a : Int) + (bs : Int) = (m : Int) := by omega
            have hmb : a < m ∧ m ≤ 4000000 := by omega
            have HMM := Lib.hid hm
            clear hm
            by_cases hlt3 : c ≤ n
            · have hI := sym_any g n cap d0 w0 R hsz (c - a) a m c M' wr (Nat.le_refl _) (by have := hM.out.1; have := HS.out; omega) S1.out (by have := hM.out.1; have := HN.out; omega) hmb.1 (by have := HMM.out; have := HC.out; have := HD.out; omega) hlt3 (by
                obtain ⟨_, _, t, h3, h4⟩ := hM.out
                have h5 := h4.parts.1
                rw [← h3] at h5
                have h6 := HMM.out
                have h7 := HD.out
                have hc := HC.out
                rw [Nat.min_eq_left (by omega), h6] at h5
                exact h5) (by
                obtain ⟨_, _, t, h3, h4⟩ := hM.out
                have h5 := h4.parts.2
                rw [← h3] at h5
                have h6 := HMM.out
                have h7 := HD.out
                have hc := HC.out
                rw [Nat.min_eq_left (by omega), show a + bs + bs = c by omega, h6] at h5
                exact h5)
              have HI := Lib.hid hI
              clear hI S1
              go_wp2_with (fail)
              refine HI.out.mono ?_
              rintro e w3 ⟨rfl, M3, S3', mv, od⟩
              have S3 : Aside (SWK encQ 2 w0 g 0 M3.toArray w3) := S3'
              have hnx : M3.length = L.length ∧ Moved 0 n L M3 ∧ ∃ t, c = 2 * bs * t ∧ Half bs n (2 * bs * t) M3 := by
                obtain ⟨h1, h2, t, h3, h4⟩ := hM.out
                have h7 := HD.out
                have hc := HC.out
                rw [h3, show c = 2 * bs * t + 2 * bs by omega] at mv od
                exact ⟨mv.len.trans h1, h2.trans (mv.wider (by omega) (by omega)), t + 1, by rw [Nat.mul_add, Nat.mul_one]; omega, h4.step hb0 mv od⟩
              have HNX := Lib.hid hnx
              clear S3' mv od hnx hM HI
              go_wp2_with (fail)
              exact ⟨⟨c, c + d, M3, rfl, by go_num, by omega, by omega, hlt3, Lib.hid rfl, S3, HNX⟩, by simp [intOf]; omega⟩
            · by_cases hlt4 : m < n
              · have hI := sym_any g n cap d0 w0 R hsz (n - a) a m n M' wr (Nat.le_refl _) (by have := hM.out.1; have := HS.out; omega) S1.out (by have := hM.out.1; have := HN.out; omega) hmb.1 hlt4 (Nat.le_refl _) (by
                  obtain ⟨_, _, t, h3, h4⟩ := hM.out
                  have h5 := h4.parts.1
                  have h6 := HMM.out
                  rw [← h3, Nat.min_eq_left (by omega), h6] at h5
                  exact h5) (by
                  obtain ⟨_, _, t, h3, h4⟩ := hM.out
                  have h5 := h4.parts.2
                  have h6 := HMM.out
                  have h7 := HD.out
                  have hc := HC.out
                  rw [← h3, h6, Nat.min_eq_right (by omega)] at h5
                  exact h5)
                have HI := Lib.hid hI
                clear hI S1
                go_wp2_with (fail)
                refine HI.out.mono ?_
                rintro e w3 ⟨rfl, M3, S3', mv, od⟩
                have S3 : Aside (SWK encQ 2 w0 g 0 M3.toArray w3) := S3'
                have hnx : M3.length = L.length ∧ Moved 0 n L M3 ∧ BlkOrd d n M3 := by
                  obtain ⟨h1, h2, t, h3, h4⟩ := hM.out
                  have h7 := HD.out
                  have hc := HC.out
                  rw [h3] at mv od
                  refine ⟨mv.len.trans h1, h2.trans (mv.wider (by omega) (Nat.le_refl _)), ?_⟩
                  rw [← h7]
                  exact h4.last hb0 (by omega) mv od
                have HNX := Lib.hid hnx
                clear S3' mv od hnx hM HI
                go_wp2_with (fail)
                exact ⟨⟨d, M3, rfl, by omega, by omega, S3, HNX⟩, by simp [intOf]; omega⟩
              · have hnx : M'.length = L.length ∧ Moved 0 n L M' ∧ BlkOrd d n M' := by
                  obtain ⟨h1, h2, t, h3, h4⟩ := hM.out
                  have h6 := HMM.out
                  have h7 := HD.out
                  have hc := HC.out
                  refine ⟨h1, h2, ?_⟩
                  rw [← h7]
                  refine h4.last hb0 (by omega) (Moved.refl _ _ _) ?_
                  have h5 := h4.parts.1
                  rw [Nat.min_eq_right (by omega)] at h5
                  exact h5
                have HNX := Lib.hid hnx
                clear hnx hM
                go_wp2_with (fail)
                exact ⟨⟨d, M', rfl, by omega, by omega, S1, HNX⟩, by simp [intOf]; omega⟩
        · have hF := Lib.hid (And.intro hM.out.2.1 (hM.out.2.2.done (by omega)))
          clear hM
          go_wp2_with (fail)
          go_returns
          exact ⟨rfl, M, S1.out, hF.out.1, hF.out.2⟩
end Go.Proofs.Yticnjdlapioppaa
