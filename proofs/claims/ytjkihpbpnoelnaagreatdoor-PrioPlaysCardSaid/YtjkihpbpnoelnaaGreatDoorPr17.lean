/- works: the document's examples. -/
import Derived.Test.YtjkihpbpnoelnaaGreatDoorPr15
import Derived.Test.YtjkihpbpnoelnaaGreatDoorPr16
namespace Go.Proofs.YtjkihpbpnoelnaaGreatDoor
open Go.RowKit
set_option linter.unusedVariables false
def exR (k : Nat) : List Strm := [⟨0, 3, false, decide (0 < k), 0⟩, ⟨4, 3, false, decide (1 < k), 0⟩, ⟨8, 1, true, decide (2 < k), 0⟩]
def exS (k : Nat) : List Strm := [⟨0, 3, false, true, 0⟩, ⟨4, 3, false, true, 0⟩, ⟨8, 1, true, true, k⟩]
theorem exS_best (k : Nat) : IsBest (exS k) ⟨8, 1, true, true, k⟩ := by
  refine ⟨by simp [exS], rfl, fun y hy _ => ?_⟩
  simp [exS] at hy
  rcases hy with rfl | rfl | rfl
  · right; left; show 1 < 3; decide
  · right; left; show 1 < 3; decide
  · left; rfl
def exD : List Strm := [⟨0, 3, false, true, 0⟩, ⟨4, 3, false, true, 0⟩]
theorem exD_best : IsBest exD ⟨0, 3, false, true, 0⟩ := by
  refine ⟨by simp [exD], rfl, fun y hy _ => ?_⟩
  simp [exD] at hy
  rcases hy with rfl | rfl
  · left; rfl
  · right; right; exact ⟨rfl, .inr ⟨rfl, .inr ⟨rfl, by decide⟩⟩⟩
theorem SrvIs.known {w0 w' : World} {q base ck : Nat} {X : Nat → Prop} {L : List Strm} {v : Value} {b : Strm} (h : SrvIs w0 q base X ck L v w') (hb : IsBest L b) : v = .tuple #[.int .u64 b.id, .bool true] ∧ PSt w0 q base X (ck + 1) (updL b.id (setServed (ck + 1)) L) w' := by
  rcases h with ⟨h1, _⟩ | ⟨x, hx, rfl, hp⟩
  · have := h1 b hb.1; rw [hb.2.1] at this; cases this
  · obtain rfl := hx.unique hb
    exact ⟨rfl, hp⟩
theorem TopIs.known {L : List Strm} {v : Value} {b : Strm} (h : TopIs L v) (hb : IsBest L b) : v = .tuple #[.int .u64 b.id, .bool true] := by
  rcases h with ⟨h1, _⟩ | ⟨x, hx, rfl⟩
  · have := h1 b hb.1; rw [hb.2.1] at this; cases this
  · obtain rfl := hx.unique hb; rfl
set_option maxRecDepth 100000 in
set_option maxHeartbeats 4000000 in
theorem works_any (w : World) : Calls Tryz.prog 12 #[] w fun e w' => e = .returned (.bool true) ∧ Below w.heap.size w w' := by
  go_enter Tryz.func12, Tryz.ntmps12
  go_wp2_with (fail)
  refine (m_print1 w).mono ?_
  rintro e w1 ⟨rfl, hb1⟩
  go_wp2_with (fail)
  refine (parse_1 w1).mono ?_
  rintro e w2 ⟨hb2, rfl⟩
  have hb2' := below_on hb1 hb2 hb1.size
  have HB2 := Lib.hid hb2'
  clear hb1 hb2 hb2'
  go_wp2_with (fail)
  have hp3 := Blk.new w2 #[.int .u8 1, .bool false] 26
  refine (new_st w (w2.alloc (.cells #[.int .u8 1, .bool false] 26)) (HB2.out.alloc HB2.out.size _)).mono ?_
  rintro e w3 ⟨q, rfl, hS3, hq3, hb3⟩
  have hp3' := hp3.below hb3
  have c0 := hp3'.cell 0 _ rfl
  have c1 := hp3'.cell 1 _ rfl
  have H3 := Lib.hid hS3
  clear hp3 hp3' hS3 hb3
  go_wp2_with (fail)
  refine (default_any w3).mono ?_
  rintro e w4 ⟨hb4, rfl⟩
  go_wp2_with (fail)
  refine (set_st (H3.out.same hb4) 4 3 false (by decide) (by decide)).mono ?_
  rintro e w5 ⟨rfl, hS5, _⟩
  have H5 : Hid (PSt w q (q + 1) (fun _ => False) 0 [⟨4, 3, false, false, 0⟩] w5) := Lib.hid hS5
  clear hS5 hb4
  go_wp2_with (fail)
  refine (default_any w5).mono ?_
  rintro e w6 ⟨hb6, rfl⟩
  go_wp2_with (fail)
  refine (set_st (H5.out.same hb6) 0 3 false (by decide) (by decide)).mono ?_
  rintro e w7 ⟨rfl, hS7, _⟩
  have H7 : Hid (PSt w q (q + 1) (fun _ => False) 0 [⟨0, 3, false, false, 0⟩, ⟨4, 3, false, false, 0⟩] w7) := Lib.hid hS7
  clear hS7 hb6
  go_wp2_with (fail)
  refine (set_st H7.out 8 1 true (by decide) (by decide)).mono ?_
  rintro e w8 ⟨rfl, hS8, _⟩
  have H8 : Hid (PSt w q (q + 1) (fun _ => False) 0 (exR 0) w8) := Lib.hid hS8
  clear hS8
  go_wp2_with (fail)
  have hx9 := Blk.new w8 #[.int .u64 0, .int .u64 4, .int .u64 8] 31
  have hS9 : PSt w q (q + 1) (· = w8.heap.size) 0 (exR 0) (w8.alloc (.cells #[.int .u64 0, .int .u64 4, .int .u64 8] 31)) := H8.out.foreign ((Only.refl _ w8).alloc _) (fun k h => h.elim) (fun k hk => ⟨.inr (by omega), by simp [hk]⟩)
  obtain ⟨xb, hxb⟩ : ∃ xb, w8.heap.size = xb := ⟨_, rfl⟩
  rw [hxb] at hx9 hS9 ⊢
  obtain ⟨W9, hW9⟩ : ∃ W9, w8.alloc (.cells #[.int .u64 0, .int .u64 4, .int .u64 8] 31) = W9 := ⟨_, rfl⟩
  rw [hW9] at hx9 hS9 ⊢
  clear hW9
  go_loopw [7, 52] (fun _ i wr => ∃ k : Nat, i = .int .i64 k ∧ k ≤ 3 ∧ Hid (PSt w q (q + 1) (· = xb) 0 (exR k) wr ∧ Blk wr xb #[.int .u64 0, .int .u64 4, .int .u64 8] 31)) (fun _ i _ => 3 - (intOf i).toNat)
  case atStart => exact ⟨0, rfl, by omega, Lib.hid ⟨hS9, hx9⟩⟩
  case round =>
    clear hS9 hx9
    obtain ⟨k, rfl, hk, hI⟩ := hrel
    have c0 := hI.out.2.cell 0 _ rfl
    have c1 := hI.out.2.cell 1 _ rfl
    have c2 := hI.out.2.cell 2 _ rfl
    have hcase : k = 0 ∨ k = 1 ∨ k = 2 ∨ k = 3 := by omega
    rcases hcase with rfl | rfl | rfl | rfl
    · go_wp2_with (fail)
      refine (ready_st hI.out.1 0 true).mono ?_
      rintro e w10 ⟨rfl, hS10, hk10⟩
      have hv : (if hasL 0 (exR 0) then (0 : Int) else 4) = 0 := rfl
      rw [hv]
      have hx10 := hk10.blk hI.out.2 (fun h => h rfl)
      have H10 : Hid (PSt w q (q + 1) (· = xb) 0 (exR 1) w10 ∧ Blk w10 xb #[.int .u64 0, .int .u64 4, .int .u64 8] 31) := Lib.hid ⟨hS10, hx10⟩
      clear hS10 hk10 hv hx10
      go_wp2_with (fail)
      exact ⟨⟨1, by go_num, by omega, H10⟩, by simp [intOf]⟩
    · go_wp2_with (fail)
      refine (ready_st hI.out.1 4 true).mono ?_
      rintro e w10 ⟨rfl, hS10, hk10⟩
      have hv : (if hasL 4 (exR 1) then (0 : Int) else 4) = 0 := rfl
      rw [hv]
      have hx10 := hk10.blk hI.out.2 (fun h => h rfl)
      have H10 : Hid (PSt w q (q + 1) (· = xb) 0 (exR 2) w10 ∧ Blk w10 xb #[.int .u64 0, .int .u64 4, .int .u64 8] 31) := Lib.hid ⟨hS10, hx10⟩
      clear hS10 hk10 hv hx10
      go_wp2_with (fail)
      exact ⟨⟨2, by go_num, by omega, H10⟩, by simp [intOf]⟩
    · go_wp2_with (fail)
      refine (ready_st hI.out.1 8 true).mono ?_
      rintro e w10 ⟨rfl, hS10, hk10⟩
      have hv : (if hasL 8 (exR 2) then (0 : Int) else 4) = 0 := rfl
      rw [hv]
      have hx10 := hk10.blk hI.out.2 (fun h => h rfl)
      have H10 : Hid (PSt w q (q + 1) (· = xb) 0 (exR 3) w10 ∧ Blk w10 xb #[.int .u64 0, .int .u64 4, .int .u64 8] 31) := Lib.hid ⟨hS10, hx10⟩
      clear hS10 hk10 hv hx10
      go_wp2_with (fail)
      exact ⟨⟨3, by go_num, by omega, H10⟩, by simp [intOf]⟩
    · clear c0 c1 c2
      have H11 : Hid (PSt w q (q + 1) (fun _ => False) 0 (exS 0) wr) := Lib.hid (hI.out.1.foreign (Only.refl _ _) (fun k h => by have := H8.out.below.size; omega) (fun k h => h.elim))
      clear hI
      have e3 : ((3 : Nat) : Int) = 3 := rfl
      rw [e3]
      clear e3
      go_wp2_with (fail)
      go_loopw [8, 9, 61] (fun _ _ i wr => ∃ k : Nat, i = .int .i64 k ∧ k ≤ 3 ∧ Hid (PSt w q (q + 1) (fun _ => False) k (exS k) wr)) (fun _ _ i _ => 3 - (intOf i).toNat)
      case atStart => exact ⟨0, rfl, by omega, H11⟩
      case round =>
        clear H11
        obtain ⟨k, rfl, hk, hI⟩ := hrel
        by_cases hlt : k < 3
        · go_wp2_with (fail)
          refine (serve_st hI.out (by omega)).mono ?_
          rintro e w12 ⟨_, v, rfl, hv⟩
          obtain ⟨rfl, hS12⟩ := hv.known (exS_best k)
          have H12 : Hid (PSt w q (q + 1) (fun _ => False) (k + 1) (exS (k + 1)) w12) := Lib.hid hS12
          clear hS12 hv
          go_wp2_with (fail)
          exact ⟨⟨k + 1, by go_num, by omega, H12⟩, by simp [intOf]; omega⟩
        · obtain rfl : k = 3 := by omega
          go_wp2_with (fail)
          have hS13 : PSt w q (q + 1) (· = wr.heap.size) 3 (exS 3) (wr.alloc (.cells #[.int .u64 8] 31)) := hI.out.foreign ((Only.refl _ wr).alloc _) (fun k h => h.elim) (fun k hk => ⟨.inr (by omega), by simp [hk]⟩)
          have hids : Sl .u64 (wr.alloc (.cells #[.int .u64 8] 31)) (some ⟨wr.heap.size, 0, none⟩) 1 (natI [8]) := ⟨IntsAt.of_map (L := [8]) (Blk.new wr _ _) (by intro n hn; simp at hn; subst hn; rfl), fun h => (by cases h), by simp, by unfold maxLen; omega⟩
          refine (drop_st hS13 (some ⟨wr.heap.size, 0, none⟩) 1 1 [8] rfl hids (by decide) (fun z hz _ => .inl (by cases hz; rfl))).mono ?_
          rintro e w14 ⟨rfl, hS14, _⟩
          have H14 : Hid (PSt w q (q + 1) (· = wr.heap.size) 3 exD w14) := Lib.hid hS14
          clear hS13 hids hS14
          go_wp2_with (fail)
          refine (top_st H14.out).mono ?_
          rintro e w15 ⟨hb15, v, rfl, hv⟩
          obtain rfl := hv.known exD_best
          have H15 := Lib.hid (H14.out.same hb15)
          clear hb15 hv
          go_wp2_with (fail)
          refine (len_st H15.out).mono ?_
          rintro e w16 ⟨rfl, rfl⟩
          have hl : ((exD.length : Nat) : Int) = 2 := rfl
          rw [hl]
          go_wp2_with (fail)
          go_returns
          exact ⟨rfl, H15.out.below⟩
end Go.Proofs.YtjkihpbpnoelnaaGreatDoor
