/- Sent: what tells which are taken; take. -/
import Derived.Test.YtidfimpchbkppaaSpW13
import Derived.Test.YtidfimpchbkppaaSt2
namespace Go.Proofs.Ytidfimpchbkppaa
open Go.RowKit
set_option linter.unusedVariables false

set_option maxRecDepth 100000 in
theorem over_any (b : Nat) (p : Pk) (a : Option Addr) (n c : Nat) (has : Bool) (lg la lt top : Int) (w : World) (h : SB w b a n c has lg la lt top) (hp : PkOk p) (hg : u64b' lg) :
    Calls Try.prog 79 #[.pointer (some ⟨b, 0, none⟩), pkV p] w fun e w' => Below w.heap.size w w' ∧ e = .returned (.bool (has && decide (p.pn < lg))) := by
  unfold SB at h
  obtain ⟨pn, at_, size, el, after, fa, fn, fc⟩ := p
  obtain ⟨⟨p1, p2⟩, _, _, _⟩ := hp
  simp only [pkV] at p1 p2 ⊢
  have hblt := h.lt
  have hne : ¬ b = w.heap.size := by omega
  have c1 := h.cell 1 _ rfl
  have c2 := h.cell 2 _ rfl
  unfold u64b' at hg
  have HC1 := (h.alloc (.cells #[.int .u64 pn, .int .u64 at_, .int .u64 size, .bool el, .int .u64 after, .slice fa fn fc] 69)).cell 1 _ rfl
  have HC2 := (h.alloc (.cells #[.int .u64 pn, .int .u64 at_, .int .u64 size, .bool el, .int .u64 after, .slice fa fn fc] 69)).cell 2 _ rfl
  have HC3 := (Blk.new w #[.int .u64 pn, .int .u64 at_, .int .u64 size, .bool el, .int .u64 after, .slice fa fn fc] 69).cell 0 _ rfl
  cases has with
  | false =>
    simp only [Bool.false_and]
    go_enter Try.func79, Try.ntmps79
    go_wp2_with (fail)
    refine rg_start 16 ?_
    refine rg_same fun p hx hne' hC => ?_
    have k1 : ∀ z : Wd p, z.w.cell? ⟨b, 1, none⟩ = some (.bool false) := fun z => by rw [hx z]; exact HC1
    have k2 : ∀ z : Wd p, z.w.cell? ⟨b, 2, none⟩ = some (.int .u64 lg) := fun z => by rw [hx z]; exact HC2
    have k3 : ∀ z : Wd p, z.w.cell? ⟨w.heap.size, 0, none⟩ = some (.int .u64 pn) := fun z => by rw [hx z]; exact HC3
    refine rg_quiet 0 [0,1,2,3,4,5,6,7,8,9,10,11,12,13,14,15] hC ?_
    simp only [pickD, List.map_cons, List.map_nil, List.getD_cons_zero, List.getD_cons_succ]; repeat (go_big_quiet_step (fail))
    refine wpQuiet_nil ?_
    refine rg_end ?_
    go_wp2_with (fail)
    go_returns
    exact ⟨((Below.refl _ _).alloc (Nat.le_refl _) _).drew, rfl⟩
  | true =>
    simp only [Bool.true_and]
    go_enter Try.func79, Try.ntmps79
    go_wp2_with (fail)
    refine rg_start 16 ?_
    refine rg_same fun p hx hne' hC => ?_
    have k1 : ∀ z : Wd p, z.w.cell? ⟨b, 1, none⟩ = some (.bool true) := fun z => by rw [hx z]; exact HC1
    have k2 : ∀ z : Wd p, z.w.cell? ⟨b, 2, none⟩ = some (.int .u64 lg) := fun z => by rw [hx z]; exact HC2
    have k3 : ∀ z : Wd p, z.w.cell? ⟨w.heap.size, 0, none⟩ = some (.int .u64 pn) := fun z => by rw [hx z]; exact HC3
    refine rg_quiet 0 [0,1,2,3,4,5,6,7,8,9,10,11,12,13,14,15] hC ?_
    simp only [pickD, List.map_cons, List.map_nil, List.getD_cons_zero, List.getD_cons_succ]; repeat (go_big_quiet_step (fail))
    refine wpQuiet_nil ?_
    refine rg_end ?_
    go_wp2_with (fail)
    go_returns
    exact ⟨((Below.refl _ _).alloc (Nat.le_refl _) _).drew, rfl⟩

set_option maxRecDepth 100000 in
theorem clearc_any (p : Pk) (w : World) : Calls Try.prog 80 #[pkV p] w fun e w' => Below w.heap.size w w' ∧ e = .returned (.bool true) := by
  unfold pkV
  go_enter Try.func80, Try.ntmps80
  go_wp2_with (fail)
  go_returns
  exact ⟨(Below.refl _ _).alloc (Nat.le_refl _) _, rfl⟩

set_option maxRecDepth 100000 in
set_option maxHeartbeats 1000000 in
theorem ackc_any (p : Pk) (q : Nat) (a : Option Addr) (n c : Nat) (M : List Rg) (w : World) (hp : PkOk p) (hq : q < w.heap.size) (hc : w.cell? ⟨q, 0, none⟩ = some (.slice a n c)) (hn : n = M.length) (hM : Rs w a c M) :
    Calls Try.prog 77 #[pkV p, .pointer (some ⟨q, 0, none⟩)] w fun e w' => Below w.heap.size w w' ∧ e = .returned (.bool (inB M p.pn)) := by
  obtain ⟨pn, at_, size, el, after, fa, fn, fc⟩ := p
  obtain ⟨⟨p1, p2⟩, _, _, _⟩ := hp
  simp only [pkV] at p1 p2 ⊢
  have hne : ¬ q = w.heap.size := by omega
  have HM := Lib.hid hM
  have HN := Lib.hid hn
  obtain ⟨v, hv⟩ : ∃ v, inB M pn = v := ⟨_, rfl⟩
  rw [hv]
  have HV := Lib.hid hv
  clear hM hn hv
  go_enter Try.func77, Try.ntmps77
  go_wp2_with (fail)
  have b1 : Below w.heap.size w (w.alloc (.cells #[.int .u64 pn, .int .u64 at_, .int .u64 size, .bool el, .int .u64 after, .slice fa fn fc] 69)) := (Below.refl _ _).alloc (Nat.le_refl _) _
  obtain ⟨w1, hw1⟩ : ∃ w1, w.alloc (.cells #[.int .u64 pn, .int .u64 at_, .int .u64 size, .bool el, .int .u64 after, .slice fa fn fc] 69) = w1 := ⟨_, rfl⟩
  have hs0 : w1.heap.size = w.heap.size + 1 := by rw [← hw1]; simp
  rw [hw1] at b1 ⊢
  have b2 : Below w.heap.size w (w1.alloc (.cells #[.int .u64 pn] 28)) := b1.alloc b1.size _
  have hs1 : Sl .u64 (w1.alloc (.cells #[.int .u64 pn] 28)) (some ⟨w1.heap.size, 0, none⟩) 1 [pn] :=
    ⟨IntsAt.of_map (L := [pn]) (T := 28) (Blk.new w1 #[.int .u64 pn] 28) (by simpa using u64_wf p1 p2), (fun h => nomatch h), by simp, by simp [maxLen]⟩
  have hhas := has_any a (some ⟨w1.heap.size, 0, none⟩) n 1 c 1 M [pn] _ HN.out rfl (HM.out.below b2) hs1
  simp only [List.all_cons, List.all_nil, Bool.and_true, HV.out] at hhas
  rw [hs0] at hhas
  have HH' := Lib.hid hhas
  clear hhas hs1
  go_wp2_with (fail)
  refine HH'.out.mono ?_
  rintro e w3 ⟨hb3, rfl⟩
  go_wp2_with (fail)
  go_returns
  exact ⟨below_on b2 hb3 b2.size, rfl⟩

def lostQ (has : Bool) (lg now delay : Int) (p : Pk) : Bool := (has && decide (p.pn < lg)) && (decide (3 ≤ p.after) || decide (p.at_ + delay ≤ now))
set_option maxRecDepth 100000 in
set_option maxHeartbeats 1000000 in
theorem lostc_any (p : Pk) (qs qd qn : Nat) (b : Nat) (a : Option Addr) (n c : Nat) (has : Bool) (lg la lt top now delay : Int) (w : World) (hp : PkOk p) (hg : u64b' lg) (h : SB w b a n c has lg la lt top)
    (l1 : qs < w.heap.size) (l2 : qd < w.heap.size) (l3 : qn < w.heap.size) (c1 : w.cell? ⟨qs, 0, none⟩ = some (.pointer (some ⟨b, 0, none⟩))) (c2 : w.cell? ⟨qd, 0, none⟩ = some (.int .u64 delay)) (c3 : w.cell? ⟨qn, 0, none⟩ = some (.int .u64 now))
    (hd : 0 ≤ delay ∧ delay ≤ 4611686018427387904) (hnow : 0 ≤ now ∧ now ≤ 4611686018427387904) (hat : p.at_ ≤ 4611686018427387904) :
    Calls Try.prog 78 #[pkV p, .pointer (some ⟨qs, 0, none⟩), .pointer (some ⟨qd, 0, none⟩), .pointer (some ⟨qn, 0, none⟩)] w fun e w' => Below w.heap.size w w' ∧ e = .returned (.bool (lostQ has lg now delay p)) := by
  have b1 : Below w.heap.size w (w.alloc (.cells #[.int .u64 p.pn, .int .u64 p.at_, .int .u64 p.size, .bool p.el, .int .u64 p.after, .slice p.fa p.fn p.fc] 69)) := (Below.refl _ _).alloc (Nat.le_refl _) _
  have ho := over_any b p a n c has lg la lt top _ (Blk.below h b1) hp hg
  unfold lostQ
  obtain ⟨ov, hov⟩ : ∃ v, (has && decide (p.pn < lg)) = v := ⟨_, rfl⟩
  rw [hov] at ho ⊢
  have HO := Lib.hid ho
  clear ho hov
  unfold pkV at *
  obtain ⟨pn, at_, size, el, after, fa, fn, fc⟩ := p
  obtain ⟨⟨p1, p2⟩, ⟨p3, p4⟩, _, p7, p8⟩ := hp
  simp only at *
  have n1 : ¬ qs = w.heap.size := by omega
  have n2 : ¬ qd = w.heap.size := by omega
  have n3 : ¬ qn = w.heap.size := by omega
  have HOut : ∀ W, Below (w.alloc (.cells #[.int .u64 pn, .int .u64 at_, .int .u64 size, .bool el, .int .u64 after, .slice fa fn fc] 69)).heap.size (w.alloc (.cells #[.int .u64 pn, .int .u64 at_, .int .u64 size, .bool el, .int .u64 after, .slice fa fn fc] 69)) W →
      W.cell? ⟨qd, 0, none⟩ = some (.int .u64 delay) ∧ W.cell? ⟨qn, 0, none⟩ = some (.int .u64 now) ∧ W.cell? ⟨w.heap.size, 1, none⟩ = some (.int .u64 at_) ∧ W.cell? ⟨w.heap.size, 4, none⟩ = some (.int .u64 after) := fun W hW => by
    have hk := Blk.new w #[.int .u64 pn, .int .u64 at_, .int .u64 size, .bool el, .int .u64 after, .slice fa fn fc] 69
    refine ⟨(hW.cell (p := ⟨qd, 0, none⟩) (by simp; omega)).trans ((b1.cell (p := ⟨qd, 0, none⟩) (by simpa using l2)).trans c2), (hW.cell (p := ⟨qn, 0, none⟩) (by simp; omega)).trans ((b1.cell (p := ⟨qn, 0, none⟩) (by simpa using l3)).trans c3), ?_, ?_⟩
    · exact (hW.cell (p := ⟨w.heap.size, 1, none⟩) (by simp)).trans (hk.cell 1 _ rfl)
    · exact (hW.cell (p := ⟨w.heap.size, 4, none⟩) (by simp)).trans (hk.cell 4 _ rfl)
  have HOU := Lib.hid HOut
  clear HOut
  by_cases g1 : 3 ≤ after
  · simp only [decide_eq_true g1, Bool.true_or, Bool.and_true]
    go_enter Try.func78, Try.ntmps78
    go_wp2_with (fail)
    refine HO.out.mono ?_
    rintro e w3 ⟨hb3, rfl⟩
    obtain ⟨d1, d2, d3, d4⟩ := HOU.out w3 hb3
    have hfin := below_on b1 hb3 b1.size
    have HF := Lib.hid hfin
    clear hfin
    cases ov with
    | true =>
      go_wp2_with (fail)
      go_returns
      exact ⟨HF.out, rfl⟩
    | false =>
      go_wp2_with (fail)
      go_returns
      exact ⟨HF.out, rfl⟩
  · simp only [decide_eq_false g1, Bool.false_or]
    by_cases g2 : at_ + delay ≤ now
    · simp only [decide_eq_true g2, Bool.and_true]
      go_enter Try.func78, Try.ntmps78
      go_wp2_with (fail)
      refine HO.out.mono ?_
      rintro e w3 ⟨hb3, rfl⟩
      obtain ⟨d1, d2, d3, d4⟩ := HOU.out w3 hb3
      have hfin := below_on b1 hb3 b1.size
      have HF := Lib.hid hfin
      clear hfin
      cases ov with
      | true =>
        go_wp2_with (fail)
        go_returns
        exact ⟨HF.out, rfl⟩
      | false =>
        go_wp2_with (fail)
        go_returns
        exact ⟨HF.out, rfl⟩
    · simp only [decide_eq_false g2, Bool.and_false]
      go_enter Try.func78, Try.ntmps78
      go_wp2_with (fail)
      refine HO.out.mono ?_
      rintro e w3 ⟨hb3, rfl⟩
      obtain ⟨d1, d2, d3, d4⟩ := HOU.out w3 hb3
      have hfin := below_on b1 hb3 b1.size
      have HF := Lib.hid hfin
      clear hfin
      cases ov with
      | true =>
        go_wp2_with (fail)
        go_returns
        exact ⟨HF.out, by show Ending.returned (.bool (decide (3 ≤ after) || decide (at_ + delay ≤ now))) = _; simp [g1, g2]⟩
      | false =>
        go_wp2_with (fail)
        go_returns
        exact ⟨HF.out, rfl⟩
end Go.Proofs.Ytidfimpchbkppaa
