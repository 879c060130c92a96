/- Out: Took. -/
import Derived.Test.YtidfimpchbkppaaOu2
import Derived.Test.YtidfimpchbkppaaSpW13
namespace Go.Proofs.Ytidfimpchbkppaa
open Go.RowKit
set_option linter.unusedVariables false

theorem one_rs {w : World} {q : Nat} {x y : Int} (h : Blk w q #[.int .u64 x, .int .u64 y] 31) (hx : 0 ≤ x ∧ x ≤ 18446744073709551615) (hy : 0 ≤ y ∧ y ≤ 18446744073709551615) : Rs w (some ⟨q, 0, none⟩) 1 [(x, y)] := by
  have c0 := h.cell 0 _ rfl
  have c1 := h.cell 1 _ rfl
  refine Rs.of h.lt (fun i hi => ?_) (fun r hr => ?_) (by simp) (by simp [maxLen])
  · match i, hi with
    | 0, _ => exact c0
    | 1, _ => exact c1
    | i + 2, hi => simp [flat] at hi; omega
  · rw [List.mem_singleton.1 hr]
    exact ⟨hx, hy⟩
def LostOk (w : World) (b : Nat) (s : OSt) (LL : List Rg) : Prop := s.ln = LL.length ∧ Rs w s.la s.lc LL ∧ ∀ x, s.la = some x → 0 < LL.length → x.block ≠ b
set_option maxRecDepth 100000 in
set_option maxHeartbeats 4000000 in
theorem otook_any (b : Nat) (s : OSt) (LL : List Rg) (off m : Int) (fv : Bool) (w : World) (h : OB w b s) (hs : OOk s) (hL : LostOk w b s LL) (hll : LL.length ≤ 10000) (h1 : 0 ≤ off ∧ off ≤ 100000) (h2 : 0 ≤ m ∧ m ≤ 100000) :
    Calls Try.prog 60 #[.pointer (some ⟨b, 0, none⟩), .int .u64 off, .int .u64 m, .bool fv] w fun e w' => Only (· = b) w w' ∧ (∃ v, e = .returned v) ∧
      ∃ (la : Option Addr) (lc : Nat) (M : List Rg), OB w' b { s with la := la, ln := M.length, lc := lc, next := max s.next (off + m), sent := s.sent || fv } ∧ IsNf (fun x => (inB LL x && !inB [(off, off + m)] x) = true) M ∧ Rs w' la lc M ∧ ∀ x, la = some x → x.block ≠ b ∧ w.heap.size ≤ x.block := by
  unfold OB at *
  obtain ⟨ba, bn, bc, base, next, mx, aa, an, ac, la, ln, lc, fin, sent, ack⟩ := s
  obtain ⟨g1, g2, g3, g4⟩ := hs
  obtain ⟨hln, hR, hlb⟩ := hL
  simp only at *
  have c5 := h.cell 5 _ rfl
  have lb := h.lt
  have nb : ¬ b = w.heap.size := by omega
  have x1 := Blk.new w #[.int .u64 off, .int .u64 (off + m)] 31
  have b1 : Below w.heap.size w (w.alloc (.cells #[.int .u64 off, .int .u64 (off + m)] 31)) := (Below.refl _ _).alloc (Nat.le_refl _) _
  have hcut := cut_any la (some ⟨w.heap.size, 0, none⟩) ln 1 lc 1 LL [(off, off + m)] _ hln rfl (hR.below b1) (one_rs x1 (by omega) (by omega)) (by omega) (by simp)
  have HCUT := Lib.hid hcut
  have HH := Lib.hid h
  clear h x1 hcut hln hR hlb
  go_enter Try.func60, Try.ntmps60
  go_wp2_with (fail)
  refine HCUT.out.mono ?_
  rintro e w2 ⟨hb2, a2, k2, M, rfl, ho2, hbM, hnM, hlM⟩
  have b2 := below_on b1 hb2 (by simp)
  have hfar : ∀ x, a2 = some x → x.block ≠ b ∧ w.heap.size ≤ x.block := fun x hx => by
    have := (ho2.block hx).1
    simp at this
    omega
  have hB2 := HH.out.below b2
  have hset := (hB2.set 5 (.slice a2 M.length k2)).congr (cs' := #[.slice ba bn bc, .int .u64 base, .int .u64 next, .int .u64 mx, .slice aa an ac, .slice a2 M.length k2, .bool fin, .bool sent, .bool ack, .bool false, .int .u64 0, .bool false, .bool false, .bool false]) (by simp)
  have e5 := hB2.cell 5 _ rfl
  have f5 := hB2.free 5
  have on3 : Only (· = b) w (w2.setCell ⟨b, 5, none⟩ (.slice a2 M.length k2)) := (only_of_below b2 _).trans ((Only.refl _ _).set 5 _)
  have hrs : Rs (w2.setCell ⟨b, 5, none⟩ (.slice a2 M.length k2)) a2 k2 M := by
    have h9 := (OwnS.rs ho2 hbM)
    exact h9.2.only ((Only.refl (· = b) w2).set 5 _) (fun x hx _ he => (hfar x hx).1 he)
  obtain ⟨mn, hmn⟩ : ∃ n, M.length = n := ⟨_, rfl⟩
  rw [hmn] at hset on3 hrs ⊢
  have S := Lib.hid hset
  have O3 := Lib.hid on3
  have RS := Lib.hid hrs
  have F := Lib.hid hfar
  have MN := Lib.hid hmn
  have NF := Lib.hid hnM
  clear hset on3 hrs hfar hmn hnM hbM hlM ho2 hB2 hb2 b2 b1 HCUT HH c5
  go_wp2_with (fail)
  clear e5 f5
  obtain ⟨w3, hw3⟩ : ∃ z, w2.setCell ⟨b, 5, none⟩ (.slice a2 mn k2) = z := ⟨_, rfl⟩
  rw [hw3] at S O3 RS ⊢
  clear hw3
  have d2 := S.out.cell 2 _ rfl
  have lb3 : b < w3.heap.size := S.out.lt
  refine rg_start 16 ?_
  refine rg_same fun p hx hne hC => ?_
  refine rg_quiet 0 [0,1,2,3,4,5,6,7,8,9,10,11,12,13,14,15] hC ?_
  simp only [pickD, List.map_cons, List.map_nil, List.getD_cons_zero, List.getD_cons_succ]; repeat (go_big_quiet_step (fail))
  refine wpQuiet_nil ?_
  refine rg_end ?_
  clear hx hne hC
  have b4 := (Below.refl w3.heap.size w3).drew
  obtain ⟨w4, hw4⟩ : ∃ z, w3.drew = z := ⟨_, rfl⟩
  rw [hw4] at b4 ⊢
  have S4 := Lib.hid (S.out.below b4)
  have O4 := Lib.hid (O3.out.trans (only_of_below b4 (· = b)))
  have RS4 := Lib.hid (RS.out.below b4)
  clear hw4 b4 S O3 RS d2
  have d2 := S4.out.cell 2 _ rfl
  have d7 := S4.out.cell 7 _ rfl
  have m2 := S4.out.free 2
  have m7 := S4.out.free 7
  have lb4 : b < w4.heap.size := S4.out.lt
  have hmax : next + (max next (off + m) - next) = max next (off + m) := by omega
  have hmb : 0 ≤ max next (off + m) ∧ max next (off + m) ≤ 300000 := by omega
  have hmb2 : 0 ≤ max next (off + m) - next ∧ max next (off + m) - next ≤ 300000 := by omega
  cases sent with
  | true =>
    go_wp2_with (fail)
    go_returns
    refine ⟨(O4.out.trans ((Only.refl _ _).set 2 _)).trans ((Only.refl _ _).set 7 _), ⟨_, rfl⟩, a2, k2, M, ?_, NF.out, RS4.out.only (((Only.refl (· = b) _).set 2 _).set 7 _) (fun x hx _ he => (F.out x hx).1 he), F.out⟩
    rw [MN.out]
    exact ((S4.out.set 2 (.int .u64 (max next (off + m)))).set 7 (.bool true)).congr (by simp)
  | false =>
    go_wp2_with (fail)
    go_returns
    refine ⟨(O4.out.trans ((Only.refl _ _).set 2 _)).trans ((Only.refl _ _).set 7 _), ⟨_, rfl⟩, a2, k2, M, ?_, NF.out, RS4.out.only (((Only.refl (· = b) _).set 2 _).set 7 _) (fun x hx _ he => (F.out x hx).1 he), F.out⟩
    rw [MN.out]
    exact ((S4.out.set 2 (.int .u64 (max next (off + m)))).set 7 (.bool fv)).congr (by simp)
end Go.Proofs.Ytidfimpchbkppaa
