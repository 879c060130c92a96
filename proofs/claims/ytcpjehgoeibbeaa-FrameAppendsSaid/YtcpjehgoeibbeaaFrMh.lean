import Derived.Test.YtcpjehgoeibbeaaFrMc
import Derived.Great.BuildSlice
/- Size, Append, Eliciting, Allowed; slices of frames. -/
namespace Go.Proofs.Ytcpjehgoeibbeaa
open Go.RowKit
set_option linter.unusedVariables false
namespace Frm
open Var
/-- What a frame holds is not more than this. -/
structure FM.sm (p : FM) : Prop where
  d : p.f.data.length ≤ 1000000
  c : p.f.cid.length ≤ 140737488355328
  a : p.f.acks.length ≤ 100000000
set_option maxHeartbeats 1000000 in
set_option maxRecDepth 100000 in
theorem size_frame (p : FM) (w : World) (hp : p.ok w) (hs : p.sm) (hput : (putF p.f).length ≤ 70368744177664) :
    Calls Try.prog 13 #[.agg p.vals] w fun e w' => e = .returned (.int .i64 (if mayF p.f then ((putF p.f).length : Int) else 0)) ∧ Below w.heap.size w w' := by
  obtain ⟨r, hr⟩ : ∃ r : Int, (if mayF p.f then ((putF p.f).length : Int) else 0) = r := ⟨_, rfl⟩
  have HR := Lib.hid hr
  rw [hr]
  clear hr
  have hboxn := Blk.new w p.vals 36
  have hw1 := (Below.refl w.heap.size w).alloc (Nat.le_refl _) (.cells p.vals 36)
  have HP := Lib.hid hp
  have HPUT := Lib.hid hput
  clear hp hput
  go_enter Try.func13, Try.ntmps13
  go_upto_region 1 with (fail)
  generalize w.alloc (.cells p.vals 36) = w1 at *
  have HB := Lib.hid hboxn
  have HW := Lib.hid hw1
  clear hboxn hw1
  go_wp2_with (with_reducible refine stop_ldf ?_)
  refine Stop.out ?_
  refine wpList_loadF rfl rfl p HP.out.fr.tok16 rfl HB.out ?_
  go_wp2_with (fail)
  refine (may_any p _ (HP.out.below HW.out) (by have := hs.d; omega) hs.c (by have := hs.a; omega)).mono ?_
  cases hm : mayF p.f with
  | false =>
    rintro e w2 ⟨rfl, b2⟩
    have h0 : r = 0 := by rw [← HR.out, hm]; rfl
    clear hm
    go_wp2_with (fail)
    go_returns
    exact ⟨by rw [h0]; rfl, below_on HW.out b2 HW.out.size⟩
  | true =>
    rintro e w2 ⟨rfl, b2⟩
    have h1 := Lib.hid (show r = ((putF p.f).length : Int) by rw [← HR.out, hm]; rfl)
    have HM := Lib.hid hm
    have K2 := Lib.hid (below_on HW.out b2 HW.out.size)
    have HB2 := Lib.hid (FB.below HB.out b2)
    clear hm b2
    go_wp2_with (with_reducible refine stop_ldf ?_)
    refine Stop.out ?_
    refine wpList_loadF rfl rfl p HP.out.fr.tok16 rfl HB2.out ?_
    go_wp2_with (fail)
    refine (put_any p _ (HP.out.below K2.out) HM.out hs.d hs.a).mono ?_
    rintro e w3 ⟨a3, c3, m3, rfl, M3, O3, b3⟩
    have K3 := Lib.hid (below_on K2.out b3 K2.out.size)
    clear b3
    go_wp2_with (fail)
    go_returns
    exact ⟨by rw [h1.out, ← M3.out]; rfl, K3.out⟩
def allowF (s k : Int) : Bool := if k = 0 ∨ k = 1 ∨ k = 2 ∨ k = 3 ∨ k = 6 ∨ k = 28 then decide (s ≤ 2) else (decide (s = 2) && decide (k ≤ 30) && (decide (k ≤ 8) || decide (16 ≤ k)))
/-- Slices of frames. -/
structure Fs (w : World) (a : Option Addr) (cap : Nat) (L : List FM) : Prop where
  at_ : ∀ i, (hi : i < L.length) → ∃ b off, a = some ⟨b, off, none⟩ ∧ b < w.heap.size ∧ ∀ j v, (L[i]).list[j]? = some v → w.cell? ⟨b, off + i * 30 + j, none⟩ = some v
  ok : ∀ p ∈ L, p.ok w
  nul : a = none → cap = 0
  le : L.length ≤ cap
  max : cap ≤ maxLen
theorem Fs.below {w w' : World} {a : Option Addr} {cap : Nat} {L : List FM} (h : Fs w a cap L) (hb : Below w.heap.size w w') : Fs w' a cap L :=
  ⟨fun i hi => by
    obtain ⟨b, off, e, hlt, hc⟩ := h.at_ i hi
    exact ⟨b, off, e, Nat.lt_of_lt_of_le hlt hb.size, fun j v hv => (hb.cell (p := ⟨b, off + i * 30 + j, none⟩) hlt).trans (hc j v hv)⟩, fun p hp => (h.ok p hp).below hb, h.nul, h.le, h.max⟩
def putAll (L : List FM) : List Int := (L.map fun p => putF p.f).flatten
theorem putAll_take (L : List FM) (k : Nat) (h : k < L.length) : putAll (L.take (k + 1)) = putAll (L.take k) ++ putF (L[k]).f := by
  unfold putAll
  rw [List.take_succ_eq_append_getElem h, List.map_append, List.flatten_append]
  simp
theorem putAll_le (L : List FM) (k : Nat) : (putAll (L.take k)).length ≤ (putAll L).length := by
  conv => rhs; rw [← List.take_append_drop k L]
  unfold putAll
  rw [List.map_append, List.flatten_append, List.length_append]
  omega
theorem take_may {L : List FM} {k : Nat} (h : ∀ j q, j < k → L[j]? = some q → mayF q.f = true) : ∀ p ∈ L.take k, mayF p.f = true := fun p hp => by
  obtain ⟨j, hj, rfl⟩ := List.getElem_of_mem hp
  have : j < k := by simp at hj; omega
  refine h j _ this ?_
  rw [← List.getElem?_eq_getElem hj, List.getElem?_take_of_lt this]
set_option maxHeartbeats 2000000 in
set_option maxRecDepth 100000 in
theorem fappend_any (b : Option Addr) (n cap : Nat) (B : List Int) (a : Option Addr) (ln ac : Nat) (L : List FM) (w : World) (hn : n = B.length) (hln : ln = L.length) (hB : Sl .u8 w b cap B) (hL : Fs w a ac L) (hs : ∀ p ∈ L, p.sm) (hln2 : L.length ≤ 1000000) (hsz : ∀ k, (∀ p ∈ L.take k, mayF p.f = true) → B.length + (putAll (L.take k)).length ≤ 70368744177664) :
    Calls Try.prog 8 #[.slice b n cap, .slice a ln ac] w fun e w' => Below w.heap.size w w' ∧
      ((∀ p ∈ L, mayF p.f = true) → ∃ a' c' m, e = .returned (.tuple #[.slice a' m c', .int .i64 0]) ∧ Hid (m = (B ++ putAll L).length) ∧ Hid (OwB w' w.heap.size a' c' (B ++ putAll L))) ∧
      (¬ (∀ p ∈ L, mayF p.f = true) → e = .returned (.tuple #[.slice none 0 0, .int .i64 2])) := by
  have HB := Lib.hid hB
  have HL := Lib.hid hL
  have HS := Lib.hid hs
  have HN := Lib.hid hn
  have HLN := Lib.hid hln
  have HSZ := Lib.hid hsz
  have hl1 : ln ≤ 1000000 := by omega
  have hl2 : n ≤ 70368744177664 := by have := hsz 0 (by simp); omega
  have hsb := sl_byte hB
  have HSB := Lib.hid hsb
  clear hB hL hs hn hln hsz hsb hln2
  go_enter Try.func8, Try.ntmps8
  go_wp2_with (at_builtin; refine Stop.mk ?_)
  refine Stop.out ?_
  have hsrc := HB.out.src
  rw [← HN.out] at hsrc
  refine wpList_app bytes_et rfl rfl rfl rfl (OwnS.nil w w.heap.size _ _) hsrc (by unfold maxLen; omega) (by omega) (Nat.le_refl _) ?_
  intro a2 c2 w2 ho2 on2 at2
  rw [Nat.zero_add, List.nil_append] at *
  have HO2 := Lib.hid ho2
  have K2 : Below w.heap.size w w2 := below_onto (Below.refl _ _) on2 (Nat.le_refl _) (by rintro z hz ⟨y, hy, _⟩; cases hy)
  clear ho2 on2 at2 hsrc
  go_wp2_with (fail)
  go_loopw [6, 8, 13] (fun out _ i wr => ∃ (k : Nat) (oa : Option Addr) (oc m : Nat), i = .int .i64 k ∧ k ≤ ln ∧ out = .slice oa m oc ∧ Hid (m = (B ++ putAll (L.take k)).length) ∧ Hid (OwB wr w.heap.size oa oc (B ++ putAll (L.take k))) ∧ Hid (∀ j q, j < k → L[j]? = some q → mayF q.f = true) ∧ Hid (Below w.heap.size w wr)) (fun _ _ i _ => ln - (intOf i).toNat)
  case atStart => exact ⟨0, a2, c2, n, rfl, by omega, rfl, Lib.hid (by rw [List.take_zero]; simp [putAll, HN.out]), Lib.hid ⟨by have := HO2.out; rw [HN.out] at this; simpa [putAll] using this, by simpa [putAll] using HSB.out⟩, Lib.hid (fun j _ h _ => by omega), Lib.hid K2⟩
  case round =>
    obtain ⟨k, oa, oc, m, rfl, hk, rfl, hm, ho, hmay, hbw⟩ := hrel
    have hmb : m ≤ 70368744177664 := by
      have h1 := hm.out
      have h3 := HSZ.out k (take_may hmay.out)
      rw [List.length_append] at h1
      omega
    by_cases hlt : k < ln
    · have hkl : k < L.length := by have := HLN.out; omega
      obtain ⟨bb, off, ea, hlb, hc⟩ := (HL.out.below hbw.out).at_ k hkl
      subst ea
      have hpm : L[k] ∈ L := List.getElem_mem hkl
      obtain ⟨p, hp⟩ : ∃ p, L[k] = p := ⟨_, rfl⟩
      have hstep := putAll_take L k hkl
      rw [hp] at hc hpm hstep
      have HP := Lib.hid (show L[k]? = some p by rw [List.getElem?_eq_getElem hkl, hp])
      have HC := Lib.hid hc
      have HST := Lib.hid hstep
      have POK := Lib.hid ((HL.out.ok p hpm).below hbw.out)
      have PS := HS.out p hpm
      obtain ⟨s1, s2, s3⟩ := PS
      have HKL := Lib.hid hkl
      clear hp hc hstep hpm hkl
      go_wp2_with (with_reducible refine stop_ldf ?_)
      refine Stop.out ?_
      refine wpList_loadPart p.list Try.underlying36 rfl (by rw [p.length POK.out.fr.tok16]; exact fr_size) rfl rfl rfl HC.out ?_
      go_wp2_with (with_reducible refine stop_stf ?_)
      refine Stop.out ?_
      refine wpList_storeF rfl rfl p (fm0 0) POK.out.fr.tok16 rfl rfl rfl (fm0_at rfl) ?_
      intro w3 hb3 o3
      have b3 : Below wr.heap.size wr w3 := below_onto ((Below.refl _ _).alloc (Nat.le_refl _) _) o3 (by simp) (by intro z hz h; omega)
      have K3 := Lib.hid (below_on hbw.out b3 hbw.out.size)
      have B3 := Lib.hid b3
      have HB3 := Lib.hid hb3
      have lz3 : wr.heap.size < w3.heap.size := Blk.lt hb3
      clear b3 hb3 o3
      go_wp2_with (with_reducible refine stop_ldf ?_)
      refine Stop.out ?_
      refine wpList_loadF rfl rfl p POK.out.fr.tok16 rfl HB3.out ?_
      go_wp2_with (fail)
      refine (may_any p _ (POK.out.below B3.out) (by omega) s2 (by omega)).mono ?_
      cases hmm : mayF p.f with
      | false =>
        have hno := Lib.hid (show ¬ (∀ p ∈ L, mayF p.f = true) from fun h => by have := h p (List.mem_of_getElem? HP.out); rw [hmm] at this; cases this)
        rintro e w4 ⟨rfl, b4⟩
        clear hmm
        go_wp2_with (fail)
        go_returns
        exact ⟨below_on K3.out b4 K3.out.size, fun h => absurd h hno.out, fun _ => rfl⟩
      | true =>
        have HMM := Lib.hid hmm
        rintro e w4 ⟨rfl, b4⟩
        have B4 := Lib.hid (below_on B3.out b4 B3.out.size)
        have K4 := Lib.hid (below_on K3.out b4 K3.out.size)
        have HB4 := Lib.hid (FB.below HB3.out b4)
        clear hmm b4
        go_wp2_with (with_reducible refine stop_ldf ?_)
        refine Stop.out ?_
        refine wpList_loadF rfl rfl p POK.out.fr.tok16 rfl HB4.out ?_
        go_wp2_with (fail)
        refine (put_any p _ (POK.out.below B4.out) HMM.out s1 s3).mono ?_
        rintro e w5 ⟨a5, c5, m5, rfl, M5, O5, b5⟩
        have K5 := Lib.hid (below_on K4.out b5 K4.out.size)
        have HO5 := Lib.hid (ho.out.below (below_on B4.out b5 B4.out.size))
        have hmay2 : Hid (∀ j q, j < k + 1 → L[j]? = some q → mayF q.f = true) := Lib.hid (fun j q h h2 => by
          rcases Nat.lt_or_ge j k with h3 | h3
          · exact hmay.out j q h3 h2
          · obtain rfl : j = k := by omega
            rw [HP.out] at h2
            cases h2
            exact HMM.out)
        have hm5 : m + m5 ≤ 70368744177664 := by
          have h1 := hm.out
          have h3 := HSZ.out (k + 1) (take_may hmay2.out)
          have h4 := M5.out
          rw [HST.out] at h3
          rw [List.length_append] at h1 h3
          omega
        clear b5
        go_wp2_with (at_builtin; refine Stop.mk ?_)
        refine Stop.out ?_
        have hs5 := O5.out.src
        have ho5 := HO5.out.1
        rw [← M5.out] at hs5
        rw [← hm.out] at ho5
        refine wpList_app bytes_et rfl rfl rfl rfl ho5 hs5 (by unfold maxLen; omega) (by omega) K5.out.size ?_
        intro a6 c6 w6 ho6 on6 at6
        have K6 : Below w.heap.size w w6 := below_onto K5.out on6 K5.out.size (by rintro z hz ⟨y, hy, rfl⟩; have := (HO5.out.1.block hy).1; omega)
        have e6 : B ++ putAll (L.take (k + 1)) = (B ++ putAll (L.take k)) ++ putF p.f := by rw [HST.out, List.append_assoc]
        have l6 : m + m5 = (B ++ putAll (L.take (k + 1))).length := by rw [e6, List.length_append, ← hm.out, ← M5.out]
        have HO6 := Lib.hid (show OwB w6 w.heap.size a6 c6 (B ++ putAll (L.take (k + 1))) from ⟨by rw [← l6, e6, List.map_append]; exact ho6, by
          rw [e6]; intro x hx
          rcases List.mem_append.1 hx with h | h
          · exact HO5.out.2 x h
          · exact sl_byte O5.out x h⟩)
        have L6 := Lib.hid l6
        have KK6 := Lib.hid K6
        clear ho6 on6 at6 K6 e6 l6 hs5 ho5
        go_wp2_with (fail)
        exact ⟨⟨k + 1, a6, c6, m + m5, by go_num, by omega, rfl, L6, HO6, hmay2, KK6⟩, by simp [intOf]; omega⟩
    · have hkl : k = L.length := by have := HLN.out; omega
      have hall := Lib.hid (show ∀ p ∈ L, mayF p.f = true from fun p hp => by
        obtain ⟨j, hj, rfl⟩ := List.getElem_of_mem hp
        exact hmay.out j _ (by omega) (List.getElem?_eq_getElem hj))
      have ho' := ho.out
      have hm' := hm.out
      rw [hkl, List.take_length] at ho' hm'
      have HO' := Lib.hid ho'
      have HM' := Lib.hid hm'
      clear ho' hm' hkl
      go_wp2_with (fail)
      go_returns
      exact ⟨hbw.out, fun _ => ⟨oa, oc, m, rfl, HM', HO'⟩, fun h => absurd hall.out h⟩
set_option maxHeartbeats 2000000 in
theorem allowed_any (s k : Int) (w : World) (hs : 0 ≤ s ∧ s ≤ 255) (hk : 0 ≤ k ∧ k ≤ 18446744073709551615) : Calls Try.prog 20 #[.int .u8 s, .int .u64 k] w fun e w' => e = .returned (.bool (allowF s k)) ∧ w = w' := by
  by_cases n0 : k = 0
  · subst n0
    rw [show allowF s 0 = decide (s ≤ 2) from rfl]
    go_enter Try.func20, Try.ntmps20
    go_wp2_with (fail)
    go_returns
    exact ⟨rfl, rfl⟩
  by_cases n1 : k = 1
  · subst n1
    rw [show allowF s 1 = decide (s ≤ 2) from rfl]
    go_enter Try.func20, Try.ntmps20
    go_wp2_with (fail)
    go_returns
    exact ⟨rfl, rfl⟩
  by_cases n2 : k = 2
  · subst n2
    rw [show allowF s 2 = decide (s ≤ 2) from rfl]
    go_enter Try.func20, Try.ntmps20
    go_wp2_with (fail)
    go_returns
    exact ⟨rfl, rfl⟩
  by_cases n3 : k = 3
  · subst n3
    rw [show allowF s 3 = decide (s ≤ 2) from rfl]
    go_enter Try.func20, Try.ntmps20
    go_wp2_with (fail)
    go_returns
    exact ⟨rfl, rfl⟩
  by_cases n6 : k = 6
  · subst n6
    rw [show allowF s 6 = decide (s ≤ 2) from rfl]
    go_enter Try.func20, Try.ntmps20
    go_wp2_with (fail)
    go_returns
    exact ⟨rfl, rfl⟩
  by_cases n28 : k = 28
  · subst n28
    rw [show allowF s 28 = decide (s ≤ 2) from rfl]
    go_enter Try.func20, Try.ntmps20
    go_wp2_with (fail)
    go_returns
    exact ⟨rfl, rfl⟩
  by_cases m1 : s = 2
  · subst m1
    by_cases m2 : k ≤ 30
    · have g2 : decide (k ≤ 30) = true := by simp; omega
      by_cases m3 : k ≤ 8
      · have g3 : decide (k ≤ 8) = true := by simp; omega
        rw [show allowF 2 k = true by simp [allowF, n0, n1, n2, n3, n6, n28, m2, m3]]
        go_enter Try.func20, Try.ntmps20
        go_wp2_with (fail)
        go_returns
        exact ⟨rfl, rfl⟩
      · have g3 : decide (k ≤ 8) = false := by simp; omega
        by_cases m4 : 16 ≤ k
        · have g4 : decide (16 ≤ k) = true := by simp; omega
          rw [show allowF 2 k = true by simp [allowF, n0, n1, n2, n3, n6, n28, m2, m4]]
          go_enter Try.func20, Try.ntmps20
          go_wp2_with (fail)
          go_returns
          exact ⟨rfl, rfl⟩
        · have g4 : decide (16 ≤ k) = false := by simp; omega
          rw [show allowF 2 k = false by simp [allowF, n0, n1, n2, n3, n6, n28, m2, m3, m4]]
          go_enter Try.func20, Try.ntmps20
          go_wp2_with (fail)
          go_returns
          exact ⟨rfl, rfl⟩
    · have g2 : decide (k ≤ 30) = false := by simp; omega
      rw [show allowF 2 k = false by simp [allowF, n0, n1, n2, n3, n6, n28, m2]]
      go_enter Try.func20, Try.ntmps20
      go_wp2_with (fail)
      go_returns
      exact ⟨rfl, rfl⟩
  · rw [show allowF s k = false by simp [allowF, n0, n1, n2, n3, n6, n28, m1]]
    go_enter Try.func20, Try.ntmps20
    go_wp2_with (fail)
    go_returns
    exact ⟨rfl, rfl⟩
end Frm
end Go.Proofs.Ytcpjehgoeibbeaa

/- Eliciting. -/
namespace Go.Proofs.Ytcpjehgoeibbeaa
open Go.RowKit
set_option linter.unusedVariables false
namespace Frm
open Var
def elicK (k : Int) : Bool := !(decide (k = 0) || decide (k = 2) || decide (k = 3) || decide (k = 28) || decide (k = 29))
set_option maxHeartbeats 2000000 in
set_option maxRecDepth 100000 in
theorem elic_any (a : Option Addr) (ln ac : Nat) (L : List FM) (w : World) (hln : ln = L.length) (hL : Fs w a ac L) (hln2 : L.length ≤ 1000000) :
    Calls Try.prog 18 #[.slice a ln ac] w fun e w' => e = .returned (.bool (L.any fun p => elicK p.f.kind)) ∧ Below w.heap.size w w' := by
  have HL := Lib.hid hL
  have HLN := Lib.hid hln
  have hl1 : ln ≤ 1000000 := by omega
  obtain ⟨r, hr⟩ : ∃ r, (L.any fun p => elicK p.f.kind) = r := ⟨_, rfl⟩
  have HR := Lib.hid hr
  rw [hr]
  clear hL hln hln2 hr
  go_enter Try.func18, Try.ntmps18
  go_wp2_with (fail)
  go_loopw [4, 7] (fun _ i wr => ∃ (k : Nat), i = .int .i64 k ∧ k ≤ ln ∧ Hid (∀ j q, j < k → L[j]? = some q → elicK q.f.kind = false) ∧ Hid (Below w.heap.size w wr)) (fun _ i _ => ln - (intOf i).toNat)
  case atStart => exact ⟨0, rfl, by omega, Lib.hid (fun j _ h _ => by omega), Lib.hid (Below.refl _ _)⟩
  case round =>
    obtain ⟨k, rfl, hk, hall, hbw⟩ := hrel
    by_cases hlt : k < ln
    · have hkl : k < L.length := by have := HLN.out; omega
      obtain ⟨bb, off, ea, hlb, hc⟩ := (HL.out.below hbw.out).at_ k hkl
      subst ea
      have hpm : L[k] ∈ L := List.getElem_mem hkl
      obtain ⟨p, hp⟩ : ∃ p, L[k] = p := ⟨_, rfl⟩
      rw [hp] at hc hpm
      have HP := Lib.hid (show L[k]? = some p by rw [List.getElem?_eq_getElem hkl, hp])
      have HC := Lib.hid hc
      have POK := Lib.hid ((HL.out.ok p hpm).below hbw.out)
      have HPM := Lib.hid hpm
      clear hp hc hpm hkl
      go_wp2_with (with_reducible refine stop_ldf ?_)
      refine Stop.out ?_
      refine wpList_loadPart p.list Try.underlying36 rfl (by rw [p.length POK.out.fr.tok16]; exact fr_size) rfl rfl rfl HC.out ?_
      go_wp2_with (with_reducible refine stop_stf ?_)
      refine Stop.out ?_
      refine wpList_storeF rfl rfl p (fm0 0) POK.out.fr.tok16 rfl rfl rfl (fm0_at rfl) ?_
      intro w3 hb3 o3
      have b3 : Below wr.heap.size wr w3 := below_onto ((Below.refl _ _).alloc (Nat.le_refl _) _) o3 (by simp) (by intro z hz h; omega)
      have K3 := Lib.hid (below_on hbw.out b3 hbw.out.size)
      have c0 := (FB.fc hb3 POK.out.fr.tok16).c0
      clear b3 hb3 o3
      obtain ⟨kd, hkd⟩ : ∃ kd, p.f.kind = kd := ⟨_, rfl⟩
      rw [hkd] at c0
      have HKD := Lib.hid hkd
      clear hkd
      by_cases he : elicK kd = true
      · have hne : ¬ kd = 0 ∧ ¬ kd = 2 ∧ ¬ kd = 3 ∧ ¬ kd = 28 ∧ ¬ kd = 29 := by simpa [elicK, and_assoc] using he
        obtain ⟨n0, n2, n3, n28, n29⟩ := hne
        have hr' : r = true := by rw [← HR.out]; exact List.any_eq_true.2 ⟨p, HPM.out, by rw [HKD.out]; exact he⟩
        subst hr'
        clear he
        go_wp2_with (fail)
        go_returns
        exact ⟨rfl, K3.out⟩
      · have hall2 : Hid (∀ j q, j < k + 1 → L[j]? = some q → elicK q.f.kind = false) := Lib.hid (fun j q h h2 => by
          rcases Nat.lt_or_ge j k with h3 | h3
          · exact hall.out j q h3 h2
          · obtain rfl : j = k := by omega
            rw [HP.out] at h2
            cases h2
            rw [HKD.out]; simpa using he)
        have hor : kd = 0 ∨ kd = 2 ∨ kd = 3 ∨ kd = 28 ∨ kd = 29 := by
          apply Classical.byContradiction
          intro hn
          simp only [not_or] at hn
          exact he (by simp [elicK, hn])
        clear he
        rcases hor with rfl | rfl | rfl | rfl | rfl
        · go_wp2_with (fail)
          exact ⟨⟨k + 1, by go_num, by omega, hall2, K3⟩, by simp [intOf]; omega⟩
        · go_wp2_with (fail)
          exact ⟨⟨k + 1, by go_num, by omega, hall2, K3⟩, by simp [intOf]; omega⟩
        · go_wp2_with (fail)
          exact ⟨⟨k + 1, by go_num, by omega, hall2, K3⟩, by simp [intOf]; omega⟩
        · go_wp2_with (fail)
          exact ⟨⟨k + 1, by go_num, by omega, hall2, K3⟩, by simp [intOf]; omega⟩
        · go_wp2_with (fail)
          exact ⟨⟨k + 1, by go_num, by omega, hall2, K3⟩, by simp [intOf]; omega⟩
    · have hkl : k = L.length := by have := HLN.out; omega
      have hr' : r = false := by
        rw [← HR.out]
        apply List.any_eq_false.2
        intro p hp
        obtain ⟨j, hj, rfl⟩ := List.getElem_of_mem hp
        have := hall.out j _ (by omega) (List.getElem?_eq_getElem hj)
        simpa using this
      subst hr'
      clear hkl
      go_wp2_with (fail)
      go_returns
      exact ⟨rfl, hbw.out⟩
end Frm
end Go.Proofs.Ytcpjehgoeibbeaa

/- Lists of frames of the call's own. -/
namespace Go.Proofs.Ytcpjehgoeibbeaa
open Go.RowKit
set_option linter.unusedVariables false
namespace Frm
open Var
def cellsF (L : List FM) : List Value := L.flatMap FM.list
theorem cellsF_append (A B : List FM) : cellsF (A ++ B) = cellsF A ++ cellsF B := List.flatMap_append
theorem cellsF_one (p : FM) : cellsF [p] = p.list := List.append_nil _
theorem cellsF_length : ∀ {L : List FM}, (∀ p ∈ L, p.f.tok.length = 16) → (cellsF L).length = L.length * 30
  | [], _ => rfl
  | p :: L, h => by
    have := cellsF_length (L := L) (fun q hq => h q (by simp [hq]))
    rw [show cellsF (p :: L) = p.list ++ cellsF L from rfl, List.length_append, this, p.length (h p (by simp)), List.length_cons]
    omega
theorem cellsF_at : ∀ {L : List FM} (i j : Nat) (p : FM), (∀ p ∈ L, p.f.tok.length = 16) → L[i]? = some p → j < 30 → (cellsF L)[i * 30 + j]? = p.list[j]?
  | [], i, j, p, _, h, _ => by simp at h
  | q :: L, 0, j, p, h, hp, hj => by
    simp at hp
    subst hp
    rw [show cellsF (q :: L) = q.list ++ cellsF L from rfl, Nat.zero_mul, Nat.zero_add, List.getElem?_append_left (by rw [q.length (h q (by simp))]; exact hj)]
  | q :: L, i + 1, j, p, h, hp, hj => by
    have ih := cellsF_at (L := L) i j p (fun r hr => h r (by simp [hr])) (by simpa using hp) hj
    rw [show cellsF (q :: L) = q.list ++ cellsF L from rfl, List.getElem?_append_right (by rw [q.length (h q (by simp))]; omega), q.length (h q (by simp)), show (i + 1) * 30 + j - 30 = i * 30 + j by omega, ih]
theorem fs_of {w : World} {base : Nat} {a : Option Addr} {n cap : Nat} {L : List FM} (h : OwnS w base 36 30 a n cap (cellsF L)) (hok : ∀ p ∈ L, p.ok w) : n = L.length ∧ Fs w a cap L := by
  have h16 : ∀ p ∈ L, p.f.tok.length = 16 := fun p hp => (hok p hp).fr.tok16
  have hl := h.length
  rw [cellsF_length h16] at hl
  have hn : n = L.length := by omega
  refine ⟨hn, fun i hi => ?_, hok, fun ha => (h.none_of ha).2, by rw [← hn]; exact h.caps.1, h.caps.2⟩
  obtain ⟨g, ha, hb, hg, _, _⟩ := h.at_ (i := i * 30) (by rw [cellsF_length h16]; omega)
  refine ⟨g, 0, ha, hg, fun j v hv => ?_⟩
  have hj : j < 30 := by
    rcases Nat.lt_or_ge j 30 with h2 | h2
    · exact h2
    · rw [List.getElem?_eq_none (by rw [FM.length _ (h16 _ (List.getElem_mem hi))]; exact h2)] at hv; cases hv
  obtain ⟨g', ha', _, _, hc, _⟩ := h.at_ (i := i * 30 + j) (by rw [cellsF_length h16]; omega)
  rw [ha] at ha'
  cases ha'
  rw [Nat.zero_add, hc, cellsF_at i j _ h16 (List.getElem?_eq_getElem hi) hj]
  exact hv
section
variable {ops : Array Oper} {rest : List Oper} {o : Oper} {a : Act} {w : World} {Q : Exit → Act → World → Prop}
theorem stop_bsf {P : Program} {d : Option Tmp} {n : Nat} {x : Array (Nat × Operand)} {ty : TypeId} {pos : String} {aft : Array Edge} {g : Option (Nat × Bool)}
    (h : Stop (wpList P ops Q (⟨d, .buildSlice 22 n x, ty, pos, aft, g⟩ :: rest) a w)) : wpList P ops Q (⟨d, .buildSlice 22 n x, ty, pos, aft, g⟩ :: rest) a w := h
theorem fill_30 (zs cs : Array Value) (h : zs.size = 30) (h2 : cs.size = 30) : Instr.fill (fun i => some (i * 30, 30)) zs [(0, .agg cs)] = some cs := by
  have := Great.fill_whole (s := 30) (by omega) [.agg cs] zs (fun v hv => by rw [List.mem_singleton] at hv; subst hv; exact h2) (by rw [h]; rfl)
  rw [List.flatMap_cons, List.flatMap_nil, List.append_nil] at this
  exact this
theorem wpList_bsf (hg : o.guard = none) {x : Operand} (ho : o.op = .buildSlice 22 1 #[(0, x)]) {cs : Array Value} (hx : a.eval x = .agg cs) (h9 : cs.size = 30)
    (hz : ((Try.prog.info? 36).bind (·.zero)).isSome = true)
    (h : wpList Try.prog ops Q rest (a.put o.dst (.slice (some ⟨w.heap.size, 0, none⟩) 1 1)) (w.alloc (.cells cs 36))) : wpList Try.prog ops Q (o :: rest) a w := by
  have hs := fr_size
  cases hie : Try.prog.info? 36 with
  | none => rw [hie] at hs; cases hs
  | some ie =>
    rw [hie] at hs hz
    simp only [Option.map_some, Option.some.injEq, Option.bind_some] at hs hz
    cases hzz : ie.zero with
    | none => rw [hzz] at hz; cases hz
    | some z =>
      refine wpList_buildSlice hg 22 36 1 _ ho _ ie z (by kernel_rfl) hie hzz (by omega) (by omega) ?_ h
      rw [hs]
      have hl : ((#[((0 : Nat), x)] : Array (Nat × Operand)).map fun (i, x) => (i, a.eval x)).toList = [((0 : Nat), Value.agg cs)] := by simp [hx]
      rw [hl]
      exact fill_30 _ _ (by simp) h9
end
theorem src_frame (w : World) (p : FM) (h16 : p.f.tok.length = 16) : SrcAt (w.alloc (.cells p.vals 36)) (some ⟨w.heap.size, 0, none⟩) 1 1 30 p.list := by
  have := SrcAt.cells w p.vals 36 1 30 (by rw [p.size h16]) (fun u hu => p.one u (by simpa [FM.vals] using hu))
  simpa [FM.vals] using this
end Frm
end Go.Proofs.Ytcpjehgoeibbeaa
