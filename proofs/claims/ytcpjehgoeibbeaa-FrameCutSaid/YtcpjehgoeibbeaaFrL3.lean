/- FrameCut. -/
import Derived.Test.YtcpjehgoeibbeaaFrL2
namespace Go.Proofs.Ytcpjehgoeibbeaa
open Go.RowKit
set_option linter.unusedVariables false
namespace Frm
open Var
theorem sl_pre {kd : IntKind} {w : World} {a : Option Addr} {cap : Nat} {L : List Int} (h : Sl kd w a cap L) (c : Nat) : Sl kd w a cap (L.take c) := by
  have hl : (L.take c).length ≤ L.length := by rw [List.length_take]; omega
  refine ⟨fun i hi => ?_, h.nul, Nat.le_trans hl h.le, h.max⟩
  have e : (L.take c).getD i 0 = L.getD i 0 := by
    rw [List.getD_eq_getElem?_getD, List.getD_eq_getElem?_getD, List.getElem?_take_of_lt (by rw [List.length_take] at hi; omega)]
  rw [e]
  exact h.ints i (Nat.lt_of_lt_of_le hi hl)
set_option maxHeartbeats 4000000 in
set_option maxRecDepth 100000 in
theorem cut_law (p : FM) (cut : Int) (b : Option Addr) (m bc : Nat) (B : List Int) (w : World) (hp : p.ok w)
    (hs : p.f.data.length ≤ 140737488355328 ∧ p.f.cid.length ≤ 140737488355328 ∧ p.f.acks.length ≤ 140737488355328) (hm : m = B.length) (hB : Sl .u8 w b bc B) (hbl : m ≤ 140737488355328) (hc1 : -9223372036854775808 ≤ cut) (hc2 : cut ≤ 9223372036854775807) :
    Calls Try.prog 4 #[.agg p.vals, .int .i64 cut, .slice b m bc] w fun e w' => e = .returned (.bool true) ∧ Below w.heap.size w w' := by
  have hboxn := Blk.new w p.vals 36
  have hw1 := (Below.refl w.heap.size w).alloc (Nat.le_refl _) (.cells p.vals 36)
  have HP := Lib.hid hp
  have HB := Lib.hid hB
  have HBN := Lib.hid hm
  have HS := Lib.hid hs
  have HBY := Lib.hid (sl_byte hB)
  have H16 := Lib.hid hp.fr.tok16
  have HGR := Lib.hid (show grS [p] ≤ 4000 → Few [p] from few_of fun q hq => by rw [List.mem_singleton] at hq; subst hq; exact hp.fr)
  clear hp hB hm hs
  go_enter Try.func4, Try.ntmps4
  go_upto_region 1 with (fail)
  generalize w.alloc (.cells p.vals 36) = w1 at *
  have FB1 := Lib.hid hboxn
  have K1 := Lib.hid hw1
  clear hboxn hw1
  go_wp2_with (fail)
  refine (known_any w1).mono ?_
  rintro e w2 ⟨rfl, b2⟩
  have K2 := Lib.hid (below_on K1.out b2 K1.out.size)
  have FB2 := Lib.hid (FB.below FB1.out b2)
  clear b2
  go_wp2_with (with_reducible refine stop_ldf ?_)
  refine Stop.out ?_
  refine wpList_loadF rfl rfl p H16.out rfl FB2.out ?_
  go_wp2_with (with_reducible refine stop_bsf ?_)
  refine Stop.out ?_
  refine wpList_bsf rfl rfl rfl (p.size H16.out) (by kernel_rfl) ?_
  have f3 := fs_new w2 [p] p.vals (by rw [cellsF_one]; rfl) 1 rfl (by decide) (by intro q hq; rw [List.mem_singleton] at hq; rw [hq]; exact H16.out)
  have k3 := (Below.refl w2.heap.size w2).alloc (Nat.le_refl _) (.cells p.vals 36)
  obtain ⟨w3, hw3⟩ : ∃ w3, w2.alloc (.cells p.vals 36) = w3 := ⟨_, rfl⟩
  rw [hw3] at f3 k3 ⊢
  have K3 := Lib.hid (below_on K2.out k3 K2.out.size)
  have F3 := Lib.hid (fs_of f3 (fun q hq => by rw [List.mem_singleton] at hq; subst hq; exact HP.out.below K3.out)).2
  have FB3 := Lib.hid (FB.below FB2.out k3)
  clear f3 k3 hw3
  go_wp2_with (fail)
  refine (great_any _ 1 1 [p] w3 rfl F3.out (fun q hq => by rw [List.mem_singleton] at hq; subst hq; exact HS.out) (by omega)).mono ?_
  rintro e w4 ⟨⟨v, rfl, hv⟩, b4⟩
  have K4 := Lib.hid (below_on K3.out b4 K3.out.size)
  have FB4 := Lib.hid (FB.below FB3.out b4)
  clear b4
  cases v with
  | true =>
    clear hv
    go_wp2_with (fail)
    go_returns
    exact ⟨rfl, K4.out⟩
  | false =>
    have FEW := Lib.hid (HGR.out (hv rfl))
    clear hv
    have hsm := Lib.hid (FEW.out.smm p (by simp))
    obtain ⟨s1, s2, s3⟩ := FEW.out.sm p (by simp)
    go_wp2_with (with_reducible refine stop_ldf ?_)
    refine Stop.out ?_
    refine wpList_loadF rfl rfl p H16.out rfl FB4.out ?_
    go_wp2_with (fail)
    refine (may_any p _ (HP.out.below K4.out) (by omega) (by omega) (by omega)).mono ?_
    rintro e w5 ⟨rfl, b5⟩
    have K5 := Lib.hid (below_on K4.out b5 K4.out.size)
    have FB5 := Lib.hid (FB.below FB4.out b5)
    clear b5
    cases hmay : mayF p.f with
    | false =>
      clear hmay
      go_wp2_with (fail)
      go_returns
      exact ⟨rfl, K5.out⟩
    | true =>
      have HMAY := Lib.hid hmay
      have HPUT := Lib.hid (show (putF p.f).length ≤ 480000 by
        have := FEW.out.put 1 (fun q hq => by simp at hq; subst hq; exact hmay)
        simpa [putAll] using this)
      clear hmay
      have FC5 := FB.fc FB5.out H16.out
      have c0 := FC5.c0
      obtain ⟨kd, hkd⟩ : ∃ kd, p.f.kind = kd := ⟨_, rfl⟩
      rw [hkd] at c0
      have HKD := Lib.hid hkd
      clear hkd FC5
      by_cases hk0 : kd = 0
      · have gk : (kd == 0) = true := by simpa using hk0
        go_wp2_with (fail)
        go_returns
        exact ⟨rfl, K5.out⟩
      have gk : (kd == 0) = false := by simpa using hk0
      have HK0 := Lib.hid (show ¬ p.f.kind = 0 by rw [HKD.out]; exact hk0)
      clear hk0
      by_cases hbig : m ≤ 1000
      · have gbig : decide (1000 < (m : Int)) = false := by simp; omega
        go_wp2_with (with_reducible refine stop_ldf ?_)
        refine Stop.out ?_
        refine wpList_loadF rfl rfl p H16.out rfl FB5.out ?_
        go_wp2_with (with_reducible refine stop_bsf ?_)
        refine Stop.out ?_
        refine wpList_bsf rfl rfl rfl (p.size H16.out) (by kernel_rfl) ?_
        have f6 := fs_new w5 [p] p.vals (by rw [cellsF_one]; rfl) 1 rfl (by decide) (by intro q hq; rw [List.mem_singleton] at hq; rw [hq]; exact H16.out)
        have k6 := (Below.refl w5.heap.size w5).alloc (Nat.le_refl _) (.cells p.vals 36)
        obtain ⟨w6, hw6⟩ : ∃ z, w5.alloc (.cells p.vals 36) = z := ⟨_, rfl⟩
        rw [hw6] at f6 k6 ⊢
        have K6 := Lib.hid (below_on K5.out k6 K5.out.size)
        have F6 := Lib.hid (fs_of f6 (fun q hq => by rw [List.mem_singleton] at hq; subst hq; exact HP.out.below K6.out)).2
        have FB6 := Lib.hid (FB.below FB5.out k6)
        clear f6 k6 hw6 c0
        go_wp2_with (fail)
        refine (fappend_any none 0 0 [] _ 1 1 [p] w6 rfl rfl (Sl.nil _ _) F6.out FEW.out.smm (by simp) (fun k hk => by have := FEW.out.put k hk; simp; omega)).mono ?_
        rintro e w7 ⟨b7, yes7, _⟩
        obtain ⟨aq, cq, mq, rfl, hmq, hoq⟩ := yes7 (fun q hq => by rw [List.mem_singleton] at hq; subst hq; exact HMAY.out)
        rw [show ([] : List Int) ++ putAll [p] = putF p.f by simp [putAll]] at hmq hoq
        have K7 := Lib.hid (below_on K6.out b7 K6.out.size)
        have FB7 := Lib.hid (FB.below FB6.out b7)
        have hmqb : mq ≤ 480000 := by have := hmq.out; have := HPUT.out; omega
        clear yes7 b7
        go_wp2_with (with_reducible refine stop_ldf ?_)
        refine Stop.out ?_
        refine wpList_loadF rfl rfl p H16.out rfl FB7.out ?_
        go_wp2_with (fail)
        refine (size_frame p _ (HP.out.below K7.out) hsm.out (by have := HPUT.out; omega)).mono ?_
        rw [if_pos HMAY.out, ← hmq.out]
        rintro e w8 ⟨rfl, b8⟩
        have K8 := Lib.hid (below_on K7.out b8 K7.out.size)
        have FB8 := Lib.hid (FB.below FB7.out b8)
        have HO8 := Lib.hid (hoq.out.below b8)
        clear b8 hoq
        go_wp2_with (at_builtin; refine Stop.mk ?_)
        refine Stop.out ?_
        have o9 := OwnS.new w8 w8.heap.size (Nat.le_refl _) 5 1 0 #[] (by simp [maxLen]) rfl
        have k9 := (Below.refl w8.heap.size w8).alloc (Nat.le_refl _) (.cells #[] 5)
        obtain ⟨w9, hw9⟩ : ∃ z, w8.alloc (.cells #[] 5) = z := ⟨_, rfl⟩
        rw [hw9] at o9 k9 ⊢
        have hsrc := (HO8.out.below k9).sl.src
        rw [← hmq.out] at hsrc
        refine wpList_app bytes_et rfl rfl rfl rfl o9 hsrc (by unfold maxLen; omega) (by omega) k9.size ?_
        intro a10 c10 w10 ho10 on10 at10
        rw [Nat.zero_add, show (#[] : Array Value).toList = [] from rfl, List.nil_append] at ho10
        have k10 : Below w8.heap.size w8 w10 := below_onto k9 on10 k9.size (by rintro z hz ⟨y, hy, rfl⟩; cases hy; exact absurd hz (Nat.lt_irrefl _))
        have K10 := Lib.hid k10
        have HO10 := Lib.hid ho10
        have hz0 : 0 + mq = mq := Nat.zero_add mq
        rw [hz0]
        clear o9 k9 hw9 hsrc ho10 on10 at10 k10 hz0
        go_wp2_with (at_builtin; refine Stop.mk ?_)
        refine Stop.out ?_
        have hsrc := (HB.out.below (below_on K8.out K10.out K8.out.size)).src
        rw [← HBN.out] at hsrc
        refine wpList_app bytes_et rfl rfl rfl rfl HO10.out hsrc (by unfold maxLen; omega) (by omega) K10.out.size ?_
        intro a11 c11 w11 ho11 on11 at11
        have k11 : Below w8.heap.size w8 w11 := below_onto K10.out on11 K10.out.size (by rintro z hz ⟨y, hy, rfl⟩; have := (HO10.out.block hy).1; omega)
        rw [← List.map_append] at ho11
        have K11 := Lib.hid k11
        have HO11 := Lib.hid (show OwB w11 w8.heap.size a11 c11 (putF p.f ++ B) from ⟨by rw [List.length_append, ← hmq.out, ← HBN.out]; exact ho11, fun x hx => by
          rcases List.mem_append.1 hx with h | h
          · exact HO8.out.2 x h
          · exact HBY.out x h⟩)
        clear hsrc ho11 on11 at11 k11
        go_wp2_with (fail)
        have hrd := readF_put p.f HP.out.fr HMAY.out HK0.out (by simp only [M62]; omega) (by omega) B
        have HRD := Lib.hid hrd
        clear hrd
        refine (take_frame a11 (mq + m) c11 (putF p.f ++ B) w11 (by rw [List.length_append, ← hmq.out, ← HBN.out]) HO11.out.sl (by rw [List.length_append, ← hmq.out, ← HBN.out]; omega)).mono ?_
        rintro e w12 ⟨b12, yes12, _⟩
        obtain ⟨q, hq, rfl, hqok, hqs⟩ := yes12 _ HRD.out
        rw [show (((putF p.f ++ B).length : Nat) : Int) - ((p.f, B).2.length : Nat) = mq by show (((putF p.f ++ B).length : Nat) : Int) - (B.length : Nat) = mq; rw [List.length_append, ← hmq.out]; omega]
        have K12 := Lib.hid (below_on K11.out b12 K11.out.size)
        have Q16 := Lib.hid hqok.out.fr.tok16
        have HQ := Lib.hid hq
        have FB12 := Lib.hid (FB.below FB8.out K12.out)
        clear yes12 b12 hq
        go_wp2_with (with_reducible refine stop_stf ?_)
        refine Stop.out ?_
        refine wpList_storeF rfl rfl q (fm0 0) Q16.out rfl rfl rfl (fm0_at rfl) ?_
        intro w13 hb13 o13
        have k13 : Below w12.heap.size w12 w13 := below_onto ((Below.refl _ _).alloc (Nat.le_refl _) _) o13 (by simp) (by intro z hz h; omega)
        have KW12 := below_on K8.out K12.out K8.out.size
        have KW13 := Lib.hid (below_on KW12 k13 KW12.size)
        have K813 := Lib.hid (below_on K12.out k13 K12.out.size)
        have FB13 := Lib.hid (FB.below FB12.out k13)
        have QB13 := Lib.hid hb13
        have QOK := Lib.hid (hqok.out.below k13)
        have HCID := Lib.hid (cid_may HMAY.out)
        have lz13 : w12.heap.size < w13.heap.size := Blk.lt hb13
        clear hb13 o13 k13 KW12
        go_wp2_with (with_reducible refine stop_ldf ?_)
        refine Stop.out ?_
        refine wpList_loadF rfl rfl p H16.out rfl FB13.out ?_
        go_wp2_with (with_reducible refine stop_ldf ?_)
        refine Stop.out ?_
        refine wpList_loadF rfl rfl q Q16.out rfl QB13.out ?_
        go_wp2_with (fail)
        refine (same_yes p q w13 (HP.out.below KW13.out) QOK.out HQ.out (by omega) HCID.out (by omega)).mono ?_
        rintro e w14 ⟨rfl, b14⟩
        have K14 := Lib.hid (below_on KW13.out b14 KW13.out.size)
        have K814 := Lib.hid (below_on K813.out b14 K813.out.size)
        clear b14
        by_cases hc0 : cut < 0
        · have gc : decide (cut < 0) = true := by simpa using hc0
          go_wp2_with (fail)
          go_returns
          exact ⟨rfl, K14.out⟩
        have gc : decide (cut < 0) = false := by simpa using hc0
        by_cases hcm : (mq : Int) ≤ cut
        · have gm : decide ((mq : Int) ≤ cut) = true := by simpa using hcm
          go_wp2_with (fail)
          go_returns
          exact ⟨rfl, K14.out⟩
        have gm : decide ((mq : Int) ≤ cut) = false := by simpa using hcm
        obtain ⟨c, rfl⟩ : ∃ c : Nat, cut = c := ⟨cut.toNat, by omega⟩
        have hcq : mq ≤ cq := by have := (HO8.out.sl).le; have := hmq.out; omega
        have hcmq : c < mq := by omega
        go_wp2_with (fail)
        have hst := HO8.out.sl.below K814.out
        have hst2 : Sl .u8 w14 aq cq ((putF p.f).take c) := sl_pre hst c
        have hct : c = ((putF p.f).take c).length := by rw [List.length_take, ← hmq.out]; omega
        refine (take_frame aq c cq ((putF p.f).take c) w14 hct hst2 (by rw [← hct]; omega)).mono ?_
        rintro e w15 ⟨b15, _, no15⟩
        obtain rfl := no15 (readF_cut p.f HP.out.fr HMAY.out HK0.out (by simp only [M62]; omega) (by omega) c (by have := hmq.out; omega))
        have K15 := Lib.hid (below_on K14.out b15 K14.out.size)
        clear hst hst2 hct b15 no15
        go_wp2_with (fail)
        go_returns
        exact ⟨rfl, K15.out⟩
      · have gbig : decide (1000 < (m : Int)) = true := by simp; omega
        go_wp2_with (fail)
        go_returns
        exact ⟨rfl, K5.out⟩
set_option maxRecDepth 100000 in
theorem walk_FrameCut (H : Type) (enc : TypeId × Value → H) (w : World) (base : Nat) (v0 : Value) (d0 : DataW H) (p0 : List MemPlace) (v1 : Value) (d1 : DataW H) (p1 : List MemPlace) (v2 : Value) (d2 : DataW H) (p2 : List MemPlace)
    (o0 : Value.okWide Try.prog w .any base 36 v0) (h0 : DataW.Trod enc Try.prog w 0 (fun _ => true) true 36 v0 d0 p0)
    (o1 : Value.okWide Try.prog w .any base 3 v1) (h1 : DataW.Trod enc Try.prog w 0 (fun _ => true) true 3 v1 d1 p1)
    (o2 : Value.okWide Try.prog w .any base 23 v2) (h2 : DataW.Trod enc Try.prog w 0 (fun _ => true) true 23 v2 d2 p2)
    (z0 : Sized Try.prog 36 d0) (z1 : Sized Try.prog 3 d1) (z2 : Sized Try.prog 23 d2) :
    Calls Try.prog 4 #[v0, v1, v2] w fun e w' => e = .returned (.bool true) ∧ Below w.heap.size w w' := by
  obtain ⟨m, rfl, h3, h4⟩ := open_frame o0 h0 z0
  obtain ⟨n, rfl⟩ := WideShapes.okWide_int Try.underlying3 o1
  obtain ⟨fuel, hf⟩ := h1
  have hf' : DataW.trod enc Try.prog w 0 (fun _ => true) true fuel 3 [.int .i64 n] = some (d1, p1) := by simpa [Value.cells] using hf
  obtain ⟨n', e, _, hn⟩ := DataW.trod_int Try.underlying3 hf'
  obtain rfl : n = n' := by simpa using e
  obtain ⟨b, B, bc, rfl, h5, h6⟩ := open_bys o2 h2 z2
  have := bounds_i64 hn
  exact cut_law m n b B.length bc B w h3 h4 rfl h5 h6 (by omega) (by omega)
end Frm
end Go.Proofs.Ytcpjehgoeibbeaa
