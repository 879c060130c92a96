/- FrameAppends. -/
import Derived.Test.YtcpjehgoeibbeaaFrE8
import Derived.Test.YtcpjehgoeibbeaaFrL1
namespace Go.Proofs.Ytcpjehgoeibbeaa
open Go.RowKit
set_option linter.unusedVariables false
namespace Frm
open Var
section
variable {P : Program} {ops : Array Oper} {rest : List Oper} {o : Oper} {a : Act} {w : World} {Q : Exit → Act → World → Prop}
theorem wpList_bsfg (hgd : Region.wanted o (yielded ops a.tmps) = true) {x : Operand} (ho : o.op = .buildSlice 22 1 #[(0, x)]) {cs : Array Value} (hx : a.eval x = .agg cs) (h9 : cs.size = 30)
    (hz : ((Try.prog.info? 36).bind (·.zero)).isSome = true)
    (h : wpList Try.prog ops Q rest (a.put o.dst (.slice (some ⟨w.heap.size, 0, none⟩) 1 1)) (w.alloc (.cells cs 36))) : wpList Try.prog ops Q (o :: rest) a w := by
  have hs := fr_size
  cases hie : Try.prog.info? 36 with
  | none => rw [hie] at hs; cases hs
  | some ie =>
    rw [hie] at hs hz
    simp only [Option.map_some, Option.some.injEq, Option.bind_some] at hs hz
    cases hzz : ie.zero with
    | none => rw [hzz] at hz; cases hz
    | some z =>
      refine BigFrame.wpList_want hgd fun K hK => ?_
      refine wp_buildSlice 22 36 1 _ ho _ ie z (by kernel_rfl) hie hzz (by omega) (by omega) ?_ (hK _ _ h)
      rw [hs]
      have hl : ((#[((0 : Nat), x)] : Array (Nat × Operand)).map fun (i, x) => (i, a.eval x)).toList = [((0 : Nat), Value.agg cs)] := by simp [hx]
      rw [hl]
      exact fill_30 _ _ (by simp) h9
end
theorem few_put {L : List FM} (h : ∀ p ∈ L, FrOk p.f) (hg : grS L ≤ 4000) : ∀ p ∈ L, mayF p.f = true → (putF p.f).length ≤ 480000 := by
  intro p hpm hm
  have hp : ∀ x ∈ L.map (fun p => gr1 p.f), 1 ≤ x := fun x hx => by
    obtain ⟨p, hp, rfl⟩ := List.mem_map.1 hx
    exact (gr1_pos p.f (h p hp).n.1).1
  have h1 := sum_mem _ (fun x hx => by have := hp x hx; omega) (gr1 p.f) (List.mem_map.2 ⟨p, hpm, rfl⟩)
  have h2 := putF_gr p.f (h p hpm) hm
  unfold grS at hg
  omega
set_option maxHeartbeats 1000000 in
set_option maxRecDepth 100000 in
theorem size_frame2 (p : FM) (w : World) (hp : p.ok w) (hs : p.sm) :
    Calls Try.prog 13 #[.agg p.vals] w fun e w' => e = .returned (.int .i64 (if mayF p.f then ((putF p.f).length : Int) else 0)) ∧ Below w.heap.size w w' := by
  obtain ⟨r, hr⟩ : ∃ r : Int, (if mayF p.f then ((putF p.f).length : Int) else 0) = r := ⟨_, rfl⟩
  have HR := Lib.hid hr
  rw [hr]
  clear hr
  have hboxn := Blk.new w p.vals 36
  have hw1 := (Below.refl w.heap.size w).alloc (Nat.le_refl _) (.cells p.vals 36)
  have HP := Lib.hid hp
  clear hp
  go_enter Try.func13, Try.ntmps13
  go_upto_region 1 with (fail)
  generalize w.alloc (.cells p.vals 36) = w1 at *
  have HB := Lib.hid hboxn
  have HW := Lib.hid hw1
  clear hboxn hw1
  go_wp2_with (with_reducible refine stop_ldf ?_)
  refine Stop.out ?_
  refine wpList_loadF rfl rfl p HP.out.fr.tok16 rfl HB.out ?_
  go_wp2_with (fail)
  refine (may_any p _ (HP.out.below HW.out) (by have := hs.d; omega) hs.c (by have := hs.a; omega)).mono ?_
  cases hm : mayF p.f with
  | false =>
    rintro e w2 ⟨rfl, b2⟩
    have h0 : r = 0 := by rw [← HR.out, hm]; rfl
    clear hm
    go_wp2_with (fail)
    go_returns
    exact ⟨by rw [h0]; rfl, below_on HW.out b2 HW.out.size⟩
  | true =>
    rintro e w2 ⟨rfl, b2⟩
    have h1 := Lib.hid (show r = ((putF p.f).length : Int) by rw [← HR.out, hm]; rfl)
    have HM := Lib.hid hm
    have K2 := Lib.hid (below_on HW.out b2 HW.out.size)
    have HB2 := Lib.hid (FB.below HB.out b2)
    clear hm b2
    go_wp2_with (with_reducible refine stop_ldf ?_)
    refine Stop.out ?_
    refine wpList_loadF rfl rfl p HP.out.fr.tok16 rfl HB2.out ?_
    go_wp2_with (fail)
    refine (put_any p _ (HP.out.below K2.out) HM.out hs.d hs.a).mono ?_
    rintro e w3 ⟨a3, c3, m3, rfl, M3, O3, b3⟩
    have K3 := Lib.hid (below_on K2.out b3 K2.out.size)
    clear b3
    go_wp2_with (fail)
    go_returns
    exact ⟨by rw [h1.out, ← M3.out]; rfl, K3.out⟩
/-- The bytes of those that may be. -/
def wantF (L : List FM) : List Int := L.flatMap fun p => if mayF p.f then putF p.f else []
def allMay (L : List FM) : Bool := L.all fun p => mayF p.f
theorem wantF_take (L : List FM) (k : Nat) (h : k < L.length) : wantF (L.take (k + 1)) = wantF (L.take k) ++ (if mayF (L[k]).f then putF (L[k]).f else []) := by
  rw [List.take_succ_eq_append_getElem h]
  simp only [wantF, List.flatMap_append, List.flatMap_cons, List.flatMap_nil, List.append_nil]
theorem allMay_take (L : List FM) (k : Nat) (h : k < L.length) : allMay (L.take (k + 1)) = (allMay (L.take k) && mayF (L[k]).f) := by
  rw [List.take_succ_eq_append_getElem h]
  simp only [allMay, List.all_append, List.all_cons, List.all_nil, Bool.and_true]
theorem any_take (L : List FM) (k : Nat) (h : k < L.length) : ((L.take (k + 1)).any fun p => elicK p.f.kind) = (((L.take k).any fun p => elicK p.f.kind) || elicK (L[k]).f.kind) := by
  rw [List.take_succ_eq_append_getElem h]
  simp only [List.any_append, List.any_cons, List.any_nil, Bool.or_false]
theorem wantF_len {L : List FM} (h : ∀ p ∈ L, mayF p.f = true → (putF p.f).length ≤ 480000) : (wantF L).length ≤ 480000 * L.length := by
  induction L with
  | nil => simp [wantF]
  | cons p L ih =>
    have := ih (fun q hq => h q (by simp [hq]))
    have h1 := h p (by simp)
    simp only [wantF, List.flatMap_cons, List.length_append, List.length_cons] at this ⊢
    split
    · rename_i hm
      have := h1 hm
      omega
    · simp only [List.length_nil]
      omega
theorem wantF_all {L : List FM} (h : ∀ p ∈ L, mayF p.f = true) : wantF L = putAll L := by
  induction L with
  | nil => rfl
  | cons p L ih =>
    have := ih (fun q hq => h q (by simp [hq]))
    simp only [wantF, List.flatMap_cons, putAll_cons] at this ⊢
    rw [if_pos (h p (by simp)), this]
theorem allMay_iff {L : List FM} : allMay L = true ↔ ∀ p ∈ L, mayF p.f = true := by simp [allMay]
theorem elic_one (k : Int) : ((k != 0) && (k != 2) && (k != 3) && (k != 28) && (k != 29)) = elicK k := by
  unfold elicK
  rw [Bool.eq_iff_iff]
  simp [and_assoc]
theorem allow_one (s k : Int) (h0 : 0 ≤ k) (hs : 0 ≤ s) : allowF s k = (isFr k && ((s == 2) || (decide (s < 2) && (decide (k < 4) || (k == 6) || (k == 28))))) := by
  rw [Bool.eq_iff_iff]
  unfold allowF isFr
  split <;> simp <;> omega
set_option maxHeartbeats 8000000 in
set_option maxRecDepth 100000 in
theorem appends_law (b : Option Addr) (m bc : Nat) (B : List Int) (a : Option Addr) (n ac : Nat) (L : List FM) (sp kd0 : Int) (w : World) (hm : m = B.length) (hB : Sl .u8 w b bc B) (hbl : m ≤ 140737488355328) (hn : n = L.length) (hL : Fs w a ac L) (hl : n ≤ 140737488355328)
    (hs : ∀ p ∈ L, p.f.data.length ≤ 140737488355328 ∧ p.f.cid.length ≤ 140737488355328 ∧ p.f.acks.length ≤ 140737488355328) (hsp : 0 ≤ sp ∧ sp ≤ 255) (hkd : 0 ≤ kd0 ∧ kd0 ≤ 18446744073709551615) :
    Calls Try.prog 5 #[.slice b m bc, .slice a n ac, .int .u8 sp, .int .u64 kd0] w fun e w' => e = .returned (.bool true) ∧ Below w.heap.size w w' := by
  have HL := Lib.hid hL
  have HN := Lib.hid hn
  have HB := Lib.hid hB
  have HBN := Lib.hid hm
  have HS := Lib.hid hs
  have HBY := Lib.hid (sl_byte hB)
  have HGR := Lib.hid (show grS L ≤ 4000 → Few L from few_of fun p hp => (hL.ok p hp).fr)
  have HOK := Lib.hid (show ∀ p ∈ L, FrOk p.f from fun p hp => (hL.ok p hp).fr)
  clear hL hn hB hm hs
  go_enter Try.func5, Try.ntmps5
  go_wp2_with (fail)
  refine (known_any w).mono ?_
  rintro e w1 ⟨rfl, b1⟩
  have K1 := Lib.hid b1
  clear b1
  go_wp2_with (fail)
  refine (great_any a n ac L w1 HN.out (HL.out.below K1.out) HS.out hl).mono ?_
  rintro e w2 ⟨⟨v, rfl, hv⟩, b2⟩
  have K2 := Lib.hid (below_on K1.out b2 K1.out.size)
  clear b2
  cases v with
  | true =>
    clear hv
    go_wp2_with (fail)
    go_returns
    exact ⟨rfl, K2.out⟩
  | false =>
    have HGS := Lib.hid (hv rfl)
    have FEW := Lib.hid (HGR.out HGS.out)
    have HPUT := Lib.hid (few_put HOK.out HGS.out)
    clear hv
    by_cases hbig : m ≤ 1000
    case neg =>
      have gbig : decide (1000 < m) = true := by simp; omega
      go_wp2_with (fail)
      go_returns
      exact ⟨rfl, K2.out⟩
    have gbig : decide (1000 < m) = false := by simp; omega
    have hln : n ≤ 4000 := by have := FEW.out.len; have := HN.out; omega
    go_upto_region 5 with (fail)
    go_wp2_with (with_reducible refine stop_bstr ?_)
    refine Stop.out ?_
    refine wpList_str Try.underlying23 Try.underlying5 Try.underlying9 rfl rfl rfl HBN.out (HB.out.below K2.out).ints ?_
    go_wp2_with (fail)
    go_loopw [9, 10, 11, 13, 14, 15, 16, 17, 36] (fun want mayv el _ _ _ _ _ i wr => ∃ k : Nat, i = .int .i64 k ∧ k ≤ n ∧ want = .string (strOfNums (B ++ wantF (L.take k))) ∧ mayv = .bool (allMay (L.take k)) ∧ el = .bool ((L.take k).any fun p => elicK p.f.kind) ∧ Hid (Below w.heap.size w wr)) (fun _ _ _ _ _ _ _ _ i _ => n - (intOf i).toNat)
    case atStart => exact ⟨0, rfl, by omega, by simp [wantF], rfl, rfl, K2⟩
    case round =>
      obtain ⟨k, rfl, hk, rfl, rfl, rfl, hbw⟩ := hrel
      by_cases hlt : k < n
      · have hkl : k < L.length := by have := HN.out; omega
        obtain ⟨bb, off, ea, hlb, hc⟩ := (HL.out.below hbw.out).at_ k hkl
        subst ea
        have hpm : L[k] ∈ L := List.getElem_mem hkl
        have hw1 := wantF_take L k hkl
        have hw2 := allMay_take L k hkl
        have hw3 := any_take L k hkl
        obtain ⟨p, hp⟩ : ∃ p, L[k] = p := ⟨_, rfl⟩
        rw [hp] at hc hpm hw1 hw2 hw3
        have POK := Lib.hid ((HL.out.ok p hpm).below hbw.out)
        have H16 := Lib.hid POK.out.fr.tok16
        have HC := Lib.hid hc
        have HSP := Lib.hid (HS.out p hpm)
        have HFP := Lib.hid (FEW.out.sm p hpm)
        have HPP := Lib.hid (HPUT.out p hpm)
        have HSM := Lib.hid (FEW.out.smm p hpm)
        have hwl : (wantF (L.take k)).length ≤ 1920000000 := by
          have h1 := wantF_len (L := L.take k) (fun q hq => HPUT.out q (List.mem_of_mem_take hq))
          rw [List.length_take] at h1
          omega
        have HWL := Lib.hid hwl
        generalize wantF (L.take k) = WK at *
        generalize allMay (L.take k) = mk at *
        generalize ((L.take k).any fun p => elicK p.f.kind) = ek at *
        have HW1 := Lib.hid hw1
        have HW2 := Lib.hid hw2
        have HW3 := Lib.hid hw3
        clear hp hc hpm hkl hw1 hw2 hw3 hwl
        go_wp2_with (with_reducible refine stop_ldf ?_)
        refine Stop.out ?_
        refine wpList_loadPart p.list Try.underlying36 rfl (by rw [p.length H16.out]; exact fr_size) rfl rfl rfl HC.out ?_
        go_wp2_with (with_reducible refine stop_stf ?_)
        refine Stop.out ?_
        refine wpList_storeF rfl rfl p (fm0 0) H16.out rfl rfl rfl (fm0_at rfl) ?_
        intro w5 hb5 o5
        have b5 : Below wr.heap.size wr w5 := below_onto ((Below.refl _ _).alloc (Nat.le_refl _) _) o5 (by simp) (by intro z hz h; omega)
        have K5 := Lib.hid (below_on hbw.out b5 hbw.out.size)
        have FB5 := Lib.hid (show FB w5 wr.heap.size p from hb5)
        have PK5 := Lib.hid (POK.out.below b5)
        clear b5 hb5 o5
        go_wp2_with (with_reducible refine stop_ldf ?_)
        refine Stop.out ?_
        refine wpList_loadF rfl rfl p H16.out rfl FB5.out ?_
        obtain ⟨mv, hmv⟩ : ∃ b, mayF p.f = b := ⟨_, rfl⟩
        have HMV := Lib.hid hmv
        clear hmv
        go_wp2_with (fail)
        refine (rmay_any p w5 PK5.out HSP.out.1 HSP.out.2.1 HSP.out.2.2 mv HMV.out).mono ?_
        rintro e w6 ⟨rfl, b6⟩
        have K6 := Lib.hid (below_on K5.out b6 K5.out.size)
        have FB6 := Lib.hid (FB.below FB5.out b6)
        have PK6 := Lib.hid (PK5.out.below b6)
        clear b6
        cases mv with
        | false =>
          obtain ⟨kd, hkd⟩ : ∃ kd, p.f.kind = kd := ⟨_, rfl⟩
          have HKD := Lib.hid hkd
          have c0 := (FB.fc FB6.out H16.out).c0
          have flt := (FB.fc FB6.out H16.out).lt
          rw [hkd] at c0
          clear hkd
          obtain ⟨q0, hq0⟩ : ∃ q, (kd != 0) = q := ⟨_, rfl⟩
          obtain ⟨q1, hq1⟩ : ∃ q, (kd != 2) = q := ⟨_, rfl⟩
          obtain ⟨q2, hq2⟩ : ∃ q, (kd != 3) = q := ⟨_, rfl⟩
          obtain ⟨q3, hq3⟩ : ∃ q, (kd != 28) = q := ⟨_, rfl⟩
          obtain ⟨q4, hq4⟩ : ∃ q, (kd != 29) = q := ⟨_, rfl⟩
          go_upto_region 15 with (fail)
          refine wp_region_list ?_
          refine wpList_join (α := Value × Value × Value × Value × Value × Value × Value × Value × Value × Value × Value × Value × Value × Value × Value × Value × Value × Value × Value × Value × Value × Value) 23 (fun x : Value × Value × Value × Value × Value × Value × Value × Value × Value × Value × Value × Value × Value × Value × Value × Value × Value × Value × Value × Value × Value × Value => [(51, x.1), (52, x.2.1), (53, x.2.2.1), (54, x.2.2.2.1), (55, x.2.2.2.2.1), (56, x.2.2.2.2.2.1), (57, x.2.2.2.2.2.2.1), (58, x.2.2.2.2.2.2.2.1), (59, x.2.2.2.2.2.2.2.2.1), (60, x.2.2.2.2.2.2.2.2.2.1), (61, x.2.2.2.2.2.2.2.2.2.2.1), (62, x.2.2.2.2.2.2.2.2.2.2.2.1), (63, x.2.2.2.2.2.2.2.2.2.2.2.2.1), (64, x.2.2.2.2.2.2.2.2.2.2.2.2.2.1), (65, x.2.2.2.2.2.2.2.2.2.2.2.2.2.2.1), (66, x.2.2.2.2.2.2.2.2.2.2.2.2.2.2.2.1), (67, x.2.2.2.2.2.2.2.2.2.2.2.2.2.2.2.2.1), (68, x.2.2.2.2.2.2.2.2.2.2.2.2.2.2.2.2.2.1), (69, x.2.2.2.2.2.2.2.2.2.2.2.2.2.2.2.2.2.2.1), (70, x.2.2.2.2.2.2.2.2.2.2.2.2.2.2.2.2.2.2.2.1), (71, x.2.2.2.2.2.2.2.2.2.2.2.2.2.2.2.2.2.2.2.2.1), (72, x.2.2.2.2.2.2.2.2.2.2.2.2.2.2.2.2.2.2.2.2.2), (73, .bool (q0 && q1 && q2 && q3 && q4))]) ?_ ?_
          rotate_left
          · intro R hR
            simp only [meet_laws, Prod.forall] at hR ⊢
            have hQ := Lib.hid hR
            clear hR
            cases q0
            · go_wp2_with (fail)
              exact hQ.out _ _ _ _ _ _ _ _ _ _ _ _ _ _ _ _ _ _ _ _ _ _
            · cases q1
              · go_wp2_with (fail)
                exact hQ.out _ _ _ _ _ _ _ _ _ _ _ _ _ _ _ _ _ _ _ _ _ _
              · cases q2
                · go_wp2_with (fail)
                  exact hQ.out _ _ _ _ _ _ _ _ _ _ _ _ _ _ _ _ _ _ _ _ _ _
                · cases q3
                  · go_wp2_with (fail)
                    exact hQ.out _ _ _ _ _ _ _ _ _ _ _ _ _ _ _ _ _ _ _ _ _ _
                  · go_wp2_with (fail)
                    exact hQ.out _ _ _ _ _ _ _ _ _ _ _ _ _ _ _ _ _ _ _ _ _ _
          simp only [meet_laws, Prod.forall]
          intro x0_0 x0_1 x0_2 x0_3 x0_4 x0_5 x0_6 x0_7 x0_8 x0_9 x0_10 x0_11 x0_12 x0_13 x0_14 x0_15 x0_16 x0_17 x0_18 x0_19 x0_20 x0_21
          obtain ⟨one, hone⟩ : ∃ b, (q0 && q1 && q2 && q3 && q4) = b := ⟨_, rfl⟩
          have HONE : Hid (elicK p.f.kind = one) := Lib.hid (by rw [← hone, ← elic_one, HKD.out, hq0, hq1, hq2, hq3, hq4])
          rw [hone]
          clear hone hq0 hq1 hq2 hq3 hq4 c0
          go_wp2_with (with_reducible refine stop_ldf ?_)
          refine Stop.out ?_
          refine wpList_loadF rfl rfl p H16.out rfl FB6.out ?_
          have HMY : Hid (Calls Try.prog 12 #[.agg p.vals] w6 fun e w' => e = .returned (.bool false) ∧ Below w6.heap.size w6 w') := Lib.hid (by have := may_any p w6 PK6.out HSP.out.1 HSP.out.2.1 HSP.out.2.2; rwa [HMV.out] at this)
          go_wp2_with (fail)
          refine (HMY.out).mono ?_
          rintro e w7 ⟨rfl, b7⟩
          have K7 := Lib.hid (below_on K6.out b7 K6.out.size)
          have FB7 := Lib.hid (FB.below FB6.out b7)
          have PK7 := Lib.hid (PK6.out.below b7)
          clear b7
          go_wp2_with (with_reducible refine stop_ldf ?_)
          refine Stop.out ?_
          refine wpList_loadF rfl rfl p H16.out rfl FB7.out ?_
          have HSZ : Hid (Calls Try.prog 13 #[.agg p.vals] w7 fun e w' => e = .returned (.int .i64 0) ∧ Below w7.heap.size w7 w') := Lib.hid (by
            have h := size_frame2 p w7 PK7.out HSM.out
            rw [HMV.out] at h
            rwa [if_neg (by decide)] at h)
          go_wp2_with (fail)
          refine (HSZ.out).mono ?_
          rintro e w8 ⟨rfl, b8⟩
          have K8 := Lib.hid (below_on K7.out b8 K7.out.size)
          have FB8 := Lib.hid (FB.below FB7.out b8)
          have PK8 := Lib.hid (PK7.out.below b8)
          clear b8
          go_wp2_with (with_reducible refine stop_ldf ?_)
          refine Stop.out ?_
          refine wpList_loadF rfl rfl p H16.out rfl FB8.out ?_
          go_wp2_with (with_reducible refine stop_bsf ?_)
          refine Stop.out ?_
          refine wpList_bsfg rfl rfl rfl (p.size H16.out) (by kernel_rfl) ?_
          have f3 := fs_new w8 [p] p.vals (by rw [cellsF_one]; rfl) 1 rfl (by decide) (by intro q hq; rw [List.mem_singleton] at hq; rw [hq]; exact H16.out)
          have k3 := (Below.refl w8.heap.size w8).alloc (Nat.le_refl _) (.cells p.vals 36)
          obtain ⟨w3, hw3⟩ : ∃ w3, w8.alloc (.cells p.vals 36) = w3 := ⟨_, rfl⟩
          rw [hw3] at f3 k3 ⊢
          have K3 := Lib.hid (below_on K8.out k3 K8.out.size)
          have F3 := Lib.hid (fs_of f3 (fun q hq => by rw [List.mem_singleton] at hq; subst hq; exact PK8.out.below k3)).2
          clear f3 k3 hw3
          go_wp2_with (fail)
          refine (elic_any _ 1 1 [p] w3 rfl F3.out (by simp)).mono ?_
          rw [show ([p].any fun p => elicK p.f.kind) = one by simp [HONE.out]]
          rintro e w4 ⟨rfl, b4⟩
          have K4 := Lib.hid (below_on K3.out b4 K3.out.size)
          clear b4
          cases mk <;> cases ek
          · go_wp2_with (fail)
            refine ⟨⟨k + 1, by go_num, by omega, ?_, ?_, ?_, K4⟩, by simp [intOf]; omega⟩
            · rw [HW1.out, HMV.out]
              rw [if_neg (by decide), List.append_nil]
            · rw [HW2.out, HMV.out]; rfl
            · rw [HW3.out, HONE.out]; rfl
          · go_wp2_with (fail)
            refine ⟨⟨k + 1, by go_num, by omega, ?_, ?_, ?_, K4⟩, by simp [intOf]; omega⟩
            · rw [HW1.out, HMV.out]
              rw [if_neg (by decide), List.append_nil]
            · rw [HW2.out, HMV.out]; rfl
            · rw [HW3.out, HONE.out]; rfl
          · go_wp2_with (fail)
            refine ⟨⟨k + 1, by go_num, by omega, ?_, ?_, ?_, K4⟩, by simp [intOf]; omega⟩
            · rw [HW1.out, HMV.out]
              rw [if_neg (by decide), List.append_nil]
            · rw [HW2.out, HMV.out]; rfl
            · rw [HW3.out, HONE.out]; rfl
          · go_wp2_with (fail)
            refine ⟨⟨k + 1, by go_num, by omega, ?_, ?_, ?_, K4⟩, by simp [intOf]; omega⟩
            · rw [HW1.out, HMV.out]
              rw [if_neg (by decide), List.append_nil]
            · rw [HW2.out, HMV.out]; rfl
            · rw [HW3.out, HONE.out]; rfl
        | true =>
          go_upto_region 13 with (fail)
          go_wp2_with (with_reducible refine stop_ldf ?_)
          refine Stop.out ?_
          refine wpList_loadF rfl rfl p H16.out rfl FB6.out ?_
          go_wp2_with (fail)
          refine (rfbytes_any p w6 PK6.out HMV.out (by have := HFP.out.1; omega) (by have := HFP.out.2.2; omega)).mono ?_
          rintro e w7 ⟨a7, n7, cp7, rfl, hn7, ho7, b7⟩
          have HN7 := Lib.hid hn7
          have HO7 := Lib.hid ho7
          have K7 := Lib.hid (below_on K6.out b7 K6.out.size)
          have FB7 := Lib.hid (FB.below FB6.out b7)
          have PK7 := Lib.hid (PK6.out.below b7)
          have h7b : n7 ≤ 480000 := by have := HPP.out HMV.out; have := HN7.out; omega
          clear b7 hn7 ho7
          go_upto_region 14 with (fail)
          refine rg_start 8 ?_
          refine rg_same fun K hx hne hC => ?_
          refine rg_quiet 0 [0,1,2,3,4,5,6,7] hC ?_
          simp only [pickD, List.map_cons, List.map_nil, List.getD_cons_zero, List.getD_cons_succ]
          iterate 4 (go_big_quiet_step (fail))
          refine wpQuiet_str Try.underlying23 Try.underlying5 Try.underlying9 rfl rfl rfl HN7.out (fun w' hc => by obtain rfl : w' = w7.drew := hx ⟨w', hc.out⟩; exact (HO7.out.below ((Below.refl _ _).drew)).sl.ints) ?_
          refine wpQuiet_concat rfl rfl rfl rfl (by have := HN7.out; have := HWL.out; have := HBN.out; rw [List.length_append]; omega) ?_
          simp only [Act.put, List.setIfInBounds_toArray, List.set_cons_succ, List.set_cons_zero]
          iterate 2 (go_big_quiet_step (fail))
          refine wpQuiet_nil ?_
          refine rg_end ?_
          have b8 := (Below.refl w7.heap.size w7).drew
          clear hx hne hC
          generalize w7.drew = w8 at b8 ⊢
          have K8 := Lib.hid (below_on K7.out b8 K7.out.size)
          have FB8 := Lib.hid (FB.below FB7.out b8)
          have PK8 := Lib.hid (PK7.out.below b8)
          clear b8
          obtain ⟨kd, hkd⟩ : ∃ kd, p.f.kind = kd := ⟨_, rfl⟩
          have HKD := Lib.hid hkd
          have c0 := (FB.fc FB8.out H16.out).c0
          have flt := (FB.fc FB8.out H16.out).lt
          rw [hkd] at c0
          clear hkd
          obtain ⟨q0, hq0⟩ : ∃ q, (kd != 0) = q := ⟨_, rfl⟩
          obtain ⟨q1, hq1⟩ : ∃ q, (kd != 2) = q := ⟨_, rfl⟩
          obtain ⟨q2, hq2⟩ : ∃ q, (kd != 3) = q := ⟨_, rfl⟩
          obtain ⟨q3, hq3⟩ : ∃ q, (kd != 28) = q := ⟨_, rfl⟩
          obtain ⟨q4, hq4⟩ : ∃ q, (kd != 29) = q := ⟨_, rfl⟩
          go_upto_region 15 with (fail)
          refine wp_region_list ?_
          refine wpList_join (α := Value × Value × Value × Value × Value × Value × Value × Value × Value × Value × Value × Value × Value × Value × Value × Value × Value × Value × Value × Value × Value × Value) 23 (fun x : Value × Value × Value × Value × Value × Value × Value × Value × Value × Value × Value × Value × Value × Value × Value × Value × Value × Value × Value × Value × Value × Value => [(51, x.1), (52, x.2.1), (53, x.2.2.1), (54, x.2.2.2.1), (55, x.2.2.2.2.1), (56, x.2.2.2.2.2.1), (57, x.2.2.2.2.2.2.1), (58, x.2.2.2.2.2.2.2.1), (59, x.2.2.2.2.2.2.2.2.1), (60, x.2.2.2.2.2.2.2.2.2.1), (61, x.2.2.2.2.2.2.2.2.2.2.1), (62, x.2.2.2.2.2.2.2.2.2.2.2.1), (63, x.2.2.2.2.2.2.2.2.2.2.2.2.1), (64, x.2.2.2.2.2.2.2.2.2.2.2.2.2.1), (65, x.2.2.2.2.2.2.2.2.2.2.2.2.2.2.1), (66, x.2.2.2.2.2.2.2.2.2.2.2.2.2.2.2.1), (67, x.2.2.2.2.2.2.2.2.2.2.2.2.2.2.2.2.1), (68, x.2.2.2.2.2.2.2.2.2.2.2.2.2.2.2.2.2.1), (69, x.2.2.2.2.2.2.2.2.2.2.2.2.2.2.2.2.2.2.1), (70, x.2.2.2.2.2.2.2.2.2.2.2.2.2.2.2.2.2.2.2.1), (71, x.2.2.2.2.2.2.2.2.2.2.2.2.2.2.2.2.2.2.2.2.1), (72, x.2.2.2.2.2.2.2.2.2.2.2.2.2.2.2.2.2.2.2.2.2), (73, .bool (q0 && q1 && q2 && q3 && q4))]) ?_ ?_
          rotate_left
          · intro R hR
            simp only [meet_laws, Prod.forall] at hR ⊢
            have hQ := Lib.hid hR
            clear hR
            cases q0
            · go_wp2_with (fail)
              exact hQ.out _ _ _ _ _ _ _ _ _ _ _ _ _ _ _ _ _ _ _ _ _ _
            · cases q1
              · go_wp2_with (fail)
                exact hQ.out _ _ _ _ _ _ _ _ _ _ _ _ _ _ _ _ _ _ _ _ _ _
              · cases q2
                · go_wp2_with (fail)
                  exact hQ.out _ _ _ _ _ _ _ _ _ _ _ _ _ _ _ _ _ _ _ _ _ _
                · cases q3
                  · go_wp2_with (fail)
                    exact hQ.out _ _ _ _ _ _ _ _ _ _ _ _ _ _ _ _ _ _ _ _ _ _
                  · go_wp2_with (fail)
                    exact hQ.out _ _ _ _ _ _ _ _ _ _ _ _ _ _ _ _ _ _ _ _ _ _
          simp only [meet_laws, Prod.forall]
          intro x1_0 x1_1 x1_2 x1_3 x1_4 x1_5 x1_6 x1_7 x1_8 x1_9 x1_10 x1_11 x1_12 x1_13 x1_14 x1_15 x1_16 x1_17 x1_18 x1_19 x1_20 x1_21
          obtain ⟨one, hone⟩ : ∃ b, (q0 && q1 && q2 && q3 && q4) = b := ⟨_, rfl⟩
          have HONE : Hid (elicK p.f.kind = one) := Lib.hid (by rw [← hone, ← elic_one, HKD.out, hq0, hq1, hq2, hq3, hq4])
          rw [hone]
          clear hone hq0 hq1 hq2 hq3 hq4 c0
          go_wp2_with (with_reducible refine stop_ldf ?_)
          refine Stop.out ?_
          refine wpList_loadF rfl rfl p H16.out rfl FB8.out ?_
          have HMY : Hid (Calls Try.prog 12 #[.agg p.vals] w8 fun e w' => e = .returned (.bool true) ∧ Below w8.heap.size w8 w') := Lib.hid (by have := may_any p w8 PK8.out HSP.out.1 HSP.out.2.1 HSP.out.2.2; rwa [HMV.out] at this)
          go_wp2_with (fail)
          refine (HMY.out).mono ?_
          rintro e w9 ⟨rfl, b9⟩
          have K9 := Lib.hid (below_on K8.out b9 K8.out.size)
          have FB9 := Lib.hid (FB.below FB8.out b9)
          have PK9 := Lib.hid (PK8.out.below b9)
          clear b9
          go_wp2_with (with_reducible refine stop_ldf ?_)
          refine Stop.out ?_
          refine wpList_loadF rfl rfl p H16.out rfl FB9.out ?_
          have HSZ : Hid (Calls Try.prog 13 #[.agg p.vals] w9 fun e w' => e = .returned (.int .i64 n7) ∧ Below w9.heap.size w9 w') := Lib.hid (by
            have h := size_frame2 p w9 PK9.out HSM.out
            rw [HMV.out] at h
            rwa [if_pos rfl, ← HN7.out] at h)
          go_wp2_with (fail)
          refine (HSZ.out).mono ?_
          rintro e w10 ⟨rfl, b10⟩
          have K10 := Lib.hid (below_on K9.out b10 K9.out.size)
          have FB10 := Lib.hid (FB.below FB9.out b10)
          have PK10 := Lib.hid (PK9.out.below b10)
          clear b10
          go_wp2_with (with_reducible refine stop_ldf ?_)
          refine Stop.out ?_
          refine wpList_loadF rfl rfl p H16.out rfl FB10.out ?_
          go_wp2_with (with_reducible refine stop_bsf ?_)
          refine Stop.out ?_
          refine wpList_bsfg rfl rfl rfl (p.size H16.out) (by kernel_rfl) ?_
          have f3 := fs_new w10 [p] p.vals (by rw [cellsF_one]; rfl) 1 rfl (by decide) (by intro q hq; rw [List.mem_singleton] at hq; rw [hq]; exact H16.out)
          have k3 := (Below.refl w10.heap.size w10).alloc (Nat.le_refl _) (.cells p.vals 36)
          obtain ⟨w3, hw3⟩ : ∃ w3, w10.alloc (.cells p.vals 36) = w3 := ⟨_, rfl⟩
          rw [hw3] at f3 k3 ⊢
          have K3 := Lib.hid (below_on K10.out k3 K10.out.size)
          have F3 := Lib.hid (fs_of f3 (fun q hq => by rw [List.mem_singleton] at hq; subst hq; exact PK10.out.below k3)).2
          clear f3 k3 hw3
          go_wp2_with (fail)
          refine (elic_any _ 1 1 [p] w3 rfl F3.out (by simp)).mono ?_
          rw [show ([p].any fun p => elicK p.f.kind) = one by simp [HONE.out]]
          rintro e w4 ⟨rfl, b4⟩
          have K4 := Lib.hid (below_on K3.out b4 K3.out.size)
          clear b4
          cases mk <;> cases ek
          · go_wp2_with (fail)
            refine ⟨⟨k + 1, by go_num, by omega, ?_, ?_, ?_, K4⟩, by simp [intOf]; omega⟩
            · rw [HW1.out, HMV.out]
              rw [if_pos rfl]
            · rw [HW2.out, HMV.out]; rfl
            · rw [HW3.out, HONE.out]; rfl
          · go_wp2_with (fail)
            refine ⟨⟨k + 1, by go_num, by omega, ?_, ?_, ?_, K4⟩, by simp [intOf]; omega⟩
            · rw [HW1.out, HMV.out]
              rw [if_pos rfl]
            · rw [HW2.out, HMV.out]; rfl
            · rw [HW3.out, HONE.out]; rfl
          · go_wp2_with (fail)
            refine ⟨⟨k + 1, by go_num, by omega, ?_, ?_, ?_, K4⟩, by simp [intOf]; omega⟩
            · rw [HW1.out, HMV.out]
              rw [if_pos rfl]
            · rw [HW2.out, HMV.out]; rfl
            · rw [HW3.out, HONE.out]; rfl
          · go_wp2_with (fail)
            refine ⟨⟨k + 1, by go_num, by omega, ?_, ?_, ?_, K4⟩, by simp [intOf]; omega⟩
            · rw [HW1.out, HMV.out]
              rw [if_pos rfl]
            · rw [HW2.out, HMV.out]; rfl
            · rw [HW3.out, HONE.out]; rfl
      · obtain rfl : k = n := by omega
        rw [show L.take k = L by rw [HN.out, List.take_length]]
        clear hlt hk
        obtain ⟨mk, hmk⟩ : ∃ b, allMay L = b := ⟨_, rfl⟩
        obtain ⟨ek, hek⟩ : ∃ b, (L.any fun p => elicK p.f.kind) = b := ⟨_, rfl⟩
        rw [hmk, hek]
        have HMK := Lib.hid hmk
        have HEK := Lib.hid hek
        clear hmk hek
        obtain ⟨wt, hwt⟩ : ∃ s, strOfNums (B ++ wantF L) = s := ⟨_, rfl⟩
        rw [hwt]
        have HWT := Lib.hid hwt
        clear hwt
        have HAL := Lib.hid (allow_one sp kd0 hkd.1 hsp.1)
        obtain ⟨e0, he0⟩ : ∃ q, decide (kd0 < 4) = q := ⟨_, rfl⟩
        obtain ⟨e1, he1⟩ : ∃ q, (kd0 == 6) = q := ⟨_, rfl⟩
        obtain ⟨e2, he2⟩ : ∃ q, (kd0 == 28) = q := ⟨_, rfl⟩
        obtain ⟨s2, hs2⟩ : ∃ q, (sp == 2) = q := ⟨_, rfl⟩
        obtain ⟨s1, hs1⟩ : ∃ q, decide (sp < 2) = q := ⟨_, rfl⟩
        obtain ⟨isv, his⟩ : ∃ q, isFr kd0 = q := ⟨_, rfl⟩
        rw [he0, he1, he2, hs2, hs1, his] at HAL
        go_wp2_with (fail)
        refine (form_any kd0 _).mono ?_
        rintro e w30 ⟨rfl, rfl⟩
        rw [his]
        generalize formS kd0 = fs
        clear his
        go_upto_region 21 with (fail)
        refine wp_region_list ?_
        refine wpList_join (α := Value × Value × Value × Value × Value × Value × Value × Value × Value) 10 (fun x : Value × Value × Value × Value × Value × Value × Value × Value × Value => [(105, x.1), (106, x.2.1), (107, x.2.2.1), (108, x.2.2.2.1), (109, x.2.2.2.2.1), (110, x.2.2.2.2.2.1), (111, x.2.2.2.2.2.2.1), (112, x.2.2.2.2.2.2.2.1), (113, x.2.2.2.2.2.2.2.2), (114, .bool (e0 || e1 || e2))]) ?_ ?_
        rotate_left
        · intro R hR
          simp only [meet_laws, Prod.forall] at hR ⊢
          have hQ := Lib.hid hR
          clear hR
          cases e0
          · cases e1
            · go_wp2_with (fail)
              exact hQ.out _ _ _ _ _ _ _ _ _
            · go_wp2_with (fail)
              exact hQ.out _ _ _ _ _ _ _ _ _
          · go_wp2_with (fail)
            exact hQ.out _ _ _ _ _ _ _ _ _
        simp only [meet_laws, Prod.forall]
        intro x2_0 x2_1 x2_2 x2_3 x2_4 x2_5 x2_6 x2_7 x2_8
        obtain ⟨ea, hea⟩ : ∃ b, (e0 || e1 || e2) = b := ⟨_, rfl⟩
        rw [hea] at HAL ⊢
        clear hea he0 he1 he2
        go_wp2_with (fail)
        refine (allowed_any sp kd0 _ hsp hkd).mono ?_
        rintro e w31 ⟨rfl, rfl⟩
        dsimp only
        go_step
        refine wpList_join (α := Value × Value × Value × Value × Value × Value × Value × Value × Value × Value × Value) 12 (fun x : Value × Value × Value × Value × Value × Value × Value × Value × Value × Value × Value => [(118, x.1), (119, x.2.1), (120, x.2.2.1), (121, x.2.2.2.1), (122, x.2.2.2.2.1), (123, x.2.2.2.2.2.1), (124, x.2.2.2.2.2.2.1), (125, x.2.2.2.2.2.2.2.1), (126, x.2.2.2.2.2.2.2.2.1), (127, x.2.2.2.2.2.2.2.2.2.1), (128, x.2.2.2.2.2.2.2.2.2.2), (129, .bool (isv && (s2 || (s1 && ea))))]) ?_ ?_
        rotate_left
        · intro R hR
          simp only [meet_laws, Prod.forall] at hR ⊢
          have hQ := Lib.hid hR
          clear hR
          cases isv
          · go_wp2_with (fail)
            exact hQ.out _ _ _ _ _ _ _ _ _ _ _
          · cases s2
            · cases s1
              · go_wp2_with (fail)
                exact hQ.out _ _ _ _ _ _ _ _ _ _ _
              · go_wp2_with (fail)
                exact hQ.out _ _ _ _ _ _ _ _ _ _ _
            · go_wp2_with (fail)
              exact hQ.out _ _ _ _ _ _ _ _ _ _ _
        simp only [meet_laws, Prod.forall]
        intro x3_0 x3_1 x3_2 x3_3 x3_4 x3_5 x3_6 x3_7 x3_8 x3_9 x3_10
        rw [← HAL.out]
        generalize allowF sp kd0 = al
        clear HAL hs2 hs1
        go_wp2_with (fail)
        refine (elic_any a k ac L _ HN.out (HL.out.below hbw.out) (by have := HN.out; omega)).mono ?_
        rw [HEK.out]
        rintro e w32 ⟨rfl, b32⟩
        have K32 := Lib.hid (below_on hbw.out b32 hbw.out.size)
        clear b32
        go_wp2_with (fail)
        refine (fappend_any b m bc B a k ac L _ HBN.out HN.out (HB.out.below K32.out) (HL.out.below K32.out) FEW.out.smm (by have := HN.out; omega) (fun j hj => by have := FEW.out.put j hj; have := HBN.out; omega)).mono ?_
        rintro e w33 ⟨b33, yes33, no33⟩
        have K33 := Lib.hid (below_on K32.out b33 K32.out.size)
        clear b33
        cases mk with
        | false =>
          obtain rfl := no33 (fun h => by have := allMay_iff.2 h; rw [HMK.out] at this; cases this)
          clear yes33 no33
          go_wp2_with (fail)
          go_returns
          exact ⟨rfl, K33.out⟩
        | true =>
          obtain ⟨a33, c33, m33, rfl, hm33, ho33⟩ := yes33 (allMay_iff.1 HMK.out)
          clear yes33 no33
          have HWE : Hid (wt = strOfNums (B ++ putAll L)) := Lib.hid (by rw [← HWT.out, wantF_all (allMay_iff.1 HMK.out)])
          go_wp2_with (with_reducible refine stop_bstr ?_)
          refine Stop.out ?_
          refine wpList_str Try.underlying23 Try.underlying5 Try.underlying9 rfl rfl rfl hm33.out ho33.out.sl.ints ?_
          rw [← HWE.out]
          go_wp2_with (with_reducible refine stop_eql ?_)
          refine Stop.out ?_
          refine wpList_same rfl rfl rfl rfl ?_
          go_wp2_with (fail)
          go_returns
          exact ⟨rfl, K33.out⟩
set_option maxRecDepth 100000 in
theorem walk_FrameAppends (H : Type) (enc : TypeId × Value → H) (w : World) (base : Nat) (v0 : Value) (d0 : DataW H) (p0 : List MemPlace) (v1 : Value) (d1 : DataW H) (p1 : List MemPlace) (v2 : Value) (d2 : DataW H) (p2 : List MemPlace) (v3 : Value) (d3 : DataW H) (p3 : List MemPlace)
    (o0 : Value.okWide Try.prog w .any base 23 v0) (h0 : DataW.Trod enc Try.prog w 0 (fun _ => true) true 23 v0 d0 p0)
    (o1 : Value.okWide Try.prog w .any base 22 v1) (h1 : DataW.Trod enc Try.prog w 0 (fun _ => true) true 22 v1 d1 p1)
    (o2 : Value.okWide Try.prog w .any base 5 v2) (h2 : DataW.Trod enc Try.prog w 0 (fun _ => true) true 5 v2 d2 p2)
    (o3 : Value.okWide Try.prog w .any base 30 v3) (h3 : DataW.Trod enc Try.prog w 0 (fun _ => true) true 30 v3 d3 p3)
    (z0 : Sized Try.prog 23 d0) (z1 : Sized Try.prog 22 d1) (z2 : Sized Try.prog 5 d2) (z3 : Sized Try.prog 30 d3) :
    Calls Try.prog 5 #[v0, v1, v2, v3] w fun e w' => e = .returned (.bool true) ∧ Below w.heap.size w w' := by
  obtain ⟨b, B, bc, rfl, h5, h6⟩ := open_bys o0 h0 z0
  obtain ⟨a, L, ac, rfl, h7, h8, h9⟩ := open_frames o1 h1 z1
  obtain ⟨n2, rfl⟩ := WideShapes.okWide_int Try.underlying5 o2
  obtain ⟨f2, hf2⟩ := h2
  have hf2' : DataW.trod enc Try.prog w 0 (fun _ => true) true f2 5 [.int .u8 n2] = some (d2, p2) := by simpa [Value.cells] using hf2
  obtain ⟨n2', e2, _, hn2⟩ := DataW.trod_int Try.underlying5 hf2'
  obtain rfl : n2 = n2' := by simpa using e2
  obtain ⟨n3, rfl⟩ := WideShapes.okWide_int Try.underlying30 o3
  obtain ⟨f3, hf3⟩ := h3
  have hf3' : DataW.trod enc Try.prog w 0 (fun _ => true) true f3 30 [.int .u64 n3] = some (d3, p3) := by simpa [Value.cells] using hf3
  obtain ⟨n3', e3, _, hn3⟩ := DataW.trod_int Try.underlying30 hf3'
  obtain rfl : n3 = n3' := by simpa using e3
  have := bounds_u8 hn2
  have := bounds_u64 hn3
  exact appends_law b B.length bc B a L.length ac L n2 n3 w rfl h5 h6 rfl h7 h8 h9 (by omega) (by omega)
end Frm
end Go.Proofs.Ytcpjehgoeibbeaa
