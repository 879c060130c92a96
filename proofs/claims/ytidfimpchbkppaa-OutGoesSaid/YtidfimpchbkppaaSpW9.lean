/- Walks: Add; merge, Cut, Both. -/
import Derived.Test.YtidfimpchbkppaaSpW8
namespace Go.Proofs.Ytidfimpchbkppaa
open Go.RowKit
set_option linter.unusedVariables false

theorem Told11.on {w w1 w' : World} {e : Ending} {p : Int → Prop} {len : Nat} (hb : Below w.heap.size w w1) (h : Told11 w1 w' e p len) : Told11 w w' e p len := by
  obtain ⟨h1, a', c', M, he, ho, r⟩ := h
  exact ⟨below_on hb h1 hb.size, a', c', M, he, ho.base_le hb.size, r⟩
theorem Told11.congr {w w' : World} {e : Ending} {p q : Int → Prop} {len len' : Nat} (h : Told11 w w' e p len) (hpq : ∀ n, p n ↔ q n) (hl : len ≤ len') : Told11 w w' e q len' := by
  obtain ⟨h1, a', c', M, he, ho, hb, hn, h2⟩ := h
  exact ⟨h1, a', c', M, he, ho, hb, hn.congr hpq, Nat.le_trans h2 hl⟩
theorem inB_congr {A B : List Rg} (h : ∀ n, MemR A n ↔ MemR B n) (n : Int) : inB A n = inB B n := by
  have := h n
  rw [← inB_iff, ← inB_iff] at this
  exact Bool.eq_iff_iff.2 this

set_option maxRecDepth 100000 in
set_option maxHeartbeats 2000000 in
theorem add_any (a b : Option Addr) (n m cap cap' : Nat) (A B : List Rg) (w : World) (hn : n = A.length) (hm : m = B.length) (hA : Rs w a cap A) (hB : Rs w b cap' B) (lA : A.length ≤ 400000) (lB : B.length ≤ 400000) :
    Calls Try.prog 17 #[.slice a n cap, .slice b m cap'] w fun e w' => Told11 w w' e (MemR (A ++ B)) (A.length + B.length) := by
  subst hn hm
  have HA := Lib.hid hA
  have HB := Lib.hid hB
  have BA := Lib.hid hA.bnd
  have BB := Lib.hid hB.bnd
  clear hA hB
  go_enter Try.func17, Try.ntmps17
  go_wp2_with (fail)
  have b1 : Below w.heap.size w (w.alloc (.cells #[.slice a A.length cap, .slice b B.length cap'] 22)) := (Below.refl _ _).alloc (Nat.le_refl _) _
  refine (concat_any w.heap.size a b _ _ cap cap' A B _ rfl rfl (Blk.new w #[.slice a A.length cap, .slice b B.length cap'] 22) (HA.out.below b1) (HB.out.below b1) lA lB).mono ?_
  rintro e w2 ⟨hb2, a2, c2, rfl, ho2⟩
  have b2 : Below w.heap.size w w2 := below_on b1 hb2 (by simp)
  have hr2 := (ho2.rs (BA.out.append BB.out)).2
  have HR2 := Lib.hid hr2
  have HB2 := Lib.hid b2
  clear ho2 hr2 b2 hb2 b1
  simp only [List.length_append]
  go_wp2_with (fail)
  refine (neat11_any a2 (A.length + B.length) c2 (A ++ B) w2 (by simp) HR2.out (by simp; omega)).mono ?_
  rintro e w3 ⟨hb3, a3, c3, M, rfl, ho3, hM, hnf, hl⟩
  have HO3 := Lib.hid ho3
  clear ho3
  go_wp2_with (fail)
  go_returns
  exact ⟨below_on HB2.out hb3 HB2.out.size, a3, c3, M, rfl, HO3.out.base_le HB2.out.size, hM, hnf, by simpa using hl⟩

theorem endsP_drop {L : List Rg} {k : Nat} (hk : k < L.length) (x : Int) : endsP (L.drop k) x = if x < (L.getD k default).1 then (false, (L.getD k default).1) else if x < (L.getD k default).2 then (true, (L.getD k default).2) else endsP (L.drop (k + 1)) x := by
  rw [List.drop_eq_getElem_cons hk]
  simp [endsP, hk]
set_option maxRecDepth 100000 in
set_option maxHeartbeats 1000000 in
theorem endsc_any (a : Option Addr) (n cap : Nat) (L : List Rg) (x : Int) (w : World) (hn : n = L.length) (hx : 0 ≤ x ∧ x ≤ 18446744073709551615) (hR : Rs w a cap L) :
    Calls Try.prog 94 #[.slice a n cap, .int .u64 x] w fun e w' => Below w.heap.size w w' ∧ e = .returned (.tuple #[.bool (endsP L x).1, .int .u64 (endsP L x).2]) := by
  subst hn
  have hlen := hR.len
  unfold maxLen at hlen
  have HR := Lib.hid hR
  have HB := Lib.hid hR.bnd
  clear hR
  obtain ⟨v, hv⟩ : ∃ v, endsP L x = v := ⟨_, rfl⟩
  have HV := Lib.hid hv
  rw [hv]
  clear hv
  go_enter Try.func94, Try.ntmps94
  go_wp2_with (fail)
  go_loopw [7, 10] (fun _ i wr => ∃ k : Nat, i = .int .i64 k ∧ k ≤ L.length ∧ Below w.heap.size w wr ∧ Hid (endsP (L.drop k) x = v)) (fun _ i _ => L.length - (intOf i).toNat)
  case atStart => exact ⟨0, rfl, by omega, Below.refl _ _, Lib.hid (by rw [← HV.out]; rfl)⟩
  case round =>
    obtain ⟨k, rfl, hk, bw, hok⟩ := hrel
    by_cases hlt : k < L.length
    · obtain ⟨bb, off, ha, hb, c1, c2⟩ := (HR.out.below bw).at_ hlt
      subst ha
      have hbd := HB.out.getD hlt
      have hst := endsP_drop hlt x
      rw [hok.out] at hst
      obtain ⟨f, hf⟩ : ∃ f, (L.getD k default).1 = f := ⟨_, rfl⟩
      obtain ⟨t, ht⟩ : ∃ t, (L.getD k default).2 = t := ⟨_, rfl⟩
      rw [hf] at c1 hbd hst
      rw [ht] at c2 hbd hst
      clear hf ht
      have b1 : Below w.heap.size w (wr.alloc (.cells #[.int .u64 f, .int .u64 t] 31)) := bw.alloc bw.size _
      by_cases h1 : x < f
      · rw [if_pos h1] at hst
        subst hst
        go_wp2_with (fail)
        refine rg_start 4 ?_
        refine rg_same fun p hx hne hC => ?_
        refine rg_quiet 0 [0,1,2,3] hC ?_
        simp only [pickD, List.map_cons, List.map_nil, List.getD_cons_zero, List.getD_cons_succ]; repeat (go_big_quiet_step (fail))
        refine wpQuiet_nil ?_
        refine rg_end ?_
        clear hx hne hC
        go_wp2_with (fail)
        go_returns
        exact ⟨b1.drew, rfl⟩
      · rw [if_neg h1] at hst
        by_cases h2 : x < t
        · rw [if_pos h2] at hst
          subst hst
          go_wp2_with (fail)
          refine rg_start 4 ?_
          refine rg_same fun p hx hne hC => ?_
          refine rg_quiet 0 [0,1,2,3] hC ?_
          simp only [pickD, List.map_cons, List.map_nil, List.getD_cons_zero, List.getD_cons_succ]; repeat (go_big_quiet_step (fail))
          refine wpQuiet_nil ?_
          refine rg_end ?_
          clear hx hne hC
          go_wp2_with (fail)
          go_returns
          exact ⟨b1.drew, rfl⟩
        · rw [if_neg h2] at hst
          have HST := Lib.hid hst
          clear hst
          go_wp2_with (fail)
          exact ⟨⟨k + 1, by go_num, by omega, b1, Lib.hid HST.out.symm⟩, by simp [intOf]; omega⟩
    · obtain rfl : k = L.length := by omega
      have hst := hok.out
      rw [List.drop_length] at hst
      subst hst
      go_wp2_with (fail)
      go_returns
      exact ⟨bw, rfl⟩

theorem cut1_any (x y : Bool) (w : World) : Calls Try.prog 69 #[.bool x, .bool y] w fun e w' => w' = w ∧ e = .returned (.bool (x && !y)) := by
  cases x with
  | false =>
    go_enter Try.func69, Try.ntmps69
    go_wp2_with (fail)
    go_returns
    exact ⟨rfl, rfl⟩
  | true =>
    go_enter Try.func69, Try.ntmps69
    go_wp2_with (fail)
    go_returns
    exact ⟨rfl, rfl⟩
theorem both1_any (x y : Bool) (w : World) : Calls Try.prog 70 #[.bool x, .bool y] w fun e w' => w' = w ∧ e = .returned (.bool (x && y)) := by
  cases x with
  | false =>
    go_enter Try.func70, Try.ntmps70
    go_wp2_with (fail)
    go_returns
    exact ⟨rfl, rfl⟩
  | true =>
    go_enter Try.func70, Try.ntmps70
    go_wp2_with (fail)
    go_returns
    exact ⟨rfl, rfl⟩

set_option maxRecDepth 100000 in
set_option maxHeartbeats 2000000 in
theorem mergecut_any (a b : Option Addr) (n m cap cap' : Nat) (A B : List Rg) (w : World) (hn : n = A.length) (hm : m = B.length) (hA : Rs w a cap A) (hB : Rs w b cap' B) (nA : NeatFrom (-1) A) (nB : NeatFrom (-1) B) (lA : A.length ≤ 100000) (lB : B.length ≤ 100000) :
    Calls Try.prog 68 #[.slice a n cap, .slice b m cap', .func (.func 69) #[] #[]] w fun e w' => Told11 w w' e (fun n => (inB A n && !inB B n) = true) (2 * (A.length + B.length)) := by
  subst hn hm
  have HA := Lib.hid hA
  have HB := Lib.hid hB
  have BA := Lib.hid hA.bnd
  have BB := Lib.hid hB.bnd
  have NA := Lib.hid nA
  have NB := Lib.hid nB
  have hk : ∀ y, (fun x y : Bool => x && !y) false y = false := fun y => rfl
  have HK := Lib.hid hk
  clear hA hB nA nB hk
  go_enter Try.func68, Try.ntmps68
  go_wp2_with (fail)
  go_loopw [7, 9, 10, 11, 12, 13, 14] (fun o i _ _ _ _ _ wr => ∃ (x : Int) (a' : Option Addr) (n' c' : Nat) (out : List Rg), i = .int .u64 x ∧ o = .slice a' n' c' ∧ (0 ≤ x ∧ x ≤ 18446744073709551615) ∧ Below w.heap.size w wr ∧ Hid (n' = out.length ∧ OwnS wr w.heap.size 31 2 a' n' c' (cellsR out) ∧ MgInv (fun x y : Bool => x && !y) A B x out)) (fun _ i _ _ _ _ _ _ => (18446744073709551615 - intOf i).toNat)
  case atStart => exact ⟨0, none, 0, 0, [], rfl, rfl, by omega, Below.refl _ _, Lib.hid ⟨rfl, OwnS.nil _ _ _ _, MgInv.start _ A B⟩⟩
  case round =>
    obtain ⟨x, a', n', c', out, rfl, rfl, hxb, bw, hok⟩ := hrel
    by_cases hlt : x < 18446744073709551615
    · obtain ⟨hx1, hst⟩ := hok.out.2.2.step HK.out NA.out NB.out BA.out BB.out hlt
      have hx2 := hst.hi
      have hlenout := hok.out.2.2.len
      have hcnt := List.countP_le_length (l := flat A ++ flat B) (p := fun v => decide (v ≤ x))
      simp only [List.length_append, flat_length] at hcnt
      have hol : out.length ≤ 400000 := by omega
      have hn' := hok.out.1
      have hm1 := endsc_any a _ cap A x wr rfl hxb (HA.out.below bw)
      have hm2 := fun W (hW : Below w.heap.size w W) => endsc_any b _ cap' B x W rfl hxb (HB.out.below hW)
      obtain ⟨i1, hi1⟩ : ∃ i1, (endsP A x).1 = i1 := ⟨_, rfl⟩
      obtain ⟨i2, hi2⟩ : ∃ i1, (endsP A x).2 = i1 := ⟨_, rfl⟩
      obtain ⟨j1, hj1⟩ : ∃ i1, (endsP B x).1 = i1 := ⟨_, rfl⟩
      obtain ⟨j2, hj2⟩ : ∃ i1, (endsP B x).2 = i1 := ⟨_, rfl⟩
      rw [hi1, hi2] at hm1
      simp only [hj1, hj2] at hm2
      rw [hi1, hi2, hj1, hj2] at hst
      rw [hi2, hj2] at hx1 hx2
      obtain ⟨to, hto⟩ : ∃ to, min i2 j2 = to := ⟨_, rfl⟩
      rw [hto] at hst hx1 hx2
      have HM1 := Lib.hid hm1
      have HM2 := Lib.hid hm2
      have HST := Lib.hid hst
      have HTO := Lib.hid hto
      have HO := Lib.hid hok.out.2.1
      rw [← hn'] at hol
      have HN' := Lib.hid hn'
      clear hm1 hm2 hst hi1 hi2 hj1 hj2 hok hto hlenout hcnt hn'
      go_wp2_with (fail)
      refine HM1.out.mono ?_
      rintro e w1 ⟨hb1, rfl⟩
      have b1 : Below w.heap.size w w1 := below_on bw hb1 bw.size
      have o1 := Lib.hid (HO.out.below hb1)
      clear HO hb1
      go_wp2_with (fail)
      refine (HM2.out w1 b1).mono ?_
      rintro e w2 ⟨hb2, rfl⟩
      have b2 : Below w.heap.size w w2 := below_on b1 hb2 b1.size
      have o2 := Lib.hid (o1.out.below hb2)
      clear o1 hb2 b1
      go_wp2_with (fail)
      simp only [HTO.out]
      refine (cut1_any i1 j1 w2).mono ?_
      rintro e w3 ⟨rfl, rfl⟩
      have hkst := HST.out
      obtain ⟨kv, hkv⟩ : ∃ kv, (i1 && !j1) = kv := ⟨_, rfl⟩
      simp only [hkv] at hkst ⊢
      clear HST hkv
      cases kv with
      | false =>
        simp only [Bool.false_eq_true, if_false] at hkst
        have HKS := Lib.hid hkst
        clear hkst
        go_wp2_with (fail)
        exact ⟨⟨to, a', n', c', out, rfl, rfl, by omega, b2, Lib.hid ⟨HN'.out, o2.out, HKS.out⟩⟩, by simp [intOf]; omega⟩
      | true =>
        simp only [if_true] at hkst
        have HKS := Lib.hid hkst
        clear hkst
        go_wp2_with (at_builtin; refine Stop.mk ?_)
        refine Stop.out ?_
        refine wpList_app rg_et rfl rfl (base := w.heap.size) rfl rfl (o2.out.below ((Below.refl _ _).alloc (Nat.le_refl _) _)) (SrcAt.blk2 (r := (x, to)) (Blk.new _ _ _)) (by simp only [maxLen]; omega) (by omega) (by have := b2.size; simp; omega) ?_
        intro a5 c5 w5 ho5 on5 _
        have b5 : Below w.heap.size w w5 := below_onto (b2.alloc b2.size _) on5 (by have := b2.size; simp; omega) (by rintro z hz ⟨y, hy, rfl⟩; have := (o2.out.block hy).1; omega)
        rw [← cellsR_append] at ho5
        have HO5 := Lib.hid ho5
        clear ho5 on5
        go_wp2_with (fail)
        exact ⟨⟨to, a5, _, c5, out ++ [(x, to)], rfl, rfl, by omega, b5, Lib.hid ⟨by rw [HN'.out]; simp, HO5.out, HKS.out⟩⟩, by simp [intOf]; omega⟩
    · obtain ⟨hn', ho, hinv⟩ := hok.out
      obtain ⟨hmem, hlen⟩ := hinv.done HK.out BA.out hlt
      have hob := hinv.bnd
      have HR := Lib.hid (ho.rs hob).2
      have HN' := Lib.hid hn'
      have HMEM := Lib.hid hmem
      clear hn' ho hinv hmem hok hob
      go_wp2_with (fail)
      refine (neat11_any a' _ c' out wr HN'.out HR.out (by omega)).mono ?_
      intro e w1 ht
      have ht2 := (ht.on bw).congr HMEM.out hlen
      obtain ⟨hb2, a2, c2, M, rfl, r⟩ := ht2
      have HRR := Lib.hid r
      clear r ht
      go_wp2_with (fail)
      go_returns
      exact ⟨hb2, a2, c2, M, rfl, HRR.out⟩

set_option maxRecDepth 100000 in
set_option maxHeartbeats 2000000 in
theorem cut_any (a b : Option Addr) (n m cap cap' : Nat) (A B : List Rg) (w : World) (hn : n = A.length) (hm : m = B.length) (hA : Rs w a cap A) (hB : Rs w b cap' B) (lA : A.length ≤ 100000) (lB : B.length ≤ 100000) :
    Calls Try.prog 19 #[.slice a n cap, .slice b m cap'] w fun e w' => Told11 w w' e (fun n => (inB A n && !inB B n) = true) (2 * (A.length + B.length)) := by
  subst hn hm
  have HA := Lib.hid hA
  have HB := Lib.hid hB
  clear hA hB
  go_enter Try.func19, Try.ntmps19
  go_wp2_with (fail)
  refine (neat11_any a _ cap A w rfl HA.out (by omega)).mono ?_
  rintro e w1 ⟨hb1, a1, c1, M1, rfl, ho1, hM1, hn1, hl1⟩
  have H1 := Lib.hid (ho1.rs hM1).2
  have HN1 := Lib.hid hn1
  have HB1 := Lib.hid hb1
  clear ho1 hM1 hn1 hb1
  go_wp2_with (fail)
  refine (neat11_any b _ cap' B w1 rfl (HB.out.below HB1.out) (by omega)).mono ?_
  rintro e w2 ⟨hb2, a2, c2, M2, rfl, ho2, hM2, hn2, hl2⟩
  have H2 := Lib.hid (ho2.rs hM2).2
  have HN2 := Lib.hid hn2
  have HB2 := Lib.hid (below_on HB1.out hb2 HB1.out.size)
  have H1' := Lib.hid (H1.out.below hb2)
  clear ho2 hM2 hn2 hb2 H1
  go_wp2_with (fail)
  refine (mergecut_any a1 a2 _ _ c1 c2 M1 M2 w2 rfl rfl H1'.out H2.out HN1.out.neat HN2.out.neat (by omega) (by omega)).mono ?_
  intro e w3 ht
  have ht2 := (ht.on HB2.out).congr (q := fun n => (inB A n && !inB B n) = true) (fun n => by rw [inB_congr HN1.out.mem n, inB_congr HN2.out.mem n]) (len' := 2 * (A.length + B.length)) (by omega)
  obtain ⟨hb3, a3, c3, M, rfl, r⟩ := ht2
  have HRR := Lib.hid r
  clear r ht
  go_wp2_with (fail)
  go_returns
  exact ⟨hb3, a3, c3, M, rfl, HRR.out⟩

set_option maxRecDepth 100000 in
set_option maxHeartbeats 2000000 in
theorem mergeboth_any (a b : Option Addr) (n m cap cap' : Nat) (A B : List Rg) (w : World) (hn : n = A.length) (hm : m = B.length) (hA : Rs w a cap A) (hB : Rs w b cap' B) (nA : NeatFrom (-1) A) (nB : NeatFrom (-1) B) (lA : A.length ≤ 100000) (lB : B.length ≤ 100000) :
    Calls Try.prog 68 #[.slice a n cap, .slice b m cap', .func (.func 70) #[] #[]] w fun e w' => Told11 w w' e (fun n => (inB A n && inB B n) = true) (2 * (A.length + B.length)) := by
  subst hn hm
  have HA := Lib.hid hA
  have HB := Lib.hid hB
  have BA := Lib.hid hA.bnd
  have BB := Lib.hid hB.bnd
  have NA := Lib.hid nA
  have NB := Lib.hid nB
  have hk : ∀ y, (fun x y : Bool => x && y) false y = false := fun y => rfl
  have HK := Lib.hid hk
  clear hA hB nA nB hk
  go_enter Try.func68, Try.ntmps68
  go_wp2_with (fail)
  go_loopw [7, 9, 10, 11, 12, 13, 14] (fun o i _ _ _ _ _ wr => ∃ (x : Int) (a' : Option Addr) (n' c' : Nat) (out : List Rg), i = .int .u64 x ∧ o = .slice a' n' c' ∧ (0 ≤ x ∧ x ≤ 18446744073709551615) ∧ Below w.heap.size w wr ∧ Hid (n' = out.length ∧ OwnS wr w.heap.size 31 2 a' n' c' (cellsR out) ∧ MgInv (fun x y : Bool => x && y) A B x out)) (fun _ i _ _ _ _ _ _ => (18446744073709551615 - intOf i).toNat)
  case atStart => exact ⟨0, none, 0, 0, [], rfl, rfl, by omega, Below.refl _ _, Lib.hid ⟨rfl, OwnS.nil _ _ _ _, MgInv.start _ A B⟩⟩
  case round =>
    obtain ⟨x, a', n', c', out, rfl, rfl, hxb, bw, hok⟩ := hrel
    by_cases hlt : x < 18446744073709551615
    · obtain ⟨hx1, hst⟩ := hok.out.2.2.step HK.out NA.out NB.out BA.out BB.out hlt
      have hx2 := hst.hi
      have hlenout := hok.out.2.2.len
      have hcnt := List.countP_le_length (l := flat A ++ flat B) (p := fun v => decide (v ≤ x))
      simp only [List.length_append, flat_length] at hcnt
      have hol : out.length ≤ 400000 := by omega
      have hn' := hok.out.1
      have hm1 := endsc_any a _ cap A x wr rfl hxb (HA.out.below bw)
      have hm2 := fun W (hW : Below w.heap.size w W) => endsc_any b _ cap' B x W rfl hxb (HB.out.below hW)
      obtain ⟨i1, hi1⟩ : ∃ i1, (endsP A x).1 = i1 := ⟨_, rfl⟩
      obtain ⟨i2, hi2⟩ : ∃ i1, (endsP A x).2 = i1 := ⟨_, rfl⟩
      obtain ⟨j1, hj1⟩ : ∃ i1, (endsP B x).1 = i1 := ⟨_, rfl⟩
      obtain ⟨j2, hj2⟩ : ∃ i1, (endsP B x).2 = i1 := ⟨_, rfl⟩
      rw [hi1, hi2] at hm1
      simp only [hj1, hj2] at hm2
      rw [hi1, hi2, hj1, hj2] at hst
      rw [hi2, hj2] at hx1 hx2
      obtain ⟨to, hto⟩ : ∃ to, min i2 j2 = to := ⟨_, rfl⟩
      rw [hto] at hst hx1 hx2
      have HM1 := Lib.hid hm1
      have HM2 := Lib.hid hm2
      have HST := Lib.hid hst
      have HTO := Lib.hid hto
      have HO := Lib.hid hok.out.2.1
      rw [← hn'] at hol
      have HN' := Lib.hid hn'
      clear hm1 hm2 hst hi1 hi2 hj1 hj2 hok hto hlenout hcnt hn'
      go_wp2_with (fail)
      refine HM1.out.mono ?_
      rintro e w1 ⟨hb1, rfl⟩
      have b1 : Below w.heap.size w w1 := below_on bw hb1 bw.size
      have o1 := Lib.hid (HO.out.below hb1)
      clear HO hb1
      go_wp2_with (fail)
      refine (HM2.out w1 b1).mono ?_
      rintro e w2 ⟨hb2, rfl⟩
      have b2 : Below w.heap.size w w2 := below_on b1 hb2 b1.size
      have o2 := Lib.hid (o1.out.below hb2)
      clear o1 hb2 b1
      go_wp2_with (fail)
      simp only [HTO.out]
      refine (both1_any i1 j1 w2).mono ?_
      rintro e w3 ⟨rfl, rfl⟩
      have hkst := HST.out
      obtain ⟨kv, hkv⟩ : ∃ kv, (i1 && j1) = kv := ⟨_, rfl⟩
      simp only [hkv] at hkst ⊢
      clear HST hkv
      cases kv with
      | false =>
        simp only [Bool.false_eq_true, if_false] at hkst
        have HKS := Lib.hid hkst
        clear hkst
        go_wp2_with (fail)
        exact ⟨⟨to, a', n', c', out, rfl, rfl, by omega, b2, Lib.hid ⟨HN'.out, o2.out, HKS.out⟩⟩, by simp [intOf]; omega⟩
      | true =>
        simp only [if_true] at hkst
        have HKS := Lib.hid hkst
        clear hkst
        go_wp2_with (at_builtin; refine Stop.mk ?_)
        refine Stop.out ?_
        refine wpList_app rg_et rfl rfl (base := w.heap.size) rfl rfl (o2.out.below ((Below.refl _ _).alloc (Nat.le_refl _) _)) (SrcAt.blk2 (r := (x, to)) (Blk.new _ _ _)) (by simp only [maxLen]; omega) (by omega) (by have := b2.size; simp; omega) ?_
        intro a5 c5 w5 ho5 on5 _
        have b5 : Below w.heap.size w w5 := below_onto (b2.alloc b2.size _) on5 (by have := b2.size; simp; omega) (by rintro z hz ⟨y, hy, rfl⟩; have := (o2.out.block hy).1; omega)
        rw [← cellsR_append] at ho5
        have HO5 := Lib.hid ho5
        clear ho5 on5
        go_wp2_with (fail)
        exact ⟨⟨to, a5, _, c5, out ++ [(x, to)], rfl, rfl, by omega, b5, Lib.hid ⟨by rw [HN'.out]; simp, HO5.out, HKS.out⟩⟩, by simp [intOf]; omega⟩
    · obtain ⟨hn', ho, hinv⟩ := hok.out
      obtain ⟨hmem, hlen⟩ := hinv.done HK.out BA.out hlt
      have hob := hinv.bnd
      have HR := Lib.hid (ho.rs hob).2
      have HN' := Lib.hid hn'
      have HMEM := Lib.hid hmem
      clear hn' ho hinv hmem hok hob
      go_wp2_with (fail)
      refine (neat11_any a' _ c' out wr HN'.out HR.out (by omega)).mono ?_
      intro e w1 ht
      have ht2 := (ht.on bw).congr HMEM.out hlen
      obtain ⟨hb2, a2, c2, M, rfl, r⟩ := ht2
      have HRR := Lib.hid r
      clear r ht
      go_wp2_with (fail)
      go_returns
      exact ⟨hb2, a2, c2, M, rfl, HRR.out⟩

set_option maxRecDepth 100000 in
set_option maxHeartbeats 2000000 in
theorem both_any (a b : Option Addr) (n m cap cap' : Nat) (A B : List Rg) (w : World) (hn : n = A.length) (hm : m = B.length) (hA : Rs w a cap A) (hB : Rs w b cap' B) (lA : A.length ≤ 100000) (lB : B.length ≤ 100000) :
    Calls Try.prog 20 #[.slice a n cap, .slice b m cap'] w fun e w' => Told11 w w' e (fun n => (inB A n && inB B n) = true) (2 * (A.length + B.length)) := by
  subst hn hm
  have HA := Lib.hid hA
  have HB := Lib.hid hB
  clear hA hB
  go_enter Try.func20, Try.ntmps20
  go_wp2_with (fail)
  refine (neat11_any a _ cap A w rfl HA.out (by omega)).mono ?_
  rintro e w1 ⟨hb1, a1, c1, M1, rfl, ho1, hM1, hn1, hl1⟩
  have H1 := Lib.hid (ho1.rs hM1).2
  have HN1 := Lib.hid hn1
  have HB1 := Lib.hid hb1
  clear ho1 hM1 hn1 hb1
  go_wp2_with (fail)
  refine (neat11_any b _ cap' B w1 rfl (HB.out.below HB1.out) (by omega)).mono ?_
  rintro e w2 ⟨hb2, a2, c2, M2, rfl, ho2, hM2, hn2, hl2⟩
  have H2 := Lib.hid (ho2.rs hM2).2
  have HN2 := Lib.hid hn2
  have HB2 := Lib.hid (below_on HB1.out hb2 HB1.out.size)
  have H1' := Lib.hid (H1.out.below hb2)
  clear ho2 hM2 hn2 hb2 H1
  go_wp2_with (fail)
  refine (mergeboth_any a1 a2 _ _ c1 c2 M1 M2 w2 rfl rfl H1'.out H2.out HN1.out.neat HN2.out.neat (by omega) (by omega)).mono ?_
  intro e w3 ht
  have ht2 := (ht.on HB2.out).congr (q := fun n => (inB A n && inB B n) = true) (fun n => by rw [inB_congr HN1.out.mem n, inB_congr HN2.out.mem n]) (len' := 2 * (A.length + B.length)) (by omega)
  obtain ⟨hb3, a3, c3, M, rfl, r⟩ := ht2
  have HRR := Lib.hid r
  clear r ht
  go_wp2_with (fail)
  go_returns
  exact ⟨hb3, a3, c3, M, rfl, HRR.out⟩
end Go.Proofs.Ytidfimpchbkppaa
