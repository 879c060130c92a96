/- Walks: neat, Add. -/
import Derived.Test.YtidfimpchbkppaaSpW7
import Derived.Test.YtidfimpchbkppaaSpW4
namespace Go.Proofs.Ytidfimpchbkppaa
open Go.RowKit
set_option linter.unusedVariables false

theorem joinFold_step (S : List Rg) (k : Nat) (hk : k < S.length) : (S.take (k + 1)).foldl joinStep [] = joinStep ((S.take k).foldl joinStep []) (S.getD k default) := by
  rw [List.take_succ_eq_append_getElem hk, List.foldl_append]
  simp [List.getD_eq_getElem?_getD, hk]
theorem joinFold_length (S : List Rg) : ∀ k, ((S.take k).foldl joinStep []).length ≤ k
  | 0 => by simp
  | k + 1 => by
    rcases Nat.lt_or_ge k S.length with h | h
    · rw [joinFold_step S k h]
      have := joinStep_length ((S.take k).foldl joinStep []) (S.getD k default)
      have := joinFold_length S k
      omega
    · have := joinFold_length S k
      rw [List.take_of_length_le (by omega)] at this ⊢
      omega

/-- What neat, and all that is built on it, tell. -/
def Told11 (w w' : World) (e : Ending) (p : Int → Prop) (len : Nat) : Prop :=
  Below w.heap.size w w' ∧ ∃ a' c' M, e = .returned (.slice a' M.length c') ∧ OwnS w' w.heap.size 31 2 a' M.length c' (cellsR M) ∧ Bnd M ∧ IsNf p M ∧ M.length ≤ len

set_option maxRecDepth 100000 in
set_option maxHeartbeats 2000000 in
theorem neat11_any (a : Option Addr) (n cap : Nat) (L : List Rg) (w : World) (hn : n = L.length) (hR : Rs w a cap L) (hbig : L.length ≤ 800000) :
    Calls Try.prog 65 #[.slice a n cap] w fun e w' => Told11 w w' e (MemR L) L.length := by
  subst hn
  have hbd := hR.bnd
  have HR := Lib.hid hR
  have HB := Lib.hid hbd
  clear hR hbd
  go_enter Try.func65, Try.ntmps65
  go_wp2_with (fail)
  refine (neat_any a _ cap L w rfl HR.out).mono ?_
  rintro e w1 ⟨hb1, v, rfl, hv⟩
  have HV := Lib.hid hv
  have HB1 := Lib.hid hb1
  clear hv hb1
  cases v with
  | true =>
    go_wp2_with (fail)
    refine (clone_any a _ cap L w1 rfl (HR.out.below HB1.out) (by omega)).mono ?_
    rintro e w2 ⟨hb2, a2, c2, rfl, ho2⟩
    have HO := Lib.hid ho2
    clear ho2
    go_wp2_with (fail)
    go_returns
    exact ⟨below_on HB1.out hb2 HB1.out.size, a2, c2, L, rfl, HO.out.base_le HB1.out.size, HB.out, ⟨HV.out.1 (by trivial), fun n => Iff.rfl⟩, Nat.le_refl _⟩
  | false =>
    have hpos : 0 < L.length := by
      rcases Nat.eq_zero_or_pos L.length with h | h
      · have : L = [] := List.length_eq_zero_iff.1 h
        subst this
        exact absurd (HV.out.2 trivial) (by simp)
      · exact h
    clear HV
    go_wp2_with (fail)
    refine (clone_any a _ cap L w1 rfl (HR.out.below HB1.out) (by omega)).mono ?_
    rintro e w2 ⟨hb2, a2, c2, rfl, ho2⟩
    obtain ⟨g, rfl, _⟩ := ho2.at_ (i := 0) (by rw [cellsR_length]; omega)
    have b2 : Below w.heap.size w w2 := below_on HB1.out hb2 HB1.out.size
    have HO2 := Lib.hid (ho2.base_le HB1.out.size)
    have HB2 := Lib.hid b2
    clear ho2 hb2 b2
    go_wp2_with (fail)
    refine (delete_any w.heap.size g _ c2 L w2 rfl HO2.out HB.out HB2.out.size).mono ?_
    rintro e w3 ⟨hb3, rfl, ho3⟩
    have hfb : Bnd (L.filter fun r => decide (r.1 < r.2)) := fun r hr => HB.out r (List.mem_filter.1 hr).1
    have hfl : (L.filter fun r => decide (r.1 < r.2)).length ≤ L.length := List.length_filter_le _ _
    have hfm := memR_filter L
    have hfp : ∀ r ∈ L.filter (fun r => decide (r.1 < r.2)), 0 ≤ r.1 ∧ r.1 < r.2 := fun r hr => by
      have h1 := hfb r hr
      have h2 := (List.mem_filter.1 hr).2
      simp only [decide_eq_true_eq] at h2
      omega
    obtain ⟨F, hF⟩ : ∃ F, L.filter (fun r => decide (r.1 < r.2)) = F := ⟨_, rfl⟩
    rw [hF] at ho3 hfb hfl hfm hfp
    simp only [hF]
    clear hF
    have b3 : Below w.heap.size w w3 := HB2.out.trans hb3
    have HO3 := Lib.hid ho3
    have HB3 := Lib.hid b3
    have HFB := Lib.hid hfb
    have HFM := Lib.hid hfm
    have HFP := Lib.hid hfp
    clear ho3 hb3 b3 hfb hfm hfp HO2 HB2
    go_wp2_with (fail)
    refine (sort_any w.heap.size g _ c2 F w3 rfl HO3.out HFB.out HB3.out.size (by omega)).mono ?_
    rintro e w4 ⟨hb4, rfl, S, hS, hperm, hpair⟩
    have b4 : Below w.heap.size w w4 := HB3.out.trans hb4
    have hSl : S.length = F.length := hperm.length_eq
    have hnf : IsNf (MemR L) (S.foldl joinStep []) := (join_nf (fun r hr => HFP.out r (hperm.mem_iff.1 hr)) hpair).congr fun n => (memR_perm hperm n).trans (HFM.out n)
    have HS := Lib.hid hS
    have HNF := Lib.hid hnf
    have HB4 := Lib.hid b4
    have HSB := Lib.hid hS.bnd
    clear hS hnf b4 hb4 hperm hpair HO3 HB3 HFB HFM HFP
    rw [← hSl]
    rw [← hSl] at hfl
    clear hSl
    go_wp2_with (fail)
    go_loopw [4, 6, 7, 19] (fun o _ _ i wr => ∃ (k : Nat) (a' : Option Addr) (n' c' : Nat), i = .int .i64 k ∧ o = .slice a' n' c' ∧ k ≤ S.length ∧ Below w4.heap.size w4 wr ∧ Hid (n' = ((S.take k).foldl joinStep []).length ∧ OwnS wr w4.heap.size 31 2 a' n' c' (cellsR ((S.take k).foldl joinStep [])))) (fun _ _ _ i _ => S.length - (intOf i).toNat)
    case atStart => exact ⟨0, none, 0, 0, rfl, rfl, by omega, Below.refl _ _, Lib.hid ⟨rfl, OwnS.nil _ _ _ _⟩⟩
    case round =>
      obtain ⟨k, a', n', c', rfl, rfl, hk, bw, hok⟩ := hrel
      by_cases hlt : k < S.length
      · obtain ⟨bb, off, ha, hb, c1, c2⟩ := (HS.out.below bw).at_ hlt
        cases ha
        simp only [Nat.zero_add] at c1 c2
        have hbd := HSB.out.getD hlt
        have hst := joinFold_step S k hlt
        have hjl := joinFold_length S k
        obtain ⟨r, hr⟩ : ∃ r, S.getD k default = r := ⟨_, rfl⟩
        rw [hr] at c1 c2 hbd hst
        obtain ⟨out, hout⟩ : ∃ out, (S.take k).foldl joinStep [] = out := ⟨_, rfl⟩
        rw [hout] at hst hok hjl
        have HST := Lib.hid hst
        clear hr hst hout
        rcases List.eq_nil_or_concat out with rfl | ⟨A0, q, rfl⟩
        · obtain ⟨rfl, how⟩ := hok.out
          have HOW := Lib.hid how
          clear how hok
          go_wp2_with (fail)
          refine rg_start 13 ?_
          refine rg_same fun p hx hne hC => ?_
          refine rg_quiet 0 [0,1,2,3,4,5,6,7,8,9,10,11,12] hC ?_
          simp only [pickD, List.map_cons, List.map_nil, List.getD_cons_zero, List.getD_cons_succ]; repeat (go_big_quiet_step (fail))
          refine wpQuiet_nil ?_
          refine rg_end ?_
          clear hx hne hC
          go_wp2_with (at_builtin; refine Stop.mk ?_)
          have hq0 := Blk.new (wr.alloc (.cells #[.int .u64 r.1, .int .u64 r.2] 31)) #[.int .u64 r.1, .int .u64 r.2] 31
          rw [show (wr.alloc (.cells #[.int .u64 r.1, .int .u64 r.2] 31)).heap.size = wr.heap.size + 1 by simp] at hq0
          refine Stop.out ?_
          refine wpList_app rg_et rfl rfl (base := w4.heap.size) rfl rfl (HOW.out.below (by repeat first | exact Below.refl _ _ | apply Below.drew | refine Below.alloc ?_ (by simp) _)) (SrcAt.blk2 (r := r) hq0) (by simp only [maxLen]; skip; omega) (by skip; omega) (by have := bw.size; simp; omega) ?_
          intro a5 c5 w5 ho5 on5 _
          have b5 : Below w4.heap.size w4 w5 := below_onto (w1 := _) (by repeat first | exact bw | apply Below.drew | refine Below.alloc ?_ (by have := bw.size; simp; omega) _) on5 (by have := bw.size; simp; omega) (by rintro z hz ⟨y, hy, rfl⟩; have := (OwnS.block HOW.out hy).1; omega)
          rw [← cellsR_append] at ho5
          have HO5 := Lib.hid ho5
          clear ho5 on5
          go_wp2_with (fail)
          exact ⟨⟨k + 1, a5, _, c5, by go_num, rfl, by omega, b5, Lib.hid ⟨by rw [HST.out, show joinStep [] r = [] ++ [r] from rfl]; simp, by rw [HST.out, show joinStep [] r = [] ++ [r] from rfl]; exact HO5.out⟩⟩, by simp [intOf]; omega⟩
        · rw [List.concat_eq_append] at *
          obtain ⟨_, how⟩ := hok.out
          obtain ⟨gg, rfl, hg1, hg2, rfl, cq1, cq2, fq⟩ := how.lastR
          have HOW := Lib.hid how
          simp only [List.length_append, List.length_singleton] at hjl
          have hset := cellsR_set A0 q
          obtain ⟨m, hm⟩ : ∃ m, A0.length = m := ⟨_, rfl⟩
          rw [hm] at cq1 cq2 fq hjl HOW ⊢
          simp only [hm] at hset
          have HM := Lib.hid hm
          have HSET := Lib.hid hset
          clear how hok hm hset
          have hne1 : ¬ gg = wr.heap.size := by omega
          by_cases hle : r.1 ≤ q.2
          · go_wp2_with (fail)
            refine rg_start 13 ?_
            refine rg_same fun p hx hne hC => ?_
            refine rg_quiet 0 [0,1,2,3,4,5,6,7,8,9,10,11,12] hC ?_
            simp only [pickD, List.map_cons, List.map_nil, List.getD_cons_zero, List.getD_cons_succ]; repeat (go_big_quiet_step (fail))
            refine wpQuiet_nil ?_
            refine rg_end ?_
            clear hx hne hC
            go_wp2_with (fail)
            refine rg_start 15 ?_
            refine rg_same fun p hx hne hC => ?_
            refine rg_quiet 1 [0,1,2,3,4,5,6,7,8,9,10,11,12,13] hC ?_
            simp only [pickD, List.map_cons, List.map_nil, List.getD_cons_zero, List.getD_cons_succ]; repeat (go_big_quiet_step (fail))
            refine wpQuiet_nil ?_
            refine rg_cut 14 ?_      -- store 28 t51 t49
            go_wp2
            refine rg_end0 ?_
            go_wp2_with (fail)
            refine ⟨⟨k + 1, _, _, c', by go_num, rfl, by omega, ?_, Lib.hid ⟨?_, ?_⟩⟩, by simp [intOf]; omega⟩
            · exact ((below_set bw (p := ⟨gg, m * 2 + 1, none⟩) hg1 _).alloc (below_set bw (p := ⟨gg, m * 2 + 1, none⟩) hg1 _).size _).drew.drew
            · rw [HST.out, joinStep_last, if_pos (by omega), ← HM.out]; simp
            · rw [HST.out, joinStep_last, if_pos (by omega), ← HSET.out]
              exact (HOW.out.setS gg rfl _ _).below (((Below.refl _ _).alloc (Nat.le_refl _) _).drew.drew)
          · go_wp2_with (fail)
            refine rg_start 13 ?_
            refine rg_same fun p hx hne hC => ?_
            refine rg_quiet 0 [0,1,2,3,4,5,6,7,8,9,10,11,12] hC ?_
            simp only [pickD, List.map_cons, List.map_nil, List.getD_cons_zero, List.getD_cons_succ]; repeat (go_big_quiet_step (fail))
            refine wpQuiet_nil ?_
            refine rg_end ?_
            clear hx hne hC
            go_wp2_with (at_builtin; refine Stop.mk ?_)
            have hq0 := Blk.new (wr.alloc (.cells #[.int .u64 r.1, .int .u64 r.2] 31)) #[.int .u64 r.1, .int .u64 r.2] 31
            rw [show (wr.alloc (.cells #[.int .u64 r.1, .int .u64 r.2] 31)).heap.size = wr.heap.size + 1 by simp] at hq0
            refine Stop.out ?_
            refine wpList_app rg_et rfl rfl (base := w4.heap.size) rfl rfl (HOW.out.below (by repeat first | exact Below.refl _ _ | apply Below.drew | refine Below.alloc ?_ (by simp) _)) (SrcAt.blk2 (r := r) hq0) (by simp only [maxLen]; skip; omega) (by skip; omega) (by have := bw.size; simp; omega) ?_
            intro a5 c5 w5 ho5 on5 _
            have b5 : Below w4.heap.size w4 w5 := below_onto (w1 := _) (by repeat first | exact bw | apply Below.drew | refine Below.alloc ?_ (by have := bw.size; simp; omega) _) on5 (by have := bw.size; simp; omega) (by rintro z hz ⟨y, hy, rfl⟩; have := (OwnS.block HOW.out hy).1; omega)
            rw [← cellsR_append] at ho5
            have HO5 := Lib.hid ho5
            clear ho5 on5
            go_wp2_with (fail)
            exact ⟨⟨k + 1, a5, _, c5, by go_num, rfl, by omega, b5, Lib.hid ⟨by rw [HST.out, joinStep_last, if_neg (by omega), ← HM.out]; simp, by rw [HST.out, joinStep_last, if_neg (by omega)]; exact HO5.out⟩⟩, by simp [intOf]; omega⟩
      · obtain rfl : k = S.length := by omega
        have hjl := joinFold_length S S.length
        rw [List.take_of_length_le (Nat.le_refl _)] at hok hjl
        obtain ⟨J, hJ⟩ : ∃ J, S.foldl joinStep [] = J := ⟨_, rfl⟩
        rw [hJ] at hok hjl HNF
        clear hJ
        have hJb : Bnd J := bnd_of_neat HNF.out.neat (by omega) (fun n hn => (HB.out.mem ((HNF.out.mem n).1 hn)).2)
        have HJB := Lib.hid hJb
        clear hJb
        go_wp2_with (fail)
        go_returns
        exact ⟨HB4.out.trans (bw.mono HB4.out.size), a', c', J, by rw [hok.out.1]; rfl, by rw [← hok.out.1]; exact hok.out.2.base_le HB4.out.size, HJB.out, HNF.out, by omega⟩
end Go.Proofs.Ytidfimpchbkppaa
