import Derived.Test.YtcpjehgoeibbeaaFrMa
import Derived.Test.YtcpjehgoeibbeaaFrMb
import Derived.Test.YtcpjehgoeibbeaaFrW5
import Derived.Great.BuildSlice
/- An ACK's bytes. -/
namespace Go.Proofs.Ytcpjehgoeibbeaa
open Go.RowKit
set_option linter.unusedVariables false
namespace Frm
open Var
def gapL : Int → List Rg → List Int
  | _, [] => []
  | above, (a, b) :: r => (above - b - 1) :: (b - a - 1) :: gapL a r
theorem encs_gapL : ∀ (r : List Rg) (x : Int), encs (gapL x r) = gapsB x r
  | [], x => rfl
  | (a, b) :: r, x => by
    have ih := encs_gapL r a
    unfold gapL gapsB
    rw [← ih]
    simp [encs]
theorem gapL_take : ∀ (r : List Rg) (x : Int) (j : Nat), j < r.length → gapL x (r.take (j + 1)) = gapL x (r.take j) ++ [(if j = 0 then x else (r.getD (j - 1) default).1) - (r.getD j default).2 - 1, (r.getD j default).2 - (r.getD j default).1 - 1]
  | [], x, j, h => by simp at h
  | (a, b) :: r, x, 0, h => by simp [gapL]
  | (a, b) :: r, x, j + 1, h => by
    have hj : j < r.length := by simpa using h
    rw [List.take_succ_cons, List.take_succ_cons]
    unfold gapL
    rw [gapL_take r a j hj]
    rcases Nat.eq_zero_or_pos j with rfl | h0
    · simp
    · obtain ⟨i, rfl⟩ : ∃ i, j = i + 1 := ⟨j - 1, by omega⟩
      simp
/-- The numbers of an ACK, behind its kind. -/
def ackN (f : Fr) (j : Nat) : List Int := [f.kind, (f.acks.getD (f.acks.length - 1) default).2 - 1, f.delay, (f.acks.length : Int) - 1, (f.acks.getD (f.acks.length - 1) default).2 - (f.acks.getD (f.acks.length - 1) default).1 - 1] ++ gapL (f.acks.getD (f.acks.length - 1) default).1 (f.acks.reverse.tail.take j)
theorem ackN_step (f : Fr) (m j : Nat) (h : f.acks.length = m + 2 + j) : ackN f (j + 1) = ackN f j ++ [(f.acks.getD (m + 1) default).1 - (f.acks.getD m default).2 - 1, (f.acks.getD m default).2 - (f.acks.getD m default).1 - 1] := by
  unfold ackN
  have hr : ∀ i, i < f.acks.length - 1 → f.acks.reverse.tail.getD i default = f.acks.getD (f.acks.length - 2 - i) default := by
    intro i hi
    rw [List.getD_eq_getElem?_getD, List.getElem?_tail, List.getElem?_reverse (by omega), List.getD_eq_getElem?_getD, show f.acks.length - 1 - (i + 1) = f.acks.length - 2 - i by omega]
  rw [gapL_take _ _ _ (by simp; omega), hr j (by omega), show f.acks.length - 2 - j = m by omega, List.append_assoc]
  congr 3
  split
  · rename_i h0
    subst h0
    rw [show f.acks.length - 1 = m + 1 by omega]
  · rw [hr _ (by omega), show f.acks.length - 2 - (j - 1) = m + 1 by omega]
theorem ackN_end (f : Fr) (h : 0 < f.acks.length) : encs (ackN f (f.acks.length - 1)) = enc f.kind ++ acksB f := by
  unfold ackN acksB
  rw [List.take_of_length_le (by simp)]
  have hr : f.acks.reverse.head? = some (f.acks.getD (f.acks.length - 1) default) := by
    rw [List.head?_reverse, List.getLast?_eq_getElem?, List.getD_eq_getElem?_getD, List.getElem?_eq_getElem (by omega)]
    rfl
  cases hl : f.acks.reverse with
  | nil => simp at hl; rw [hl] at h; simp at h
  | cons x r =>
    rw [hl] at hr
    cases hr
    have hn : f.acks.length = r.length + 1 := by rw [← List.length_reverse, hl]; rfl
    rw [hn]
    simp only [List.tail_cons, Nat.add_sub_cancel]
    rw [← encs_gapL]
    have e2 : ((r.length + 1 : Nat) : Int) - 1 = (r.length : Int) := by omega
    rw [e2]
    simp [encs]
theorem ackN_len : ∀ (r : List Rg) (x : Int), (gapL x r).length = 2 * r.length
  | [], x => rfl
  | (a, b) :: r, x => by unfold gapL; simp [ackN_len r a]; omega
theorem ackN_length (f : Fr) (j : Nat) (h : j ≤ f.acks.length - 1) : (ackN f j).length = 5 + 2 * j := by
  unfold ackN
  rw [List.length_append, ackN_len, List.length_take, List.length_tail, List.length_reverse, Nat.min_eq_left h]
  simp
theorem ackN_bnd (f : Fr) (hk : 0 ≤ f.kind ∧ f.kind ≤ 30) (hd : 0 ≤ f.delay ∧ f.delay ≤ 4611686018427387903) (hl : f.acks.length ≤ 140737488355328) (h0 : 0 < f.acks.length) (hb : Bnd f.acks) (ho : ∀ i, i < f.acks.length → okG f.acks i) :
    ∀ j, j ≤ f.acks.length - 1 → ∀ x ∈ ackN f j, 0 ≤ x ∧ x ≤ 4611686018427387903
  | 0, _ => by
    have h1 := ho (f.acks.length - 1) (by omega)
    have h2 := hb.getD (i := f.acks.length - 1) (by omega)
    obtain ⟨h3, h4, _⟩ := h1
    intro x hx
    simp only [ackN, List.take_zero, gapL, List.append_nil, List.mem_cons, List.not_mem_nil, or_false] at hx
    rcases hx with rfl | rfl | rfl | rfl | rfl <;> omega
  | j + 1, hj => by
    obtain ⟨m, hm⟩ : ∃ m, f.acks.length = m + 2 + j := ⟨f.acks.length - 2 - j, by omega⟩
    rw [ackN_step f m j hm]
    intro x hx
    rcases List.mem_append.1 hx with hx | hx
    · exact ackN_bnd f hk hd hl h0 hb ho j (by omega) x hx
    · obtain ⟨a1, a2, a3⟩ := ho (m + 1) (by omega)
      obtain ⟨b1, b2, b3⟩ := ho m (by omega)
      have c1 := hb.getD (i := m + 1) (by omega)
      have c2 := hb.getD (i := m) (by omega)
      have a4 := a3 (by omega)
      rw [Nat.add_sub_cancel] at a4
      simp only [List.mem_cons, List.not_mem_nil, or_false] at hx
      rcases hx with rfl | rfl <;> omega
def ackAll (f : Fr) : List Int := ackN f (f.acks.length - 1) ++ (if f.kind = 3 then [f.e0, f.e1, f.e2] else [])
theorem ackAll_len (f : Fr) : (ackAll f).length = 5 + 2 * (f.acks.length - 1) + (if f.kind = 3 then 3 else 0) := by
  unfold ackAll
  rw [List.length_append, ackN_length _ _ (Nat.le_refl _)]
  split <;> rfl
theorem ackAll_put (f : Fr) (hk : f.kind = 2 ∨ f.kind = 3) (h : 0 < f.acks.length) : encs (ackAll f) = putF f := by
  unfold ackAll
  rw [show ∀ A B, encs (A ++ B) = encs A ++ encs B from fun A B => List.flatMap_append, ackN_end f h]
  rcases hk with hk | hk
  · rw [if_neg (by omega), hk]
    unfold putF
    rw [if_neg (by omega), if_pos hk]
    simp [encs]
  · rw [if_pos hk, hk]
    unfold putF
    rw [if_neg (by omega), if_neg (by omega), if_pos hk]
    simp [encs]
theorem FB.ecnSrc {w : World} {b : Nat} {p : FM} (h : FB w b p) (h16 : p.f.tok.length = 16) : SrcAt w (some ⟨b, 27, none⟩) 3 3 1 [.int .u64 p.f.e0, .int .u64 p.f.e1, .int .u64 p.f.e2] := by
  refine ⟨rfl, (fun h => nomatch h), fun x hx j u hj => ?_, by simp [Value.oneCell']⟩
  cases hx
  rw [addr_add]
  exact h.ecnAt h16 j u hj
theorem FB.tokSrc {w : World} {b : Nat} {p : FM} (h : FB w b p) (h16 : p.f.tok.length = 16) : SrcAt w (some ⟨b, 9, none⟩) 16 16 1 (p.f.tok.map (Value.int .u8)) := by
  refine ⟨by simp [h16], (fun h => nomatch h), fun x hx j u hj => ?_, by simp [Value.oneCell']⟩
  cases hx
  rw [addr_add]
  exact h.tokAt h16 j u hj
theorem u64_et : ET Try.prog 70 30 1 8 := et_of (by kernel_rfl)
set_option maxHeartbeats 4000000 in
set_option maxRecDepth 100000 in
theorem ranges_any (p : FM) (w : World) (hp : p.ok w) (hk : p.f.kind = 2 ∨ p.f.kind = 3) (hm : mayF p.f = true) (hl : p.f.acks.length ≤ 100000000) :
    Calls Try.prog 40 #[.agg p.vals] w fun e w' => ∃ a' cap', e = .returned (.slice a' (putF p.f).length cap') ∧ OwB w' w.heap.size a' cap' (putF p.f) ∧ Below w.heap.size w w' := by
  have hmm := hm
  simp only [mayF, Bool.and_eq_true] at hmm
  obtain ⟨⟨_, hsm⟩, hkk⟩ := hmm
  have hao : acksOk p.f.acks = true := by rcases hk with hk | hk; (rw [kindOk_2 _ hk] at hkk; exact hkk); (rw [kindOk_3 _ hk] at hkk; exact hkk)
  obtain ⟨h0, hok⟩ := (acksOk_iff _).1 hao
  have hs := (smallOk_iff _).1 hsm
  have FX := hp.fr
  have hbd := hp.a.bnd
  have ukd := FX.kind
  have ud := FX.delay
  have u0 := FX.e0
  have u1 := FX.e1
  have u2 := FX.e2
  unfold U64 at ukd ud u0 u1 u2
  have hB := ackN_bnd p.f (by omega) (by omega) (by omega) h0 hbd hok
  have hput := ackAll_put p.f hk h0
  have hall : ∀ y ∈ ackAll p.f, 0 ≤ y ∧ y ≤ 4611686018427387903 := by
    intro y hy
    unfold ackAll at hy
    rcases List.mem_append.1 hy with h | h
    · exact hB _ (Nat.le_refl _) y h
    · split at h
      · simp only [List.mem_cons, List.not_mem_nil, or_false] at h
        rcases h with rfl | rfl | rfl <;> omega
      · cases h
  have HALL := Lib.hid hall
  clear hall
  have HA := Lib.hid hp.a
  have HB := Lib.hid hB
  have HPUT := Lib.hid hput
  have h16 := hp.fr.tok16
  -- the last one
  obtain ⟨n, hn⟩ : ∃ n, p.f.acks.length = n + 1 := ⟨p.f.acks.length - 1, by omega⟩
  have hlast := hok n (by omega)
  have hlb := hbd.getD (i := n) (by omega)
  obtain ⟨ab, aoff, haa, hab, ca, cb⟩ := hp.a.at_ (i := n) (by omega)
  have hboxn := Blk.new w p.vals 36
  have FCX := FB.fc (p := p) hboxn h16
  have q0 := FCX.c0
  have q25 := FCX.c25
  have q26 := FCX.c26
  have q27 := FCX.c27
  have q28 := FCX.c28
  have q29 := FCX.c29
  rw [hn, haa] at q25
  have HN := Lib.hid hn
  have HOK := Lib.hid hok
  have HBD := Lib.hid hbd
  have HBX := Lib.hid hboxn
  have HAA := Lib.hid haa
  have HLA := Lib.hid hlast
  have HS := Lib.hid hs
  obtain ⟨L, hL⟩ : ∃ L, putF p.f = L := ⟨_, rfl⟩
  have HL := Lib.hid hL
  rw [hL]
  generalize hx : (p.f.acks.getD n default).1 = x at *
  generalize hy : (p.f.acks.getD n default).2 = y at *
  have hxy : x < y ∧ y ≤ 4611686018427387904 := by have := HLA.out; simp only [okG] at this; rw [hx, hy] at this; exact ⟨this.1, this.2.1⟩
  have HX := Lib.hid hx
  have HY := Lib.hid hy
  clear hp hm hkk hao hok FX hB hput hboxn FCX haa hlast hs hbd hsm hx hy hL h0
  have ca1 := (Below.refl w.heap.size w).alloc (Nat.le_refl _) (.cells p.vals 36)
  have ca : (w.alloc (.cells p.vals 36)).cell? ⟨ab, aoff + n * 2, none⟩ = some (.int .u64 x) := (ca1.cell hab).trans ca
  have cb : (w.alloc (.cells p.vals 36)).cell? ⟨ab, aoff + n * 2 + 1, none⟩ = some (.int .u64 y) := (ca1.cell hab).trans cb
  have hz1 : w.heap.size < (w.alloc (.cells p.vals 36)).heap.size := by simp
  have HW1 := Lib.hid ca1
  clear ca1
  go_enter Try.func40, Try.ntmps40
  go_upto_region 1 with (fail)
  generalize w.alloc (.cells p.vals 36) = w1 at *
  go_wp2_with (fail)
  go_loopw [5, 6] (fun l i wr => ∃ (j : Nat) (la : Option Addr) (lc : Nat), i = .int .i64 ((n : Int) - 1 - j) ∧ l = .slice la (5 + 2 * j) lc ∧ j ≤ n ∧ Hid (OwnS wr w1.heap.size 30 1 la (5 + 2 * j) lc ((ackN p.f j).map (Value.int .u64))) ∧ Hid (FB wr w.heap.size p) ∧ Hid (Below w.heap.size w wr) ∧ w1.heap.size ≤ wr.heap.size) (fun _ i _ => (intOf i + 1).toNat)
  case atStart =>
    have ho := OwnS.new (w1.alloc (.cells #[.int .u64 x, .int .u64 y] 55)) w1.heap.size (by simp) 30 1 5 #[.int .u64 p.f.kind, .int .u64 (y - 1), .int .u64 p.f.delay, .int .u64 (n : Int), .int .u64 (y - x - 1)] (by simp [maxLen]) rfl
    rw [World.size_alloc] at ho
    have e0 : (ackN p.f 0).map (Value.int .u64) = [.int .u64 p.f.kind, .int .u64 (y - 1), .int .u64 p.f.delay, .int .u64 (n : Int), .int .u64 (y - x - 1)] := by
      simp only [ackN, List.take_zero, gapL, List.append_nil, HN.out, Nat.add_sub_cancel, HX.out, HY.out, List.map_cons, List.map_nil]
      rw [show ((n + 1 : Nat) : Int) - 1 = n by omega]
    refine ⟨0, _, _, by simp, rfl, by omega, Lib.hid (by rw [e0]; exact ho), Lib.hid (Blk.alloc (Blk.alloc HBX.out _) _), Lib.hid ((HW1.out.alloc (by omega) _).alloc (by simp; omega) _), by simp; omega⟩
  case round =>
    obtain ⟨j, la, lc, rfl, rfl, hj, ho, hf, hbw, hzw⟩ := hrel
    by_cases hlt : j < n
    · obtain ⟨m, hm⟩ : ∃ m, n = m + 1 + j := ⟨n - 1 - j, by omega⟩
      have him : (n : Int) - 1 - j = m := by omega
      rw [him]
      have FCX := FB.fc hf.out h16
      have q25 := FCX.c25
      rw [HN.out, HAA.out] at q25
      obtain ⟨b1, o1, e1, hb1, c1, c2⟩ := (HA.out.below hbw.out).at_ (i := m + 1) (by rw [HN.out]; omega)
      rw [HAA.out] at e1
      cases e1
      obtain ⟨b2, o2, e2, hb2, c3, c4⟩ := (HA.out.below hbw.out).at_ (i := m) (by rw [HN.out]; omega)
      rw [HAA.out] at e2
      cases e2
      have hg1 := HBD.out.getD (i := m + 1) (by rw [HN.out]; omega)
      have hg2 := HBD.out.getD (i := m) (by rw [HN.out]; omega)
      have ok1 := HOK.out (m + 1) (by rw [HN.out]; omega)
      have ok2 := HOK.out m (by rw [HN.out]; omega)
      obtain ⟨a1, a2, a3⟩ := ok1
      obtain ⟨d1, d2, d3⟩ := ok2
      have a4 := a3 (by omega)
      rw [Nat.add_sub_cancel] at a4
      clear a3 d3
      have hst := Lib.hid (ackN_step p.f m j (by rw [HN.out]; omega))
      rw [show ackN p.f (j + 1) = ackN p.f j ++ _ from hst.out] at hst
      generalize hx1 : (p.f.acks.getD (m + 1) default).1 = x1 at *
      generalize (p.f.acks.getD (m + 1) default).2 = y1 at *
      generalize hx2 : (p.f.acks.getD m default).1 = x2 at *
      generalize hy2 : (p.f.acks.getD m default).2 = y2 at *
      clear hst
      have HST := Lib.hid (ackN_step p.f m j (by rw [HN.out]; omega))
      have E1 := Lib.hid hx1
      have E2 := Lib.hid hx2
      have E3 := Lib.hid hy2
      clear hx1 hx2 hy2 FCX
      have HM := Lib.hid hm
      have hmn : m + 1 < n + 1 := by omega
      have hbn : n < 100000001 := by omega
      clear hm him
      have lf : w.heap.size < wr.heap.size := Blk.lt hf.out
      go_wp2_with (fail)
      refine rg_start 33 ?_
      refine rg_below fun K hx hne hC hbel => ?_
      have k25 := fun z : Wd K => (hx z _ 25 _ lf).trans q25
      have k1 := fun z : Wd K => (hx z _ _ _ hb1).trans c1
      have k2 := fun z : Wd K => (hx z _ _ _ hb1).trans c2
      have k3 := fun z : Wd K => (hx z _ _ _ hb1).trans c3
      have k4 := fun z : Wd K => (hx z _ _ _ hb1).trans c4
      clear hx
      refine rg_quiet 3 [0,1,2,3,4,5,6,7,8,9,10,11,12,13,14,15,16,17,18,19,20,21,22,23,24,25,26,27,28,29] hC ?_
      simp only [pickD, List.map_cons, List.map_nil, List.getD_cons_zero, List.getD_cons_succ]; repeat (go_big_quiet_step (fail))
      refine wpQuiet_nil ?_
      refine rg_act 30 ?_
      go_wp2_with (fail)
      have b1 : Below wr.drew.heap.size wr.drew (wr.alloc (.cells #[.int .u64 (x1 - y2 - 1), .int .u64 (y2 - x2 - 1)] 30)).drew := (Below.refl _ wr.drew).alloc (Nat.le_refl _) _
      have bw1 : Below wr.heap.size wr (wr.alloc (.cells #[.int .u64 (x1 - y2 - 1), .int .u64 (y2 - x2 - 1)] 30)).drew := ((Below.refl _ wr).alloc (Nat.le_refl _) _).drew
      refine ⟨hbel _ b1, ?_⟩
      refine rg_cut 31 ?_
      go_wp2_with (at_builtin; refine Stop.mk ?_)
      refine Stop.out ?_
      refine wpList_app u64_et rfl rfl rfl rfl (ho.out.below bw1) (SrcAt.cells wr.drew #[.int .u64 (x1 - y2 - 1), .int .u64 (y2 - x2 - 1)] 30 2 1 rfl (by simp [Value.oneCell'])) (by unfold maxLen; omega) (by omega) (by have := bw1.size; omega) ?_
      intro a3 c3 w3 ho3 on3 at3
      have kb : Below w.heap.size w w3 := below_onto (below_on hbw.out bw1 hbw.out.size) on3 (by have := bw1.size; omega) (by rintro z hz ⟨y, hy, rfl⟩; have := (ho.out.block hy).1; omega)
      have hf3 : FB w3 w.heap.size p := on3.blk (Blk.below hf.out bw1) (by rintro ⟨y, hy, hy2⟩; have := (ho.out.block hy).1; omega)
      have hz3 : w1.heap.size ≤ w3.heap.size := by have := on3.size; have := bw1.size; omega
      have e3 : (ackN p.f j).map (Value.int .u64) ++ [.int .u64 (x1 - y2 - 1), .int .u64 (y2 - x2 - 1)] = (ackN p.f (j + 1)).map (Value.int .u64) := by
        rw [HST.out, E1.out, E2.out, E3.out, List.map_append]; rfl
      have HO3 : Hid (OwnS w3 w1.heap.size 30 1 a3 (5 + 2 * (j + 1)) c3 ((ackN p.f (j + 1)).map (Value.int .u64))) := Lib.hid (by rw [← e3]; exact ho3)
      have HF3 := Lib.hid hf3
      have KB3 := Lib.hid kb
      clear ho3 on3 at3 b1 bw1 hC hbel hne e3 hf3 kb
      go_wp2_with (fail)
      refine rg_below fun K hx hne hC hbel => ?_
      refine rg_quiet 0 [32] hC ?_
      simp only [pickD, List.map_cons, List.map_nil, List.getD_cons_zero, List.getD_cons_succ]; repeat (go_big_quiet_step (fail))
      refine wpQuiet_nil ?_
      refine rg_end ?_
      go_wp2_with (fail)
      exact ⟨⟨j + 1, a3, c3, by have := HM.out; congr 1; omega, rfl, by omega, HO3, HF3, KB3, hz3⟩, by simp [intOf]⟩
    · obtain rfl : j = n := by omega
      have him : (j : Int) - 1 - j = -1 := by omega
      rw [him]
      have FCX := FB.fc hf.out h16
      have q0 := FCX.c0
      have q27 := FCX.c27
      have q28 := FCX.c28
      have q29 := FCX.c29
      clear FCX him
      by_cases hk3 : p.f.kind = 3
      · rw [hk3] at q0
        go_wp2_with (at_builtin; refine Stop.mk ?_)
        refine Stop.out ?_
        refine wpList_app u64_et rfl rfl rfl rfl ho.out (FB.ecnSrc hf.out h16) (by unfold maxLen; omega) (by omega) hzw ?_
        intro a3 c3 w3 ho3 on3 at3
        have kb : Below w.heap.size w w3 := below_onto hbw.out on3 hbw.out.size (by rintro z hz ⟨y, hy, rfl⟩; have := (ho.out.block hy).1; omega)
        have e3 : (ackN p.f j).map (Value.int .u64) ++ [.int .u64 p.f.e0, .int .u64 p.f.e1, .int .u64 p.f.e2] = (ackAll p.f).map (Value.int .u64) := by
          unfold ackAll
          rw [if_pos hk3, HN.out, Nat.add_sub_cancel, List.map_append]; rfl
        rw [e3] at ho3
        have HSL := Lib.hid (ho3.sl (L := ackAll p.f) (fun y hy => u64_wf (HALL.out y hy).1 (by have := (HALL.out y hy).2; omega))).2
        have KB3 := Lib.hid kb
        clear ho3 on3 at3 e3 kb
        have HK3 := Lib.hid hk3
        clear hk3
        go_wp2_with (fail)
        refine (append_any none 0 0 [] a3 _ c3 (ackAll p.f) _ rfl (by rw [ackAll_len]; simp only [HK3.out, if_true]; omega) (by simp [ackAll_len]; split <;> omega) (Sl.nil _ _) HSL.out).mono ?_
        rintro e w5 ⟨hb5, hyes, _⟩
        obtain ⟨a5, c5, rfl, ho5⟩ := hyes (fun y hy => (HALL.out y hy).2)
        rw [List.nil_append] at ho5 ⊢
        have HO5 : Hid (OwB w5 w.heap.size a5 c5 L) := Lib.hid ⟨by rw [← HL.out, ← HPUT.out]; exact ho5.base_le (by have := KB3.out.size; omega), by rw [← HL.out, ← HPUT.out]; exact encs_byte (fun y hy => (HALL.out y hy).1)⟩
        have KB5 := Lib.hid (below_on KB3.out hb5 KB3.out.size)
        obtain ⟨r, hr⟩ : ∃ r, (encs (ackAll p.f)).length = r := ⟨_, rfl⟩
        have HR : Hid (L.length = r) := Lib.hid (by rw [← hr, HPUT.out, HL.out])
        rw [hr]
        clear hr ho5 hyes hb5
        go_wp2_with (fail)
        go_returns
        exact ⟨a5, c5, by rw [HR.out]; rfl, HO5.out, KB5.out⟩
      · have e3 : (ackN p.f j).map (Value.int .u64) = (ackAll p.f).map (Value.int .u64) := by
          unfold ackAll
          rw [if_neg hk3, HN.out, Nat.add_sub_cancel, List.append_nil]
        have ho3 := ho.out
        rw [e3] at ho3
        have HSL := Lib.hid (ho3.sl (L := ackAll p.f) (fun y hy => u64_wf (HALL.out y hy).1 (by have := (HALL.out y hy).2; omega))).2
        clear ho3 e3
        go_wp2_with (fail)
        refine (append_any none 0 0 [] la _ lc (ackAll p.f) _ rfl (by rw [ackAll_len]; simp only [hk3, if_false]; omega) (by simp [ackAll_len]; split <;> omega) (Sl.nil _ _) HSL.out).mono ?_
        rintro e w5 ⟨hb5, hyes, _⟩
        obtain ⟨a5, c5, rfl, ho5⟩ := hyes (fun y hy => (HALL.out y hy).2)
        rw [List.nil_append] at ho5 ⊢
        have HO5 : Hid (OwB w5 w.heap.size a5 c5 L) := Lib.hid ⟨by rw [← HL.out, ← HPUT.out]; exact ho5.base_le (by have := hbw.out.size; omega), by rw [← HL.out, ← HPUT.out]; exact encs_byte (fun y hy => (HALL.out y hy).1)⟩
        have KB5 := Lib.hid (below_on hbw.out hb5 hbw.out.size)
        obtain ⟨r, hr⟩ : ∃ r, (encs (ackAll p.f)).length = r := ⟨_, rfl⟩
        have HR : Hid (L.length = r) := Lib.hid (by rw [← hr, HPUT.out, HL.out])
        rw [hr]
        clear hr ho5 hyes hb5
        go_wp2_with (fail)
        go_returns
        exact ⟨a5, c5, by rw [HR.out]; rfl, HO5.out, KB5.out⟩
end Frm
end Go.Proofs.Ytcpjehgoeibbeaa

/- The calls of put, as they stand in its text. -/
namespace Go.Proofs.Ytcpjehgoeibbeaa
open Go.RowKit
set_option linter.unusedVariables false
namespace Frm
open Var
theorem n_new (N : List Int) (k g : Nat) (W : World) (cs : Array Value) (hcs : cs = (N.map (Value.int .u64)).toArray) (hk : k = N.length) (hg : g = W.heap.size) (hN : ∀ x ∈ N, 0 ≤ x ∧ x ≤ 4611686018427387903) (hl : N.length ≤ 1000) :
    Calls Try.prog 35 #[.slice (some ⟨g, 0, none⟩) k k] (W.alloc (.cells cs 30)) fun e w' => ∃ a' cap' m, e = .returned (.slice a' m cap') ∧ Hid (m = (encs N).length) ∧ Hid (OwB w' W.heap.size a' cap' (encs N)) ∧ Below W.heap.size W w' := by
  subst hg hk
  refine (n_any _ _ _ N _ rfl (sl_new .u64 W 30 N cs hcs (fun x hx => u64_wf (hN x hx).1 (by have := (hN x hx).2; omega)) (by unfold maxLen; omega)) (fun x hx => (hN x hx).2) (fun x hx => (hN x hx).1) (by omega)).mono ?_
  rintro e w2 ⟨a2, c2, rfl, ho2, hb2⟩
  exact ⟨a2, c2, _, rfl, Lib.hid rfl, Lib.hid ⟨ho2.1.base_le (by simp), ho2.2⟩, below_on ((Below.refl _ _).alloc (Nat.le_refl _) _) hb2 (by simp)⟩
theorem n_newd (N : List Int) (k g : Nat) (W : World) (cs : Array Value) (hcs : cs = (N.map (Value.int .u64)).toArray) (hk : k = N.length) (hg : g = W.heap.size) (hN : ∀ x ∈ N, 0 ≤ x ∧ x ≤ 4611686018427387903) (hl : N.length ≤ 1000) :
    Calls Try.prog 35 #[.slice (some ⟨g, 0, none⟩) k k] (W.alloc (.cells cs 30)).drew fun e w' => ∃ a' cap' m, e = .returned (.slice a' m cap') ∧ Hid (m = (encs N).length) ∧ Hid (OwB w' W.heap.size a' cap' (encs N)) ∧ Below W.drew.heap.size W.drew w' :=
  n_new N k g W.drew cs hcs hk hg hN hl
theorem sized_new (bn bf : Nat) (p : FM) (w : World) (hn : NC w bn) (hf : FB w bf p) (hd : Sl .u8 w p.da p.dc p.f.data) (hsz : p.f.data.length ≤ 1000000000) :
    Calls Try.prog 37 #[.pointer (some ⟨bn, 0, none⟩), .pointer (some ⟨bf, 0, none⟩)] w fun e w' => ∃ a' cap' m, e = .returned (.slice a' m cap') ∧ Hid (m = (sizedB p.f.data).length) ∧ Hid (OwB w' w.heap.size a' cap' (sizedB p.f.data)) ∧ Below w.heap.size w w' := by
  refine (sized_any bn bf p w hn hf hd hsz).mono ?_
  rintro e w2 ⟨a2, c2, rfl, ho2, hb2⟩
  exact ⟨a2, c2, _, rfl, Lib.hid rfl, Lib.hid ho2, hb2⟩
theorem cats (ps : List Part) (L : List Int) (g n : Nat) (W : World) (cs : Array Value) (hL : catB ps = L) (hg : g = W.heap.size) (hcs : cs = (ps.map Part.val).toArray) (hn : n = ps.length) (h2 : 2 ≤ n) (h4 : n ≤ 10) (hps : ∀ q ∈ ps, Sl .u8 W q.a q.cap q.L) (hsz : L.length ≤ 70368744177664) :
    Calls Try.prog 38 #[.slice (some ⟨g, 0, none⟩) n n] (W.alloc (.cells cs 23)) fun e w' => ∃ g' cap' m, e = .returned (.slice (some ⟨g', 0, none⟩) m cap') ∧ Hid (m = L.length) ∧ Hid (Sl .u8 w' (some ⟨g', 0, none⟩) cap' L) ∧ Below W.heap.size W w' := by
  subst hg hL
  refine (cat_any _ n ps _ 23 hn h2 h4 (blk_at rfl hcs) (fun q hq => (hps q hq).below ((Below.refl _ _).alloc (Nat.le_refl _) _)) hsz).mono ?_
  rintro e w2 ⟨g', c2, rfl, h1, hs, hb2⟩
  exact ⟨g', c2, _, rfl, Lib.hid rfl, Lib.hid hs, below_on ((Below.refl _ _).alloc (Nat.le_refl _) _) hb2 (by simp)⟩
theorem catsd (ps : List Part) (L : List Int) (g n : Nat) (W : World) (cs : Array Value) (hL : catB ps = L) (hg : g = W.heap.size) (hcs : cs = (ps.map Part.val).toArray) (hn : n = ps.length) (h2 : 2 ≤ n) (h4 : n ≤ 10) (hps : ∀ q ∈ ps, Sl .u8 W q.a q.cap q.L) (hsz : L.length ≤ 70368744177664) :
    Calls Try.prog 38 #[.slice (some ⟨g, 0, none⟩) n n] (W.alloc (.cells cs 23)).drew fun e w' => ∃ g' cap' m, e = .returned (.slice (some ⟨g', 0, none⟩) m cap') ∧ Hid (m = L.length) ∧ Hid (Sl .u8 w' (some ⟨g', 0, none⟩) cap' L) ∧ Below W.drew.heap.size W.drew w' :=
  cats ps L g n W.drew cs hL hg hcs hn h2 h4 (fun q hq => (hps q hq).below (Below.refl _ _).drew) hsz
theorem sizedB_len (l : List Int) : (sizedB l).length ≤ 8 + l.length := by
  unfold sizedB
  have := size_le (l.length : Int)
  rw [List.length_append, enc_length _ (by omega)]
  omega
end Frm
end Go.Proofs.Ytcpjehgoeibbeaa

/- put: kinds of numbers alone (written by gen_frw9.py). -/
namespace Go.Proofs.Ytcpjehgoeibbeaa
open Go.RowKit
set_option linter.unusedVariables false
namespace Frm
open Var

section
variable {ops : Array Oper} {rest : List Oper} {o : Oper} {a : Act} {w : World} {Q : Exit → Act → World → Prop}
theorem stop_stn {P : Program} {d : Option Tmp} {x y : Operand} {ty : TypeId} {pos : String} {aft : Array Edge} {g : Option (Nat × Bool)}
    (h : Stop (wpList P ops Q (⟨d, .store 72 x y, ty, pos, aft, g⟩ :: rest) a w)) : wpList P ops Q (⟨d, .store 72 x y, ty, pos, aft, g⟩ :: rest) a w := h
theorem fn_size : (Try.prog.info? 72).map (·.size) = some 1 := by kernel_rfl
theorem wpList_storeFn (hgd : o.guard = none) {x y : Operand} (ho : o.op = .store 72 x y) {b : Nat} {old : Value} (hx : a.eval x = .pointer (some ⟨b, 0, none⟩)) (hy : a.eval y = .func (.func 35) #[] #[])
    (hb : Blk w b #[old] 72) (h : ∀ w', NC w' b → Only (· = b) w w' → wpList Try.prog ops Q rest (a.put o.dst undef) w') : wpList Try.prog ops Q (o :: rest) a w := by
  refine wpList_store_one hgd _ x y ho b hx (by rw [hy]; rfl) _ _ hb fn_size (h _ (by rw [hy]; exact setRow_heap w b _ _ _ _ hb) ⟨rfl, rfl, rfl, by simp [World.setRow], fun k hk hs => setRow_other _ _ _ _ hs⟩)
end
theorem enc_len8 (x : Int) (h : 0 ≤ x) : (enc x).length ≤ 8 := by rw [enc_length x h]; exact size_le x

set_option maxHeartbeats 4000000 in
set_option maxRecDepth 100000 in
theorem putw_4 (p : FM) (w : World) (hp : p.ok w) (hs : p.f.id ≤ 4611686018427387903 ∧ p.f.max ≤ 4611686018427387903 ∧ p.f.code ≤ 4611686018427387903 ∧ p.f.delay ≤ 4611686018427387903 ∧ p.f.e0 ≤ 4611686018427387903 ∧ p.f.e1 ≤ 4611686018427387903 ∧ p.f.e2 ≤ 4611686018427387903 ∧ p.f.off ≤ 4611686018427387903) (hdl : p.f.data.length ≤ 1000000)  (hk : p.f.kind = 4) :
    Calls Try.prog 21 #[.agg p.vals] w fun e w' => ∃ a' cap' m, e = .returned (.slice a' m cap') ∧ Hid (m = (putF p.f).length) ∧ Hid (Sl .u8 w' a' cap' (putF p.f)) ∧ Below w.heap.size w w' := by
  have hs' := hs
  have FX := hp.fr
  have uk := FX.kind
  have ui := FX.id
  have uo := FX.off
  have um := FX.max
  have uc := FX.code
  have un := FX.n
  unfold U64 at uk ui uo um uc un
  have h16 := FX.tok16
  have hboxn := Blk.new w p.vals 36
  have FCX := FB.fc (p := p) hboxn h16
  have hw1 := (Below.refl w.heap.size w).alloc (Nat.le_refl _) (.cells p.vals 36)
  have hz1 : w.heap.size < (w.alloc (.cells p.vals 36)).heap.size := by simp
  have HP := Lib.hid hp
  obtain ⟨L, hL⟩ : ∃ L, putF p.f = L := ⟨_, rfl⟩
  have HL := Lib.hid hL
  rw [hL]
  clear hp FX hL hs'
  go_enter Try.func21, Try.ntmps21
  go_upto_region 1 with (fail)
  generalize w.alloc (.cells p.vals 36) = w1 at *
  go_wp2_with (with_reducible refine stop_stn ?_)
  refine Stop.out ?_
  refine wpList_storeFn rfl rfl rfl rfl (blk_at rfl rfl) ?_
  intro w2 hn2 o2
  have z2 := o2.size
  simp only [World.size_alloc] at z2
  have lz2 : w.heap.size < w2.heap.size := by omega
  have hf2 : FB w2 w.heap.size p := o2.blk (Blk.alloc hboxn _) (by omega)
  have k2 : Below w.heap.size w w2 := below_onto (hw1.alloc (by omega) _) o2 (by simp; omega) (by intro z hz h; omega)
  have hd2 := HP.out.d.below k2
  have FC2 := FB.fc hf2 h16
  have cn := Blk.cell hn2 0 _ rfl
  have c0 := FC2.c0
  rw [hk] at c0
  have c1 := FC2.c1
  have c2 := FC2.c2
  have c3 := FC2.c3
  have c4 := FC2.c4
  have c5 := FC2.c5
  have c6 := FC2.c6
  have HN2 := Lib.hid hn2
  have HF2 := Lib.hid hf2
  have K2 := Lib.hid k2
  have HD2 := Lib.hid hd2
  have H16 := Lib.hid h16
  have HK := Lib.hid hk
  clear hn2 hf2 k2 hd2 FC2 o2 hw1 hboxn FCX h16 hk
  generalize w1.heap.size = bn at *
  obtain ⟨s1, s2, s3, s4, _, _, _, s8⟩ := hs
  have hput : putF p.f = encs [4, p.f.id, p.f.code, p.f.max] := by
    have hk := HK.out
    unfold putF; rw [hk]; simp [encs]
  go_wp2_with (fail)
  refine (n_new [4, p.f.id, p.f.code, p.f.max] _ _ w2 _ rfl rfl rfl (by intro x hx; simp at hx; omega) (by simp)).mono ?_
  rintro e w3 ⟨a3, e3, m3, rfl, M3, O3, b3⟩
  have K3 := Lib.hid (below_on K2.out b3 K2.out.size)
  go_wp2_with (fail)
  go_returns
  exact ⟨a3, e3, m3, rfl, Lib.hid (by rw [M3.out, ← HL.out, hput]), Lib.hid (by rw [← HL.out, hput]; exact O3.out.sl), K3.out⟩

set_option maxHeartbeats 4000000 in
set_option maxRecDepth 100000 in
theorem putw_5 (p : FM) (w : World) (hp : p.ok w) (hs : p.f.id ≤ 4611686018427387903 ∧ p.f.max ≤ 4611686018427387903 ∧ p.f.code ≤ 4611686018427387903 ∧ p.f.delay ≤ 4611686018427387903 ∧ p.f.e0 ≤ 4611686018427387903 ∧ p.f.e1 ≤ 4611686018427387903 ∧ p.f.e2 ≤ 4611686018427387903 ∧ p.f.off ≤ 4611686018427387903) (hdl : p.f.data.length ≤ 1000000)  (hk : p.f.kind = 5) :
    Calls Try.prog 21 #[.agg p.vals] w fun e w' => ∃ a' cap' m, e = .returned (.slice a' m cap') ∧ Hid (m = (putF p.f).length) ∧ Hid (Sl .u8 w' a' cap' (putF p.f)) ∧ Below w.heap.size w w' := by
  have hs' := hs
  have FX := hp.fr
  have uk := FX.kind
  have ui := FX.id
  have uo := FX.off
  have um := FX.max
  have uc := FX.code
  have un := FX.n
  unfold U64 at uk ui uo um uc un
  have h16 := FX.tok16
  have hboxn := Blk.new w p.vals 36
  have FCX := FB.fc (p := p) hboxn h16
  have hw1 := (Below.refl w.heap.size w).alloc (Nat.le_refl _) (.cells p.vals 36)
  have hz1 : w.heap.size < (w.alloc (.cells p.vals 36)).heap.size := by simp
  have HP := Lib.hid hp
  obtain ⟨L, hL⟩ : ∃ L, putF p.f = L := ⟨_, rfl⟩
  have HL := Lib.hid hL
  rw [hL]
  clear hp FX hL hs'
  go_enter Try.func21, Try.ntmps21
  go_upto_region 1 with (fail)
  generalize w.alloc (.cells p.vals 36) = w1 at *
  go_wp2_with (with_reducible refine stop_stn ?_)
  refine Stop.out ?_
  refine wpList_storeFn rfl rfl rfl rfl (blk_at rfl rfl) ?_
  intro w2 hn2 o2
  have z2 := o2.size
  simp only [World.size_alloc] at z2
  have lz2 : w.heap.size < w2.heap.size := by omega
  have hf2 : FB w2 w.heap.size p := o2.blk (Blk.alloc hboxn _) (by omega)
  have k2 : Below w.heap.size w w2 := below_onto (hw1.alloc (by omega) _) o2 (by simp; omega) (by intro z hz h; omega)
  have hd2 := HP.out.d.below k2
  have FC2 := FB.fc hf2 h16
  have cn := Blk.cell hn2 0 _ rfl
  have c0 := FC2.c0
  rw [hk] at c0
  have c1 := FC2.c1
  have c2 := FC2.c2
  have c3 := FC2.c3
  have c4 := FC2.c4
  have c5 := FC2.c5
  have c6 := FC2.c6
  have HN2 := Lib.hid hn2
  have HF2 := Lib.hid hf2
  have K2 := Lib.hid k2
  have HD2 := Lib.hid hd2
  have H16 := Lib.hid h16
  have HK := Lib.hid hk
  clear hn2 hf2 k2 hd2 FC2 o2 hw1 hboxn FCX h16 hk
  generalize w1.heap.size = bn at *
  obtain ⟨s1, s2, s3, s4, _, _, _, s8⟩ := hs
  have hput : putF p.f = encs [5, p.f.id, p.f.code] := by
    have hk := HK.out
    unfold putF; rw [hk]; simp [encs]
  go_wp2_with (fail)
  refine (n_new [5, p.f.id, p.f.code] _ _ w2 _ rfl rfl rfl (by intro x hx; simp at hx; omega) (by simp)).mono ?_
  rintro e w3 ⟨a3, e3, m3, rfl, M3, O3, b3⟩
  have K3 := Lib.hid (below_on K2.out b3 K2.out.size)
  go_wp2_with (fail)
  go_returns
  exact ⟨a3, e3, m3, rfl, Lib.hid (by rw [M3.out, ← HL.out, hput]), Lib.hid (by rw [← HL.out, hput]; exact O3.out.sl), K3.out⟩

set_option maxHeartbeats 4000000 in
set_option maxRecDepth 100000 in
theorem putw_17 (p : FM) (w : World) (hp : p.ok w) (hs : p.f.id ≤ 4611686018427387903 ∧ p.f.max ≤ 4611686018427387903 ∧ p.f.code ≤ 4611686018427387903 ∧ p.f.delay ≤ 4611686018427387903 ∧ p.f.e0 ≤ 4611686018427387903 ∧ p.f.e1 ≤ 4611686018427387903 ∧ p.f.e2 ≤ 4611686018427387903 ∧ p.f.off ≤ 4611686018427387903) (hdl : p.f.data.length ≤ 1000000)  (hk : p.f.kind = 17) :
    Calls Try.prog 21 #[.agg p.vals] w fun e w' => ∃ a' cap' m, e = .returned (.slice a' m cap') ∧ Hid (m = (putF p.f).length) ∧ Hid (Sl .u8 w' a' cap' (putF p.f)) ∧ Below w.heap.size w w' := by
  have hs' := hs
  have FX := hp.fr
  have uk := FX.kind
  have ui := FX.id
  have uo := FX.off
  have um := FX.max
  have uc := FX.code
  have un := FX.n
  unfold U64 at uk ui uo um uc un
  have h16 := FX.tok16
  have hboxn := Blk.new w p.vals 36
  have FCX := FB.fc (p := p) hboxn h16
  have hw1 := (Below.refl w.heap.size w).alloc (Nat.le_refl _) (.cells p.vals 36)
  have hz1 : w.heap.size < (w.alloc (.cells p.vals 36)).heap.size := by simp
  have HP := Lib.hid hp
  obtain ⟨L, hL⟩ : ∃ L, putF p.f = L := ⟨_, rfl⟩
  have HL := Lib.hid hL
  rw [hL]
  clear hp FX hL hs'
  go_enter Try.func21, Try.ntmps21
  go_upto_region 1 with (fail)
  generalize w.alloc (.cells p.vals 36) = w1 at *
  go_wp2_with (with_reducible refine stop_stn ?_)
  refine Stop.out ?_
  refine wpList_storeFn rfl rfl rfl rfl (blk_at rfl rfl) ?_
  intro w2 hn2 o2
  have z2 := o2.size
  simp only [World.size_alloc] at z2
  have lz2 : w.heap.size < w2.heap.size := by omega
  have hf2 : FB w2 w.heap.size p := o2.blk (Blk.alloc hboxn _) (by omega)
  have k2 : Below w.heap.size w w2 := below_onto (hw1.alloc (by omega) _) o2 (by simp; omega) (by intro z hz h; omega)
  have hd2 := HP.out.d.below k2
  have FC2 := FB.fc hf2 h16
  have cn := Blk.cell hn2 0 _ rfl
  have c0 := FC2.c0
  rw [hk] at c0
  have c1 := FC2.c1
  have c2 := FC2.c2
  have c3 := FC2.c3
  have c4 := FC2.c4
  have c5 := FC2.c5
  have c6 := FC2.c6
  have HN2 := Lib.hid hn2
  have HF2 := Lib.hid hf2
  have K2 := Lib.hid k2
  have HD2 := Lib.hid hd2
  have H16 := Lib.hid h16
  have HK := Lib.hid hk
  clear hn2 hf2 k2 hd2 FC2 o2 hw1 hboxn FCX h16 hk
  generalize w1.heap.size = bn at *
  obtain ⟨s1, s2, s3, s4, _, _, _, s8⟩ := hs
  have hput : putF p.f = encs [17, p.f.id, p.f.max] := by
    have hk := HK.out
    unfold putF; rw [hk]; simp [encs]
  go_wp2_with (fail)
  refine (n_new [17, p.f.id, p.f.max] _ _ w2 _ rfl rfl rfl (by intro x hx; simp at hx; omega) (by simp)).mono ?_
  rintro e w3 ⟨a3, e3, m3, rfl, M3, O3, b3⟩
  have K3 := Lib.hid (below_on K2.out b3 K2.out.size)
  go_wp2_with (fail)
  go_returns
  exact ⟨a3, e3, m3, rfl, Lib.hid (by rw [M3.out, ← HL.out, hput]), Lib.hid (by rw [← HL.out, hput]; exact O3.out.sl), K3.out⟩

set_option maxHeartbeats 4000000 in
set_option maxRecDepth 100000 in
theorem putw_21 (p : FM) (w : World) (hp : p.ok w) (hs : p.f.id ≤ 4611686018427387903 ∧ p.f.max ≤ 4611686018427387903 ∧ p.f.code ≤ 4611686018427387903 ∧ p.f.delay ≤ 4611686018427387903 ∧ p.f.e0 ≤ 4611686018427387903 ∧ p.f.e1 ≤ 4611686018427387903 ∧ p.f.e2 ≤ 4611686018427387903 ∧ p.f.off ≤ 4611686018427387903) (hdl : p.f.data.length ≤ 1000000)  (hk : p.f.kind = 21) :
    Calls Try.prog 21 #[.agg p.vals] w fun e w' => ∃ a' cap' m, e = .returned (.slice a' m cap') ∧ Hid (m = (putF p.f).length) ∧ Hid (Sl .u8 w' a' cap' (putF p.f)) ∧ Below w.heap.size w w' := by
  have hs' := hs
  have FX := hp.fr
  have uk := FX.kind
  have ui := FX.id
  have uo := FX.off
  have um := FX.max
  have uc := FX.code
  have un := FX.n
  unfold U64 at uk ui uo um uc un
  have h16 := FX.tok16
  have hboxn := Blk.new w p.vals 36
  have FCX := FB.fc (p := p) hboxn h16
  have hw1 := (Below.refl w.heap.size w).alloc (Nat.le_refl _) (.cells p.vals 36)
  have hz1 : w.heap.size < (w.alloc (.cells p.vals 36)).heap.size := by simp
  have HP := Lib.hid hp
  obtain ⟨L, hL⟩ : ∃ L, putF p.f = L := ⟨_, rfl⟩
  have HL := Lib.hid hL
  rw [hL]
  clear hp FX hL hs'
  go_enter Try.func21, Try.ntmps21
  go_upto_region 1 with (fail)
  generalize w.alloc (.cells p.vals 36) = w1 at *
  go_wp2_with (with_reducible refine stop_stn ?_)
  refine Stop.out ?_
  refine wpList_storeFn rfl rfl rfl rfl (blk_at rfl rfl) ?_
  intro w2 hn2 o2
  have z2 := o2.size
  simp only [World.size_alloc] at z2
  have lz2 : w.heap.size < w2.heap.size := by omega
  have hf2 : FB w2 w.heap.size p := o2.blk (Blk.alloc hboxn _) (by omega)
  have k2 : Below w.heap.size w w2 := below_onto (hw1.alloc (by omega) _) o2 (by simp; omega) (by intro z hz h; omega)
  have hd2 := HP.out.d.below k2
  have FC2 := FB.fc hf2 h16
  have cn := Blk.cell hn2 0 _ rfl
  have c0 := FC2.c0
  rw [hk] at c0
  have c1 := FC2.c1
  have c2 := FC2.c2
  have c3 := FC2.c3
  have c4 := FC2.c4
  have c5 := FC2.c5
  have c6 := FC2.c6
  have HN2 := Lib.hid hn2
  have HF2 := Lib.hid hf2
  have K2 := Lib.hid k2
  have HD2 := Lib.hid hd2
  have H16 := Lib.hid h16
  have HK := Lib.hid hk
  clear hn2 hf2 k2 hd2 FC2 o2 hw1 hboxn FCX h16 hk
  generalize w1.heap.size = bn at *
  obtain ⟨s1, s2, s3, s4, _, _, _, s8⟩ := hs
  have hput : putF p.f = encs [21, p.f.id, p.f.max] := by
    have hk := HK.out
    unfold putF; rw [hk]; simp [encs]
  go_wp2_with (fail)
  refine (n_new [21, p.f.id, p.f.max] _ _ w2 _ rfl rfl rfl (by intro x hx; simp at hx; omega) (by simp)).mono ?_
  rintro e w3 ⟨a3, e3, m3, rfl, M3, O3, b3⟩
  have K3 := Lib.hid (below_on K2.out b3 K2.out.size)
  go_wp2_with (fail)
  go_returns
  exact ⟨a3, e3, m3, rfl, Lib.hid (by rw [M3.out, ← HL.out, hput]), Lib.hid (by rw [← HL.out, hput]; exact O3.out.sl), K3.out⟩

set_option maxHeartbeats 4000000 in
set_option maxRecDepth 100000 in
theorem putw_25 (p : FM) (w : World) (hp : p.ok w) (hs : p.f.id ≤ 4611686018427387903 ∧ p.f.max ≤ 4611686018427387903 ∧ p.f.code ≤ 4611686018427387903 ∧ p.f.delay ≤ 4611686018427387903 ∧ p.f.e0 ≤ 4611686018427387903 ∧ p.f.e1 ≤ 4611686018427387903 ∧ p.f.e2 ≤ 4611686018427387903 ∧ p.f.off ≤ 4611686018427387903) (hdl : p.f.data.length ≤ 1000000)  (hk : p.f.kind = 25) :
    Calls Try.prog 21 #[.agg p.vals] w fun e w' => ∃ a' cap' m, e = .returned (.slice a' m cap') ∧ Hid (m = (putF p.f).length) ∧ Hid (Sl .u8 w' a' cap' (putF p.f)) ∧ Below w.heap.size w w' := by
  have hs' := hs
  have FX := hp.fr
  have uk := FX.kind
  have ui := FX.id
  have uo := FX.off
  have um := FX.max
  have uc := FX.code
  have un := FX.n
  unfold U64 at uk ui uo um uc un
  have h16 := FX.tok16
  have hboxn := Blk.new w p.vals 36
  have FCX := FB.fc (p := p) hboxn h16
  have hw1 := (Below.refl w.heap.size w).alloc (Nat.le_refl _) (.cells p.vals 36)
  have hz1 : w.heap.size < (w.alloc (.cells p.vals 36)).heap.size := by simp
  have HP := Lib.hid hp
  obtain ⟨L, hL⟩ : ∃ L, putF p.f = L := ⟨_, rfl⟩
  have HL := Lib.hid hL
  rw [hL]
  clear hp FX hL hs'
  go_enter Try.func21, Try.ntmps21
  go_upto_region 1 with (fail)
  generalize w.alloc (.cells p.vals 36) = w1 at *
  go_wp2_with (with_reducible refine stop_stn ?_)
  refine Stop.out ?_
  refine wpList_storeFn rfl rfl rfl rfl (blk_at rfl rfl) ?_
  intro w2 hn2 o2
  have z2 := o2.size
  simp only [World.size_alloc] at z2
  have lz2 : w.heap.size < w2.heap.size := by omega
  have hf2 : FB w2 w.heap.size p := o2.blk (Blk.alloc hboxn _) (by omega)
  have k2 : Below w.heap.size w w2 := below_onto (hw1.alloc (by omega) _) o2 (by simp; omega) (by intro z hz h; omega)
  have hd2 := HP.out.d.below k2
  have FC2 := FB.fc hf2 h16
  have cn := Blk.cell hn2 0 _ rfl
  have c0 := FC2.c0
  rw [hk] at c0
  have c1 := FC2.c1
  have c2 := FC2.c2
  have c3 := FC2.c3
  have c4 := FC2.c4
  have c5 := FC2.c5
  have c6 := FC2.c6
  have HN2 := Lib.hid hn2
  have HF2 := Lib.hid hf2
  have K2 := Lib.hid k2
  have HD2 := Lib.hid hd2
  have H16 := Lib.hid h16
  have HK := Lib.hid hk
  clear hn2 hf2 k2 hd2 FC2 o2 hw1 hboxn FCX h16 hk
  generalize w1.heap.size = bn at *
  obtain ⟨s1, s2, s3, s4, _, _, _, s8⟩ := hs
  have hput : putF p.f = encs [25, p.f.id] := by
    have hk := HK.out
    unfold putF; rw [hk]; simp [encs]
  go_wp2_with (fail)
  refine (n_new [25, p.f.id] _ _ w2 _ rfl rfl rfl (by intro x hx; simp at hx; omega) (by simp)).mono ?_
  rintro e w3 ⟨a3, e3, m3, rfl, M3, O3, b3⟩
  have K3 := Lib.hid (below_on K2.out b3 K2.out.size)
  go_wp2_with (fail)
  go_returns
  exact ⟨a3, e3, m3, rfl, Lib.hid (by rw [M3.out, ← HL.out, hput]), Lib.hid (by rw [← HL.out, hput]; exact O3.out.sl), K3.out⟩

set_option maxHeartbeats 4000000 in
set_option maxRecDepth 100000 in
theorem putw_1 (p : FM) (w : World) (hp : p.ok w) (hs : p.f.id ≤ 4611686018427387903 ∧ p.f.max ≤ 4611686018427387903 ∧ p.f.code ≤ 4611686018427387903 ∧ p.f.delay ≤ 4611686018427387903 ∧ p.f.e0 ≤ 4611686018427387903 ∧ p.f.e1 ≤ 4611686018427387903 ∧ p.f.e2 ≤ 4611686018427387903 ∧ p.f.off ≤ 4611686018427387903) (hdl : p.f.data.length ≤ 1000000)  (hk : p.f.kind = 1) :
    Calls Try.prog 21 #[.agg p.vals] w fun e w' => ∃ a' cap' m, e = .returned (.slice a' m cap') ∧ Hid (m = (putF p.f).length) ∧ Hid (Sl .u8 w' a' cap' (putF p.f)) ∧ Below w.heap.size w w' := by
  have hs' := hs
  have FX := hp.fr
  have uk := FX.kind
  have ui := FX.id
  have uo := FX.off
  have um := FX.max
  have uc := FX.code
  have un := FX.n
  unfold U64 at uk ui uo um uc un
  have h16 := FX.tok16
  have hboxn := Blk.new w p.vals 36
  have FCX := FB.fc (p := p) hboxn h16
  have hw1 := (Below.refl w.heap.size w).alloc (Nat.le_refl _) (.cells p.vals 36)
  have hz1 : w.heap.size < (w.alloc (.cells p.vals 36)).heap.size := by simp
  have HP := Lib.hid hp
  obtain ⟨L, hL⟩ : ∃ L, putF p.f = L := ⟨_, rfl⟩
  have HL := Lib.hid hL
  rw [hL]
  clear hp FX hL hs'
  go_enter Try.func21, Try.ntmps21
  go_upto_region 1 with (fail)
  generalize w.alloc (.cells p.vals 36) = w1 at *
  go_wp2_with (with_reducible refine stop_stn ?_)
  refine Stop.out ?_
  refine wpList_storeFn rfl rfl rfl rfl (blk_at rfl rfl) ?_
  intro w2 hn2 o2
  have z2 := o2.size
  simp only [World.size_alloc] at z2
  have lz2 : w.heap.size < w2.heap.size := by omega
  have hf2 : FB w2 w.heap.size p := o2.blk (Blk.alloc hboxn _) (by omega)
  have k2 : Below w.heap.size w w2 := below_onto (hw1.alloc (by omega) _) o2 (by simp; omega) (by intro z hz h; omega)
  have hd2 := HP.out.d.below k2
  have FC2 := FB.fc hf2 h16
  have cn := Blk.cell hn2 0 _ rfl
  have c0 := FC2.c0
  rw [hk] at c0
  have c1 := FC2.c1
  have c2 := FC2.c2
  have c3 := FC2.c3
  have c4 := FC2.c4
  have c5 := FC2.c5
  have c6 := FC2.c6
  have HN2 := Lib.hid hn2
  have HF2 := Lib.hid hf2
  have K2 := Lib.hid k2
  have HD2 := Lib.hid hd2
  have H16 := Lib.hid h16
  have HK := Lib.hid hk
  clear hn2 hf2 k2 hd2 FC2 o2 hw1 hboxn FCX h16 hk
  generalize w1.heap.size = bn at *
  obtain ⟨s1, s2, s3, s4, _, _, _, s8⟩ := hs
  have hput : putF p.f = encs [1] := by
    have hk := HK.out
    unfold putF; rw [hk]; simp [encs]
  go_wp2_with (fail)
  refine (n_new [1] _ _ w2 _ rfl rfl rfl (by intro x hx; simp at hx; omega) (by simp)).mono ?_
  rintro e w3 ⟨a3, e3, m3, rfl, M3, O3, b3⟩
  have K3 := Lib.hid (below_on K2.out b3 K2.out.size)
  go_wp2_with (fail)
  go_returns
  exact ⟨a3, e3, m3, rfl, Lib.hid (by rw [M3.out, ← HL.out, hput]), Lib.hid (by rw [← HL.out, hput]; exact O3.out.sl), K3.out⟩

set_option maxHeartbeats 4000000 in
set_option maxRecDepth 100000 in
theorem putw_30 (p : FM) (w : World) (hp : p.ok w) (hs : p.f.id ≤ 4611686018427387903 ∧ p.f.max ≤ 4611686018427387903 ∧ p.f.code ≤ 4611686018427387903 ∧ p.f.delay ≤ 4611686018427387903 ∧ p.f.e0 ≤ 4611686018427387903 ∧ p.f.e1 ≤ 4611686018427387903 ∧ p.f.e2 ≤ 4611686018427387903 ∧ p.f.off ≤ 4611686018427387903) (hdl : p.f.data.length ≤ 1000000)  (hk : p.f.kind = 30) :
    Calls Try.prog 21 #[.agg p.vals] w fun e w' => ∃ a' cap' m, e = .returned (.slice a' m cap') ∧ Hid (m = (putF p.f).length) ∧ Hid (Sl .u8 w' a' cap' (putF p.f)) ∧ Below w.heap.size w w' := by
  have hs' := hs
  have FX := hp.fr
  have uk := FX.kind
  have ui := FX.id
  have uo := FX.off
  have um := FX.max
  have uc := FX.code
  have un := FX.n
  unfold U64 at uk ui uo um uc un
  have h16 := FX.tok16
  have hboxn := Blk.new w p.vals 36
  have FCX := FB.fc (p := p) hboxn h16
  have hw1 := (Below.refl w.heap.size w).alloc (Nat.le_refl _) (.cells p.vals 36)
  have hz1 : w.heap.size < (w.alloc (.cells p.vals 36)).heap.size := by simp
  have HP := Lib.hid hp
  obtain ⟨L, hL⟩ : ∃ L, putF p.f = L := ⟨_, rfl⟩
  have HL := Lib.hid hL
  rw [hL]
  clear hp FX hL hs'
  go_enter Try.func21, Try.ntmps21
  go_upto_region 1 with (fail)
  generalize w.alloc (.cells p.vals 36) = w1 at *
  go_wp2_with (with_reducible refine stop_stn ?_)
  refine Stop.out ?_
  refine wpList_storeFn rfl rfl rfl rfl (blk_at rfl rfl) ?_
  intro w2 hn2 o2
  have z2 := o2.size
  simp only [World.size_alloc] at z2
  have lz2 : w.heap.size < w2.heap.size := by omega
  have hf2 : FB w2 w.heap.size p := o2.blk (Blk.alloc hboxn _) (by omega)
  have k2 : Below w.heap.size w w2 := below_onto (hw1.alloc (by omega) _) o2 (by simp; omega) (by intro z hz h; omega)
  have hd2 := HP.out.d.below k2
  have FC2 := FB.fc hf2 h16
  have cn := Blk.cell hn2 0 _ rfl
  have c0 := FC2.c0
  rw [hk] at c0
  have c1 := FC2.c1
  have c2 := FC2.c2
  have c3 := FC2.c3
  have c4 := FC2.c4
  have c5 := FC2.c5
  have c6 := FC2.c6
  have HN2 := Lib.hid hn2
  have HF2 := Lib.hid hf2
  have K2 := Lib.hid k2
  have HD2 := Lib.hid hd2
  have H16 := Lib.hid h16
  have HK := Lib.hid hk
  clear hn2 hf2 k2 hd2 FC2 o2 hw1 hboxn FCX h16 hk
  generalize w1.heap.size = bn at *
  obtain ⟨s1, s2, s3, s4, _, _, _, s8⟩ := hs
  have hput : putF p.f = encs [30] := by
    have hk := HK.out
    unfold putF; rw [hk]; simp [encs]
  go_wp2_with (fail)
  refine (n_new [30] _ _ w2 _ rfl rfl rfl (by intro x hx; simp at hx; omega) (by simp)).mono ?_
  rintro e w3 ⟨a3, e3, m3, rfl, M3, O3, b3⟩
  have K3 := Lib.hid (below_on K2.out b3 K2.out.size)
  go_wp2_with (fail)
  go_returns
  exact ⟨a3, e3, m3, rfl, Lib.hid (by rw [M3.out, ← HL.out, hput]), Lib.hid (by rw [← HL.out, hput]; exact O3.out.sl), K3.out⟩

set_option maxHeartbeats 4000000 in
set_option maxRecDepth 100000 in
theorem putw_16 (p : FM) (w : World) (hp : p.ok w) (hs : p.f.id ≤ 4611686018427387903 ∧ p.f.max ≤ 4611686018427387903 ∧ p.f.code ≤ 4611686018427387903 ∧ p.f.delay ≤ 4611686018427387903 ∧ p.f.e0 ≤ 4611686018427387903 ∧ p.f.e1 ≤ 4611686018427387903 ∧ p.f.e2 ≤ 4611686018427387903 ∧ p.f.off ≤ 4611686018427387903) (hdl : p.f.data.length ≤ 1000000)  (hk : p.f.kind = 16) :
    Calls Try.prog 21 #[.agg p.vals] w fun e w' => ∃ a' cap' m, e = .returned (.slice a' m cap') ∧ Hid (m = (putF p.f).length) ∧ Hid (Sl .u8 w' a' cap' (putF p.f)) ∧ Below w.heap.size w w' := by
  have hs' := hs
  have FX := hp.fr
  have uk := FX.kind
  have ui := FX.id
  have uo := FX.off
  have um := FX.max
  have uc := FX.code
  have un := FX.n
  unfold U64 at uk ui uo um uc un
  have h16 := FX.tok16
  have hboxn := Blk.new w p.vals 36
  have FCX := FB.fc (p := p) hboxn h16
  have hw1 := (Below.refl w.heap.size w).alloc (Nat.le_refl _) (.cells p.vals 36)
  have hz1 : w.heap.size < (w.alloc (.cells p.vals 36)).heap.size := by simp
  have HP := Lib.hid hp
  obtain ⟨L, hL⟩ : ∃ L, putF p.f = L := ⟨_, rfl⟩
  have HL := Lib.hid hL
  rw [hL]
  clear hp FX hL hs'
  go_enter Try.func21, Try.ntmps21
  go_upto_region 1 with (fail)
  generalize w.alloc (.cells p.vals 36) = w1 at *
  go_wp2_with (with_reducible refine stop_stn ?_)
  refine Stop.out ?_
  refine wpList_storeFn rfl rfl rfl rfl (blk_at rfl rfl) ?_
  intro w2 hn2 o2
  have z2 := o2.size
  simp only [World.size_alloc] at z2
  have lz2 : w.heap.size < w2.heap.size := by omega
  have hf2 : FB w2 w.heap.size p := o2.blk (Blk.alloc hboxn _) (by omega)
  have k2 : Below w.heap.size w w2 := below_onto (hw1.alloc (by omega) _) o2 (by simp; omega) (by intro z hz h; omega)
  have hd2 := HP.out.d.below k2
  have FC2 := FB.fc hf2 h16
  have cn := Blk.cell hn2 0 _ rfl
  have c0 := FC2.c0
  rw [hk] at c0
  have c1 := FC2.c1
  have c2 := FC2.c2
  have c3 := FC2.c3
  have c4 := FC2.c4
  have c5 := FC2.c5
  have c6 := FC2.c6
  have HN2 := Lib.hid hn2
  have HF2 := Lib.hid hf2
  have K2 := Lib.hid k2
  have HD2 := Lib.hid hd2
  have H16 := Lib.hid h16
  have HK := Lib.hid hk
  clear hn2 hf2 k2 hd2 FC2 o2 hw1 hboxn FCX h16 hk
  generalize w1.heap.size = bn at *
  obtain ⟨s1, s2, s3, s4, _, _, _, s8⟩ := hs
  have hput : putF p.f = encs [16, p.f.max] := by
    have hk := HK.out
    unfold putF; rw [hk]; simp [encs]
  go_wp2_with (fail)
  refine (n_new [16, p.f.max] _ _ w2 _ rfl rfl rfl (by intro x hx; simp at hx; omega) (by simp)).mono ?_
  rintro e w3 ⟨a3, e3, m3, rfl, M3, O3, b3⟩
  have K3 := Lib.hid (below_on K2.out b3 K2.out.size)
  go_wp2_with (fail)
  go_returns
  exact ⟨a3, e3, m3, rfl, Lib.hid (by rw [M3.out, ← HL.out, hput]), Lib.hid (by rw [← HL.out, hput]; exact O3.out.sl), K3.out⟩

set_option maxHeartbeats 4000000 in
set_option maxRecDepth 100000 in
theorem putw_18 (p : FM) (w : World) (hp : p.ok w) (hs : p.f.id ≤ 4611686018427387903 ∧ p.f.max ≤ 4611686018427387903 ∧ p.f.code ≤ 4611686018427387903 ∧ p.f.delay ≤ 4611686018427387903 ∧ p.f.e0 ≤ 4611686018427387903 ∧ p.f.e1 ≤ 4611686018427387903 ∧ p.f.e2 ≤ 4611686018427387903 ∧ p.f.off ≤ 4611686018427387903) (hdl : p.f.data.length ≤ 1000000)  (hk : p.f.kind = 18) :
    Calls Try.prog 21 #[.agg p.vals] w fun e w' => ∃ a' cap' m, e = .returned (.slice a' m cap') ∧ Hid (m = (putF p.f).length) ∧ Hid (Sl .u8 w' a' cap' (putF p.f)) ∧ Below w.heap.size w w' := by
  have hs' := hs
  have FX := hp.fr
  have uk := FX.kind
  have ui := FX.id
  have uo := FX.off
  have um := FX.max
  have uc := FX.code
  have un := FX.n
  unfold U64 at uk ui uo um uc un
  have h16 := FX.tok16
  have hboxn := Blk.new w p.vals 36
  have FCX := FB.fc (p := p) hboxn h16
  have hw1 := (Below.refl w.heap.size w).alloc (Nat.le_refl _) (.cells p.vals 36)
  have hz1 : w.heap.size < (w.alloc (.cells p.vals 36)).heap.size := by simp
  have HP := Lib.hid hp
  obtain ⟨L, hL⟩ : ∃ L, putF p.f = L := ⟨_, rfl⟩
  have HL := Lib.hid hL
  rw [hL]
  clear hp FX hL hs'
  go_enter Try.func21, Try.ntmps21
  go_upto_region 1 with (fail)
  generalize w.alloc (.cells p.vals 36) = w1 at *
  go_wp2_with (with_reducible refine stop_stn ?_)
  refine Stop.out ?_
  refine wpList_storeFn rfl rfl rfl rfl (blk_at rfl rfl) ?_
  intro w2 hn2 o2
  have z2 := o2.size
  simp only [World.size_alloc] at z2
  have lz2 : w.heap.size < w2.heap.size := by omega
  have hf2 : FB w2 w.heap.size p := o2.blk (Blk.alloc hboxn _) (by omega)
  have k2 : Below w.heap.size w w2 := below_onto (hw1.alloc (by omega) _) o2 (by simp; omega) (by intro z hz h; omega)
  have hd2 := HP.out.d.below k2
  have FC2 := FB.fc hf2 h16
  have cn := Blk.cell hn2 0 _ rfl
  have c0 := FC2.c0
  rw [hk] at c0
  have c1 := FC2.c1
  have c2 := FC2.c2
  have c3 := FC2.c3
  have c4 := FC2.c4
  have c5 := FC2.c5
  have c6 := FC2.c6
  have HN2 := Lib.hid hn2
  have HF2 := Lib.hid hf2
  have K2 := Lib.hid k2
  have HD2 := Lib.hid hd2
  have H16 := Lib.hid h16
  have HK := Lib.hid hk
  clear hn2 hf2 k2 hd2 FC2 o2 hw1 hboxn FCX h16 hk
  generalize w1.heap.size = bn at *
  obtain ⟨s1, s2, s3, s4, _, _, _, s8⟩ := hs
  have hput : putF p.f = encs [18, p.f.max] := by
    have hk := HK.out
    unfold putF; rw [hk]; simp [encs]
  go_wp2_with (fail)
  refine (n_new [18, p.f.max] _ _ w2 _ rfl rfl rfl (by intro x hx; simp at hx; omega) (by simp)).mono ?_
  rintro e w3 ⟨a3, e3, m3, rfl, M3, O3, b3⟩
  have K3 := Lib.hid (below_on K2.out b3 K2.out.size)
  go_wp2_with (fail)
  go_returns
  exact ⟨a3, e3, m3, rfl, Lib.hid (by rw [M3.out, ← HL.out, hput]), Lib.hid (by rw [← HL.out, hput]; exact O3.out.sl), K3.out⟩

set_option maxHeartbeats 4000000 in
set_option maxRecDepth 100000 in
theorem putw_19 (p : FM) (w : World) (hp : p.ok w) (hs : p.f.id ≤ 4611686018427387903 ∧ p.f.max ≤ 4611686018427387903 ∧ p.f.code ≤ 4611686018427387903 ∧ p.f.delay ≤ 4611686018427387903 ∧ p.f.e0 ≤ 4611686018427387903 ∧ p.f.e1 ≤ 4611686018427387903 ∧ p.f.e2 ≤ 4611686018427387903 ∧ p.f.off ≤ 4611686018427387903) (hdl : p.f.data.length ≤ 1000000)  (hk : p.f.kind = 19) :
    Calls Try.prog 21 #[.agg p.vals] w fun e w' => ∃ a' cap' m, e = .returned (.slice a' m cap') ∧ Hid (m = (putF p.f).length) ∧ Hid (Sl .u8 w' a' cap' (putF p.f)) ∧ Below w.heap.size w w' := by
  have hs' := hs
  have FX := hp.fr
  have uk := FX.kind
  have ui := FX.id
  have uo := FX.off
  have um := FX.max
  have uc := FX.code
  have un := FX.n
  unfold U64 at uk ui uo um uc un
  have h16 := FX.tok16
  have hboxn := Blk.new w p.vals 36
  have FCX := FB.fc (p := p) hboxn h16
  have hw1 := (Below.refl w.heap.size w).alloc (Nat.le_refl _) (.cells p.vals 36)
  have hz1 : w.heap.size < (w.alloc (.cells p.vals 36)).heap.size := by simp
  have HP := Lib.hid hp
  obtain ⟨L, hL⟩ : ∃ L, putF p.f = L := ⟨_, rfl⟩
  have HL := Lib.hid hL
  rw [hL]
  clear hp FX hL hs'
  go_enter Try.func21, Try.ntmps21
  go_upto_region 1 with (fail)
  generalize w.alloc (.cells p.vals 36) = w1 at *
  go_wp2_with (with_reducible refine stop_stn ?_)
  refine Stop.out ?_
  refine wpList_storeFn rfl rfl rfl rfl (blk_at rfl rfl) ?_
  intro w2 hn2 o2
  have z2 := o2.size
  simp only [World.size_alloc] at z2
  have lz2 : w.heap.size < w2.heap.size := by omega
  have hf2 : FB w2 w.heap.size p := o2.blk (Blk.alloc hboxn _) (by omega)
  have k2 : Below w.heap.size w w2 := below_onto (hw1.alloc (by omega) _) o2 (by simp; omega) (by intro z hz h; omega)
  have hd2 := HP.out.d.below k2
  have FC2 := FB.fc hf2 h16
  have cn := Blk.cell hn2 0 _ rfl
  have c0 := FC2.c0
  rw [hk] at c0
  have c1 := FC2.c1
  have c2 := FC2.c2
  have c3 := FC2.c3
  have c4 := FC2.c4
  have c5 := FC2.c5
  have c6 := FC2.c6
  have HN2 := Lib.hid hn2
  have HF2 := Lib.hid hf2
  have K2 := Lib.hid k2
  have HD2 := Lib.hid hd2
  have H16 := Lib.hid h16
  have HK := Lib.hid hk
  clear hn2 hf2 k2 hd2 FC2 o2 hw1 hboxn FCX h16 hk
  generalize w1.heap.size = bn at *
  obtain ⟨s1, s2, s3, s4, _, _, _, s8⟩ := hs
  have hput : putF p.f = encs [19, p.f.max] := by
    have hk := HK.out
    unfold putF; rw [hk]; simp [encs]
  go_wp2_with (fail)
  refine (n_new [19, p.f.max] _ _ w2 _ rfl rfl rfl (by intro x hx; simp at hx; omega) (by simp)).mono ?_
  rintro e w3 ⟨a3, e3, m3, rfl, M3, O3, b3⟩
  have K3 := Lib.hid (below_on K2.out b3 K2.out.size)
  go_wp2_with (fail)
  go_returns
  exact ⟨a3, e3, m3, rfl, Lib.hid (by rw [M3.out, ← HL.out, hput]), Lib.hid (by rw [← HL.out, hput]; exact O3.out.sl), K3.out⟩

set_option maxHeartbeats 4000000 in
set_option maxRecDepth 100000 in
theorem putw_20 (p : FM) (w : World) (hp : p.ok w) (hs : p.f.id ≤ 4611686018427387903 ∧ p.f.max ≤ 4611686018427387903 ∧ p.f.code ≤ 4611686018427387903 ∧ p.f.delay ≤ 4611686018427387903 ∧ p.f.e0 ≤ 4611686018427387903 ∧ p.f.e1 ≤ 4611686018427387903 ∧ p.f.e2 ≤ 4611686018427387903 ∧ p.f.off ≤ 4611686018427387903) (hdl : p.f.data.length ≤ 1000000)  (hk : p.f.kind = 20) :
    Calls Try.prog 21 #[.agg p.vals] w fun e w' => ∃ a' cap' m, e = .returned (.slice a' m cap') ∧ Hid (m = (putF p.f).length) ∧ Hid (Sl .u8 w' a' cap' (putF p.f)) ∧ Below w.heap.size w w' := by
  have hs' := hs
  have FX := hp.fr
  have uk := FX.kind
  have ui := FX.id
  have uo := FX.off
  have um := FX.max
  have uc := FX.code
  have un := FX.n
  unfold U64 at uk ui uo um uc un
  have h16 := FX.tok16
  have hboxn := Blk.new w p.vals 36
  have FCX := FB.fc (p := p) hboxn h16
  have hw1 := (Below.refl w.heap.size w).alloc (Nat.le_refl _) (.cells p.vals 36)
  have hz1 : w.heap.size < (w.alloc (.cells p.vals 36)).heap.size := by simp
  have HP := Lib.hid hp
  obtain ⟨L, hL⟩ : ∃ L, putF p.f = L := ⟨_, rfl⟩
  have HL := Lib.hid hL
  rw [hL]
  clear hp FX hL hs'
  go_enter Try.func21, Try.ntmps21
  go_upto_region 1 with (fail)
  generalize w.alloc (.cells p.vals 36) = w1 at *
  go_wp2_with (with_reducible refine stop_stn ?_)
  refine Stop.out ?_
  refine wpList_storeFn rfl rfl rfl rfl (blk_at rfl rfl) ?_
  intro w2 hn2 o2
  have z2 := o2.size
  simp only [World.size_alloc] at z2
  have lz2 : w.heap.size < w2.heap.size := by omega
  have hf2 : FB w2 w.heap.size p := o2.blk (Blk.alloc hboxn _) (by omega)
  have k2 : Below w.heap.size w w2 := below_onto (hw1.alloc (by omega) _) o2 (by simp; omega) (by intro z hz h; omega)
  have hd2 := HP.out.d.below k2
  have FC2 := FB.fc hf2 h16
  have cn := Blk.cell hn2 0 _ rfl
  have c0 := FC2.c0
  rw [hk] at c0
  have c1 := FC2.c1
  have c2 := FC2.c2
  have c3 := FC2.c3
  have c4 := FC2.c4
  have c5 := FC2.c5
  have c6 := FC2.c6
  have HN2 := Lib.hid hn2
  have HF2 := Lib.hid hf2
  have K2 := Lib.hid k2
  have HD2 := Lib.hid hd2
  have H16 := Lib.hid h16
  have HK := Lib.hid hk
  clear hn2 hf2 k2 hd2 FC2 o2 hw1 hboxn FCX h16 hk
  generalize w1.heap.size = bn at *
  obtain ⟨s1, s2, s3, s4, _, _, _, s8⟩ := hs
  have hput : putF p.f = encs [20, p.f.max] := by
    have hk := HK.out
    unfold putF; rw [hk]; simp [encs]
  go_wp2_with (fail)
  refine (n_new [20, p.f.max] _ _ w2 _ rfl rfl rfl (by intro x hx; simp at hx; omega) (by simp)).mono ?_
  rintro e w3 ⟨a3, e3, m3, rfl, M3, O3, b3⟩
  have K3 := Lib.hid (below_on K2.out b3 K2.out.size)
  go_wp2_with (fail)
  go_returns
  exact ⟨a3, e3, m3, rfl, Lib.hid (by rw [M3.out, ← HL.out, hput]), Lib.hid (by rw [← HL.out, hput]; exact O3.out.sl), K3.out⟩

set_option maxHeartbeats 4000000 in
set_option maxRecDepth 100000 in
theorem putw_22 (p : FM) (w : World) (hp : p.ok w) (hs : p.f.id ≤ 4611686018427387903 ∧ p.f.max ≤ 4611686018427387903 ∧ p.f.code ≤ 4611686018427387903 ∧ p.f.delay ≤ 4611686018427387903 ∧ p.f.e0 ≤ 4611686018427387903 ∧ p.f.e1 ≤ 4611686018427387903 ∧ p.f.e2 ≤ 4611686018427387903 ∧ p.f.off ≤ 4611686018427387903) (hdl : p.f.data.length ≤ 1000000)  (hk : p.f.kind = 22) :
    Calls Try.prog 21 #[.agg p.vals] w fun e w' => ∃ a' cap' m, e = .returned (.slice a' m cap') ∧ Hid (m = (putF p.f).length) ∧ Hid (Sl .u8 w' a' cap' (putF p.f)) ∧ Below w.heap.size w w' := by
  have hs' := hs
  have FX := hp.fr
  have uk := FX.kind
  have ui := FX.id
  have uo := FX.off
  have um := FX.max
  have uc := FX.code
  have un := FX.n
  unfold U64 at uk ui uo um uc un
  have h16 := FX.tok16
  have hboxn := Blk.new w p.vals 36
  have FCX := FB.fc (p := p) hboxn h16
  have hw1 := (Below.refl w.heap.size w).alloc (Nat.le_refl _) (.cells p.vals 36)
  have hz1 : w.heap.size < (w.alloc (.cells p.vals 36)).heap.size := by simp
  have HP := Lib.hid hp
  obtain ⟨L, hL⟩ : ∃ L, putF p.f = L := ⟨_, rfl⟩
  have HL := Lib.hid hL
  rw [hL]
  clear hp FX hL hs'
  go_enter Try.func21, Try.ntmps21
  go_upto_region 1 with (fail)
  generalize w.alloc (.cells p.vals 36) = w1 at *
  go_wp2_with (with_reducible refine stop_stn ?_)
  refine Stop.out ?_
  refine wpList_storeFn rfl rfl rfl rfl (blk_at rfl rfl) ?_
  intro w2 hn2 o2
  have z2 := o2.size
  simp only [World.size_alloc] at z2
  have lz2 : w.heap.size < w2.heap.size := by omega
  have hf2 : FB w2 w.heap.size p := o2.blk (Blk.alloc hboxn _) (by omega)
  have k2 : Below w.heap.size w w2 := below_onto (hw1.alloc (by omega) _) o2 (by simp; omega) (by intro z hz h; omega)
  have hd2 := HP.out.d.below k2
  have FC2 := FB.fc hf2 h16
  have cn := Blk.cell hn2 0 _ rfl
  have c0 := FC2.c0
  rw [hk] at c0
  have c1 := FC2.c1
  have c2 := FC2.c2
  have c3 := FC2.c3
  have c4 := FC2.c4
  have c5 := FC2.c5
  have c6 := FC2.c6
  have HN2 := Lib.hid hn2
  have HF2 := Lib.hid hf2
  have K2 := Lib.hid k2
  have HD2 := Lib.hid hd2
  have H16 := Lib.hid h16
  have HK := Lib.hid hk
  clear hn2 hf2 k2 hd2 FC2 o2 hw1 hboxn FCX h16 hk
  generalize w1.heap.size = bn at *
  obtain ⟨s1, s2, s3, s4, _, _, _, s8⟩ := hs
  have hput : putF p.f = encs [22, p.f.max] := by
    have hk := HK.out
    unfold putF; rw [hk]; simp [encs]
  go_wp2_with (fail)
  refine (n_new [22, p.f.max] _ _ w2 _ rfl rfl rfl (by intro x hx; simp at hx; omega) (by simp)).mono ?_
  rintro e w3 ⟨a3, e3, m3, rfl, M3, O3, b3⟩
  have K3 := Lib.hid (below_on K2.out b3 K2.out.size)
  go_wp2_with (fail)
  go_returns
  exact ⟨a3, e3, m3, rfl, Lib.hid (by rw [M3.out, ← HL.out, hput]), Lib.hid (by rw [← HL.out, hput]; exact O3.out.sl), K3.out⟩

set_option maxHeartbeats 4000000 in
set_option maxRecDepth 100000 in
theorem putw_23 (p : FM) (w : World) (hp : p.ok w) (hs : p.f.id ≤ 4611686018427387903 ∧ p.f.max ≤ 4611686018427387903 ∧ p.f.code ≤ 4611686018427387903 ∧ p.f.delay ≤ 4611686018427387903 ∧ p.f.e0 ≤ 4611686018427387903 ∧ p.f.e1 ≤ 4611686018427387903 ∧ p.f.e2 ≤ 4611686018427387903 ∧ p.f.off ≤ 4611686018427387903) (hdl : p.f.data.length ≤ 1000000)  (hk : p.f.kind = 23) :
    Calls Try.prog 21 #[.agg p.vals] w fun e w' => ∃ a' cap' m, e = .returned (.slice a' m cap') ∧ Hid (m = (putF p.f).length) ∧ Hid (Sl .u8 w' a' cap' (putF p.f)) ∧ Below w.heap.size w w' := by
  have hs' := hs
  have FX := hp.fr
  have uk := FX.kind
  have ui := FX.id
  have uo := FX.off
  have um := FX.max
  have uc := FX.code
  have un := FX.n
  unfold U64 at uk ui uo um uc un
  have h16 := FX.tok16
  have hboxn := Blk.new w p.vals 36
  have FCX := FB.fc (p := p) hboxn h16
  have hw1 := (Below.refl w.heap.size w).alloc (Nat.le_refl _) (.cells p.vals 36)
  have hz1 : w.heap.size < (w.alloc (.cells p.vals 36)).heap.size := by simp
  have HP := Lib.hid hp
  obtain ⟨L, hL⟩ : ∃ L, putF p.f = L := ⟨_, rfl⟩
  have HL := Lib.hid hL
  rw [hL]
  clear hp FX hL hs'
  go_enter Try.func21, Try.ntmps21
  go_upto_region 1 with (fail)
  generalize w.alloc (.cells p.vals 36) = w1 at *
  go_wp2_with (with_reducible refine stop_stn ?_)
  refine Stop.out ?_
  refine wpList_storeFn rfl rfl rfl rfl (blk_at rfl rfl) ?_
  intro w2 hn2 o2
  have z2 := o2.size
  simp only [World.size_alloc] at z2
  have lz2 : w.heap.size < w2.heap.size := by omega
  have hf2 : FB w2 w.heap.size p := o2.blk (Blk.alloc hboxn _) (by omega)
  have k2 : Below w.heap.size w w2 := below_onto (hw1.alloc (by omega) _) o2 (by simp; omega) (by intro z hz h; omega)
  have hd2 := HP.out.d.below k2
  have FC2 := FB.fc hf2 h16
  have cn := Blk.cell hn2 0 _ rfl
  have c0 := FC2.c0
  rw [hk] at c0
  have c1 := FC2.c1
  have c2 := FC2.c2
  have c3 := FC2.c3
  have c4 := FC2.c4
  have c5 := FC2.c5
  have c6 := FC2.c6
  have HN2 := Lib.hid hn2
  have HF2 := Lib.hid hf2
  have K2 := Lib.hid k2
  have HD2 := Lib.hid hd2
  have H16 := Lib.hid h16
  have HK := Lib.hid hk
  clear hn2 hf2 k2 hd2 FC2 o2 hw1 hboxn FCX h16 hk
  generalize w1.heap.size = bn at *
  obtain ⟨s1, s2, s3, s4, _, _, _, s8⟩ := hs
  have hput : putF p.f = encs [23, p.f.max] := by
    have hk := HK.out
    unfold putF; rw [hk]; simp [encs]
  go_wp2_with (fail)
  refine (n_new [23, p.f.max] _ _ w2 _ rfl rfl rfl (by intro x hx; simp at hx; omega) (by simp)).mono ?_
  rintro e w3 ⟨a3, e3, m3, rfl, M3, O3, b3⟩
  have K3 := Lib.hid (below_on K2.out b3 K2.out.size)
  go_wp2_with (fail)
  go_returns
  exact ⟨a3, e3, m3, rfl, Lib.hid (by rw [M3.out, ← HL.out, hput]), Lib.hid (by rw [← HL.out, hput]; exact O3.out.sl), K3.out⟩

end Frm
end Go.Proofs.Ytcpjehgoeibbeaa

/- put: kinds of numbers and data (written by gen_frw9.py). -/
namespace Go.Proofs.Ytcpjehgoeibbeaa
open Go.RowKit
set_option linter.unusedVariables false
namespace Frm
open Var

set_option maxHeartbeats 4000000 in
set_option maxRecDepth 100000 in
theorem putw_6 (p : FM) (w : World) (hp : p.ok w) (hs : p.f.id ≤ 4611686018427387903 ∧ p.f.max ≤ 4611686018427387903 ∧ p.f.code ≤ 4611686018427387903 ∧ p.f.delay ≤ 4611686018427387903 ∧ p.f.e0 ≤ 4611686018427387903 ∧ p.f.e1 ≤ 4611686018427387903 ∧ p.f.e2 ≤ 4611686018427387903 ∧ p.f.off ≤ 4611686018427387903) (hdl : p.f.data.length ≤ 1000000)  (hk : p.f.kind = 6) :
    Calls Try.prog 21 #[.agg p.vals] w fun e w' => ∃ a' cap' m, e = .returned (.slice a' m cap') ∧ Hid (m = (putF p.f).length) ∧ Hid (Sl .u8 w' a' cap' (putF p.f)) ∧ Below w.heap.size w w' := by
  have hs' := hs
  have FX := hp.fr
  have uk := FX.kind
  have ui := FX.id
  have uo := FX.off
  have um := FX.max
  have uc := FX.code
  have un := FX.n
  unfold U64 at uk ui uo um uc un
  have h16 := FX.tok16
  have hboxn := Blk.new w p.vals 36
  have FCX := FB.fc (p := p) hboxn h16
  have hw1 := (Below.refl w.heap.size w).alloc (Nat.le_refl _) (.cells p.vals 36)
  have hz1 : w.heap.size < (w.alloc (.cells p.vals 36)).heap.size := by simp
  have HP := Lib.hid hp
  obtain ⟨L, hL⟩ : ∃ L, putF p.f = L := ⟨_, rfl⟩
  have HL := Lib.hid hL
  rw [hL]
  clear hp FX hL hs'
  go_enter Try.func21, Try.ntmps21
  go_upto_region 1 with (fail)
  generalize w.alloc (.cells p.vals 36) = w1 at *
  go_wp2_with (with_reducible refine stop_stn ?_)
  refine Stop.out ?_
  refine wpList_storeFn rfl rfl rfl rfl (blk_at rfl rfl) ?_
  intro w2 hn2 o2
  have z2 := o2.size
  simp only [World.size_alloc] at z2
  have lz2 : w.heap.size < w2.heap.size := by omega
  have hf2 : FB w2 w.heap.size p := o2.blk (Blk.alloc hboxn _) (by omega)
  have k2 : Below w.heap.size w w2 := below_onto (hw1.alloc (by omega) _) o2 (by simp; omega) (by intro z hz h; omega)
  have hd2 := HP.out.d.below k2
  have FC2 := FB.fc hf2 h16
  have cn := Blk.cell hn2 0 _ rfl
  have c0 := FC2.c0
  rw [hk] at c0
  have c1 := FC2.c1
  have c2 := FC2.c2
  have c3 := FC2.c3
  have c4 := FC2.c4
  have c5 := FC2.c5
  have c6 := FC2.c6
  have HN2 := Lib.hid hn2
  have HF2 := Lib.hid hf2
  have K2 := Lib.hid k2
  have HD2 := Lib.hid hd2
  have H16 := Lib.hid h16
  have HK := Lib.hid hk
  clear hn2 hf2 k2 hd2 FC2 o2 hw1 hboxn FCX h16 hk
  generalize w1.heap.size = bn at *
  obtain ⟨s1, s2, s3, s4, _, _, _, s8⟩ := hs
  have hput : putF p.f = encs [6, p.f.off] ++ sizedB p.f.data := by
    have hk := HK.out
    unfold putF; rw [hk]; simp [encs]
  go_wp2_with (fail)
  refine (n_new [6, p.f.off] _ _ w2 _ rfl rfl rfl (by intro x hx; simp at hx; omega) (by simp)).mono ?_
  rintro e w3 ⟨a3, e3, m3, rfl, M3, O3, b3⟩
  have K3 := Lib.hid (below_on K2.out b3 K2.out.size)
  have lz3 : w.heap.size < w3.heap.size := by have := b3.size; omega
  have B3 := Lib.hid b3
  clear b3
  go_wp2_with (fail)
  refine (sized_new bn w.heap.size p _ (Blk.below HN2.out B3.out) (Blk.below HF2.out B3.out) (HD2.out.below B3.out) (by omega)).mono ?_
  rintro e w4 ⟨a4, e4, m4, rfl, M4, O4, b4⟩
  have K4 := Lib.hid (below_on K3.out b4 K3.out.size)
  have B4 := Lib.hid b4
  clear b4
  go_wp2_with (fail)
  refine (cats [⟨a3, e3, encs [6, p.f.off]⟩, ⟨a4, e4, sizedB p.f.data⟩] (putF p.f) _ 2 w4 _ (by rw [hput]; simp [catB]) rfl (by rw [M3.out, M4.out]; rfl) rfl (by decide) (by decide) (by intro q hq; simp at hq; rcases hq with rfl | rfl; exact (O3.out.below B4.out).sl; exact O4.out.sl) (by rw [hput, List.length_append]; have := sizedB_len p.f.data; have : (encs [6, p.f.off]).length ≤ 8 * ([6, p.f.off] : List Int).length := encs_len (by intro x hx; simp at hx; omega); simp at this ⊢; omega)).mono ?_
  rintro e w5 ⟨a5, e5, m5, rfl, M5, O5, b5⟩
  have K5 := Lib.hid (below_on K4.out b5 K4.out.size)
  go_wp2_with (fail)
  go_returns
  exact ⟨_, e5, m5, rfl, Lib.hid (by rw [M5.out, HL.out]), Lib.hid (by rw [← HL.out]; exact O5.out), K5.out⟩

set_option maxHeartbeats 4000000 in
set_option maxRecDepth 100000 in
theorem putw_7 (p : FM) (w : World) (hp : p.ok w) (hs : p.f.id ≤ 4611686018427387903 ∧ p.f.max ≤ 4611686018427387903 ∧ p.f.code ≤ 4611686018427387903 ∧ p.f.delay ≤ 4611686018427387903 ∧ p.f.e0 ≤ 4611686018427387903 ∧ p.f.e1 ≤ 4611686018427387903 ∧ p.f.e2 ≤ 4611686018427387903 ∧ p.f.off ≤ 4611686018427387903) (hdl : p.f.data.length ≤ 1000000)  (hk : p.f.kind = 7) :
    Calls Try.prog 21 #[.agg p.vals] w fun e w' => ∃ a' cap' m, e = .returned (.slice a' m cap') ∧ Hid (m = (putF p.f).length) ∧ Hid (Sl .u8 w' a' cap' (putF p.f)) ∧ Below w.heap.size w w' := by
  have hs' := hs
  have FX := hp.fr
  have uk := FX.kind
  have ui := FX.id
  have uo := FX.off
  have um := FX.max
  have uc := FX.code
  have un := FX.n
  unfold U64 at uk ui uo um uc un
  have h16 := FX.tok16
  have hboxn := Blk.new w p.vals 36
  have FCX := FB.fc (p := p) hboxn h16
  have hw1 := (Below.refl w.heap.size w).alloc (Nat.le_refl _) (.cells p.vals 36)
  have hz1 : w.heap.size < (w.alloc (.cells p.vals 36)).heap.size := by simp
  have HP := Lib.hid hp
  obtain ⟨L, hL⟩ : ∃ L, putF p.f = L := ⟨_, rfl⟩
  have HL := Lib.hid hL
  rw [hL]
  clear hp FX hL hs'
  go_enter Try.func21, Try.ntmps21
  go_upto_region 1 with (fail)
  generalize w.alloc (.cells p.vals 36) = w1 at *
  go_wp2_with (with_reducible refine stop_stn ?_)
  refine Stop.out ?_
  refine wpList_storeFn rfl rfl rfl rfl (blk_at rfl rfl) ?_
  intro w2 hn2 o2
  have z2 := o2.size
  simp only [World.size_alloc] at z2
  have lz2 : w.heap.size < w2.heap.size := by omega
  have hf2 : FB w2 w.heap.size p := o2.blk (Blk.alloc hboxn _) (by omega)
  have k2 : Below w.heap.size w w2 := below_onto (hw1.alloc (by omega) _) o2 (by simp; omega) (by intro z hz h; omega)
  have hd2 := HP.out.d.below k2
  have FC2 := FB.fc hf2 h16
  have cn := Blk.cell hn2 0 _ rfl
  have c0 := FC2.c0
  rw [hk] at c0
  have c1 := FC2.c1
  have c2 := FC2.c2
  have c3 := FC2.c3
  have c4 := FC2.c4
  have c5 := FC2.c5
  have c6 := FC2.c6
  have HN2 := Lib.hid hn2
  have HF2 := Lib.hid hf2
  have K2 := Lib.hid k2
  have HD2 := Lib.hid hd2
  have H16 := Lib.hid h16
  have HK := Lib.hid hk
  clear hn2 hf2 k2 hd2 FC2 o2 hw1 hboxn FCX h16 hk
  generalize w1.heap.size = bn at *
  obtain ⟨s1, s2, s3, s4, _, _, _, s8⟩ := hs
  have hput : putF p.f = encs [7] ++ sizedB p.f.data := by
    have hk := HK.out
    unfold putF; rw [hk]; simp [encs]
  go_wp2_with (fail)
  refine (n_new [7] _ _ w2 _ rfl rfl rfl (by intro x hx; simp at hx; omega) (by simp)).mono ?_
  rintro e w3 ⟨a3, e3, m3, rfl, M3, O3, b3⟩
  have K3 := Lib.hid (below_on K2.out b3 K2.out.size)
  have lz3 : w.heap.size < w3.heap.size := by have := b3.size; omega
  have B3 := Lib.hid b3
  clear b3
  go_wp2_with (fail)
  refine (sized_new bn w.heap.size p _ (Blk.below HN2.out B3.out) (Blk.below HF2.out B3.out) (HD2.out.below B3.out) (by omega)).mono ?_
  rintro e w4 ⟨a4, e4, m4, rfl, M4, O4, b4⟩
  have K4 := Lib.hid (below_on K3.out b4 K3.out.size)
  have B4 := Lib.hid b4
  clear b4
  go_wp2_with (fail)
  refine (cats [⟨a3, e3, encs [7]⟩, ⟨a4, e4, sizedB p.f.data⟩] (putF p.f) _ 2 w4 _ (by rw [hput]; simp [catB]) rfl (by rw [M3.out, M4.out]; rfl) rfl (by decide) (by decide) (by intro q hq; simp at hq; rcases hq with rfl | rfl; exact (O3.out.below B4.out).sl; exact O4.out.sl) (by rw [hput, List.length_append]; have := sizedB_len p.f.data; have : (encs [7]).length ≤ 8 * ([7] : List Int).length := encs_len (by intro x hx; simp at hx; omega); simp at this ⊢; omega)).mono ?_
  rintro e w5 ⟨a5, e5, m5, rfl, M5, O5, b5⟩
  have K5 := Lib.hid (below_on K4.out b5 K4.out.size)
  go_wp2_with (fail)
  go_returns
  exact ⟨_, e5, m5, rfl, Lib.hid (by rw [M5.out, HL.out]), Lib.hid (by rw [← HL.out]; exact O5.out), K5.out⟩

set_option maxHeartbeats 4000000 in
set_option maxRecDepth 100000 in
theorem putw_28 (p : FM) (w : World) (hp : p.ok w) (hs : p.f.id ≤ 4611686018427387903 ∧ p.f.max ≤ 4611686018427387903 ∧ p.f.code ≤ 4611686018427387903 ∧ p.f.delay ≤ 4611686018427387903 ∧ p.f.e0 ≤ 4611686018427387903 ∧ p.f.e1 ≤ 4611686018427387903 ∧ p.f.e2 ≤ 4611686018427387903 ∧ p.f.off ≤ 4611686018427387903) (hdl : p.f.data.length ≤ 1000000)  (hk : p.f.kind = 28) :
    Calls Try.prog 21 #[.agg p.vals] w fun e w' => ∃ a' cap' m, e = .returned (.slice a' m cap') ∧ Hid (m = (putF p.f).length) ∧ Hid (Sl .u8 w' a' cap' (putF p.f)) ∧ Below w.heap.size w w' := by
  have hs' := hs
  have FX := hp.fr
  have uk := FX.kind
  have ui := FX.id
  have uo := FX.off
  have um := FX.max
  have uc := FX.code
  have un := FX.n
  unfold U64 at uk ui uo um uc un
  have h16 := FX.tok16
  have hboxn := Blk.new w p.vals 36
  have FCX := FB.fc (p := p) hboxn h16
  have hw1 := (Below.refl w.heap.size w).alloc (Nat.le_refl _) (.cells p.vals 36)
  have hz1 : w.heap.size < (w.alloc (.cells p.vals 36)).heap.size := by simp
  have HP := Lib.hid hp
  obtain ⟨L, hL⟩ : ∃ L, putF p.f = L := ⟨_, rfl⟩
  have HL := Lib.hid hL
  rw [hL]
  clear hp FX hL hs'
  go_enter Try.func21, Try.ntmps21
  go_upto_region 1 with (fail)
  generalize w.alloc (.cells p.vals 36) = w1 at *
  go_wp2_with (with_reducible refine stop_stn ?_)
  refine Stop.out ?_
  refine wpList_storeFn rfl rfl rfl rfl (blk_at rfl rfl) ?_
  intro w2 hn2 o2
  have z2 := o2.size
  simp only [World.size_alloc] at z2
  have lz2 : w.heap.size < w2.heap.size := by omega
  have hf2 : FB w2 w.heap.size p := o2.blk (Blk.alloc hboxn _) (by omega)
  have k2 : Below w.heap.size w w2 := below_onto (hw1.alloc (by omega) _) o2 (by simp; omega) (by intro z hz h; omega)
  have hd2 := HP.out.d.below k2
  have FC2 := FB.fc hf2 h16
  have cn := Blk.cell hn2 0 _ rfl
  have c0 := FC2.c0
  rw [hk] at c0
  have c1 := FC2.c1
  have c2 := FC2.c2
  have c3 := FC2.c3
  have c4 := FC2.c4
  have c5 := FC2.c5
  have c6 := FC2.c6
  have HN2 := Lib.hid hn2
  have HF2 := Lib.hid hf2
  have K2 := Lib.hid k2
  have HD2 := Lib.hid hd2
  have H16 := Lib.hid h16
  have HK := Lib.hid hk
  clear hn2 hf2 k2 hd2 FC2 o2 hw1 hboxn FCX h16 hk
  generalize w1.heap.size = bn at *
  obtain ⟨s1, s2, s3, s4, _, _, _, s8⟩ := hs
  have hput : putF p.f = encs [28, p.f.code, p.f.max] ++ sizedB p.f.data := by
    have hk := HK.out
    unfold putF; rw [hk]; simp [encs]
  go_wp2_with (fail)
  refine (n_new [28, p.f.code, p.f.max] _ _ w2 _ rfl rfl rfl (by intro x hx; simp at hx; omega) (by simp)).mono ?_
  rintro e w3 ⟨a3, e3, m3, rfl, M3, O3, b3⟩
  have K3 := Lib.hid (below_on K2.out b3 K2.out.size)
  have lz3 : w.heap.size < w3.heap.size := by have := b3.size; omega
  have B3 := Lib.hid b3
  clear b3
  go_wp2_with (fail)
  refine (sized_new bn w.heap.size p _ (Blk.below HN2.out B3.out) (Blk.below HF2.out B3.out) (HD2.out.below B3.out) (by omega)).mono ?_
  rintro e w4 ⟨a4, e4, m4, rfl, M4, O4, b4⟩
  have K4 := Lib.hid (below_on K3.out b4 K3.out.size)
  have B4 := Lib.hid b4
  clear b4
  go_wp2_with (fail)
  refine (cats [⟨a3, e3, encs [28, p.f.code, p.f.max]⟩, ⟨a4, e4, sizedB p.f.data⟩] (putF p.f) _ 2 w4 _ (by rw [hput]; simp [catB]) rfl (by rw [M3.out, M4.out]; rfl) rfl (by decide) (by decide) (by intro q hq; simp at hq; rcases hq with rfl | rfl; exact (O3.out.below B4.out).sl; exact O4.out.sl) (by rw [hput, List.length_append]; have := sizedB_len p.f.data; have : (encs [28, p.f.code, p.f.max]).length ≤ 8 * ([28, p.f.code, p.f.max] : List Int).length := encs_len (by intro x hx; simp at hx; omega); simp at this ⊢; omega)).mono ?_
  rintro e w5 ⟨a5, e5, m5, rfl, M5, O5, b5⟩
  have K5 := Lib.hid (below_on K4.out b5 K4.out.size)
  go_wp2_with (fail)
  go_returns
  exact ⟨_, e5, m5, rfl, Lib.hid (by rw [M5.out, HL.out]), Lib.hid (by rw [← HL.out]; exact O5.out), K5.out⟩

set_option maxHeartbeats 4000000 in
set_option maxRecDepth 100000 in
theorem putw_29 (p : FM) (w : World) (hp : p.ok w) (hs : p.f.id ≤ 4611686018427387903 ∧ p.f.max ≤ 4611686018427387903 ∧ p.f.code ≤ 4611686018427387903 ∧ p.f.delay ≤ 4611686018427387903 ∧ p.f.e0 ≤ 4611686018427387903 ∧ p.f.e1 ≤ 4611686018427387903 ∧ p.f.e2 ≤ 4611686018427387903 ∧ p.f.off ≤ 4611686018427387903) (hdl : p.f.data.length ≤ 1000000)  (hk : p.f.kind = 29) :
    Calls Try.prog 21 #[.agg p.vals] w fun e w' => ∃ a' cap' m, e = .returned (.slice a' m cap') ∧ Hid (m = (putF p.f).length) ∧ Hid (Sl .u8 w' a' cap' (putF p.f)) ∧ Below w.heap.size w w' := by
  have hs' := hs
  have FX := hp.fr
  have uk := FX.kind
  have ui := FX.id
  have uo := FX.off
  have um := FX.max
  have uc := FX.code
  have un := FX.n
  unfold U64 at uk ui uo um uc un
  have h16 := FX.tok16
  have hboxn := Blk.new w p.vals 36
  have FCX := FB.fc (p := p) hboxn h16
  have hw1 := (Below.refl w.heap.size w).alloc (Nat.le_refl _) (.cells p.vals 36)
  have hz1 : w.heap.size < (w.alloc (.cells p.vals 36)).heap.size := by simp
  have HP := Lib.hid hp
  obtain ⟨L, hL⟩ : ∃ L, putF p.f = L := ⟨_, rfl⟩
  have HL := Lib.hid hL
  rw [hL]
  clear hp FX hL hs'
  go_enter Try.func21, Try.ntmps21
  go_upto_region 1 with (fail)
  generalize w.alloc (.cells p.vals 36) = w1 at *
  go_wp2_with (with_reducible refine stop_stn ?_)
  refine Stop.out ?_
  refine wpList_storeFn rfl rfl rfl rfl (blk_at rfl rfl) ?_
  intro w2 hn2 o2
  have z2 := o2.size
  simp only [World.size_alloc] at z2
  have lz2 : w.heap.size < w2.heap.size := by omega
  have hf2 : FB w2 w.heap.size p := o2.blk (Blk.alloc hboxn _) (by omega)
  have k2 : Below w.heap.size w w2 := below_onto (hw1.alloc (by omega) _) o2 (by simp; omega) (by intro z hz h; omega)
  have hd2 := HP.out.d.below k2
  have FC2 := FB.fc hf2 h16
  have cn := Blk.cell hn2 0 _ rfl
  have c0 := FC2.c0
  rw [hk] at c0
  have c1 := FC2.c1
  have c2 := FC2.c2
  have c3 := FC2.c3
  have c4 := FC2.c4
  have c5 := FC2.c5
  have c6 := FC2.c6
  have HN2 := Lib.hid hn2
  have HF2 := Lib.hid hf2
  have K2 := Lib.hid k2
  have HD2 := Lib.hid hd2
  have H16 := Lib.hid h16
  have HK := Lib.hid hk
  clear hn2 hf2 k2 hd2 FC2 o2 hw1 hboxn FCX h16 hk
  generalize w1.heap.size = bn at *
  obtain ⟨s1, s2, s3, s4, _, _, _, s8⟩ := hs
  have hput : putF p.f = encs [29, p.f.code] ++ sizedB p.f.data := by
    have hk := HK.out
    unfold putF; rw [hk]; simp [encs]
  go_wp2_with (fail)
  refine (n_new [29, p.f.code] _ _ w2 _ rfl rfl rfl (by intro x hx; simp at hx; omega) (by simp)).mono ?_
  rintro e w3 ⟨a3, e3, m3, rfl, M3, O3, b3⟩
  have K3 := Lib.hid (below_on K2.out b3 K2.out.size)
  have lz3 : w.heap.size < w3.heap.size := by have := b3.size; omega
  have B3 := Lib.hid b3
  clear b3
  go_wp2_with (fail)
  refine (sized_new bn w.heap.size p _ (Blk.below HN2.out B3.out) (Blk.below HF2.out B3.out) (HD2.out.below B3.out) (by omega)).mono ?_
  rintro e w4 ⟨a4, e4, m4, rfl, M4, O4, b4⟩
  have K4 := Lib.hid (below_on K3.out b4 K3.out.size)
  have B4 := Lib.hid b4
  clear b4
  go_wp2_with (fail)
  refine (cats [⟨a3, e3, encs [29, p.f.code]⟩, ⟨a4, e4, sizedB p.f.data⟩] (putF p.f) _ 2 w4 _ (by rw [hput]; simp [catB]) rfl (by rw [M3.out, M4.out]; rfl) rfl (by decide) (by decide) (by intro q hq; simp at hq; rcases hq with rfl | rfl; exact (O3.out.below B4.out).sl; exact O4.out.sl) (by rw [hput, List.length_append]; have := sizedB_len p.f.data; have : (encs [29, p.f.code]).length ≤ 8 * ([29, p.f.code] : List Int).length := encs_len (by intro x hx; simp at hx; omega); simp at this ⊢; omega)).mono ?_
  rintro e w5 ⟨a5, e5, m5, rfl, M5, O5, b5⟩
  have K5 := Lib.hid (below_on K4.out b5 K4.out.size)
  go_wp2_with (fail)
  go_returns
  exact ⟨_, e5, m5, rfl, Lib.hid (by rw [M5.out, HL.out]), Lib.hid (by rw [← HL.out]; exact O5.out), K5.out⟩

end Frm
end Go.Proofs.Ytcpjehgoeibbeaa

/- put: paddings, ACKs, streams (written by gen_frw9.py). -/
namespace Go.Proofs.Ytcpjehgoeibbeaa
open Go.RowKit
set_option linter.unusedVariables false
namespace Frm
open Var

set_option maxHeartbeats 4000000 in
set_option maxRecDepth 100000 in
theorem putw_0 (p : FM) (w : World) (hp : p.ok w) (hs : p.f.id ≤ 4611686018427387903 ∧ p.f.max ≤ 4611686018427387903 ∧ p.f.code ≤ 4611686018427387903 ∧ p.f.delay ≤ 4611686018427387903 ∧ p.f.e0 ≤ 4611686018427387903 ∧ p.f.e1 ≤ 4611686018427387903 ∧ p.f.e2 ≤ 4611686018427387903 ∧ p.f.off ≤ 4611686018427387903) (hdl : p.f.data.length ≤ 1000000) (hn : p.f.n ≤ 65536) (hk : p.f.kind = 0) :
    Calls Try.prog 21 #[.agg p.vals] w fun e w' => ∃ a' cap' m, e = .returned (.slice a' m cap') ∧ Hid (m = (putF p.f).length) ∧ Hid (Sl .u8 w' a' cap' (putF p.f)) ∧ Below w.heap.size w w' := by
  have hs' := hs
  have FX := hp.fr
  have uk := FX.kind
  have ui := FX.id
  have uo := FX.off
  have um := FX.max
  have uc := FX.code
  have un := FX.n
  unfold U64 at uk ui uo um uc un
  have h16 := FX.tok16
  have hboxn := Blk.new w p.vals 36
  have FCX := FB.fc (p := p) hboxn h16
  have hw1 := (Below.refl w.heap.size w).alloc (Nat.le_refl _) (.cells p.vals 36)
  have hz1 : w.heap.size < (w.alloc (.cells p.vals 36)).heap.size := by simp
  have HP := Lib.hid hp
  obtain ⟨L, hL⟩ : ∃ L, putF p.f = L := ⟨_, rfl⟩
  have HL := Lib.hid hL
  rw [hL]
  clear hp FX hL hs'
  go_enter Try.func21, Try.ntmps21
  go_upto_region 1 with (fail)
  generalize w.alloc (.cells p.vals 36) = w1 at *
  go_wp2_with (with_reducible refine stop_stn ?_)
  refine Stop.out ?_
  refine wpList_storeFn rfl rfl rfl rfl (blk_at rfl rfl) ?_
  intro w2 hn2 o2
  have z2 := o2.size
  simp only [World.size_alloc] at z2
  have lz2 : w.heap.size < w2.heap.size := by omega
  have hf2 : FB w2 w.heap.size p := o2.blk (Blk.alloc hboxn _) (by omega)
  have k2 : Below w.heap.size w w2 := below_onto (hw1.alloc (by omega) _) o2 (by simp; omega) (by intro z hz h; omega)
  have hd2 := HP.out.d.below k2
  have FC2 := FB.fc hf2 h16
  have cn := Blk.cell hn2 0 _ rfl
  have c0 := FC2.c0
  rw [hk] at c0
  have c1 := FC2.c1
  have c2 := FC2.c2
  have c3 := FC2.c3
  have c4 := FC2.c4
  have c5 := FC2.c5
  have c6 := FC2.c6
  have HN2 := Lib.hid hn2
  have HF2 := Lib.hid hf2
  have K2 := Lib.hid k2
  have HD2 := Lib.hid hd2
  have H16 := Lib.hid h16
  have HK := Lib.hid hk
  clear hn2 hf2 k2 hd2 FC2 o2 hw1 hboxn FCX h16 hk
  generalize w1.heap.size = bn at *
  obtain ⟨s1, s2, s3, s4, _, _, _, s8⟩ := hs
  obtain ⟨W, hW⟩ : ∃ W : Nat, p.f.n = W := ⟨p.f.n.toNat, by omega⟩
  have hput : putF p.f = List.replicate W 0 := by
    have hk := HK.out
    unfold putF; rw [if_pos hk, hW]; rfl
  have HPUT := Lib.hid hput
  rw [hW] at c5
  have hWn : W ≤ 65536 := by omega
  clear hput hW
  go_wp2_with (at_make; refine Stop.mk ?_)
  refine Stop.out ?_
  obtain ⟨i, z, q1, q2, q3, q4, q5, q6, q7⟩ := bytes_et
  refine wpList_make_full _ rfl _ _ 23 rfl w2.heap.size 5 i z 1 q1 q2 q3 q4 .u64 .u64 _ _ W rfl rfl rfl rfl (by rw [q5]; omega) (by unfold maxLen; omega) (Nat.le_refl _) ?_
  have hz : z = .int .u8 0 := by have := u8_zero; rw [q2] at this; simp only [Option.bind_some, q3, Option.some.injEq] at this; exact this
  subst hz
  intro w3 hr hg
  have ho1 : OwnS w3 w2.heap.size 5 1 (some ⟨w2.heap.size, 0, none⟩) W W ((List.replicate W (0 : Int)).map (Value.int .u8)) := by
    have e : (madeCells (Value.int .u8 0).cells (W * 1)).toList = (List.replicate W (0 : Int)).map (Value.int .u8) := by
      rw [Nat.mul_one, show (Value.int IntKind.u8 0).cells = #[Value.int IntKind.u8 0] from rfl, toList_madeCells_one, List.map_replicate]
    rw [← e]; exact hr
  have hb1 : Below w2.heap.size w2 w3 := ⟨hg.os, hg.tape, hg.output, hg.size, fun k hk => hg.block k hk (by simp)⟩
  have HS := Lib.hid (ho1.sl (L := List.replicate W 0) (fun x hx => wf_byte (by rw [(List.mem_replicate.1 hx).2]; exact ⟨by decide, by decide⟩))).2
  have K3 := Lib.hid (below_on K2.out hb1 K2.out.size)
  clear hr hg ho1 hb1 q1 q2 q3 q4 q5 q6 q7
  go_wp2_with (fail)
  go_returns
  exact ⟨_, W, W, rfl, Lib.hid (by rw [← HL.out, HPUT.out]; simp), Lib.hid (by rw [← HL.out, HPUT.out]; exact HS.out), K3.out⟩

set_option maxHeartbeats 4000000 in
set_option maxRecDepth 100000 in
theorem putw_2 (p : FM) (w : World) (hp : p.ok w) (hs : p.f.id ≤ 4611686018427387903 ∧ p.f.max ≤ 4611686018427387903 ∧ p.f.code ≤ 4611686018427387903 ∧ p.f.delay ≤ 4611686018427387903 ∧ p.f.e0 ≤ 4611686018427387903 ∧ p.f.e1 ≤ 4611686018427387903 ∧ p.f.e2 ≤ 4611686018427387903 ∧ p.f.off ≤ 4611686018427387903) (hdl : p.f.data.length ≤ 1000000) (hm : mayF p.f = true) (hal : p.f.acks.length ≤ 100000000) (hk : p.f.kind = 2) :
    Calls Try.prog 21 #[.agg p.vals] w fun e w' => ∃ a' cap' m, e = .returned (.slice a' m cap') ∧ Hid (m = (putF p.f).length) ∧ Hid (Sl .u8 w' a' cap' (putF p.f)) ∧ Below w.heap.size w w' := by
  have hs' := hs
  have FX := hp.fr
  have uk := FX.kind
  have ui := FX.id
  have uo := FX.off
  have um := FX.max
  have uc := FX.code
  have un := FX.n
  unfold U64 at uk ui uo um uc un
  have h16 := FX.tok16
  have hboxn := Blk.new w p.vals 36
  have FCX := FB.fc (p := p) hboxn h16
  have hw1 := (Below.refl w.heap.size w).alloc (Nat.le_refl _) (.cells p.vals 36)
  have hz1 : w.heap.size < (w.alloc (.cells p.vals 36)).heap.size := by simp
  have HP := Lib.hid hp
  obtain ⟨L, hL⟩ : ∃ L, putF p.f = L := ⟨_, rfl⟩
  have HL := Lib.hid hL
  rw [hL]
  clear hp FX hL hs'
  go_enter Try.func21, Try.ntmps21
  go_upto_region 1 with (fail)
  generalize w.alloc (.cells p.vals 36) = w1 at *
  go_wp2_with (with_reducible refine stop_stn ?_)
  refine Stop.out ?_
  refine wpList_storeFn rfl rfl rfl rfl (blk_at rfl rfl) ?_
  intro w2 hn2 o2
  have z2 := o2.size
  simp only [World.size_alloc] at z2
  have lz2 : w.heap.size < w2.heap.size := by omega
  have hf2 : FB w2 w.heap.size p := o2.blk (Blk.alloc hboxn _) (by omega)
  have k2 : Below w.heap.size w w2 := below_onto (hw1.alloc (by omega) _) o2 (by simp; omega) (by intro z hz h; omega)
  have hd2 := HP.out.d.below k2
  have FC2 := FB.fc hf2 h16
  have cn := Blk.cell hn2 0 _ rfl
  have c0 := FC2.c0
  rw [hk] at c0
  have c1 := FC2.c1
  have c2 := FC2.c2
  have c3 := FC2.c3
  have c4 := FC2.c4
  have c5 := FC2.c5
  have c6 := FC2.c6
  have HN2 := Lib.hid hn2
  have HF2 := Lib.hid hf2
  have K2 := Lib.hid k2
  have HD2 := Lib.hid hd2
  have H16 := Lib.hid h16
  have HK := Lib.hid hk
  clear hn2 hf2 k2 hd2 FC2 o2 hw1 hboxn FCX h16 hk
  generalize w1.heap.size = bn at *
  obtain ⟨s1, s2, s3, s4, _, _, _, s8⟩ := hs
  have HM := Lib.hid hm
  clear hm
  go_wp2_with (with_reducible refine stop_ldf ?_)
  refine Stop.out ?_
  refine wpList_loadF rfl rfl p H16.out rfl HF2.out ?_
  go_wp2_with (fail)
  refine (ranges_any p _ (HP.out.below K2.out) (Or.inl HK.out) HM.out hal).mono ?_
  rintro e w3 ⟨a3, e3, rfl, O3, b3⟩
  have K3 := Lib.hid (below_on K2.out b3 K2.out.size)
  have HO3 := Lib.hid O3
  rw [HL.out]
  obtain ⟨m3, hm3⟩ : ∃ m, L.length = m := ⟨_, rfl⟩
  have M3 := Lib.hid hm3
  rw [hm3]
  clear O3 b3 hm3
  go_wp2_with (fail)
  go_returns
  exact ⟨a3, e3, m3, rfl, Lib.hid (by rw [M3.out]), Lib.hid (by have := HO3.out.sl; rwa [HL.out] at this), K3.out⟩

set_option maxHeartbeats 4000000 in
set_option maxRecDepth 100000 in
theorem putw_3 (p : FM) (w : World) (hp : p.ok w) (hs : p.f.id ≤ 4611686018427387903 ∧ p.f.max ≤ 4611686018427387903 ∧ p.f.code ≤ 4611686018427387903 ∧ p.f.delay ≤ 4611686018427387903 ∧ p.f.e0 ≤ 4611686018427387903 ∧ p.f.e1 ≤ 4611686018427387903 ∧ p.f.e2 ≤ 4611686018427387903 ∧ p.f.off ≤ 4611686018427387903) (hdl : p.f.data.length ≤ 1000000) (hm : mayF p.f = true) (hal : p.f.acks.length ≤ 100000000) (hk : p.f.kind = 3) :
    Calls Try.prog 21 #[.agg p.vals] w fun e w' => ∃ a' cap' m, e = .returned (.slice a' m cap') ∧ Hid (m = (putF p.f).length) ∧ Hid (Sl .u8 w' a' cap' (putF p.f)) ∧ Below w.heap.size w w' := by
  have hs' := hs
  have FX := hp.fr
  have uk := FX.kind
  have ui := FX.id
  have uo := FX.off
  have um := FX.max
  have uc := FX.code
  have un := FX.n
  unfold U64 at uk ui uo um uc un
  have h16 := FX.tok16
  have hboxn := Blk.new w p.vals 36
  have FCX := FB.fc (p := p) hboxn h16
  have hw1 := (Below.refl w.heap.size w).alloc (Nat.le_refl _) (.cells p.vals 36)
  have hz1 : w.heap.size < (w.alloc (.cells p.vals 36)).heap.size := by simp
  have HP := Lib.hid hp
  obtain ⟨L, hL⟩ : ∃ L, putF p.f = L := ⟨_, rfl⟩
  have HL := Lib.hid hL
  rw [hL]
  clear hp FX hL hs'
  go_enter Try.func21, Try.ntmps21
  go_upto_region 1 with (fail)
  generalize w.alloc (.cells p.vals 36) = w1 at *
  go_wp2_with (with_reducible refine stop_stn ?_)
  refine Stop.out ?_
  refine wpList_storeFn rfl rfl rfl rfl (blk_at rfl rfl) ?_
  intro w2 hn2 o2
  have z2 := o2.size
  simp only [World.size_alloc] at z2
  have lz2 : w.heap.size < w2.heap.size := by omega
  have hf2 : FB w2 w.heap.size p := o2.blk (Blk.alloc hboxn _) (by omega)
  have k2 : Below w.heap.size w w2 := below_onto (hw1.alloc (by omega) _) o2 (by simp; omega) (by intro z hz h; omega)
  have hd2 := HP.out.d.below k2
  have FC2 := FB.fc hf2 h16
  have cn := Blk.cell hn2 0 _ rfl
  have c0 := FC2.c0
  rw [hk] at c0
  have c1 := FC2.c1
  have c2 := FC2.c2
  have c3 := FC2.c3
  have c4 := FC2.c4
  have c5 := FC2.c5
  have c6 := FC2.c6
  have HN2 := Lib.hid hn2
  have HF2 := Lib.hid hf2
  have K2 := Lib.hid k2
  have HD2 := Lib.hid hd2
  have H16 := Lib.hid h16
  have HK := Lib.hid hk
  clear hn2 hf2 k2 hd2 FC2 o2 hw1 hboxn FCX h16 hk
  generalize w1.heap.size = bn at *
  obtain ⟨s1, s2, s3, s4, _, _, _, s8⟩ := hs
  have HM := Lib.hid hm
  clear hm
  go_wp2_with (with_reducible refine stop_ldf ?_)
  refine Stop.out ?_
  refine wpList_loadF rfl rfl p H16.out rfl HF2.out ?_
  go_wp2_with (fail)
  refine (ranges_any p _ (HP.out.below K2.out) (Or.inr HK.out) HM.out hal).mono ?_
  rintro e w3 ⟨a3, e3, rfl, O3, b3⟩
  have K3 := Lib.hid (below_on K2.out b3 K2.out.size)
  have HO3 := Lib.hid O3
  rw [HL.out]
  obtain ⟨m3, hm3⟩ : ∃ m, L.length = m := ⟨_, rfl⟩
  have M3 := Lib.hid hm3
  rw [hm3]
  clear O3 b3 hm3
  go_wp2_with (fail)
  go_returns
  exact ⟨a3, e3, m3, rfl, Lib.hid (by rw [M3.out]), Lib.hid (by have := HO3.out.sl; rwa [HL.out] at this), K3.out⟩

set_option maxHeartbeats 4000000 in
set_option maxRecDepth 100000 in
theorem putw_8 (p : FM) (w : World) (hp : p.ok w) (hs : p.f.id ≤ 4611686018427387903 ∧ p.f.max ≤ 4611686018427387903 ∧ p.f.code ≤ 4611686018427387903 ∧ p.f.delay ≤ 4611686018427387903 ∧ p.f.e0 ≤ 4611686018427387903 ∧ p.f.e1 ≤ 4611686018427387903 ∧ p.f.e2 ≤ 4611686018427387903 ∧ p.f.off ≤ 4611686018427387903) (hdl : p.f.data.length ≤ 1000000) (hfin : p.f.fin = false) (hoff : p.f.off = 0) (hk : p.f.kind = 8) :
    Calls Try.prog 21 #[.agg p.vals] w fun e w' => ∃ a' cap' m, e = .returned (.slice a' m cap') ∧ Hid (m = (putF p.f).length) ∧ Hid (Sl .u8 w' a' cap' (putF p.f)) ∧ Below w.heap.size w w' := by
  have hs' := hs
  have FX := hp.fr
  have uk := FX.kind
  have ui := FX.id
  have uo := FX.off
  have um := FX.max
  have uc := FX.code
  have un := FX.n
  unfold U64 at uk ui uo um uc un
  have h16 := FX.tok16
  have hboxn := Blk.new w p.vals 36
  have FCX := FB.fc (p := p) hboxn h16
  have hw1 := (Below.refl w.heap.size w).alloc (Nat.le_refl _) (.cells p.vals 36)
  have hz1 : w.heap.size < (w.alloc (.cells p.vals 36)).heap.size := by simp
  have HP := Lib.hid hp
  obtain ⟨L, hL⟩ : ∃ L, putF p.f = L := ⟨_, rfl⟩
  have HL := Lib.hid hL
  rw [hL]
  clear hp FX hL hs'
  go_enter Try.func21, Try.ntmps21
  go_upto_region 1 with (fail)
  generalize w.alloc (.cells p.vals 36) = w1 at *
  go_wp2_with (with_reducible refine stop_stn ?_)
  refine Stop.out ?_
  refine wpList_storeFn rfl rfl rfl rfl (blk_at rfl rfl) ?_
  intro w2 hn2 o2
  have z2 := o2.size
  simp only [World.size_alloc] at z2
  have lz2 : w.heap.size < w2.heap.size := by omega
  have hf2 : FB w2 w.heap.size p := o2.blk (Blk.alloc hboxn _) (by omega)
  have k2 : Below w.heap.size w w2 := below_onto (hw1.alloc (by omega) _) o2 (by simp; omega) (by intro z hz h; omega)
  have hd2 := HP.out.d.below k2
  have FC2 := FB.fc hf2 h16
  have cn := Blk.cell hn2 0 _ rfl
  have c0 := FC2.c0
  rw [hk] at c0
  have c1 := FC2.c1
  have c2 := FC2.c2
  have c3 := FC2.c3
  have c4 := FC2.c4
  have c5 := FC2.c5
  have c6 := FC2.c6
  have HN2 := Lib.hid hn2
  have HF2 := Lib.hid hf2
  have K2 := Lib.hid k2
  have HD2 := Lib.hid hd2
  have H16 := Lib.hid h16
  have HK := Lib.hid hk
  clear hn2 hf2 k2 hd2 FC2 o2 hw1 hboxn FCX h16 hk
  generalize w1.heap.size = bn at *
  obtain ⟨s1, s2, s3, s4, _, _, _, s8⟩ := hs
  have hput : putF p.f = encs [10, p.f.id] ++ [] ++ sizedB p.f.data := by
    have hk := HK.out
    unfold putF
    rw [hk, hfin]
    simp [encs, hoff]
  have HPUT := Lib.hid hput
  clear hput
  rw [hfin] at c6
  rw [hoff] at c2
  go_wp2_with (fail)
  refine (n_new [10, p.f.id] _ _ _ _ rfl rfl rfl (by intro x hx; simp at hx; omega) (by simp)).mono ?_
  rintro e w3 ⟨a3, e3, m3, rfl, M3, O3, b3⟩
  have K3 := Lib.hid (below_on K2.out b3 K2.out.size)
  have lz3 : w.heap.size < w3.heap.size := by have := b3.size; omega
  have B3 := Lib.hid b3
  clear b3
  go_wp2_with (fail)
  refine (sized_new bn w.heap.size p _ (Blk.below HN2.out B3.out) (Blk.below HF2.out B3.out) (HD2.out.below B3.out) (by omega)).mono ?_
  rintro e w4 ⟨a4, e4, m4, rfl, M4, O4, b4⟩
  have K4 := Lib.hid (below_on K3.out b4 K3.out.size)
  have B4 := Lib.hid b4
  clear b4
  go_wp2_with (fail)
  refine (cats [⟨a3, e3, encs [10, p.f.id]⟩, ⟨none, 0, []⟩, ⟨a4, e4, sizedB p.f.data⟩] (putF p.f) _ 3 w4 _ (by rw [HPUT.out]; simp [catB]) rfl (by rw [M3.out, M4.out]; rfl) rfl (by decide) (by decide) (by intro q hq; simp at hq; rcases hq with rfl | rfl | rfl; exact (O3.out.below B4.out).sl; exact Sl.nil _ _; exact O4.out.sl) (by rw [HPUT.out]; have := sizedB_len p.f.data; have h1 : (encs [10, p.f.id]).length ≤ 8 * ([10, p.f.id] : List Int).length := encs_len (by intro x hx; simp at hx; omega); have h2 : (encs [p.f.off]).length ≤ 8 * ([p.f.off] : List Int).length := encs_len (by intro x hx; simp at hx; omega); simp only [List.length_append, List.length_cons, List.length_nil] at h1 h2 ⊢; omega)).mono ?_
  rintro e w6 ⟨a6, e6, m6, rfl, M6, O6, b6⟩
  have K6 := Lib.hid (below_on K4.out b6 K4.out.size)
  go_wp2_with (fail)
  go_returns
  exact ⟨_, e6, m6, rfl, Lib.hid (by rw [M6.out, HL.out]), Lib.hid (by rw [← HL.out]; exact O6.out), K6.out⟩

set_option maxHeartbeats 4000000 in
set_option maxRecDepth 100000 in
theorem putw_8f (p : FM) (w : World) (hp : p.ok w) (hs : p.f.id ≤ 4611686018427387903 ∧ p.f.max ≤ 4611686018427387903 ∧ p.f.code ≤ 4611686018427387903 ∧ p.f.delay ≤ 4611686018427387903 ∧ p.f.e0 ≤ 4611686018427387903 ∧ p.f.e1 ≤ 4611686018427387903 ∧ p.f.e2 ≤ 4611686018427387903 ∧ p.f.off ≤ 4611686018427387903) (hdl : p.f.data.length ≤ 1000000) (hfin : p.f.fin = true) (hoff : p.f.off = 0) (hk : p.f.kind = 8) :
    Calls Try.prog 21 #[.agg p.vals] w fun e w' => ∃ a' cap' m, e = .returned (.slice a' m cap') ∧ Hid (m = (putF p.f).length) ∧ Hid (Sl .u8 w' a' cap' (putF p.f)) ∧ Below w.heap.size w w' := by
  have hs' := hs
  have FX := hp.fr
  have uk := FX.kind
  have ui := FX.id
  have uo := FX.off
  have um := FX.max
  have uc := FX.code
  have un := FX.n
  unfold U64 at uk ui uo um uc un
  have h16 := FX.tok16
  have hboxn := Blk.new w p.vals 36
  have FCX := FB.fc (p := p) hboxn h16
  have hw1 := (Below.refl w.heap.size w).alloc (Nat.le_refl _) (.cells p.vals 36)
  have hz1 : w.heap.size < (w.alloc (.cells p.vals 36)).heap.size := by simp
  have HP := Lib.hid hp
  obtain ⟨L, hL⟩ : ∃ L, putF p.f = L := ⟨_, rfl⟩
  have HL := Lib.hid hL
  rw [hL]
  clear hp FX hL hs'
  go_enter Try.func21, Try.ntmps21
  go_upto_region 1 with (fail)
  generalize w.alloc (.cells p.vals 36) = w1 at *
  go_wp2_with (with_reducible refine stop_stn ?_)
  refine Stop.out ?_
  refine wpList_storeFn rfl rfl rfl rfl (blk_at rfl rfl) ?_
  intro w2 hn2 o2
  have z2 := o2.size
  simp only [World.size_alloc] at z2
  have lz2 : w.heap.size < w2.heap.size := by omega
  have hf2 : FB w2 w.heap.size p := o2.blk (Blk.alloc hboxn _) (by omega)
  have k2 : Below w.heap.size w w2 := below_onto (hw1.alloc (by omega) _) o2 (by simp; omega) (by intro z hz h; omega)
  have hd2 := HP.out.d.below k2
  have FC2 := FB.fc hf2 h16
  have cn := Blk.cell hn2 0 _ rfl
  have c0 := FC2.c0
  rw [hk] at c0
  have c1 := FC2.c1
  have c2 := FC2.c2
  have c3 := FC2.c3
  have c4 := FC2.c4
  have c5 := FC2.c5
  have c6 := FC2.c6
  have HN2 := Lib.hid hn2
  have HF2 := Lib.hid hf2
  have K2 := Lib.hid k2
  have HD2 := Lib.hid hd2
  have H16 := Lib.hid h16
  have HK := Lib.hid hk
  clear hn2 hf2 k2 hd2 FC2 o2 hw1 hboxn FCX h16 hk
  generalize w1.heap.size = bn at *
  obtain ⟨s1, s2, s3, s4, _, _, _, s8⟩ := hs
  have hput : putF p.f = encs [11, p.f.id] ++ [] ++ sizedB p.f.data := by
    have hk := HK.out
    unfold putF
    rw [hk, hfin]
    simp [encs, hoff]
  have HPUT := Lib.hid hput
  clear hput
  rw [hfin] at c6
  rw [hoff] at c2
  go_wp2_with (fail)
  refine (n_new [11, p.f.id] _ _ _ _ rfl rfl rfl (by intro x hx; simp at hx; omega) (by simp)).mono ?_
  rintro e w3 ⟨a3, e3, m3, rfl, M3, O3, b3⟩
  have K3 := Lib.hid (below_on K2.out b3 K2.out.size)
  have lz3 : w.heap.size < w3.heap.size := by have := b3.size; omega
  have B3 := Lib.hid b3
  clear b3
  go_wp2_with (fail)
  refine (sized_new bn w.heap.size p _ (Blk.below HN2.out B3.out) (Blk.below HF2.out B3.out) (HD2.out.below B3.out) (by omega)).mono ?_
  rintro e w4 ⟨a4, e4, m4, rfl, M4, O4, b4⟩
  have K4 := Lib.hid (below_on K3.out b4 K3.out.size)
  have B4 := Lib.hid b4
  clear b4
  go_wp2_with (fail)
  refine (cats [⟨a3, e3, encs [11, p.f.id]⟩, ⟨none, 0, []⟩, ⟨a4, e4, sizedB p.f.data⟩] (putF p.f) _ 3 w4 _ (by rw [HPUT.out]; simp [catB]) rfl (by rw [M3.out, M4.out]; rfl) rfl (by decide) (by decide) (by intro q hq; simp at hq; rcases hq with rfl | rfl | rfl; exact (O3.out.below B4.out).sl; exact Sl.nil _ _; exact O4.out.sl) (by rw [HPUT.out]; have := sizedB_len p.f.data; have h1 : (encs [11, p.f.id]).length ≤ 8 * ([11, p.f.id] : List Int).length := encs_len (by intro x hx; simp at hx; omega); have h2 : (encs [p.f.off]).length ≤ 8 * ([p.f.off] : List Int).length := encs_len (by intro x hx; simp at hx; omega); simp only [List.length_append, List.length_cons, List.length_nil] at h1 h2 ⊢; omega)).mono ?_
  rintro e w6 ⟨a6, e6, m6, rfl, M6, O6, b6⟩
  have K6 := Lib.hid (below_on K4.out b6 K4.out.size)
  go_wp2_with (fail)
  go_returns
  exact ⟨_, e6, m6, rfl, Lib.hid (by rw [M6.out, HL.out]), Lib.hid (by rw [← HL.out]; exact O6.out), K6.out⟩

set_option maxHeartbeats 4000000 in
set_option maxRecDepth 100000 in
theorem putw_8o (p : FM) (w : World) (hp : p.ok w) (hs : p.f.id ≤ 4611686018427387903 ∧ p.f.max ≤ 4611686018427387903 ∧ p.f.code ≤ 4611686018427387903 ∧ p.f.delay ≤ 4611686018427387903 ∧ p.f.e0 ≤ 4611686018427387903 ∧ p.f.e1 ≤ 4611686018427387903 ∧ p.f.e2 ≤ 4611686018427387903 ∧ p.f.off ≤ 4611686018427387903) (hdl : p.f.data.length ≤ 1000000) (hfin : p.f.fin = false) (hoff : 0 < p.f.off) (hk : p.f.kind = 8) :
    Calls Try.prog 21 #[.agg p.vals] w fun e w' => ∃ a' cap' m, e = .returned (.slice a' m cap') ∧ Hid (m = (putF p.f).length) ∧ Hid (Sl .u8 w' a' cap' (putF p.f)) ∧ Below w.heap.size w w' := by
  have hs' := hs
  have FX := hp.fr
  have uk := FX.kind
  have ui := FX.id
  have uo := FX.off
  have um := FX.max
  have uc := FX.code
  have un := FX.n
  unfold U64 at uk ui uo um uc un
  have h16 := FX.tok16
  have hboxn := Blk.new w p.vals 36
  have FCX := FB.fc (p := p) hboxn h16
  have hw1 := (Below.refl w.heap.size w).alloc (Nat.le_refl _) (.cells p.vals 36)
  have hz1 : w.heap.size < (w.alloc (.cells p.vals 36)).heap.size := by simp
  have HP := Lib.hid hp
  obtain ⟨L, hL⟩ : ∃ L, putF p.f = L := ⟨_, rfl⟩
  have HL := Lib.hid hL
  rw [hL]
  clear hp FX hL hs'
  go_enter Try.func21, Try.ntmps21
  go_upto_region 1 with (fail)
  generalize w.alloc (.cells p.vals 36) = w1 at *
  go_wp2_with (with_reducible refine stop_stn ?_)
  refine Stop.out ?_
  refine wpList_storeFn rfl rfl rfl rfl (blk_at rfl rfl) ?_
  intro w2 hn2 o2
  have z2 := o2.size
  simp only [World.size_alloc] at z2
  have lz2 : w.heap.size < w2.heap.size := by omega
  have hf2 : FB w2 w.heap.size p := o2.blk (Blk.alloc hboxn _) (by omega)
  have k2 : Below w.heap.size w w2 := below_onto (hw1.alloc (by omega) _) o2 (by simp; omega) (by intro z hz h; omega)
  have hd2 := HP.out.d.below k2
  have FC2 := FB.fc hf2 h16
  have cn := Blk.cell hn2 0 _ rfl
  have c0 := FC2.c0
  rw [hk] at c0
  have c1 := FC2.c1
  have c2 := FC2.c2
  have c3 := FC2.c3
  have c4 := FC2.c4
  have c5 := FC2.c5
  have c6 := FC2.c6
  have HN2 := Lib.hid hn2
  have HF2 := Lib.hid hf2
  have K2 := Lib.hid k2
  have HD2 := Lib.hid hd2
  have H16 := Lib.hid h16
  have HK := Lib.hid hk
  clear hn2 hf2 k2 hd2 FC2 o2 hw1 hboxn FCX h16 hk
  generalize w1.heap.size = bn at *
  obtain ⟨s1, s2, s3, s4, _, _, _, s8⟩ := hs
  have hput : putF p.f = encs [14, p.f.id] ++ encs [p.f.off] ++ sizedB p.f.data := by
    have hk := HK.out
    unfold putF
    rw [hk, hfin]
    simp [encs, hoff]
  have HPUT := Lib.hid hput
  clear hput
  rw [hfin] at c6
  have go : decide (0 < p.f.off) = true := by simp; omega
  go_wp2_with (fail)
  refine (n_new [p.f.off] _ _ w2 _ rfl rfl rfl (by intro x hx; simp at hx; omega) (by simp)).mono ?_
  rintro e w5 ⟨a5, e5, m5, rfl, M5, O5, b5⟩
  have K5 := Lib.hid (below_on K2.out b5 K2.out.size)
  have lz5 : w.heap.size < w5.heap.size := by have := b5.size; omega
  have B5 := Lib.hid b5
  clear b5
  have cn5 := Blk.cell (Blk.below HN2.out B5.out) 0 _ rfl
  have cf5 := FB.fc (FB.below HF2.out B5.out) H16.out
  have d0 := cf5.c0
  have d1 := cf5.c1
  rw [HK.out] at d0
  clear cf5
  go_wp2_with (fail)
  refine (n_new [14, p.f.id] _ _ _ _ rfl rfl rfl (by intro x hx; simp at hx; omega) (by simp)).mono ?_
  rintro e w3 ⟨a3, e3, m3, rfl, M3, O3, b3⟩
  have K3 := Lib.hid (below_on K5.out b3 K5.out.size)
  have lz3 : w.heap.size < w3.heap.size := by have := b3.size; omega
  have B3 := Lib.hid (below_on B5.out b3 B5.out.size)
  have B53 := Lib.hid b3
  clear b3
  go_wp2_with (fail)
  refine (sized_new bn w.heap.size p _ (Blk.below HN2.out B3.out) (Blk.below HF2.out B3.out) (HD2.out.below B3.out) (by omega)).mono ?_
  rintro e w4 ⟨a4, e4, m4, rfl, M4, O4, b4⟩
  have K4 := Lib.hid (below_on K3.out b4 K3.out.size)
  have B4 := Lib.hid b4
  clear b4
  go_wp2_with (fail)
  refine (cats [⟨a3, e3, encs [14, p.f.id]⟩, ⟨a5, e5, encs [p.f.off]⟩, ⟨a4, e4, sizedB p.f.data⟩] (putF p.f) _ 3 w4 _ (by rw [HPUT.out]; simp [catB]) rfl (by rw [M3.out, M4.out, M5.out]; rfl) rfl (by decide) (by decide) (by intro q hq; simp at hq; rcases hq with rfl | rfl | rfl; exact (O3.out.below B4.out).sl; exact (O5.out.below (below_on B53.out B4.out B53.out.size)).sl; exact O4.out.sl) (by rw [HPUT.out]; have := sizedB_len p.f.data; have h1 : (encs [14, p.f.id]).length ≤ 8 * ([14, p.f.id] : List Int).length := encs_len (by intro x hx; simp at hx; omega); have h2 : (encs [p.f.off]).length ≤ 8 * ([p.f.off] : List Int).length := encs_len (by intro x hx; simp at hx; omega); simp only [List.length_append, List.length_cons, List.length_nil] at h1 h2 ⊢; omega)).mono ?_
  rintro e w6 ⟨a6, e6, m6, rfl, M6, O6, b6⟩
  have K6 := Lib.hid (below_on K4.out b6 K4.out.size)
  go_wp2_with (fail)
  go_returns
  exact ⟨_, e6, m6, rfl, Lib.hid (by rw [M6.out, HL.out]), Lib.hid (by rw [← HL.out]; exact O6.out), K6.out⟩

set_option maxHeartbeats 4000000 in
set_option maxRecDepth 100000 in
theorem putw_8fo (p : FM) (w : World) (hp : p.ok w) (hs : p.f.id ≤ 4611686018427387903 ∧ p.f.max ≤ 4611686018427387903 ∧ p.f.code ≤ 4611686018427387903 ∧ p.f.delay ≤ 4611686018427387903 ∧ p.f.e0 ≤ 4611686018427387903 ∧ p.f.e1 ≤ 4611686018427387903 ∧ p.f.e2 ≤ 4611686018427387903 ∧ p.f.off ≤ 4611686018427387903) (hdl : p.f.data.length ≤ 1000000) (hfin : p.f.fin = true) (hoff : 0 < p.f.off) (hk : p.f.kind = 8) :
    Calls Try.prog 21 #[.agg p.vals] w fun e w' => ∃ a' cap' m, e = .returned (.slice a' m cap') ∧ Hid (m = (putF p.f).length) ∧ Hid (Sl .u8 w' a' cap' (putF p.f)) ∧ Below w.heap.size w w' := by
  have hs' := hs
  have FX := hp.fr
  have uk := FX.kind
  have ui := FX.id
  have uo := FX.off
  have um := FX.max
  have uc := FX.code
  have un := FX.n
  unfold U64 at uk ui uo um uc un
  have h16 := FX.tok16
  have hboxn := Blk.new w p.vals 36
  have FCX := FB.fc (p := p) hboxn h16
  have hw1 := (Below.refl w.heap.size w).alloc (Nat.le_refl _) (.cells p.vals 36)
  have hz1 : w.heap.size < (w.alloc (.cells p.vals 36)).heap.size := by simp
  have HP := Lib.hid hp
  obtain ⟨L, hL⟩ : ∃ L, putF p.f = L := ⟨_, rfl⟩
  have HL := Lib.hid hL
  rw [hL]
  clear hp FX hL hs'
  go_enter Try.func21, Try.ntmps21
  go_upto_region 1 with (fail)
  generalize w.alloc (.cells p.vals 36) = w1 at *
  go_wp2_with (with_reducible refine stop_stn ?_)
  refine Stop.out ?_
  refine wpList_storeFn rfl rfl rfl rfl (blk_at rfl rfl) ?_
  intro w2 hn2 o2
  have z2 := o2.size
  simp only [World.size_alloc] at z2
  have lz2 : w.heap.size < w2.heap.size := by omega
  have hf2 : FB w2 w.heap.size p := o2.blk (Blk.alloc hboxn _) (by omega)
  have k2 : Below w.heap.size w w2 := below_onto (hw1.alloc (by omega) _) o2 (by simp; omega) (by intro z hz h; omega)
  have hd2 := HP.out.d.below k2
  have FC2 := FB.fc hf2 h16
  have cn := Blk.cell hn2 0 _ rfl
  have c0 := FC2.c0
  rw [hk] at c0
  have c1 := FC2.c1
  have c2 := FC2.c2
  have c3 := FC2.c3
  have c4 := FC2.c4
  have c5 := FC2.c5
  have c6 := FC2.c6
  have HN2 := Lib.hid hn2
  have HF2 := Lib.hid hf2
  have K2 := Lib.hid k2
  have HD2 := Lib.hid hd2
  have H16 := Lib.hid h16
  have HK := Lib.hid hk
  clear hn2 hf2 k2 hd2 FC2 o2 hw1 hboxn FCX h16 hk
  generalize w1.heap.size = bn at *
  obtain ⟨s1, s2, s3, s4, _, _, _, s8⟩ := hs
  have hput : putF p.f = encs [15, p.f.id] ++ encs [p.f.off] ++ sizedB p.f.data := by
    have hk := HK.out
    unfold putF
    rw [hk, hfin]
    simp [encs, hoff]
  have HPUT := Lib.hid hput
  clear hput
  rw [hfin] at c6
  have go : decide (0 < p.f.off) = true := by simp; omega
  go_wp2_with (fail)
  refine (n_new [p.f.off] _ _ w2 _ rfl rfl rfl (by intro x hx; simp at hx; omega) (by simp)).mono ?_
  rintro e w5 ⟨a5, e5, m5, rfl, M5, O5, b5⟩
  have K5 := Lib.hid (below_on K2.out b5 K2.out.size)
  have lz5 : w.heap.size < w5.heap.size := by have := b5.size; omega
  have B5 := Lib.hid b5
  clear b5
  have cn5 := Blk.cell (Blk.below HN2.out B5.out) 0 _ rfl
  have cf5 := FB.fc (FB.below HF2.out B5.out) H16.out
  have d0 := cf5.c0
  have d1 := cf5.c1
  rw [HK.out] at d0
  clear cf5
  go_wp2_with (fail)
  refine (n_new [15, p.f.id] _ _ _ _ rfl rfl rfl (by intro x hx; simp at hx; omega) (by simp)).mono ?_
  rintro e w3 ⟨a3, e3, m3, rfl, M3, O3, b3⟩
  have K3 := Lib.hid (below_on K5.out b3 K5.out.size)
  have lz3 : w.heap.size < w3.heap.size := by have := b3.size; omega
  have B3 := Lib.hid (below_on B5.out b3 B5.out.size)
  have B53 := Lib.hid b3
  clear b3
  go_wp2_with (fail)
  refine (sized_new bn w.heap.size p _ (Blk.below HN2.out B3.out) (Blk.below HF2.out B3.out) (HD2.out.below B3.out) (by omega)).mono ?_
  rintro e w4 ⟨a4, e4, m4, rfl, M4, O4, b4⟩
  have K4 := Lib.hid (below_on K3.out b4 K3.out.size)
  have B4 := Lib.hid b4
  clear b4
  go_wp2_with (fail)
  refine (cats [⟨a3, e3, encs [15, p.f.id]⟩, ⟨a5, e5, encs [p.f.off]⟩, ⟨a4, e4, sizedB p.f.data⟩] (putF p.f) _ 3 w4 _ (by rw [HPUT.out]; simp [catB]) rfl (by rw [M3.out, M4.out, M5.out]; rfl) rfl (by decide) (by decide) (by intro q hq; simp at hq; rcases hq with rfl | rfl | rfl; exact (O3.out.below B4.out).sl; exact (O5.out.below (below_on B53.out B4.out B53.out.size)).sl; exact O4.out.sl) (by rw [HPUT.out]; have := sizedB_len p.f.data; have h1 : (encs [15, p.f.id]).length ≤ 8 * ([15, p.f.id] : List Int).length := encs_len (by intro x hx; simp at hx; omega); have h2 : (encs [p.f.off]).length ≤ 8 * ([p.f.off] : List Int).length := encs_len (by intro x hx; simp at hx; omega); simp only [List.length_append, List.length_cons, List.length_nil] at h1 h2 ⊢; omega)).mono ?_
  rintro e w6 ⟨a6, e6, m6, rfl, M6, O6, b6⟩
  have K6 := Lib.hid (below_on K4.out b6 K4.out.size)
  go_wp2_with (fail)
  go_returns
  exact ⟨_, e6, m6, rfl, Lib.hid (by rw [M6.out, HL.out]), Lib.hid (by rw [← HL.out]; exact O6.out), K6.out⟩

end Frm
end Go.Proofs.Ytcpjehgoeibbeaa

/- put: proofs, connection ids (written by gen_frw9.py). -/
namespace Go.Proofs.Ytcpjehgoeibbeaa
open Go.RowKit
set_option linter.unusedVariables false
namespace Frm
open Var

theorem n_at (a : Option Addr) (cap : Nat) (N : List Int) (k : Nat) (W : World) (hk : k = N.length) (hs : Sl .u64 W a cap N) (hN : ∀ x ∈ N, 0 ≤ x ∧ x ≤ 4611686018427387903) (hl : N.length ≤ 1000) :
    Calls Try.prog 35 #[.slice a k cap] W fun e w' => ∃ a' cap' m, e = .returned (.slice a' m cap') ∧ Hid (m = (encs N).length) ∧ Hid (OwB w' W.heap.size a' cap' (encs N)) ∧ Below W.heap.size W w' := by
  refine (n_any _ _ _ N _ hk hs (fun x hx => (hN x hx).2) (fun x hx => (hN x hx).1) (by omega)).mono ?_
  rintro e w2 ⟨a2, c2, rfl, ho2, hb2⟩
  exact ⟨a2, c2, _, rfl, Lib.hid rfl, Lib.hid ho2, hb2⟩
theorem FB.tokSl {w : World} {b : Nat} {p : FM} (h : FB w b p) (h16 : p.f.tok.length = 16) (hy : ∀ x ∈ p.f.tok, Byte x) : Sl .u8 w (some ⟨b, 9, none⟩) 16 p.f.tok := by
  refine ⟨fun i hi => ?_, (fun h => nomatch h), by omega, by decide⟩
  refine ⟨b, 9, rfl, Blk.lt h, h.tokAt h16 i _ (by simp [List.getD_eq_getElem?_getD, hi]), wf_byte (hy _ (by simp [hi]))⟩

set_option maxHeartbeats 4000000 in
set_option maxRecDepth 100000 in
theorem putw_26 (p : FM) (w : World) (hp : p.ok w) (hs : p.f.id ≤ 4611686018427387903 ∧ p.f.max ≤ 4611686018427387903 ∧ p.f.code ≤ 4611686018427387903 ∧ p.f.delay ≤ 4611686018427387903 ∧ p.f.e0 ≤ 4611686018427387903 ∧ p.f.e1 ≤ 4611686018427387903 ∧ p.f.e2 ≤ 4611686018427387903 ∧ p.f.off ≤ 4611686018427387903) (hdl : p.f.data.length ≤ 1000000)  (hk : p.f.kind = 26) :
    Calls Try.prog 21 #[.agg p.vals] w fun e w' => ∃ a' cap' m, e = .returned (.slice a' m cap') ∧ Hid (m = (putF p.f).length) ∧ Hid (Sl .u8 w' a' cap' (putF p.f)) ∧ Below w.heap.size w w' := by
  have hs' := hs
  have FX := hp.fr
  have uk := FX.kind
  have ui := FX.id
  have uo := FX.off
  have um := FX.max
  have uc := FX.code
  have un := FX.n
  unfold U64 at uk ui uo um uc un
  have h16 := FX.tok16
  have hboxn := Blk.new w p.vals 36
  have FCX := FB.fc (p := p) hboxn h16
  have hw1 := (Below.refl w.heap.size w).alloc (Nat.le_refl _) (.cells p.vals 36)
  have hz1 : w.heap.size < (w.alloc (.cells p.vals 36)).heap.size := by simp
  have HP := Lib.hid hp
  obtain ⟨L, hL⟩ : ∃ L, putF p.f = L := ⟨_, rfl⟩
  have HL := Lib.hid hL
  rw [hL]
  clear hp FX hL hs'
  go_enter Try.func21, Try.ntmps21
  go_upto_region 1 with (fail)
  generalize w.alloc (.cells p.vals 36) = w1 at *
  go_wp2_with (with_reducible refine stop_stn ?_)
  refine Stop.out ?_
  refine wpList_storeFn rfl rfl rfl rfl (blk_at rfl rfl) ?_
  intro w2 hn2 o2
  have z2 := o2.size
  simp only [World.size_alloc] at z2
  have lz2 : w.heap.size < w2.heap.size := by omega
  have hf2 : FB w2 w.heap.size p := o2.blk (Blk.alloc hboxn _) (by omega)
  have k2 : Below w.heap.size w w2 := below_onto (hw1.alloc (by omega) _) o2 (by simp; omega) (by intro z hz h; omega)
  have hd2 := HP.out.d.below k2
  have FC2 := FB.fc hf2 h16
  have cn := Blk.cell hn2 0 _ rfl
  have c0 := FC2.c0
  rw [hk] at c0
  have c1 := FC2.c1
  have c2 := FC2.c2
  have c3 := FC2.c3
  have c4 := FC2.c4
  have c5 := FC2.c5
  have c6 := FC2.c6
  have HN2 := Lib.hid hn2
  have HF2 := Lib.hid hf2
  have K2 := Lib.hid k2
  have HD2 := Lib.hid hd2
  have H16 := Lib.hid h16
  have HK := Lib.hid hk
  clear hn2 hf2 k2 hd2 FC2 o2 hw1 hboxn FCX h16 hk
  generalize w1.heap.size = bn at *
  obtain ⟨s1, s2, s3, s4, _, _, _, s8⟩ := hs
  have hput : putF p.f = encs [26] ++ p.f.data := by
    have hk := HK.out
    unfold putF; rw [hk]; simp [encs]
  have HPUT := Lib.hid hput
  clear hput
  obtain ⟨dl, hdl'⟩ : ∃ dl, p.f.data.length = dl := ⟨_, rfl⟩
  have HDL := Lib.hid hdl'
  have c7 : w2.cell? ⟨w.heap.size, 7, none⟩ = some (.slice p.da dl p.dc) := by rw [← hdl']; exact (FB.fc HF2.out H16.out).c7
  rw [hdl'] at hdl
  clear hdl'
  have lbn : bn < w2.heap.size := Blk.lt HN2.out
  go_wp2_with (fail)
  refine rg_start 11 ?_
  refine rg_below fun K hx hne hC hbel => ?_
  have kn := fun z : Wd K => (hx z _ 0 _ lbn).trans cn
  have k0 := fun z : Wd K => (hx z _ 0 _ lz2).trans c0
  have k7 := fun z : Wd K => (hx z _ 7 _ lz2).trans c7
  clear hx
  refine rg_quiet 5 [0,1,2,3,6,7] hC ?_
  simp only [pickD, List.map_cons, List.map_nil, List.getD_cons_zero, List.getD_cons_succ]; repeat (go_big_quiet_step (fail))
  refine wpQuiet_nil ?_
  refine rg_act 4 ?_
  go_wp2_with (fail)
  refine ⟨hbel _ (show Below w2.drew.heap.size w2.drew (w2.alloc (.cells #[.int .u64 26] 30)).drew from (Below.refl _ w2.drew).alloc (Nat.le_refl _) _), ?_⟩
  refine rg_act 5 ?_
  go_wp2_with (fail)
  refine (n_newd [26] _ _ w2 _ rfl rfl rfl (by intro x hx; simp at hx; omega) (by simp)).mono ?_
  rintro e w3 ⟨a3, e3, m3, rfl, M3, O3, b3⟩
  go_wp2_with (fail)
  refine ⟨hbel _ b3, ?_⟩
  have K3 := Lib.hid (show Below w.heap.size w w3 from below_on K2.out (show Below w2.heap.size w2 w3 from below_on (Below.refl _ w2).drew b3 (by simp)) K2.out.size)
  have HD3 := Lib.hid (HP.out.d.below K3.out)
  refine rg_act 8 ?_
  go_wp2_with (fail)
  refine ⟨hbel _ (below_on b3 ((Below.refl _ w3).alloc (Nat.le_refl _) _) b3.size), ?_⟩
  refine rg_cut 9 ?_
  go_wp2_with (fail)
  refine (cats [⟨a3, e3, encs [26]⟩, ⟨p.da, p.dc, p.f.data⟩] (putF p.f) _ 2 w3 _ (by rw [HPUT.out]; simp [catB]) rfl (by rw [M3.out, ← HDL.out]; rfl) rfl (by decide) (by decide) (by intro q hq; simp at hq; rcases hq with rfl | rfl; exact O3.out.sl; exact HD3.out) (by rw [HPUT.out]; have h1 : (encs [26]).length ≤ 8 * ([26] : List Int).length := encs_len (by intro x hx; simp at hx; omega); have := HDL.out; simp only [List.length_append, List.length_cons, List.length_nil] at h1 ⊢; omega)).mono ?_
  rintro e w6 ⟨a6, e6, m6, rfl, M6, O6, b6⟩
  have K6 := Lib.hid (below_on K3.out b6 K3.out.size)
  clear hbel hC b6 b3 hne
  go_wp2_with (fail)
  refine rg_below fun K hx hne hC hbel => ?_
  refine rg_quiet 0 [10] hC ?_
  simp only [pickD, List.map_cons, List.map_nil, List.getD_cons_zero, List.getD_cons_succ]; repeat (go_big_quiet_step (fail))
  refine wpQuiet_nil ?_
  refine rg_end ?_
  go_wp2_with (fail)
  go_returns
  exact ⟨_, e6, m6, rfl, Lib.hid (by rw [M6.out, HL.out]), Lib.hid (by rw [← HL.out]; exact O6.out), K6.out⟩

set_option maxHeartbeats 4000000 in
set_option maxRecDepth 100000 in
theorem putw_27 (p : FM) (w : World) (hp : p.ok w) (hs : p.f.id ≤ 4611686018427387903 ∧ p.f.max ≤ 4611686018427387903 ∧ p.f.code ≤ 4611686018427387903 ∧ p.f.delay ≤ 4611686018427387903 ∧ p.f.e0 ≤ 4611686018427387903 ∧ p.f.e1 ≤ 4611686018427387903 ∧ p.f.e2 ≤ 4611686018427387903 ∧ p.f.off ≤ 4611686018427387903) (hdl : p.f.data.length ≤ 1000000)  (hk : p.f.kind = 27) :
    Calls Try.prog 21 #[.agg p.vals] w fun e w' => ∃ a' cap' m, e = .returned (.slice a' m cap') ∧ Hid (m = (putF p.f).length) ∧ Hid (Sl .u8 w' a' cap' (putF p.f)) ∧ Below w.heap.size w w' := by
  have hs' := hs
  have FX := hp.fr
  have uk := FX.kind
  have ui := FX.id
  have uo := FX.off
  have um := FX.max
  have uc := FX.code
  have un := FX.n
  unfold U64 at uk ui uo um uc un
  have h16 := FX.tok16
  have hboxn := Blk.new w p.vals 36
  have FCX := FB.fc (p := p) hboxn h16
  have hw1 := (Below.refl w.heap.size w).alloc (Nat.le_refl _) (.cells p.vals 36)
  have hz1 : w.heap.size < (w.alloc (.cells p.vals 36)).heap.size := by simp
  have HP := Lib.hid hp
  obtain ⟨L, hL⟩ : ∃ L, putF p.f = L := ⟨_, rfl⟩
  have HL := Lib.hid hL
  rw [hL]
  clear hp FX hL hs'
  go_enter Try.func21, Try.ntmps21
  go_upto_region 1 with (fail)
  generalize w.alloc (.cells p.vals 36) = w1 at *
  go_wp2_with (with_reducible refine stop_stn ?_)
  refine Stop.out ?_
  refine wpList_storeFn rfl rfl rfl rfl (blk_at rfl rfl) ?_
  intro w2 hn2 o2
  have z2 := o2.size
  simp only [World.size_alloc] at z2
  have lz2 : w.heap.size < w2.heap.size := by omega
  have hf2 : FB w2 w.heap.size p := o2.blk (Blk.alloc hboxn _) (by omega)
  have k2 : Below w.heap.size w w2 := below_onto (hw1.alloc (by omega) _) o2 (by simp; omega) (by intro z hz h; omega)
  have hd2 := HP.out.d.below k2
  have FC2 := FB.fc hf2 h16
  have cn := Blk.cell hn2 0 _ rfl
  have c0 := FC2.c0
  rw [hk] at c0
  have c1 := FC2.c1
  have c2 := FC2.c2
  have c3 := FC2.c3
  have c4 := FC2.c4
  have c5 := FC2.c5
  have c6 := FC2.c6
  have HN2 := Lib.hid hn2
  have HF2 := Lib.hid hf2
  have K2 := Lib.hid k2
  have HD2 := Lib.hid hd2
  have H16 := Lib.hid h16
  have HK := Lib.hid hk
  clear hn2 hf2 k2 hd2 FC2 o2 hw1 hboxn FCX h16 hk
  generalize w1.heap.size = bn at *
  obtain ⟨s1, s2, s3, s4, _, _, _, s8⟩ := hs
  have hput : putF p.f = encs [27] ++ p.f.data := by
    have hk := HK.out
    unfold putF; rw [hk]; simp [encs]
  have HPUT := Lib.hid hput
  clear hput
  obtain ⟨dl, hdl'⟩ : ∃ dl, p.f.data.length = dl := ⟨_, rfl⟩
  have HDL := Lib.hid hdl'
  have c7 : w2.cell? ⟨w.heap.size, 7, none⟩ = some (.slice p.da dl p.dc) := by rw [← hdl']; exact (FB.fc HF2.out H16.out).c7
  rw [hdl'] at hdl
  clear hdl'
  have lbn : bn < w2.heap.size := Blk.lt HN2.out
  go_wp2_with (fail)
  refine rg_start 11 ?_
  refine rg_below fun K hx hne hC hbel => ?_
  have kn := fun z : Wd K => (hx z _ 0 _ lbn).trans cn
  have k0 := fun z : Wd K => (hx z _ 0 _ lz2).trans c0
  have k7 := fun z : Wd K => (hx z _ 7 _ lz2).trans c7
  clear hx
  refine rg_quiet 5 [0,1,2,3,6,7] hC ?_
  simp only [pickD, List.map_cons, List.map_nil, List.getD_cons_zero, List.getD_cons_succ]; repeat (go_big_quiet_step (fail))
  refine wpQuiet_nil ?_
  refine rg_act 4 ?_
  go_wp2_with (fail)
  refine ⟨hbel _ (show Below w2.drew.heap.size w2.drew (w2.alloc (.cells #[.int .u64 27] 30)).drew from (Below.refl _ w2.drew).alloc (Nat.le_refl _) _), ?_⟩
  refine rg_act 5 ?_
  go_wp2_with (fail)
  refine (n_newd [27] _ _ w2 _ rfl rfl rfl (by intro x hx; simp at hx; omega) (by simp)).mono ?_
  rintro e w3 ⟨a3, e3, m3, rfl, M3, O3, b3⟩
  go_wp2_with (fail)
  refine ⟨hbel _ b3, ?_⟩
  have K3 := Lib.hid (show Below w.heap.size w w3 from below_on K2.out (show Below w2.heap.size w2 w3 from below_on (Below.refl _ w2).drew b3 (by simp)) K2.out.size)
  have HD3 := Lib.hid (HP.out.d.below K3.out)
  refine rg_act 8 ?_
  go_wp2_with (fail)
  refine ⟨hbel _ (below_on b3 ((Below.refl _ w3).alloc (Nat.le_refl _) _) b3.size), ?_⟩
  refine rg_cut 9 ?_
  go_wp2_with (fail)
  refine (cats [⟨a3, e3, encs [27]⟩, ⟨p.da, p.dc, p.f.data⟩] (putF p.f) _ 2 w3 _ (by rw [HPUT.out]; simp [catB]) rfl (by rw [M3.out, ← HDL.out]; rfl) rfl (by decide) (by decide) (by intro q hq; simp at hq; rcases hq with rfl | rfl; exact O3.out.sl; exact HD3.out) (by rw [HPUT.out]; have h1 : (encs [27]).length ≤ 8 * ([27] : List Int).length := encs_len (by intro x hx; simp at hx; omega); have := HDL.out; simp only [List.length_append, List.length_cons, List.length_nil] at h1 ⊢; omega)).mono ?_
  rintro e w6 ⟨a6, e6, m6, rfl, M6, O6, b6⟩
  have K6 := Lib.hid (below_on K3.out b6 K3.out.size)
  clear hbel hC b6 b3 hne
  go_wp2_with (fail)
  refine rg_below fun K hx hne hC hbel => ?_
  refine rg_quiet 0 [10] hC ?_
  simp only [pickD, List.map_cons, List.map_nil, List.getD_cons_zero, List.getD_cons_succ]; repeat (go_big_quiet_step (fail))
  refine wpQuiet_nil ?_
  refine rg_end ?_
  go_wp2_with (fail)
  go_returns
  exact ⟨_, e6, m6, rfl, Lib.hid (by rw [M6.out, HL.out]), Lib.hid (by rw [← HL.out]; exact O6.out), K6.out⟩

set_option maxHeartbeats 4000000 in
set_option maxRecDepth 100000 in
theorem putw_24 (p : FM) (w : World) (hp : p.ok w) (hs : p.f.id ≤ 4611686018427387903 ∧ p.f.max ≤ 4611686018427387903 ∧ p.f.code ≤ 4611686018427387903 ∧ p.f.delay ≤ 4611686018427387903 ∧ p.f.e0 ≤ 4611686018427387903 ∧ p.f.e1 ≤ 4611686018427387903 ∧ p.f.e2 ≤ 4611686018427387903 ∧ p.f.off ≤ 4611686018427387903) (hdl : p.f.data.length ≤ 1000000) (hcl : p.f.cid.length ≤ 20) (hk : p.f.kind = 24) :
    Calls Try.prog 21 #[.agg p.vals] w fun e w' => ∃ a' cap' m, e = .returned (.slice a' m cap') ∧ Hid (m = (putF p.f).length) ∧ Hid (Sl .u8 w' a' cap' (putF p.f)) ∧ Below w.heap.size w w' := by
  have hs' := hs
  have FX := hp.fr
  have uk := FX.kind
  have ui := FX.id
  have uo := FX.off
  have um := FX.max
  have uc := FX.code
  have un := FX.n
  unfold U64 at uk ui uo um uc un
  have h16 := FX.tok16
  have hboxn := Blk.new w p.vals 36
  have FCX := FB.fc (p := p) hboxn h16
  have hw1 := (Below.refl w.heap.size w).alloc (Nat.le_refl _) (.cells p.vals 36)
  have hz1 : w.heap.size < (w.alloc (.cells p.vals 36)).heap.size := by simp
  have HP := Lib.hid hp
  obtain ⟨L, hL⟩ : ∃ L, putF p.f = L := ⟨_, rfl⟩
  have HL := Lib.hid hL
  rw [hL]
  clear hp FX hL hs'
  go_enter Try.func21, Try.ntmps21
  go_upto_region 1 with (fail)
  generalize w.alloc (.cells p.vals 36) = w1 at *
  go_wp2_with (with_reducible refine stop_stn ?_)
  refine Stop.out ?_
  refine wpList_storeFn rfl rfl rfl rfl (blk_at rfl rfl) ?_
  intro w2 hn2 o2
  have z2 := o2.size
  simp only [World.size_alloc] at z2
  have lz2 : w.heap.size < w2.heap.size := by omega
  have hf2 : FB w2 w.heap.size p := o2.blk (Blk.alloc hboxn _) (by omega)
  have k2 : Below w.heap.size w w2 := below_onto (hw1.alloc (by omega) _) o2 (by simp; omega) (by intro z hz h; omega)
  have hd2 := HP.out.d.below k2
  have FC2 := FB.fc hf2 h16
  have cn := Blk.cell hn2 0 _ rfl
  have c0 := FC2.c0
  rw [hk] at c0
  have c1 := FC2.c1
  have c2 := FC2.c2
  have c3 := FC2.c3
  have c4 := FC2.c4
  have c5 := FC2.c5
  have c6 := FC2.c6
  have HN2 := Lib.hid hn2
  have HF2 := Lib.hid hf2
  have K2 := Lib.hid k2
  have HD2 := Lib.hid hd2
  have H16 := Lib.hid h16
  have HK := Lib.hid hk
  clear hn2 hf2 k2 hd2 FC2 o2 hw1 hboxn FCX h16 hk
  generalize w1.heap.size = bn at *
  obtain ⟨s1, s2, s3, s4, _, _, _, s8⟩ := hs
  have hput : putF p.f = encs [24, p.f.id, p.f.max] ++ [(p.f.cid.length : Int)] ++ p.f.cid ++ p.f.tok := by
    have hk := HK.out
    unfold putF; rw [hk]; simp [encs]
  have HPUT := Lib.hid hput
  clear hput
  obtain ⟨cl, hcl'⟩ : ∃ dl, p.f.cid.length = dl := ⟨_, rfl⟩
  have HCL := Lib.hid hcl'
  have c8 : w2.cell? ⟨w.heap.size, 8, none⟩ = some (.slice p.ca cl p.cc) := by rw [← hcl']; exact (FB.fc HF2.out H16.out).c8
  rw [hcl'] at hcl
  clear hcl'
  have lbn : bn < w2.heap.size := Blk.lt HN2.out
  have HT2 := Lib.hid (FB.tokSl HF2.out H16.out HP.out.fr.tok)
  have HC2 := Lib.hid (HP.out.c.below K2.out)
  have mod : (cl : Int) % 256 = cl := by omega
  go_wp2_with (fail)
  refine rg_start 22 ?_
  refine rg_below fun K hx hne hC hbel => ?_
  have kn := fun z : Wd K => (hx z _ 0 _ lbn).trans cn
  have k0 := fun z : Wd K => (hx z _ 0 _ lz2).trans c0
  have k1 := fun z : Wd K => (hx z _ 1 _ lz2).trans c1
  have k3 := fun z : Wd K => (hx z _ 3 _ lz2).trans c3
  have k8 := fun z : Wd K => (hx z _ 8 _ lz2).trans c8
  clear hx
  refine rg_quiet 6 [0,1,2,3,4,5,6,7,10,11,12,13,15,16,17,18] hC ?_
  simp only [pickD, List.map_cons, List.map_nil, List.getD_cons_zero, List.getD_cons_succ]; repeat (go_big_quiet_step (fail))
  refine wpQuiet_nil ?_
  refine rg_among [8, 14] fun k hk => ?_
  rcases List.mem_cons.1 hk with rfl | hk
  · show wpList _ _ _ [_] _ _
    go_wp2_with (fail)
    have bwa : Below w2.heap.size w2 (w2.alloc (.cells #[.int .u64 24, .int .u64 p.f.id, .int .u64 p.f.max] 30)).drew := ((Below.refl _ _).alloc (Nat.le_refl _) _).drew
    have sa' := sl_new .u64 w2 30 [24, p.f.id, p.f.max] _ rfl (by intro x hx; simp at hx; exact u64_wf (by omega) (by omega)) (by simp [maxLen])
    obtain ⟨wa, hwwa⟩ : ∃ z, (w2.alloc (.cells #[.int .u64 24, .int .u64 p.f.id, .int .u64 p.f.max] 30)).drew = z := ⟨_, rfl⟩
    rw [hwwa] at bwa ⊢
    have sa : Sl .u64 wa (some ⟨w2.heap.size, 0, none⟩) 3 [24, p.f.id, p.f.max] := by rw [← hwwa]; exact sa'.below (Below.refl _ _).drew
    have kwa : Below w2.drew.heap.size w2.drew wa := by rw [← hwwa]; exact ((Below.refl _ w2.drew).alloc (Nat.le_refl _) _)
    clear hwwa sa'
    refine ⟨hbel _ kwa, ?_⟩
    refine rg_among [9, 14] fun k hk => ?_
    rcases List.mem_cons.1 hk with rfl | hk
    · show wpList _ _ _ [_] _ _
      go_wp2_with (fail)
      refine (n_at _ _ [24, p.f.id, p.f.max] _ wa rfl sa (by intro x hx; simp at hx; omega) (by simp)).mono ?_
      rintro e w3 ⟨a3, e3, m3, rfl, M3, O3, bw3⟩
      have kw3 := below_on kwa bw3 kwa.size
      go_wp2_with (fail)
      refine ⟨hbel _ kw3, ?_⟩
      refine rg_act 14 ?_
      go_wp2_with (fail)
      have bwb : Below w3.heap.size w3 (w3.alloc (.cells #[.int .u8 (cl : Int)] 5)) := ((Below.refl _ _).alloc (Nat.le_refl _) _)
      have sb' := sl_new .u8 w3 5 [(cl : Int)] _ rfl (by intro x hx; simp at hx; exact wf_byte ⟨by omega, by omega⟩) (by simp [maxLen])
      obtain ⟨wb, hwwb⟩ : ∃ z, (w3.alloc (.cells #[.int .u8 (cl : Int)] 5)) = z := ⟨_, rfl⟩
      rw [hwwb] at bwb ⊢
      have sb : Sl .u8 wb (some ⟨w3.heap.size, 0, none⟩) 1 [(cl : Int)] := by rw [← hwwb]; exact sb'
      have kwb := below_on kw3 bwb kw3.size
      clear hwwb sb'
      refine ⟨hbel _ kwb, ?_⟩
      have kz := Lib.hid (show Below w.heap.size w wb from below_on K2.out (show Below w2.heap.size w2 wb from below_on (Below.refl _ w2).drew kwb (by simp)) K2.out.size)
      have kz2 := Lib.hid (show Below w2.heap.size w2 wb from below_on (Below.refl _ w2).drew kwb (by simp))
      have OZ := Lib.hid (O3.out.below bwb)
      have BZ := Lib.hid sb
      refine rg_act 19 ?_
      go_wp2_with (fail)
      refine ⟨hbel _ (below_on kwb ((Below.refl _ wb).alloc (Nat.le_refl _) _) kwb.size), ?_⟩
      refine rg_cut 20 ?_
      go_wp2_with (fail)
      refine (cats [⟨a3, e3, encs [24, p.f.id, p.f.max]⟩, ⟨_, 1, [(cl : Int)]⟩, ⟨p.ca, p.cc, p.f.cid⟩, ⟨some ⟨w.heap.size, 9, none⟩, 16, p.f.tok⟩] (putF p.f) _ 4 wb _ (by rw [HPUT.out, HCL.out]; simp [catB]) rfl (by rw [M3.out, ← HCL.out]; simp only [List.map_cons, List.map_nil, Part.val, H16.out]; rfl) rfl (by decide) (by decide) (by intro q hq; simp at hq; rcases hq with rfl | rfl | rfl | rfl; exact OZ.out.sl; exact BZ.out; exact HC2.out.below kz2.out; exact HT2.out.below kz2.out) (by rw [HPUT.out]; have h1 : (encs [24, p.f.id, p.f.max]).length ≤ 8 * ([24, p.f.id, p.f.max] : List Int).length := encs_len (by intro x hx; simp at hx; omega); have := HCL.out; have := H16.out; simp only [List.length_append, List.length_cons, List.length_nil] at h1 ⊢; omega)).mono ?_
      rintro e w6 ⟨a6, e6, m6, rfl, M6, O6, b6⟩
      have K6 := Lib.hid (below_on kz.out b6 kz.out.size)
      clear hbel hC b6 hne
      go_wp2_with (fail)
      refine rg_below fun K hx hne hC hbel => ?_
      refine rg_quiet 0 [21] hC ?_
      simp only [pickD, List.map_cons, List.map_nil, List.getD_cons_zero, List.getD_cons_succ]; repeat (go_big_quiet_step (fail))
      refine wpQuiet_nil ?_
      refine rg_end ?_
      go_wp2_with (fail)
      go_returns
      exact ⟨_, e6, m6, rfl, Lib.hid (by rw [M6.out, HL.out]), Lib.hid (by rw [← HL.out]; exact O6.out), K6.out⟩
    · obtain rfl : k = 14 := by simpa using hk
      show wpList _ _ _ [_] _ _
      go_wp2_with (fail)
      have bwb : Below wa.heap.size wa (wa.alloc (.cells #[.int .u8 (cl : Int)] 5)) := ((Below.refl _ _).alloc (Nat.le_refl _) _)
      have sb' := sl_new .u8 wa 5 [(cl : Int)] _ rfl (by intro x hx; simp at hx; exact wf_byte ⟨by omega, by omega⟩) (by simp [maxLen])
      obtain ⟨wb, hwwb⟩ : ∃ z, (wa.alloc (.cells #[.int .u8 (cl : Int)] 5)) = z := ⟨_, rfl⟩
      rw [hwwb] at bwb ⊢
      have sb : Sl .u8 wb (some ⟨wa.heap.size, 0, none⟩) 1 [(cl : Int)] := by rw [← hwwb]; exact sb'
      have kwb := below_on kwa bwb kwa.size
      clear hwwb sb'
      refine ⟨hbel _ kwb, ?_⟩
      refine rg_act 9 ?_
      go_wp2_with (fail)
      refine (n_at _ _ [24, p.f.id, p.f.max] _ wb rfl (sa.below bwb) (by intro x hx; simp at hx; omega) (by simp)).mono ?_
      rintro e w3 ⟨a3, e3, m3, rfl, M3, O3, bw3⟩
      have kw3 := below_on kwb bw3 kwb.size
      go_wp2_with (fail)
      refine ⟨hbel _ kw3, ?_⟩
      have kz := Lib.hid (show Below w.heap.size w w3 from below_on K2.out (show Below w2.heap.size w2 w3 from below_on (Below.refl _ w2).drew kw3 (by simp)) K2.out.size)
      have kz2 := Lib.hid (show Below w2.heap.size w2 w3 from below_on (Below.refl _ w2).drew kw3 (by simp))
      have OZ := Lib.hid O3.out
      have BZ := Lib.hid (sb.below bw3)
      refine rg_act 19 ?_
      go_wp2_with (fail)
      refine ⟨hbel _ (below_on kw3 ((Below.refl _ w3).alloc (Nat.le_refl _) _) kw3.size), ?_⟩
      refine rg_cut 20 ?_
      go_wp2_with (fail)
      refine (cats [⟨a3, e3, encs [24, p.f.id, p.f.max]⟩, ⟨_, 1, [(cl : Int)]⟩, ⟨p.ca, p.cc, p.f.cid⟩, ⟨some ⟨w.heap.size, 9, none⟩, 16, p.f.tok⟩] (putF p.f) _ 4 w3 _ (by rw [HPUT.out, HCL.out]; simp [catB]) rfl (by rw [M3.out, ← HCL.out]; simp only [List.map_cons, List.map_nil, Part.val, H16.out]; rfl) rfl (by decide) (by decide) (by intro q hq; simp at hq; rcases hq with rfl | rfl | rfl | rfl; exact OZ.out.sl; exact BZ.out; exact HC2.out.below kz2.out; exact HT2.out.below kz2.out) (by rw [HPUT.out]; have h1 : (encs [24, p.f.id, p.f.max]).length ≤ 8 * ([24, p.f.id, p.f.max] : List Int).length := encs_len (by intro x hx; simp at hx; omega); have := HCL.out; have := H16.out; simp only [List.length_append, List.length_cons, List.length_nil] at h1 ⊢; omega)).mono ?_
      rintro e w6 ⟨a6, e6, m6, rfl, M6, O6, b6⟩
      have K6 := Lib.hid (below_on kz.out b6 kz.out.size)
      clear hbel hC b6 hne
      go_wp2_with (fail)
      refine rg_below fun K hx hne hC hbel => ?_
      refine rg_quiet 0 [21] hC ?_
      simp only [pickD, List.map_cons, List.map_nil, List.getD_cons_zero, List.getD_cons_succ]; repeat (go_big_quiet_step (fail))
      refine wpQuiet_nil ?_
      refine rg_end ?_
      go_wp2_with (fail)
      go_returns
      exact ⟨_, e6, m6, rfl, Lib.hid (by rw [M6.out, HL.out]), Lib.hid (by rw [← HL.out]; exact O6.out), K6.out⟩
  · obtain rfl : k = 14 := by simpa using hk
    show wpList _ _ _ [_] _ _
    go_wp2_with (fail)
    have bwb : Below w2.heap.size w2 (w2.alloc (.cells #[.int .u8 (cl : Int)] 5)).drew := ((Below.refl _ _).alloc (Nat.le_refl _) _).drew
    have sb' := sl_new .u8 w2 5 [(cl : Int)] _ rfl (by intro x hx; simp at hx; exact wf_byte ⟨by omega, by omega⟩) (by simp [maxLen])
    obtain ⟨wb, hwwb⟩ : ∃ z, (w2.alloc (.cells #[.int .u8 (cl : Int)] 5)).drew = z := ⟨_, rfl⟩
    rw [hwwb] at bwb ⊢
    have sb : Sl .u8 wb (some ⟨w2.heap.size, 0, none⟩) 1 [(cl : Int)] := by rw [← hwwb]; exact sb'.below (Below.refl _ _).drew
    have kwb : Below w2.drew.heap.size w2.drew wb := by rw [← hwwb]; exact ((Below.refl _ w2.drew).alloc (Nat.le_refl _) _)
    clear hwwb sb'
    refine ⟨hbel _ kwb, ?_⟩
    refine rg_act 8 ?_
    go_wp2_with (fail)
    have bwa : Below wb.heap.size wb (wb.alloc (.cells #[.int .u64 24, .int .u64 p.f.id, .int .u64 p.f.max] 30)) := ((Below.refl _ _).alloc (Nat.le_refl _) _)
    have sa' := sl_new .u64 wb 30 [24, p.f.id, p.f.max] _ rfl (by intro x hx; simp at hx; exact u64_wf (by omega) (by omega)) (by simp [maxLen])
    obtain ⟨wa, hwwa⟩ : ∃ z, (wb.alloc (.cells #[.int .u64 24, .int .u64 p.f.id, .int .u64 p.f.max] 30)) = z := ⟨_, rfl⟩
    rw [hwwa] at bwa ⊢
    have sa : Sl .u64 wa (some ⟨wb.heap.size, 0, none⟩) 3 [24, p.f.id, p.f.max] := by rw [← hwwa]; exact sa'
    have kwa := below_on kwb bwa kwb.size
    clear hwwa sa'
    refine ⟨hbel _ kwa, ?_⟩
    refine rg_act 9 ?_
    go_wp2_with (fail)
    refine (n_at _ _ [24, p.f.id, p.f.max] _ wa rfl sa (by intro x hx; simp at hx; omega) (by simp)).mono ?_
    rintro e w3 ⟨a3, e3, m3, rfl, M3, O3, bw3⟩
    have kw3 := below_on kwa bw3 kwa.size
    go_wp2_with (fail)
    refine ⟨hbel _ kw3, ?_⟩
    have kz := Lib.hid (show Below w.heap.size w w3 from below_on K2.out (show Below w2.heap.size w2 w3 from below_on (Below.refl _ w2).drew kw3 (by simp)) K2.out.size)
    have kz2 := Lib.hid (show Below w2.heap.size w2 w3 from below_on (Below.refl _ w2).drew kw3 (by simp))
    have OZ := Lib.hid O3.out
    have BZ := Lib.hid ((sb.below bwa).below bw3)
    refine rg_act 19 ?_
    go_wp2_with (fail)
    refine ⟨hbel _ (below_on kw3 ((Below.refl _ w3).alloc (Nat.le_refl _) _) kw3.size), ?_⟩
    refine rg_cut 20 ?_
    go_wp2_with (fail)
    refine (cats [⟨a3, e3, encs [24, p.f.id, p.f.max]⟩, ⟨_, 1, [(cl : Int)]⟩, ⟨p.ca, p.cc, p.f.cid⟩, ⟨some ⟨w.heap.size, 9, none⟩, 16, p.f.tok⟩] (putF p.f) _ 4 w3 _ (by rw [HPUT.out, HCL.out]; simp [catB]) rfl (by rw [M3.out, ← HCL.out]; simp only [List.map_cons, List.map_nil, Part.val, H16.out]; rfl) rfl (by decide) (by decide) (by intro q hq; simp at hq; rcases hq with rfl | rfl | rfl | rfl; exact OZ.out.sl; exact BZ.out; exact HC2.out.below kz2.out; exact HT2.out.below kz2.out) (by rw [HPUT.out]; have h1 : (encs [24, p.f.id, p.f.max]).length ≤ 8 * ([24, p.f.id, p.f.max] : List Int).length := encs_len (by intro x hx; simp at hx; omega); have := HCL.out; have := H16.out; simp only [List.length_append, List.length_cons, List.length_nil] at h1 ⊢; omega)).mono ?_
    rintro e w6 ⟨a6, e6, m6, rfl, M6, O6, b6⟩
    have K6 := Lib.hid (below_on kz.out b6 kz.out.size)
    clear hbel hC b6 hne
    go_wp2_with (fail)
    refine rg_below fun K hx hne hC hbel => ?_
    refine rg_quiet 0 [21] hC ?_
    simp only [pickD, List.map_cons, List.map_nil, List.getD_cons_zero, List.getD_cons_succ]; repeat (go_big_quiet_step (fail))
    refine wpQuiet_nil ?_
    refine rg_end ?_
    go_wp2_with (fail)
    go_returns
    exact ⟨_, e6, m6, rfl, Lib.hid (by rw [M6.out, HL.out]), Lib.hid (by rw [← HL.out]; exact O6.out), K6.out⟩

end Frm
end Go.Proofs.Ytcpjehgoeibbeaa

/- put: the bytes of a frame that may be; Size; Append. -/
namespace Go.Proofs.Ytcpjehgoeibbeaa
open Go.RowKit
set_option linter.unusedVariables false
namespace Frm
open Var
theorem put_any (p : FM) (w : World) (hp : p.ok w) (hm : mayF p.f = true) (hdl : p.f.data.length ≤ 1000000) (hal : p.f.acks.length ≤ 100000000) :
    Calls Try.prog 21 #[.agg p.vals] w fun e w' => ∃ a' cap' m, e = .returned (.slice a' m cap') ∧ Hid (m = (putF p.f).length) ∧ Hid (Sl .u8 w' a' cap' (putF p.f)) ∧ Below w.heap.size w w' := by
  have hm' := hm
  simp only [mayF, Bool.and_eq_true] at hm'
  obtain ⟨⟨⟨hi, hn⟩, hsm⟩, hkk⟩ := hm'
  have hs := (smallOk_iff _).1 hsm
  have hf := (isFr_iff _).1 hi
  by_cases n0 : p.f.kind = 0
  · have := hkk
    rw [kindOk_0 _ n0] at this
    simp only [Bool.and_eq_true, decide_eq_true_eq] at this
    exact putw_0 p w hp hs hdl this.2 n0
  by_cases n2 : p.f.kind = 2
  · exact putw_2 p w hp hs hdl hm hal n2
  by_cases n3 : p.f.kind = 3
  · exact putw_3 p w hp hs hdl hm hal n3
  by_cases n8 : p.f.kind = 8
  · have ho := hp.fr.off.1
    cases hfin : p.f.fin with
    | true =>
      by_cases hoff : 0 < p.f.off
      · exact putw_8fo p w hp hs hdl hfin hoff n8
      · exact putw_8f p w hp hs hdl hfin (by omega) n8
    | false =>
      by_cases hoff : 0 < p.f.off
      · exact putw_8o p w hp hs hdl hfin hoff n8
      · exact putw_8 p w hp hs hdl hfin (by omega) n8
  by_cases n24 : p.f.kind = 24
  · have := hkk
    rw [kindOk_24 _ n24] at this
    simp only [Bool.and_eq_true, decide_eq_true_eq] at this
    exact putw_24 p w hp hs hdl this.1.2 n24
  by_cases n1 : p.f.kind = 1
  · exact putw_1 p w hp hs hdl n1
  by_cases n4 : p.f.kind = 4
  · exact putw_4 p w hp hs hdl n4
  by_cases n5 : p.f.kind = 5
  · exact putw_5 p w hp hs hdl n5
  by_cases n6 : p.f.kind = 6
  · exact putw_6 p w hp hs hdl n6
  by_cases n7 : p.f.kind = 7
  · exact putw_7 p w hp hs hdl n7
  by_cases n16 : p.f.kind = 16
  · exact putw_16 p w hp hs hdl n16
  by_cases n17 : p.f.kind = 17
  · exact putw_17 p w hp hs hdl n17
  by_cases n18 : p.f.kind = 18
  · exact putw_18 p w hp hs hdl n18
  by_cases n19 : p.f.kind = 19
  · exact putw_19 p w hp hs hdl n19
  by_cases n20 : p.f.kind = 20
  · exact putw_20 p w hp hs hdl n20
  by_cases n21 : p.f.kind = 21
  · exact putw_21 p w hp hs hdl n21
  by_cases n22 : p.f.kind = 22
  · exact putw_22 p w hp hs hdl n22
  by_cases n23 : p.f.kind = 23
  · exact putw_23 p w hp hs hdl n23
  by_cases n25 : p.f.kind = 25
  · exact putw_25 p w hp hs hdl n25
  by_cases n26 : p.f.kind = 26
  · exact putw_26 p w hp hs hdl n26
  by_cases n27 : p.f.kind = 27
  · exact putw_27 p w hp hs hdl n27
  by_cases n28 : p.f.kind = 28
  · exact putw_28 p w hp hs hdl n28
  by_cases n29 : p.f.kind = 29
  · exact putw_29 p w hp hs hdl n29
  · exact putw_30 p w hp hs hdl (by omega)
end Frm
end Go.Proofs.Ytcpjehgoeibbeaa
