/- The document's Parse. -/
import Derived.Test.YtfaopoaephlenaaDoorTx6
namespace Go.Proofs.YtfaopoaephlenaaDoor
open Go.RowKit
set_option linter.unusedVariables false

theorem str_et : ET Tryd.prog 92 9 1 16 := et_of (by kernel_rfl)
theorem ev2_et : ET Tryd.prog 34 28 4 32 := et_of (by kernel_rfl)
def strVs (D : List (List UInt8)) : List Value := D.map fun p => .string (tx p)
theorem strVs_append (A B : List (List UInt8)) : strVs (A ++ B) = strVs A ++ strVs B := by simp [strVs]
/-- What a round of the document's Parse keeps. -/
structure RpI (w0 : World) (s : List UInt8) (R : List Ev × Nat) (a : Option Addr) (n cap : Nat) (acc : List Ev) (ln i : Nat) (w : World) : Prop where
  below : Below w0.heap.size w0 w
  own : OwnS w w0.heap.size 28 4 a n cap (cellsE acc)
  len : n = acc.length
  ok : ∀ e ∈ acc, EvOk e
  res : ∃ f, s.length - i ≤ f ∧ parseF f ln (s.drop i) acc = R
  ln1 : 1 ≤ ln
  lnM : ln ≤ i + 1
  acM : n ≤ i
  iM : i ≤ s.length
/-- What the scan keeps in memory. -/
structure RsI (w0 : World) (s : List UInt8) (at0 : Nat) (b : Option Addr) (m c : Nat) (D : List (List UInt8)) (from_ i : Nat) (w : World) : Prop where
  below : Below w0.heap.size w0 w
  own : OwnS w w0.heap.size 9 1 b m c (strVs D)
  len : m = D.length
  sc : ScI s at0 D from_ i
theorem tx_cut (s : List UInt8) (a b : Nat) : (tx s).extract a b = tx ((s.drop a).take (b - a)) := by
  apply ByteArray.ext
  simp [tx, ByteArray.data_extract]
def kdAt (m kn kx : Nat) : Nat := if m = 4 ∧ kn < kx then kn else 0
theorem numV_of (s : List UInt8) : ∃ (a : Nat) (o : Bool), numV s = .tuple #[.int .u64 a, .bool o] ∧ (o = true → refNum s = some a) ∧ (o = false → refNum s = none) := by
  unfold numV
  cases h : refNum s with
  | none => exact ⟨0, false, rfl, (fun h => (by cases h)), fun _ => rfl⟩
  | some n => exact ⟨n, true, rfl, fun _ => rfl, (fun h => (by cases h))⟩
theorem evO_4 {l p0 p1 p2 p3 : List UInt8} (h : pcs 32 l = [p0, p1, p2, p3]) : evO l = if kindN p1 = 0 then none else
    match refNum p0, refNum p2, refNum p3 with
    | some a, some b, some c => some ⟨a, b, c, kindN p1⟩
    | _, _, _ => none := by
  unfold evO
  rw [h]
  by_cases hk : kindN p1 = 0
  · simp [hk]
  · simp [hk]
    rfl
set_option maxRecDepth 100000 in
set_option maxHeartbeats 16000000 in
theorem refparse_any (s : List UInt8) (w : World) (hs : s.length ≤ 10000) :
    Calls Tryd.prog 9 #[.string (tx s)] w fun x w' => ∃ a n cap, x = .returned (.tuple #[.slice a n cap, .int .i64 ((parseT s).2 : Nat)]) ∧ n = (parseT s).1.length ∧ Es w' a cap (parseT s).1 ∧ Below w.heap.size w w' := by
  obtain ⟨M, hM⟩ : ∃ M, s.length = M := ⟨_, rfl⟩
  have hsz : (tx s).size = M := by rw [tx_size, hM]
  have hst : RpI w s (parseT s) none 0 0 [] 1 0 w := ⟨Below.refl _ _, OwnS.nil _ _ _ _, rfl, (fun e h => (by cases h)), ⟨s.length, by omega, by rw [List.drop_zero]; rfl⟩, Nat.le_refl _, Nat.le_refl _, Nat.le_refl _, Nat.zero_le _⟩
  have HST := Lib.hid hst
  obtain ⟨R, hR⟩ : ∃ R, parseT s = R := ⟨_, rfl⟩
  rw [hR] at HST ⊢
  have HM := Lib.hid hM
  rw [hM] at hs
  clear hst hR hM
  go_enter Tryd.func9, Tryd.ntmps9
  go_wp2_with (fail)
  go_loopw [4, 5, 6, 7, 8, 9, 10, 11, 12, 13, 14, 15, 16] (fun v i ln _ _ _ _ _ _ _ _ _ _ wr => ∃ (a : Option Addr) (n cap k l : Nat) (acc : List Ev), v = .slice a n cap ∧ i = .int .i64 k ∧ ln = .int .i64 l ∧ k ≤ M ∧ Hid (RpI w s R a n cap acc l k wr)) (fun _ i _ _ _ _ _ _ _ _ _ _ _ _ => M - (intOf i).toNat)
  case atStart => exact ⟨none, 0, 0, 0, 1, [], rfl, rfl, rfl, by omega, HST⟩
  case round =>
    obtain ⟨a, n, cap, k0, l, acc, rfl, rfl, rfl, hk, hok⟩ := hrel
    by_cases hlt : k0 < M
    · have hki : (k0 : Int) < M := by omega
      go_wp2_with (fail)
      obtain ⟨W0, rfl⟩ : ∃ W0, W0 = wr := ⟨_, rfl⟩
      have hsc : RsI W0 s k0 none 0 0 [] k0 k0 W0 := ⟨Below.refl _ _, OwnS.nil _ _ _ _, rfl, ScI.start s k0 (by rw [HM.out]; omega)⟩
      have HSC := Lib.hid hsc
      clear hsc
      go_loopw [5, 7, 8] (fun i v fr w2 => ∃ (b : Option Addr) (m c k f : Nat) (D : List (List UInt8)), i = .int .i64 k ∧ v = .slice b m c ∧ fr = .int .i64 f ∧ k ≤ M ∧ Hid (RsI W0 s k0 b m c D f k w2)) (fun i _ _ _ => M - (intOf i).toNat)
      case atStart => exact ⟨none, 0, 0, k0, k0, [], rfl, rfl, rfl, by omega, HSC⟩
      case round =>
        obtain ⟨b, m, c, k, f, D, rfl, rfl, rfl, hkM, hsc⟩ := hrel
        by_cases hl2 : k < M
        · have hk2 : (k : Int) < M := by omega
          obtain ⟨x, hx⟩ : ∃ x, s.getD k 0 = x := ⟨_, rfl⟩
          obtain ⟨y, hy⟩ : ∃ y, x.toNat = y := ⟨_, rfl⟩
          have hb2 : ∀ h, (((tx s)[k]'h).toNat : Int) = y := fun h => by rw [tx_get, hx, hy]
          have hy255 : y ≤ 255 := by rw [← hy]; have := x.toNat_lt; omega
          have hsl : k < s.length := by rw [HM.out]; exact hl2
          have HX := Lib.hid hx
          have HY := Lib.hid hy
          have HSL := Lib.hid hsl
          have hfk := hsc.out.sc.le2
          clear hx hy hsl
          by_cases h10 : y = 10
          · have q10 : ((y : Int) == 10) = true := by simp; omega
            have hstop := hsc.out.sc.stop HSL.out (by rw [HX.out]; exact UInt8.toNat_inj.1 (by rw [HY.out, h10]; rfl))
            have hkM2 : ((k : Int) == M) = false := by simp; omega
            have hcut := tx_cut s f k
            obtain ⟨pc, hpc⟩ : ∃ p, (s.drop f).take (k - f) = p := ⟨_, rfl⟩
            rw [hpc] at hcut hstop
            have HST2 := Lib.hid hstop
            clear hstop hpc
            have hdl := hsc.out.sc.dl
            have hle1 := hsc.out.sc.le1
            have hml := hsc.out.len
            go_wp2_with (at_builtin; refine Stop.mk ?_)
            refine Stop.out ?_
            refine wpList_app str_et rfl rfl (base := W0.heap.size) rfl rfl (hsc.out.own.below ((Below.refl _ _).alloc (Nat.le_refl _) _)) (SrcAt.one wr (.string (tx pc)) 9 rfl) (by simp only [maxLen]; omega) (by omega) (by have := hsc.out.below.size; simp; omega) ?_
            intro b6 c6 w6 ho6 on6 at6
            have hb6 : Below W0.heap.size W0 w6 := below_onto (hsc.out.below.alloc hsc.out.below.size _) on6 (by have := hsc.out.below.size; simp; omega) (by rintro z hz ⟨y, hy, rfl⟩; have := (hsc.out.own.block hy).1; omega)
            have own6 : OwnS w6 W0.heap.size 9 1 b6 (m + 1) c6 (strVs (D ++ [pc])) := by rw [strVs_append]; exact ho6
            have ln6 : m + 1 = (D ++ [pc]).length := by rw [List.length_append, ← hml]; rfl
            obtain ⟨p, hp⟩ : ∃ p, D ++ [pc] = p := ⟨_, rfl⟩
            rw [hp] at own6 ln6
            have hpcs := HST2.out.1
            rw [hp] at hpcs
            have O6 := Lib.hid own6
            have HB6 := Lib.hid hb6
            have HPCS := Lib.hid hpcs
            have HL6 := Lib.hid ln6
            have hmb : m + 1 ≤ 10001 := by omega
            clear ho6 on6 at6 own6 hb6 hpcs ln6 hp hdl hle1 hml hcut q10 hb2
            obtain ⟨m1, hm1⟩ : ∃ m1, m + 1 = m1 := ⟨_, rfl⟩
            rw [hm1] at O6 HL6 hmb ⊢
            clear hm1
            go_wp2_with (fail)
            have hkn0 : kdAt m1 (kindN (p.getD 1 [])) 1 = 0 := by unfold kdAt; split <;> omega
            have HKN0 := Lib.hid hkn0
            clear hkn0
            have hk0k : k0 ≤ k := by have := hsc.out.sc.le1; omega
            go_loopw [9, 10] (fun kd i w7 => ∃ (kx d : Nat), i = .int .i64 kx ∧ kd = .int .i64 d ∧ Hid (d = kdAt m1 (kindN (p.getD 1 [])) kx) ∧ 1 ≤ kx ∧ kx ≤ 11 ∧ Hid (Below w6.heap.size w6 w7)) (fun _ i _ => 11 - (intOf i).toNat)
            case atStart => exact ⟨1, 0, rfl, rfl, Lib.hid HKN0.out.symm, by omega, by omega, Lib.hid (Below.refl _ _)⟩
            case round =>
              obtain ⟨kx, d, rfl, rfl, hd, hx1, hx2, hb7⟩ := hrel
              by_cases hgo : kx < 11 ∧ m1 = 4
              · obtain ⟨hx11, rfl⟩ := hgo
                have hxi : (kx : Int) < 11 := by omega
                obtain ⟨p0, p1, p2, p3, hpp⟩ : ∃ p0 p1 p2 p3, p = [p0, p1, p2, p3] := by
                  match p, HL6.out with
                  | [a, b, c, d], _ => exact ⟨a, b, c, d, rfl⟩
                subst hpp
                obtain ⟨g, rfl, hg1, hg2, gc1, _⟩ := O6.out.at_ (i := 1) (by simp [strVs])
                have hc1 : wr.cell? ⟨g, 1, none⟩ = some (.string (tx p1)) := (hb7.out.cell (p := ⟨g, 1, none⟩) hg2).trans (by simpa [strVs] using gc1)
                have hgw : g < wr.heap.size := Nat.lt_of_lt_of_le hg2 hb7.out.size
                have HGW := Lib.hid hgw
                clear gc1 hg1 hg2 hgw
                go_wp2_with (fail)
                refine rg_start 8 ?_
                refine rg_below fun p hx hne hC hbel => ?_
                have k0' : ∀ z : Wd p, z.w.cell? ⟨g, 1, none⟩ = some (.string (tx p1)) := fun z => (hx z _ _ _ HGW.out).trans (by rw [World.cell?_drew]; exact hc1)
                clear hx
                refine rg_quiet 4 [1,4,5,6] hC ?_
                simp only [pickD, List.map_cons, List.map_nil, List.getD_cons_zero, List.getD_cons_succ]; repeat (go_big_quiet_step (fail))
                refine wpQuiet_nil ?_
                refine rg_act 0 ?_
                go_wp2_with (fail)
                refine (words_any _).mono ?_
                rintro e w8 ⟨rfl, rfl⟩
                have b8 : Below wr.drew.heap.size wr.drew (wr.drew.alloc (.cells (strCs rw_) 9)) := (Below.refl _ _).alloc (Nat.le_refl _) _
                have n8 := Blk.new wr.drew (strCs rw_) 9
                have B8 := Lib.hid b8
                obtain ⟨w8, hw8⟩ : ∃ w8, wr.drew.alloc (.cells (strCs rw_) 9) = w8 := ⟨_, rfl⟩
                rw [hw8] at B8 n8 ⊢
                clear b8 hw8
                have N8 := Lib.hid n8
                clear n8
                go_wp2_with (fail)
                refine ⟨hbel _ B8.out, ?_⟩
                refine rg_more (fun w' h' => hbel _ (below_on B8.out h' B8.out.size)) fun p' hx' hne' hCC hbel' => ?_
                obtain ⟨kk, hkk⟩ : ∃ kk, kw.getD kx [] = kk := ⟨_, rfl⟩
                have k1' : ∀ z : Wd p', z.w.cell? ⟨wr.heap.size, kx, none⟩ = some (.string (tx kk)) := fun z => (hx' z _ _ _ N8.out.lt).trans (N8.out.cell kx _ (by rw [strCs_get _ _ (by simp [rw_, kwT]; omega), rw_kw hx1, hkk]))
                clear hx'
                refine rg_quiet 0 [2,3,7] hCC ?_
                simp only [pickD, List.map_cons, List.map_nil, List.getD_cons_zero, List.getD_cons_succ]; repeat (go_big_quiet_step (fail))
                refine wpQuiet_nil ?_
                refine rg_end ?_
                clear k0' k1' hne hne' hC hCC hbel hbel'
                have HKK := Lib.hid hkk
                have B9 := Lib.hid (below_on hb7.out.drew B8.out hb7.out.size)
                clear hkk hc1
                by_cases hkp : kk = p1
                · have q1 : (kk == p1) = true := by simpa using hkp
                  have q2 : (p1 == kk) = true := by simpa using hkp.symm
                  have hkn : kindN p1 = kx := (kindN_iff kx hx1 (by omega) p1).1 (by rw [HKK.out, hkp])
                  have HK2 : Hid (kx = kdAt 4 (kindN ([p0, p1, p2, p3].getD 1 [])) (kx + 1)) := Lib.hid (by
                    show kx = kdAt 4 (kindN p1) (kx + 1)
                    rw [hkn]; unfold kdAt; rw [if_pos ⟨rfl, by omega⟩])
                  clear hkp hkn
                  simp only [q1]
                  go_wp2_with (fail)
                  exact ⟨⟨kx + 1, kx, by go_num, rfl, HK2, by omega, by omega, B9⟩, by simp [intOf]; omega⟩
                · have q1 : (kk == p1) = false := by simpa using hkp
                  have q2 : (p1 == kk) = false := by simpa using fun h => hkp h.symm
                  have hkn : kindN p1 ≠ kx := fun h => hkp (by rw [← HKK.out]; exact (kindN_iff kx hx1 (by omega) p1).2 h)
                  have HK2 : Hid (d = kdAt 4 (kindN ([p0, p1, p2, p3].getD 1 [])) (kx + 1)) := Lib.hid (by
                    have h1 : d = kdAt 4 (kindN p1) kx := hd.out
                    show d = kdAt 4 (kindN p1) (kx + 1)
                    rw [h1]; unfold kdAt
                    by_cases h2 : kindN p1 < kx
                    · rw [if_pos ⟨rfl, h2⟩, if_pos ⟨rfl, by omega⟩]
                    · rw [if_neg (by omega), if_neg (by omega)])
                  clear hkp hkn
                  simp only [q1]
                  go_wp2_with (fail)
                  exact ⟨⟨kx + 1, d, by go_num, rfl, HK2, by omega, by omega, B9⟩, by simp [intOf]; omega⟩
              · have hdd : d = if m1 = 4 then kindN (p.getD 1 []) else 0 := by
                  rw [hd.out]
                  have := kindN_le (p.getD 1 [])
                  unfold kdAt
                  by_cases h4 : m1 = 4
                  · rw [if_pos h4, if_pos ⟨h4, by omega⟩]
                  · rw [if_neg h4, if_neg (fun h => h4 h.1)]
                have HDD := Lib.hid hdd
                have bb := Lib.hid (below_on (below_on hok.out.below HB6.out hok.out.below.size) hb7.out (Nat.le_trans hok.out.below.size HB6.out.size))
                clear hdd
                have hcond : (((kx : Int) < 11) ∧ ((m1 : Int) = 4)) → False := fun h => hgo ⟨by omega, by omega⟩
                by_cases hz : d = 0
                · have hno : evO (hdc 10 (s.drop k0)) = none := by
                    unfold evO
                    rw [HPCS.out, if_neg]
                    rintro ⟨h1, h2⟩
                    have := HDD.out
                    rw [if_pos (by rw [HL6.out]; exact h1)] at this
                    exact h2 (by rw [← this]; exact hz)
                  obtain ⟨f5, hf5, hfr⟩ := hok.out.res
                  rw [parseF_bad f5 l _ acc (by intro h; have := congrArg List.length h; simp at this; have := HM.out; omega) hno] at hfr
                  have HFR := Lib.hid hfr
                  have dz : ((d : Int) == 0) = true := by simp; omega
                  clear hno hf5 hfr
                  by_cases hx11 : kx < 11
                  · have hxi : (kx : Int) < 11 := by omega
                    have hm4 : ((m1 : Int) == 4) = false := by simp; omega
                    go_wp2_with (fail)
                    go_returns
                    refine ⟨none, 0, 0, ?_, ?_, ?_, bb.out⟩ <;> rw [← HFR.out]
                    · rfl
                    · rfl
                    · exact Es.nil _
                  · have hxi : ¬ (kx : Int) < 11 := by omega
                    go_wp2_with (fail)
                    go_returns
                    refine ⟨none, 0, 0, ?_, ?_, ?_, bb.out⟩ <;> rw [← HFR.out]
                    · rfl
                    · rfl
                    · exact Es.nil _
                · have hm4 : m1 = 4 := by
                    apply Classical.byContradiction
                    intro h
                    have := HDD.out
                    rw [if_neg h] at this
                    exact hz this
                  have hxi : ¬ (kx : Int) < 11 := by omega
                  have dz : ((d : Int) == 0) = false := by simp; omega
                  subst hm4
                  obtain ⟨p0, p1, p2, p3, hpp⟩ : ∃ p0 p1 p2 p3, p = [p0, p1, p2, p3] := by
                    match p, HL6.out with
                    | [a, b, c, d], _ => exact ⟨a, b, c, d, rfl⟩
                  subst hpp
                  obtain ⟨g, rfl, hg1, hg2, gc0, _⟩ := O6.out.at_ (i := 0) (by simp [strVs])
                  obtain ⟨g', hgg, _, _, gc2, _⟩ := O6.out.at_ (i := 2) (by simp [strVs])
                  cases hgg
                  obtain ⟨g', hgg, _, _, gc3, _⟩ := O6.out.at_ (i := 3) (by simp [strVs])
                  cases hgg
                  have hc0 : wr.cell? ⟨g, 0, none⟩ = some (.string (tx p0)) := (hb7.out.cell (p := ⟨g, 0, none⟩) hg2).trans (by simpa [strVs] using gc0)
                  have hc2 : wr.cell? ⟨g, 2, none⟩ = some (.string (tx p2)) := (hb7.out.cell (p := ⟨g, 2, none⟩) hg2).trans (by simpa [strVs] using gc2)
                  have hc3 : wr.cell? ⟨g, 3, none⟩ = some (.string (tx p3)) := (hb7.out.cell (p := ⟨g, 3, none⟩) hg2).trans (by simpa [strVs] using gc3)
                  have HGW := Lib.hid (Nat.lt_of_lt_of_le hg2 hb7.out.size)
                  clear gc0 gc2 gc3 hg1 hg2
                  have hdk : d = kindN p1 := HDD.out
                  have hd10 : d ≤ 10 := by rw [hdk]; exact kindN_le p1
                  have HDK := Lib.hid hdk
                  clear hdk
                  go_wp2_with (fail)
                  obtain ⟨a0, o0, v0, t0, e0⟩ := numV_of p0
                  obtain ⟨a1, o1, v1, t1, e1⟩ := numV_of p2
                  obtain ⟨a2, o2, v2, t2, e2⟩ := numV_of p3
                  have T0 := Lib.hid t0
                  have T1 := Lib.hid t1
                  have T2 := Lib.hid t2
                  have E0 := Lib.hid e0
                  have E1 := Lib.hid e1
                  have E2 := Lib.hid e2
                  have V0 := Lib.hid v0
                  have V1 := Lib.hid v1
                  have V2 := Lib.hid v2
                  clear t0 t1 t2 e0 e1 e2 v0 v1 v2
                  refine (refnum_any p0 wr).mono ?_
                  rintro e w8 ⟨rfl, hb8⟩
                  rw [V0.out]
                  have hc2' : w8.cell? ⟨g, 2, none⟩ = some (.string (tx p2)) := (hb8.cell (p := ⟨g, 2, none⟩) HGW.out).trans hc2
                  have hc3' : w8.cell? ⟨g, 3, none⟩ = some (.string (tx p3)) := (hb8.cell (p := ⟨g, 3, none⟩) HGW.out).trans hc3
                  have bb0 := Lib.hid (below_on HB6.out hb7.out HB6.out.size)
                  have W1 := Lib.hid (below_on bb0.out hb8 bb0.out.size)
                  have W1' := Lib.hid (Nat.lt_of_lt_of_le HGW.out hb8.size)
                  clear hb8 hc0 hc2 hc3
                  go_wp2_with (fail)
                  refine (refnum_any p2 w8).mono ?_
                  rintro e w9 ⟨rfl, hb9⟩
                  rw [V1.out]
                  have hc3 : w9.cell? ⟨g, 3, none⟩ = some (.string (tx p3)) := (hb9.cell (p := ⟨g, 3, none⟩) W1'.out).trans hc3'
                  have W2 := Lib.hid (below_on W1.out hb9 W1.out.size)
                  clear hb9 hc2' hc3'
                  go_wp2_with (fail)
                  refine (refnum_any p3 w9).mono ?_
                  rintro e wA ⟨rfl, hbA⟩
                  rw [V2.out]
                  have W3 := Lib.hid (below_on W2.out hbA W2.out.size)
                  clear hbA hc3
                  by_cases hall : o0 = true ∧ o1 = true ∧ o2 = true
                  · obtain ⟨rfl, rfl, rfl⟩ := hall
                    have hev : evO (hdc 10 (s.drop k0)) = some ⟨a0, a1, a2, d⟩ := by
                      rw [evO_4 HPCS.out, T0.out rfl, T1.out rfl, T2.out rfl, if_neg (by rw [← HDK.out]; exact hz), ← HDK.out]
                    have hR : ∃ f, s.length - (k + 1) ≤ f ∧ parseF f (l + 1) (s.drop (k + 1)) (acc ++ [⟨a0, a1, a2, d⟩]) = R := by
                      obtain ⟨f5, hf5, hfr⟩ := hok.out.res
                      have hM2 := HM.out
                      obtain ⟨f6, rfl⟩ : ∃ m, f5 = m + 1 := ⟨f5 - 1, by omega⟩
                      rw [parseF_some f6 l _ acc (by intro h; have := congrArg List.length h; simp at this; omega) HST2.out.2.1 hev, HST2.out.2.2] at hfr
                      exact ⟨f6, by omega, hfr⟩
                    have HR2 := Lib.hid hR
                    have HOK := Lib.hid (evO_ok hev)
                    have hown := Lib.hid (hok.out.own.below W3.out)
                    have hln1 := hok.out.ln1
                    have hlnM := hok.out.lnM
                    have hacM := hok.out.acM
                    have HNL := Lib.hid hok.out.len
                    clear hev hR
                    have hd256 : (d : Int) < 256 := by omega
                    go_wp2_with (at_builtin; refine Stop.mk ?_)
                    refine Stop.out ?_
                    have hbA := below_on hok.out.below W3.out hok.out.below.size
                    have hsrc := SrcAt.cells wA #[.int .u64 a0, .int .u64 a1, .int .u64 a2, .int .u8 d] 28 1 4 rfl (by intro u hu; exact cellsE_one [⟨a0, a1, a2, d⟩] u (by simpa [cellsE, encE] using hu))
                    refine wpList_app ev2_et rfl rfl (base := w.heap.size) rfl rfl (hown.out.below ((Below.refl _ _).alloc (Nat.le_refl _) _)) hsrc (by simp only [maxLen]; omega) (by omega) (by have := hbA.size; simp; omega) ?_
                    intro aB cB wB hoB onB atB
                    have bB : Below w.heap.size w wB := below_onto (hbA.alloc hbA.size _) onB (by have := hbA.size; simp; omega) (by rintro z hz ⟨y, hy, rfl⟩; have := (hown.out.block hy).1; omega)
                    have hoB2 : OwnS wB w.heap.size 28 4 aB (n + 1) cB (cellsE (acc ++ [⟨a0, a1, a2, d⟩])) := by rw [cellsE_append]; exact hoB
                    have hfin : RpI w s R aB (n + 1) cB (acc ++ [⟨a0, a1, a2, d⟩]) (l + 1) (k + 1) wB := ⟨bB, hoB2, by rw [HNL.out]; simp, fun x hx => by
                      rcases List.mem_append.1 hx with hx | hx
                      · exact hok.out.ok x hx
                      · rw [List.mem_singleton.1 hx]; exact HOK.out, HR2.out, by omega, by omega, by omega, by rw [HM.out]; omega⟩
                    have FIN := Lib.hid hfin
                    clear hoB onB atB bB hoB2 hfin hbA hsrc
                    go_wp2_with (fail)
                    exact ⟨⟨aB, n + 1, cB, k + 1, l + 1, acc ++ [⟨a0, a1, a2, d⟩], rfl, by go_num, by go_num, by omega, FIN⟩, by simp [intOf]; omega⟩
                  · have hno : evO (hdc 10 (s.drop k0)) = none := by
                      rw [evO_4 HPCS.out]
                      split
                      · rfl
                      · split
                        · rename_i x y z h0 h1 h2
                          exfalso
                          apply hall
                          refine ⟨?_, ?_, ?_⟩
                          · cases o0 with
                            | true => rfl
                            | false => rw [E0.out rfl] at h0; cases h0
                          · cases o1 with
                            | true => rfl
                            | false => rw [E1.out rfl] at h1; cases h1
                          · cases o2 with
                            | true => rfl
                            | false => rw [E2.out rfl] at h2; cases h2
                        · rfl
                    obtain ⟨f5, hf5, hfr⟩ := hok.out.res
                    rw [parseF_bad f5 l _ acc (by intro h; have := congrArg List.length h; simp at this; have := HM.out; omega) hno] at hfr
                    have HFR := Lib.hid hfr
                    have HALL := Lib.hid hall
                    clear hno hf5 hfr hall
                    cases o0 with
                    | false =>
                      go_wp2_with (fail)
                      go_returns
                      refine ⟨none, 0, 0, ?_, ?_, ?_, below_on hok.out.below W3.out hok.out.below.size⟩ <;> rw [← HFR.out]
                      · rfl
                      · rfl
                      · exact Es.nil _
                    | true =>
                      cases o1 with
                      | false =>
                        go_wp2_with (fail)
                        go_returns
                        refine ⟨none, 0, 0, ?_, ?_, ?_, below_on hok.out.below W3.out hok.out.below.size⟩ <;> rw [← HFR.out]
                        · rfl
                        · rfl
                        · exact Es.nil _
                      | true =>
                        cases o2 with
                        | false =>
                          go_wp2_with (fail)
                          go_returns
                          refine ⟨none, 0, 0, ?_, ?_, ?_, below_on hok.out.below W3.out hok.out.below.size⟩ <;> rw [← HFR.out]
                          · rfl
                          · rfl
                          · exact Es.nil _
                        | true => exact absurd ⟨rfl, rfl, rfl⟩ HALL.out
          · have q10 : ((y : Int) == 10) = false := by simp; omega
            by_cases h32 : y = 32
            · have q32 : ((y : Int) == 32) = true := by simp; omega
              have hcut := tx_cut s f k
              obtain ⟨pc, hpc⟩ : ∃ p, (s.drop f).take (k - f) = p := ⟨_, rfl⟩
              rw [hpc] at hcut
              have HPC := Lib.hid hpc
              clear hpc
              go_wp2_with (at_builtin; refine Stop.mk ?_)
              refine Stop.out ?_
              have hdl := hsc.out.sc.dl
              have hle1 := hsc.out.sc.le1
              have hml := hsc.out.len
              refine wpList_app str_et rfl rfl (base := W0.heap.size) rfl rfl (hsc.out.own.below ((Below.refl _ _).alloc (Nat.le_refl _) _)) (SrcAt.one wr (.string (tx pc)) 9 rfl) (by simp only [maxLen]; omega) (by omega) (by have := hsc.out.below.size; simp; omega) ?_
              intro a6 c6 w6 ho6 on6 at6
              have b6 : Below W0.heap.size W0 w6 := below_onto (hsc.out.below.alloc hsc.out.below.size _) on6 (by have := hsc.out.below.size; simp; omega) (by rintro z hz ⟨y, hy, rfl⟩; have := (hsc.out.own.block hy).1; omega)
              have hs6 := hsc.out.sc.space HSL.out (by rw [HX.out]; exact UInt8.toNat_inj.1 (by rw [HY.out, h32]; rfl))
              rw [HPC.out] at hs6
              have hfin : RsI W0 s k0 a6 (m + 1) c6 (D ++ [pc]) (k + 1) (k + 1) w6 := ⟨b6, by rw [strVs_append]; exact ho6, by rw [List.length_append, ← hml]; rfl, hs6⟩
              have FIN := Lib.hid hfin
              clear ho6 on6 at6 b6 hs6 hfin hdl hle1 hml hcut
              go_wp2_with (fail)
              exact ⟨⟨a6, m + 1, c6, k + 1, k + 1, D ++ [pc], by go_num, rfl, by go_num, by omega, FIN⟩, by simp [intOf]; omega⟩
            · have q32 : ((y : Int) == 32) = false := by simp; omega
              have hsc2 := hsc.out.sc.other HSL.out (by rw [HX.out]; intro h; apply h32; rw [← HY.out, h]; rfl) (by rw [HX.out]; intro h; apply h10; rw [← HY.out, h]; rfl)
              have HS2 := Lib.hid hsc2
              clear hsc2
              go_wp2_with (fail)
              exact ⟨⟨b, m, c, k + 1, f, D, by go_num, rfl, rfl, by omega, Lib.hid ⟨hsc.out.below, hsc.out.own, hsc.out.len, HS2.out⟩⟩, by simp [intOf]; omega⟩
        · obtain rfl : k = M := by omega
          have hno := hsc.out.sc.last HM.out.symm
          obtain ⟨f5, hf5, hfr⟩ := hok.out.res
          rw [parseF_no f5 l _ acc (by intro h; have := congrArg List.length h; simp at this; have := HM.out; omega) hno] at hfr
          have HFR := Lib.hid hfr
          have bf := Lib.hid (below_on hok.out.below hsc.out.below hok.out.below.size)
          have hkk : ((k : Int) == k) = true := by simp
          clear hno hf5 hfr
          go_wp2_with (fail)
          go_returns
          refine ⟨none, 0, 0, ?_, ?_, ?_, bf.out⟩ <;> rw [← HFR.out]
          · rfl
          · rfl
          · exact Es.nil _
    · obtain rfl : k0 = M := by omega
      obtain ⟨f5, hf5, hfr⟩ := hok.out.res
      rw [List.drop_of_length_le (by rw [HM.out]; omega), parseF_nil] at hfr
      obtain ⟨hn, hes⟩ := hok.out.own.es hok.out.ok
      have HFR := Lib.hid hfr
      have HES := Lib.hid hes
      have HN := Lib.hid hn
      clear hf5 hfr hes hn
      go_wp2_with (fail)
      go_returns
      refine ⟨a, n, cap, ?_, ?_, ?_, hok.out.below⟩ <;> rw [← HFR.out]
      · rfl
      · exact HN.out
      · exact HES.out
end Go.Proofs.YtfaopoaephlenaaDoor
