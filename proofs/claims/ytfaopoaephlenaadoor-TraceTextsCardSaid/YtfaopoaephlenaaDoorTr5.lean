/- Trace: the law TraceTotals. -/
import Derived.Test.YtfaopoaephlenaaDoorTr4
namespace Go.Proofs.YtfaopoaephlenaaDoor
open Go.RowKit
set_option linter.unusedVariables false

/-- What a round of the law's own loop keeps. -/
structure TJ (w6 : World) (L : List Ev) (k : Nat) (t : TS) (w : World) : Prop where
  below : Below w6.heap.size w6 w
  cur : Blk w w6.heap.size (mA t.many) 39
  ok : TOk t k
  eq : t = (L.take k).foldl stepT ts0
theorem TJ.step {w6 w w' : World} {k : Nat} {L : List Ev} {t t' : TS} {e : Ev} (hi : TJ w6 L k t w) (hk : k < L.length) (he : L.getD k default = e) (hok : EvOk e) (ht : stepT t e = t') (hb : Below w6.heap.size w6 w') (hc : Blk w' w6.heap.size (mA t'.many) 39) : TJ w6 L (k + 1) t' w' := by
  subst ht
  refine ⟨hb, hc, hi.ok.step hok, ?_⟩
  rw [List.take_add_one, List.foldl_append, ← hi.eq]
  have : L[k]? = some e := by rw [← he]; simp [hk]
  rw [this]
  rfl
set_option maxRecDepth 100000 in
set_option maxHeartbeats 4000000 in
theorem totals_law (a b : Option Addr) (ca cb n m : Nat) (A B : List Ev) (w : World) (hn : n = A.length) (hm : m = B.length) (hA : Es w a ca A) (hB : Es w b cb B) (hG : ∀ g c, (g, c) ∈ tabs → w.rangeAt g 0 c ∧ g < w.heap.size) :
    Calls Tryd.prog 4 #[.slice a n ca, .slice b m cb] w fun e w' => e = .returned (.bool true) ∧ Below w.heap.size w w' := by
  have WK : ∀ w' : World, Below w.heap.size w w' → Calls Tryd.prog 5 #[] w' fun e w2 => e = .returned (.bool true) ∧ Below w'.heap.size w' w2 := fun w' hb => tworks_any w' (fun g c hg => ⟨fun j v hv => (hb.cell (p := ⟨g, 0 + j, none⟩) (hG g c hg).2).trans ((hG g c hg).1 j v hv), Nat.lt_of_lt_of_le (hG g c hg).2 hb.size⟩)
  have HWK := Lib.hid WK
  have HA := Lib.hid hA
  have HB := Lib.hid hB
  have HN := Lib.hid hn
  have HM := Lib.hid hm
  clear WK hA hB hn hm hG
  by_cases c1 : n ≤ 500
  · by_cases c2 : m ≤ 500
    · have d1 : ¬ (n : Int) > 500 := by omega
      have d2 : ¬ (m : Int) > 500 := by omega
      go_enter Tryd.func4, Tryd.ntmps4
      go_wp2_with (fail)
      refine (total_any a n ca A w HN.out HA.out (by have := HN.out; omega)).mono ?_
      rintro e1 w1 ⟨rfl, hb1⟩
      have B1 := Lib.hid hb1
      clear hb1
      go_wp2_with (fail)
      refine (total_any b m cb B w1 HM.out (HB.out.below B1.out) (by have := HM.out; omega)).mono ?_
      rintro e2 w2 ⟨rfl, hb2⟩
      have b2 := below_on B1.out hb2 B1.out.size
      have B2 := Lib.hid b2
      clear hb2 b2
      go_wp2_with (with_reducible refine stop_storet ?_)
      have hok := fun e he => HA.out.ok e he
      have oA := tot_ok A HA.out.ok
      have oB := tot_ok B HB.out.ok
      have z1 := Blk.new w2 (tsA ts0) 41
      have s1 : (w2.alloc (.cells (tsA ts0) 41)).heap.size = w2.heap.size + 1 := by simp
      have z2 := Blk.new (w2.alloc (.cells (tsA ts0) 41)) (tsA ts0) 41
      have z1' := z1.alloc (.cells (tsA ts0) 41)
      have b3 : Below w2.heap.size w2 ((w2.alloc (.cells (tsA ts0) 41)).alloc (.cells (tsA ts0) 41)) := ((Below.refl _ _).alloc (Nat.le_refl _) _).alloc (by omega) _
      rw [s1] at z2
      have hlit : tsA ts0 = #[.int .i64 0, .int .i64 0, .int .i64 0, .int .i64 0, .int .i64 0, .int .i64 0, .int .i64 0, .int .i64 0, .int .i64 0, .int .i64 0, .int .i64 0, .int .u64 0, .int .u64 0, .int .u64 0] := rfl
      rw [← hlit]
      generalize (w2.alloc (.cells (tsA ts0) 41)).alloc (.cells (tsA ts0) 41) = w3 at z1' z2 b3 ⊢
      refine Stop.out ?_
      refine wpList_storet rfl rfl oA.len TOk.start.len rfl rfl z1' totals_size ?_
      intro w4 x4 on4
      have y4 := on4.blk z2 (by omega)
      refine wpList_storet rfl rfl oB.len TOk.start.len rfl rfl y4 totals_size ?_
      intro w5 y5 on5
      have x5 := on5.blk x4 (by omega)
      have b4 : Below w2.heap.size w2 w4 := below_onto b3 on4 b3.size (by intro z hz h9; omega)
      have b5 : Below w2.heap.size w2 w5 := below_onto b4 on5 b4.size (by intro z hz h9; omega)
      have b5' : Below w.heap.size w w5 := below_on B2.out b5 B2.out.size
      have hq : w.heap.size ≤ w2.heap.size := B2.out.size
      generalize w2.heap.size = q at x5 y5 hq ⊢
      have hq5 : q + 1 < w5.heap.size := y5.lt
      have X5 := Lib.hid x5
      have Y5 := Lib.hid y5
      have B5 := Lib.hid b5'
      have OA := Lib.hid oA
      have OB := Lib.hid oB
      clear hok z1 s1 z2 z1' b3 hlit on4 y4 on5 x5 y5 b4 b5 b5' x4 oA oB B1 B2
      go_wp2_with (at_builtin; refine Stop.mk ?_)
      refine Stop.out ?_
      refine wpList_appE ev_et rfl rfl (base := w5.heap.size) (xs := []) (k := n) rfl rfl (Nat.zero_add _) (OwnS.new w5 w5.heap.size (Nat.le_refl _) 26 4 0 #[] (by simp [maxLen]) rfl) (((HA.out.below B5.out).below ((Below.refl _ _).alloc (Nat.le_refl _) _)).src HN.out) (by simp only [maxLen]; omega) (by omega) (by simp) ?_
      intro a6 c6 w6 o6 on6 _
      have b6 : Below w5.heap.size w5 w6 := below_onto ((Below.refl _ _).alloc (Nat.le_refl _) _) on6 (by simp) (by rintro z hz ⟨y, hy, rfl⟩; cases hy; simp at hz)
      rw [List.nil_append] at o6
      have O6 := Lib.hid o6
      have B6 := Lib.hid b6
      clear o6 on6 b6
      go_wp2_with (at_builtin; refine Stop.mk ?_)
      refine Stop.out ?_
      have b56 := below_on B5.out B6.out B5.out.size
      refine wpList_appE ev_et rfl rfl (base := w5.heap.size) (k := n + m) rfl rfl rfl O6.out ((HB.out.below b56).src HM.out) (by simp only [maxLen]; omega) (by omega) B6.out.size ?_
      intro a7 c7 w7 o7 on7 _
      have b7 : Below w5.heap.size w5 w7 := below_onto B6.out on7 B6.out.size (by rintro z hz ⟨y, hy, rfl⟩; have := (O6.out.block hy).1; omega)
      rw [← cellsE_append] at o7
      obtain ⟨n7, e7⟩ := o7.es (fun p hp => by
        rcases List.mem_append.1 hp with h9 | h9
        · exact HA.out.ok p h9
        · exact HB.out.ok p h9)
      have E7 := Lib.hid e7
      have N7 := Lib.hid n7
      have B7 := Lib.hid b7
      clear o7 on7 b7 b56 e7 n7
      go_wp2_with (fail)
      refine (total_any a7 (n + m) c7 (A ++ B) w7 N7.out E7.out (by rw [← N7.out]; omega)).mono ?_
      rintro e8 w8 ⟨rfl, hb8⟩
      have b8 := below_on B7.out hb8 B7.out.size
      have B8 := Lib.hid b8
      clear hb8 b8 O6 B6 B7 N7
      go_wp2_with (with_reducible refine stop_storet ?_)
      have z8 := Blk.new w8 (tsA ts0) 41
      have b9 : Below w8.heap.size w8 (w8.alloc (.cells (tsA ts0) 41)) := (Below.refl _ _).alloc (Nat.le_refl _) _
      have hlit : tsA ts0 = #[.int .i64 0, .int .i64 0, .int .i64 0, .int .i64 0, .int .i64 0, .int .i64 0, .int .i64 0, .int .i64 0, .int .i64 0, .int .i64 0, .int .i64 0, .int .u64 0, .int .u64 0, .int .u64 0] := rfl
      rw [← hlit]
      generalize w8.alloc (.cells (tsA ts0) 41) = w9 at z8 b9 ⊢
      refine Stop.out ?_
      have oC := tot_ok (A ++ B) (fun p hp => by
        rcases List.mem_append.1 hp with h9 | h9
        · exact HA.out.ok p h9
        · exact HB.out.ok p h9)
      refine wpList_storet rfl rfl oC.len TOk.start.len rfl rfl z8 totals_size ?_
      intro wA zA onA
      have bA : Below w8.heap.size w8 wA := below_onto b9 onA b9.size (by intro z hz h9; omega)
      have bA5 : Below w5.heap.size w5 wA := below_on B8.out bA B8.out.size
      have hr : w5.heap.size ≤ w8.heap.size := B8.out.size
      generalize w8.heap.size = r at zA hr ⊢
      have hrA : r < wA.heap.size := zA.lt
      have xA := X5.out.below bA5
      have yA := Y5.out.below bA5
      have b0A := below_on B5.out bA5 B5.out.size
      have XA := Lib.hid xA
      have YA := Lib.hid yA
      have ZA := Lib.hid zA
      have BA := Lib.hid b0A
      have OC := Lib.hid oC
      clear z8 b9 hlit onA bA bA5 xA yA zA b0A oC
      go_wp2_with (fail)
      have m1 := Blk.new wA (mA ts0.many) 39
      have bB : Below wA.heap.size wA (wA.alloc (.cells (mA ts0.many) 39)) := (Below.refl _ _).alloc (Nat.le_refl _) _
      have hst : TJ wA A 0 ts0 (wA.alloc (.cells (mA ts0.many) 39)) := ⟨bB, m1, TOk.start, rfl⟩
      have hlit : mA ts0.many = #[.int .i64 0, .int .i64 0, .int .i64 0, .int .i64 0, .int .i64 0, .int .i64 0, .int .i64 0, .int .i64 0, .int .i64 0, .int .i64 0, .int .i64 0] := rfl
      rw [← hlit]
      generalize wA.alloc (.cells (mA ts0.many) 39) = wB at hst ⊢
      have HST := Lib.hid hst
      clear m1 bB hst hlit
      go_loopw [9, 10, 11, 13, 14, 15, 38] (fun s9 s10 s11 _ _ _ i wr => ∃ (k : Nat) (t : TS), i = .int .i64 k ∧ s9 = .int .u64 t.wr ∧ s10 = .int .u64 t.rd ∧ s11 = .int .u64 t.wi ∧ k ≤ n ∧ Hid (TJ wA A k t wr)) (fun _ _ _ _ _ _ i _ => n - (intOf i).toNat)
      case atStart => exact ⟨0, ts0, rfl, rfl, rfl, rfl, by omega, HST⟩
      case round =>
        clear HST X5 Y5 B5 B8 E7
        obtain ⟨k, t, rfl, rfl, rfl, rfl, hk, hok⟩ := hrel
        by_cases hlt : k < n
        · have hltL : k < A.length := by have := HN.out; omega
          obtain ⟨gb, go, rfl, hgb, e, hed, e0, e1, e2, e3, he⟩ := (HA.out.below (below_on BA.out hok.out.below BA.out.size)).at_ hltL
          obtain ⟨ea, eA, eB, ek⟩ := e
          simp only at e0 e1 e2 e3
          have HED := Lib.hid hed
          have HEO := Lib.hid he
          obtain ⟨he1, he2, he3, he4⟩ := he
          simp only at he1 he2 he3 he4
          have hki : (k : Int) < (n : Int) := by omega
          clear hed
          by_cases h1 : ek < 1
          · have hst : stepT t ⟨ea, eA, eB, ek⟩ = t := by unfold stepT; rw [if_neg (by simp only; omega)]
            have HS := Lib.hid (hok.out.step hltL HED.out HEO.out hst (hok.out.below.alloc hok.out.below.size (.cells #[.int .u64 ea, .int .u64 eA, .int .u64 eB, .int .u8 ek] 26)) (hok.out.cur.alloc _))
            have d3 : ¬ (ek : Int) ≥ 1 := by omega
            have n6 : ¬ (ek : Int) = 6 := by omega
            have n7 : ¬ (ek : Int) = 7 := by omega
            have n9 : ¬ (ek : Int) = 9 := by omega
            clear hst
            go_wp2_with (fail)
            exact ⟨⟨k + 1, t, by go_num, rfl, rfl, rfl, by omega, HS⟩, by simp [intOf]; omega⟩
          · by_cases h2 : 10 < ek
            · have hst : stepT t ⟨ea, eA, eB, ek⟩ = t := by unfold stepT; rw [if_neg (by simp only; omega)]
              have HS := Lib.hid (hok.out.step hltL HED.out HEO.out hst (hok.out.below.alloc hok.out.below.size (.cells #[.int .u64 ea, .int .u64 eA, .int .u64 eB, .int .u8 ek] 26)) (hok.out.cur.alloc _))
              have d3 : (ek : Int) ≥ 1 := by omega
              have d4 : ¬ (ek : Int) ≤ 10 := by omega
              have n6 : ¬ (ek : Int) = 6 := by omega
              have n7 : ¬ (ek : Int) = 7 := by omega
              have n9 : ¬ (ek : Int) = 9 := by omega
              clear hst
              go_wp2_with (fail)
              exact ⟨⟨k + 1, t, by go_num, rfl, rfl, rfl, by omega, HS⟩, by simp [intOf]; omega⟩
            · have d3 : (ek : Int) ≥ 1 := by omega
              have d4 : (ek : Int) ≤ 10 := by omega
              have d5 : (ek : Int) < 11 := by omega
              have d6 : ek < 11 := by omega
              have hlen := hok.out.ok.len
              have c_m := hok.out.cur.cell ek _ (mA_get hlen d6)
              have f_m := hok.out.cur.free ek
              have hm := hok.out.ok.many ek
              have hm2 : t.many.getD ek 0 ≤ 2000 := by omega
              obtain ⟨mm, hmx⟩ : ∃ mm, t.many.getD ek 0 = mm := ⟨_, rfl⟩
              rw [hmx] at c_m hm hm2
              have HMX := Lib.hid hmx
              clear hmx
              have hlc := hok.out.cur.lt
              by_cases k6 : ek = 6
              · subst k6
                have hst : stepT t ⟨ea, eA, eB, 6⟩ = { t with many := t.many.set 6 (mm + 1), wr := sat (t.wr + eB) } := by
                  unfold stepT
                  rw [if_pos (by simp only; omega)]
                  simp only
                  rw [HMX.out]
                  simp
                have HSTP := Lib.hid hst
                clear hst
                have hwr := hok.out.ok.wr
                have hrd := hok.out.ok.rd
                have hwi := hok.out.ok.wi
                clear hlen
                go_wp2_with (fail)
                exact ⟨⟨k + 1, { t with many := t.many.set 6 (mm + 1), wr := sat (t.wr + eB) }, by go_num, congrArg (Value.int .u64) (own_int hwr), rfl, rfl, by omega, Lib.hid (hok.out.step hltL HED.out HEO.out HSTP.out ((hok.out.below.setCell (by simp) _).alloc (by simpa [World.setCell] using hok.out.below.size) _) (((hok.out.cur.set 6 _).congr (mA_set _ _ (mm + 1))).alloc _))⟩, by simp [intOf]; omega⟩
              · by_cases k7 : ek = 7
                · subst k7
                  have hst : stepT t ⟨ea, eA, eB, 7⟩ = { t with many := t.many.set 7 (mm + 1), rd := sat (t.rd + eB) } := by
                    unfold stepT
                    rw [if_pos (by simp only; omega)]
                    simp only
                    rw [HMX.out]
                    simp
                  have HSTP := Lib.hid hst
                  clear hst
                  have hwr := hok.out.ok.wr
                  have hrd := hok.out.ok.rd
                  have hwi := hok.out.ok.wi
                  clear hlen
                  go_wp2_with (fail)
                  exact ⟨⟨k + 1, { t with many := t.many.set 7 (mm + 1), rd := sat (t.rd + eB) }, by go_num, rfl, congrArg (Value.int .u64) (own_int hrd), rfl, by omega, Lib.hid (hok.out.step hltL HED.out HEO.out HSTP.out ((hok.out.below.setCell (by simp) _).alloc (by simpa [World.setCell] using hok.out.below.size) _) (((hok.out.cur.set 7 _).congr (mA_set _ _ (mm + 1))).alloc _))⟩, by simp [intOf]; omega⟩
                · by_cases k9 : ek = 9
                  · subst k9
                    have hst : stepT t ⟨ea, eA, eB, 9⟩ = { t with many := t.many.set 9 (mm + 1), wi := max (max t.wi eA) eB } := by
                      unfold stepT
                      rw [if_pos (by simp only; omega)]
                      simp only
                      rw [HMX.out]
                      simp
                    have HSTP := Lib.hid hst
                    clear hst
                    have hwr := hok.out.ok.wr
                    have hrd := hok.out.ok.rd
                    have hwi := hok.out.ok.wi
                    clear hlen
                    go_wp2_with (fail)
                    exact ⟨⟨k + 1, { t with many := t.many.set 9 (mm + 1), wi := max (max t.wi eA) eB }, by go_num, rfl, rfl, congrArg (Value.int .u64) (by show (max (t.wi : Int) (max (eA : Int) eB)) = ((max (max t.wi eA) eB : Nat) : Int); omega), by omega, Lib.hid (hok.out.step hltL HED.out HEO.out HSTP.out ((hok.out.below.setCell (by simp) _).alloc (by simpa [World.setCell] using hok.out.below.size) _) (((hok.out.cur.set 9 _).congr (mA_set _ _ (mm + 1))).alloc _))⟩, by simp [intOf]; omega⟩
                  · have n6 : ¬ (ek : Int) = 6 := by omega
                    have n7 : ¬ (ek : Int) = 7 := by omega
                    have n9 : ¬ (ek : Int) = 9 := by omega
                    have hst : stepT t ⟨ea, eA, eB, ek⟩ = { t with many := t.many.set ek (mm + 1) } := by
                      unfold stepT
                      rw [if_pos (by simp only; omega)]
                      simp only
                      rw [HMX.out]
                      simp only [if_neg k6, if_neg k7, if_neg k9]
                    have HSTP := Lib.hid hst
                    clear hst
                    have hwr := hok.out.ok.wr
                    have hrd := hok.out.ok.rd
                    have hwi := hok.out.ok.wi
                    clear hlen
                    go_wp2_with (fail)
                    exact ⟨⟨k + 1, { t with many := t.many.set ek (mm + 1) }, by go_num, rfl, rfl, rfl, by omega, Lib.hid (hok.out.step hltL HED.out HEO.out HSTP.out ((hok.out.below.setCell (by simp) _).alloc (by simpa [World.setCell] using hok.out.below.size) _) (((hok.out.cur.set ek _).congr (mA_set _ _ (mm + 1))).alloc _))⟩, by simp [intOf]; omega⟩
        · obtain rfl : n = k := by omega
          have htt : t = totF A := by rw [hok.out.eq, List.take_of_length_le (by have := HN.out; omega)]; rfl
          subst htt
          have BW := Lib.hid hok.out.below
          have rx := rng_ts OA.out.len (XA.out.below hok.out.below)
          have ry := rng_mA hok.out.cur
          have RX := Lib.hid rx
          have RY := Lib.hid ry
          have cx1 := (XA.out.below hok.out.below).cell 11 _ (tsA_wr OA.out.len)
          have cx2 := (XA.out.below hok.out.below).cell 12 _ (tsA_rd OA.out.len)
          have cx3 := (XA.out.below hok.out.below).cell 13 _ (tsA_wi OA.out.len)
          clear rx ry
          go_wp2_with (with_reducible refine stop_loada ?_)
          refine Stop.out ?_
          refine wpList_loada Tryd.underlying39 arr_size rfl rfl OA.out.len rfl RX.out ?_
          refine wpList_loada Tryd.underlying39 arr_size rfl rfl OA.out.len rfl RY.out ?_
          obtain ⟨ti, hti⟩ : ∃ ti, Tryd.prog.info? 3 = some ti := Option.isSome_iff_exists.1 (by kernel_rfl)
          refine wpList_neqa Tryd.underlying39 hti arr_cells arr_plain Tryd.underlying3 rfl rfl rfl rfl OA.out.len rfl ?_
          clear hti ti
          go_wp2_with (fail)
          clear cx1 cx2 cx3
          have BC := Lib.hid (below_on BA.out BW.out BA.out.size)
          have hrW : r < wr.heap.size := Nat.lt_of_lt_of_le hrA BW.out.size
          have hqW : q + 1 < wr.heap.size := Nat.lt_of_lt_of_le (by omega) BW.out.size
          have XW := Lib.hid (XA.out.below BW.out)
          have YW := Lib.hid (YA.out.below BW.out)
          have ZW := Lib.hid (ZA.out.below BW.out)
          clear hok RX RY BW XA YA ZA BA
          go_loopw [16, 110] (fun _ i w2 => ∃ k : Nat, i = .int .i64 k ∧ k ≤ 11 ∧ Hid (Below wr.heap.size wr w2)) (fun _ i _ => 11 - (intOf i).toNat)
          case atStart => exact ⟨0, rfl, by omega, Lib.hid (Below.refl _ _)⟩
          case round =>
            obtain ⟨k, rfl, hk2, hbw⟩ := hrel
            by_cases hlt2 : k < 11
            · have hki2 : (k : Int) < 11 := by omega
              have ux := (XW.out.below hbw.out).cell k _ (tsA_many OA.out.len hlt2)
              have uy := (YW.out.below hbw.out).cell k _ (tsA_many OB.out.len hlt2)
              have uz := (ZW.out.below hbw.out).cell k _ (tsA_many OC.out.len hlt2)
              rw [tot_many A B hlt2] at uz
              have kx := OA.out.many k
              have ky := OB.out.many k
              rw [← HN.out] at kx
              rw [← HM.out] at ky
              obtain ⟨nx, hnx⟩ : ∃ nx, (totF A).many.getD k 0 = nx := ⟨_, rfl⟩
              obtain ⟨ny, hny⟩ : ∃ ny, (totF B).many.getD k 0 = ny := ⟨_, rfl⟩
              rw [hnx] at ux uz kx
              rw [hny] at uy uz ky
              rw [Int.natCast_add] at uz
              clear hnx hny
              go_wp2_with (fail)
              refine rg_start 14 ?_
              refine rg_same fun p hx hne hC => ?_
              refine rg_quiet 0 [0,1,2,3,4,5,6,7,8,9,10,11,12,13] hC ?_
              simp only [pickD, List.map_cons, List.map_nil, List.getD_cons_zero, List.getD_cons_succ]; repeat (go_big_quiet_step (fail))
              refine wpQuiet_nil ?_
              refine rg_end ?_
              go_wp2_with (fail)
              exact ⟨⟨k + 1, by go_num, by omega, Lib.hid hbw.out.drew⟩, by simp [intOf]; omega⟩
            · obtain rfl : k = 11 := by omega
              have ux := (XW.out.below hbw.out).cell 13 _ (tsA_wi OA.out.len)
              have uy := (YW.out.below hbw.out).cell 13 _ (tsA_wi OB.out.len)
              have uz := (ZW.out.below hbw.out).cell 13 _ (tsA_wi OC.out.len)
              have vx := (XW.out.below hbw.out).cell 12 _ (tsA_rd OA.out.len)
              have vy := (YW.out.below hbw.out).cell 12 _ (tsA_rd OB.out.len)
              have vz := (ZW.out.below hbw.out).cell 12 _ (tsA_rd OC.out.len)
              have hrd := tot_rd A B
              rw [tot_wi A B, show (((max (totF A).wi (totF B).wi : Nat)) : Int) = max ((totF A).wi : Int) ((totF B).wi : Int) by omega] at uz
              have hrd2 : ((totF (A ++ B)).rd : Int) ≥ max ((totF A).rd : Int) ((totF B).rd : Int) := by omega
              have bE := below_on BC.out hbw.out BC.out.size
              have BE := Lib.hid bE
              clear bE hrd
              go_wp2_with (fail)
              refine (HWK.out _ BE.out).mono ?_
              rintro e wZ ⟨rfl, hbZ⟩
              have bZ := below_on BE.out hbZ BE.out.size
              have BZ := Lib.hid bZ
              clear hbZ bZ
              go_wp2_with (fail)
              go_returns
              exact ⟨rfl, BZ.out⟩
    · have d1 : ¬ (n : Int) > 500 := by omega
      have d2 : (m : Int) > 500 := by omega
      go_enter Tryd.func4, Tryd.ntmps4
      go_wp2_with (fail)
      refine (HWK.out _ (Below.refl _ _)).mono ?_
      rintro e w1 ⟨rfl, hb1⟩
      go_wp2_with (fail)
      go_returns
      exact ⟨rfl, hb1⟩
  · have d1 : (n : Int) > 500 := by omega
    go_enter Tryd.func4, Tryd.ntmps4
    go_wp2_with (fail)
    refine (HWK.out _ (Below.refl _ _)).mono ?_
    rintro e w1 ⟨rfl, hb1⟩
    go_wp2_with (fail)
    go_returns
    exact ⟨rfl, hb1⟩
end Go.Proofs.YtfaopoaephlenaaDoor
