/- Trace: Total. -/
import Derived.Test.YtfaopoaephlenaaDoorTr2
namespace Go.Proofs.YtfaopoaephlenaaDoor
open Go.RowKit
set_option linter.unusedVariables false

theorem totals_size : (Tryd.prog.info? 41).map (·.size) = some 14 := by kernel_rfl
section
variable {P : Program} {ops : Array Oper} {rest : List Oper} {o : Oper} {a : Act} {w : World} {Q : Exit → Act → World → Prop}
theorem stop_storet {d : Option Tmp} {x y : Operand} {ty : TypeId} {pos : String} {aft : Array Edge} {g : Option (Nat × Bool)}
    (h : Stop (wpList P ops Q (⟨d, .store 41 x y, ty, pos, aft, g⟩ :: rest) a w)) : wpList P ops Q (⟨d, .store 41 x y, ty, pos, aft, g⟩ :: rest) a w := h
theorem stop_loadt {d : Option Tmp} {x : Operand} {ty : TypeId} {pos : String} {aft : Array Edge} {g : Option (Nat × Bool)}
    (h : Stop (wpList P ops Q (⟨d, .load 41 x, ty, pos, aft, g⟩ :: rest) a w)) : wpList P ops Q (⟨d, .load 41 x, ty, pos, aft, g⟩ :: rest) a w := h
theorem wpList_storet (hgd : o.guard = none) {x y : Operand} (ho : o.op = .store 41 x y) {b : Nat} {t t' : TS} (h1 : t.many.length = 11) (h2 : t'.many.length = 11) (hx : a.eval x = .pointer (some ⟨b, 0, none⟩)) (hy : a.eval y = .agg (tsA t)) (hb : Blk w b (tsA t') 41)
    (hi : (P.info? 41).map (·.size) = some 14)
    (h : ∀ w', Blk w' b (tsA t) 41 → Only (· = b) w w' → wpList P ops Q rest (a.put o.dst undef) w') : wpList P ops Q (o :: rest) a w :=
  wpList_store_row hgd _ x y ho b _ hx hy _ _ hb (by rw [tsA_size h1]; exact hi) (by rw [tsA_size h1, tsA_size h2]) (by
    rw [Array.all_eq_true_iff_forall_mem]
    intro u hu
    simp only [tsA, tsL] at hu
    simp at hu
    rcases hu with ⟨n, _, rfl⟩ | rfl | rfl | rfl <;> rfl) (h _ (setRow_heap w b _ _ _ _ hb) ⟨rfl, rfl, rfl, by simp [World.setRow], fun k hk hs => setRow_other _ _ _ _ hs⟩)
end
theorem results_t1 {P : Program} {fn : Func} {t : Tmp} {T : TypeId} (h : fn.results = #[.cell t T]) (tmps : Array Value) (w : World) {b : Nat} {cs : Array Value} (ht : tmps.getD t undef = .pointer (some ⟨b, 0, none⟩)) (hl : (loadVar T ⟨b, 0, none⟩).run P w = .ok (.agg cs) w) :
    (results fn tmps).run P w = .ok (.agg cs) w := by
  have ht' : tmps[t]?.getD undef = .pointer (some ⟨b, 0, none⟩) := by simpa using ht
  simp [results, h, ht', asAddr, hl]
/-- What a round keeps. -/
structure TI (w0 : World) (h : Nat) (L : List Ev) (k : Nat) (t : TS) (w : World) : Prop where
  below : Below w0.heap.size w0 w
  res : Blk w h (tsA ts0) 41
  cur : Blk w (h + 1) (tsA t) 41
  ok : TOk t k
  eq : t = (L.take k).foldl stepT ts0
theorem TI.step {w0 w w' : World} {h k : Nat} {L : List Ev} {t t' : TS} {e : Ev} (hi : TI w0 h L k t w) (hk : k < L.length) (he : L.getD k default = e) (hok : EvOk e) (ht : stepT t e = t') (hb : Below w0.heap.size w0 w') (hr : Blk w' h (tsA ts0) 41) (hc : Blk w' (h + 1) (tsA t') 41) : TI w0 h L (k + 1) t' w' := by
  subst ht
  refine ⟨hb, hr, hc, hi.ok.step hok, ?_⟩
  rw [List.take_add_one, List.foldl_append, ← hi.eq]
  have : L[k]? = some e := by rw [← he]; simp [hk]
  rw [this]
  rfl
set_option maxRecDepth 100000 in
set_option maxHeartbeats 4000000 in
theorem total_any (a : Option Addr) (n cap : Nat) (L : List Ev) (w : World) (hn : n = L.length) (h : Es w a cap L) (hl : L.length ≤ 2000) :
    Calls Tryd.prog 11 #[.slice a n cap] w fun e w' => e = .returned (.agg (tsA (totF L))) ∧ Below w.heap.size w w' := by
  have HE := Lib.hid h
  have HN := Lib.hid hn
  have hnb : n ≤ 2000 := by omega
  clear h hn
  go_enter Tryd.func11, Tryd.ntmps11
  go_wp2_with (fail)
  have z1 := Blk.new w (tsA ts0) 41
  have b1 : Below w.heap.size w (w.alloc (.cells (tsA ts0) 41)) := (Below.refl _ _).alloc (Nat.le_refl _) _
  have s1 : (w.alloc (.cells (tsA ts0) 41)).heap.size = w.heap.size + 1 := by simp
  have z2 := Blk.new (w.alloc (.cells (tsA ts0) 41)) (tsA ts0) 41
  have z1' := z1.alloc (.cells (tsA ts0) 41)
  have b2 : Below w.heap.size w ((w.alloc (.cells (tsA ts0) 41)).alloc (.cells (tsA ts0) 41)) := b1.alloc (by omega) _
  rw [s1] at z2
  have hst : TI w w.heap.size L 0 ts0 ((w.alloc (.cells (tsA ts0) 41)).alloc (.cells (tsA ts0) 41)) := ⟨b2, z1', z2, TOk.start, rfl⟩
  have hlit : tsA ts0 = #[.int .i64 0, .int .i64 0, .int .i64 0, .int .i64 0, .int .i64 0, .int .i64 0, .int .i64 0, .int .i64 0, .int .i64 0, .int .i64 0, .int .i64 0, .int .u64 0, .int .u64 0, .int .u64 0] := rfl
  rw [← hlit]
  generalize (w.alloc (.cells (tsA ts0) 41)).alloc (.cells (tsA ts0) 41) = w2 at hst ⊢
  have HST := Lib.hid hst
  clear z1 b1 s1 z2 z1' b2 hst hlit
  go_loopw [5, 8, 30, 38, 46] (fun _ i _ _ _ wr => ∃ (k : Nat) (t : TS), i = .int .i64 k ∧ k ≤ n ∧ Hid (TI w w.heap.size L k t wr)) (fun _ i _ _ _ _ => n - (intOf i).toNat)
  case atStart => exact ⟨0, ts0, rfl, by omega, HST⟩
  case round =>
    obtain ⟨k, t, rfl, hk, hok⟩ := hrel
    by_cases hlt : k < n
    · have hltL : k < L.length := by have := HN.out; omega
      obtain ⟨gb, go, rfl, hgb, e, hed, e0, e1, e2, e3, he⟩ := (HE.out.below hok.out.below).at_ hltL
      obtain ⟨ea, eA, eB, ek⟩ := e
      simp only at e0 e1 e2 e3
      have HED := Lib.hid hed
      have HEO := Lib.hid he
      obtain ⟨he1, he2, he3, he4⟩ := he
      simp only at he1 he2 he3 he4
      have hki : (k : Int) < (n : Int) := by omega
      have PB : Below wr.heap.size wr (wr.alloc (.cells #[.int .u64 ea, .int .u64 eA, .int .u64 eB, .int .u8 ek] 26)) := (Below.refl _ _).alloc (Nat.le_refl _) _
      have PN := Blk.new wr #[.int .u64 ea, .int .u64 eA, .int .u64 eB, .int .u8 ek] 26
      have hcur := hok.out.cur.below PB
      have hres := hok.out.res.below PB
      have hlc := hok.out.cur.lt
      have hbw : Below w.heap.size w (wr.alloc (.cells #[.int .u64 ea, .int .u64 eA, .int .u64 eB, .int .u8 ek] 26)) := below_on hok.out.below PB hok.out.below.size
      have HPN := Lib.hid PN
      have HCUR := Lib.hid hcur
      have HRES := Lib.hid hres
      have HBW := Lib.hid hbw
      clear hed PB PN hcur hres hbw
      by_cases h1 : ek < 1
      · have hst : stepT t ⟨ea, eA, eB, ek⟩ = t := by unfold stepT; rw [if_neg (by simp only; omega)]
        have HS := Lib.hid (hok.out.step hltL HED.out HEO.out hst HBW.out HRES.out HCUR.out)
        have d1 : (ek : Int) < 1 := by omega
        clear hst
        go_wp2_with (fail)
        exact ⟨⟨k + 1, t, by go_num, by omega, HS⟩, by simp [intOf]; omega⟩
      · by_cases h2 : 10 < ek
        · have hst : stepT t ⟨ea, eA, eB, ek⟩ = t := by unfold stepT; rw [if_neg (by simp only; omega)]
          have HS := Lib.hid (hok.out.step hltL HED.out HEO.out hst HBW.out HRES.out HCUR.out)
          have d1 : ¬ (ek : Int) < 1 := by omega
          have d2 : (ek : Int) > 10 := by omega
          clear hst
          go_wp2_with (fail)
          exact ⟨⟨k + 1, t, by go_num, by omega, HS⟩, by simp [intOf]; omega⟩
        · have d1 : ¬ (ek : Int) < 1 := by omega
          have d2 : ¬ (ek : Int) > 10 := by omega
          have d3 : (ek : Int) < 11 := by omega
          have d4 : ek < 11 := by omega
          have hlen := hok.out.ok.len
          have c_m := hok.out.cur.cell ek _ (tsA_many hlen d4)
          have f_m := hok.out.cur.free ek
          have hm := hok.out.ok.many ek
          have hm2 : t.many.getD ek 0 ≤ 2000 := by omega
          have hmx : ∃ m, t.many.getD ek 0 = m := ⟨_, rfl⟩
          obtain ⟨m, hmx⟩ := hmx
          rw [hmx] at c_m hm hm2
          have HMX := Lib.hid hmx
          clear hmx
          have HNN : Hid (w.heap.size < wr.heap.size) := Lib.hid (by omega)
          by_cases k6 : ek = 6
          · subst k6
            have hst : stepT t ⟨ea, eA, eB, 6⟩ = { t with many := t.many.set 6 (m + 1), wr := sat (t.wr + eB) } := by
              unfold stepT
              rw [if_pos (by simp only; omega)]
              simp only
              rw [HMX.out]
              simp
            have HSTP := Lib.hid hst
            clear hst
            have HM := Lib.hid hlen
            have c_x := hok.out.cur.cell 11 _ (tsA_wr hlen)
            have f_x := hok.out.cur.free 11
            have b_x := hok.out.ok.wr
            clear hlen
            go_wp2_with (fail)
            refine (more_any _ _ _ b_x he3).mono ?_
            rintro e7 w7 ⟨rfl, rfl⟩
            go_wp2_with (fail)
            exact ⟨⟨k + 1, _, by go_num, by omega, Lib.hid (hok.out.step hltL HED.out HEO.out HSTP.out (((hok.out.below.setCell (by simp) _).setCell (by simp) _).alloc (by simpa [World.setCell] using hok.out.below.size) _) (((hok.out.res.setOther _ _ (by simp)).setOther _ _ (by simp)).alloc _) (((((hok.out.cur.set 6 _).congr (tsA_setMany HM.out (by omega) (m + 1))).set 11 _).congr (tsA_setWr (t := { t with many := t.many.set 6 (m + 1) }) (by simp [HM.out]) _)).alloc _))⟩, by simp [intOf]; omega⟩
          · by_cases k7 : ek = 7
            · subst k7
              have hst : stepT t ⟨ea, eA, eB, 7⟩ = { t with many := t.many.set 7 (m + 1), rd := sat (t.rd + eB) } := by
                unfold stepT
                rw [if_pos (by simp only; omega)]
                simp only
                rw [HMX.out]
                simp
              have HSTP := Lib.hid hst
              clear hst
              have HM := Lib.hid hlen
              have c_x := hok.out.cur.cell 12 _ (tsA_rd hlen)
              have f_x := hok.out.cur.free 12
              have b_x := hok.out.ok.rd
              clear hlen
              go_wp2_with (fail)
              refine (more_any _ _ _ b_x he3).mono ?_
              rintro e7 w7 ⟨rfl, rfl⟩
              go_wp2_with (fail)
              exact ⟨⟨k + 1, _, by go_num, by omega, Lib.hid (hok.out.step hltL HED.out HEO.out HSTP.out (((hok.out.below.setCell (by simp) _).setCell (by simp) _).alloc (by simpa [World.setCell] using hok.out.below.size) _) (((hok.out.res.setOther _ _ (by simp)).setOther _ _ (by simp)).alloc _) (((((hok.out.cur.set 7 _).congr (tsA_setMany HM.out (by omega) (m + 1))).set 12 _).congr (tsA_setRd (t := { t with many := t.many.set 7 (m + 1) }) (by simp [HM.out]) _)).alloc _))⟩, by simp [intOf]; omega⟩
            · by_cases k9 : ek = 9
              · subst k9
                have hst : stepT t ⟨ea, eA, eB, 9⟩ = { t with many := t.many.set 9 (m + 1), wi := max (max t.wi eA) eB } := by
                  unfold stepT
                  rw [if_pos (by simp only; omega)]
                  simp only
                  rw [HMX.out]
                  simp
                have HSTP := Lib.hid hst
                clear hst
                have HM := Lib.hid hlen
                have c_x := hok.out.cur.cell 13 _ (tsA_wi hlen)
                have f_x := hok.out.cur.free 13
                have b_x := hok.out.ok.wi
                have hmax : max (t.wi : Int) (max (eA : Int) eB) = ((max (max t.wi eA) eB : Nat) : Int) := by omega
                have HMAX := Lib.hid hmax
                clear hmax
                clear hlen
                go_wp2_with (fail)
                rw [HMAX.out]
                exact ⟨⟨k + 1, _, by go_num, by omega, Lib.hid (hok.out.step hltL HED.out HEO.out HSTP.out (((hok.out.below.setCell (by simp) _).setCell (by simp) _).alloc (by simpa [World.setCell] using hok.out.below.size) _) (((hok.out.res.setOther _ _ (by simp)).setOther _ _ (by simp)).alloc _) (((((hok.out.cur.set 9 _).congr (tsA_setMany HM.out (by omega) (m + 1))).set 13 _).congr (tsA_setWi (t := { t with many := t.many.set 9 (m + 1) }) (by simp [HM.out]) _)).alloc _))⟩, by simp [intOf]; omega⟩
              · have n6 : ¬ (ek : Int) = 6 := by omega
                have n7 : ¬ (ek : Int) = 7 := by omega
                have n9 : ¬ (ek : Int) = 9 := by omega
                have hst : stepT t ⟨ea, eA, eB, ek⟩ = { t with many := t.many.set ek (m + 1) } := by
                  unfold stepT
                  rw [if_pos (by simp only; omega)]
                  simp only
                  rw [HMX.out]
                  simp only [if_neg k6, if_neg k7, if_neg k9]
                have HSTP := Lib.hid hst
                clear hst
                have HM := Lib.hid hlen
                clear hlen
                go_wp2_with (fail)
                exact ⟨⟨k + 1, _, by go_num, by omega, Lib.hid (hok.out.step hltL HED.out HEO.out HSTP.out ((hok.out.below.setCell (by simp) _).alloc (by simpa [World.setCell] using hok.out.below.size) _) ((hok.out.res.setOther _ _ (by simp)).alloc _) (((hok.out.cur.set ek _).congr (tsA_setMany HM.out d4 (m + 1))).alloc _))⟩, by simp [intOf]; omega⟩
    · have hki : ¬ (k : Int) < (n : Int) := by omega
      have hfin : t = totF L := by rw [hok.out.eq, List.take_of_length_le (by have := HN.out; omega)]; rfl
      have HF := Lib.hid hfin
      have HO := Lib.hid hok.out
      clear hfin
      go_wp2_with (with_reducible refine stop_loadt ?_)
      refine Stop.out ?_
      refine wpList_loadAll Tryd.underlying41 totals_size rfl rfl rfl HO.out.cur (tsA_size HO.out.ok.len) ?_
      refine wpList_storet rfl rfl HO.out.ok.len TOk.start.len rfl rfl HO.out.res totals_size ?_
      intro w9 hb9 on9
      have b9 : Below w.heap.size w w9 := below_onto HO.out.below on9 HO.out.below.size (by intro z hz h9; omega)
      have HB9 := Lib.hid hb9
      have BB9 := Lib.hid b9
      clear hb9 on9 b9
      go_wp2_with (fail)
      refine bodyPost_ret (results_t1 rfl _ _ rfl (run_loadVar_row (P := Tryd.prog) _ w.heap.size 41 41 (tsA t) (0, 0) _ HB9.out Tryd.underlying41 rfl (by rw [tsA_size HO.out.ok.len]; exact totals_size))) rfl ?_
      exact ⟨by rw [HF.out], BB9.out⟩
end Go.Proofs.YtfaopoaephlenaaDoor
