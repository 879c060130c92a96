/- PrioFirst: who is served is ready, and none of a lesser urgency is. -/
import Derived.Test.YtjkihpbpnoelnaaGreatDoorPr22
import Derived.Test.YtjkihpbpnoelnaaGreatDoorPr21
import Derived.Deep.CutRange
import Derived.Deep.CutBlock
namespace Go.Proofs.YtjkihpbpnoelnaaGreatDoor
open Go.RowKit Go.Maps
set_option linter.unusedVariables false
theorem PMap.mono {w : World} {b k k' : Nat} {L : List Strm} (h : PMap w b k L) (hk : k ≤ k') : PMap w b k' L := by
  obtain ⟨n, D, h1, h2, r⟩ := h
  exact ⟨n, D, h1, Nat.le_trans h2 hk, r⟩
theorem SetAt.mono {w : World} {b k k' : Nat} {T : List Nat} (h : SetAt w b k T) (hk : k ≤ k') : SetAt w b k' T := by
  obtain ⟨hn, n, D, h1, h2, r⟩ := h
  exact ⟨hn, n, D, h1, Nat.le_trans h2 hk, r⟩
/-- What stands between two rounds. -/
structure FSt (w0 : World) (q bs br k ck : Nat) (L : List Strm) (T : List Nat) (w : World) : Prop where
  p : PSt w0 q (q + 1) (fun z => z = bs ∨ z = br) ck L w
  m : PMap w bs k L
  r : SetAt w br k T
  i : RdyI L T
theorem FSt.below {w0 : World} {q bs br k ck : Nat} {L : List Strm} {T : List Nat} {w w' : World} (h : FSt w0 q bs br k ck L T w) (hb : Below w.heap.size w w') : FSt w0 q bs br k ck L T w' := ⟨h.p.same hb, h.m.below hb, h.r.below hb, h.i⟩
theorem FSt.mono {w0 : World} {q bs br k k' ck : Nat} {L : List Strm} {T : List Nat} {w : World} (h : FSt w0 q bs br k ck L T w) (hk : k ≤ k') : FSt w0 q bs br k' ck L T w := ⟨h.p, h.m.mono hk, h.r.mono hk, h.i⟩
/-- The ready ones' map has turned. -/
theorem FSt.ready {w0 : World} {q bs br k k' ck : Nat} {L L' : List Strm} {T T' : List Nat} {w w' : World} (hp : PSt w0 q (q + 1) (fun z => z = bs ∨ z = br) ck L w) (hm : PMap w bs k L) (hr : SetAt w' br k' T') (hi : RdyI L T') (hk : k ≤ k') (ho : Only (· = br) w w') (hb : bs ≠ br) (h0 : w0.heap.size ≤ bs ∧ w0.heap.size ≤ br) : FSt w0 q bs br k' ck L T' w' :=
  ⟨hp.foreign (ho.mono fun z _ h => .inr h) (fun z h => by rcases h with e | e <;> omega) (fun z hz => ⟨.inl hz, Nat.lt_of_lt_of_le (hp.xs z hz).1 ho.size⟩), (hm.only ho hb).mono hk, hr, hi⟩
theorem PSt.back {w0 : World} {q bs br xb ck : Nat} {L : List Strm} {w : World} (h : PSt w0 q (q + 1) (fun z => z = bs ∨ z = br ∨ z = xb) ck L w) (h0 : w0.heap.size ≤ bs ∧ w0.heap.size ≤ br ∧ w0.heap.size ≤ xb) : PSt w0 q (q + 1) (fun z => z = bs ∨ z = br) ck L w :=
  h.foreign (Only.refl _ _) (fun z h => by rcases h with e | e | e <;> omega) (fun z hz => ⟨.inl (by rcases hz with e | e; exact .inl e; exact .inr (.inl e)), (h.xs z (by rcases hz with e | e; exact .inl e; exact .inr (.inl e))).1⟩)
theorem PSt.turn3 {w0 : World} {q bs br xb ck : Nat} {L : List Strm} {w w' : World} (h : PSt w0 q (q + 1) (fun z => z = bs ∨ z = br ∨ z = xb) ck L w) (h0 : w0.heap.size ≤ bs ∧ w0.heap.size ≤ br ∧ w0.heap.size ≤ xb) (ho : Only (fun z => z = bs ∨ z = br ∨ z = xb) w w') : PSt w0 q (q + 1) (fun z => z = bs ∨ z = br ∨ z = xb) ck L w' :=
  h.foreign ho (fun z h => by rcases h with e | e | e <;> omega) (fun z hz => ⟨.inl hz, Nat.lt_of_lt_of_le (h.xs z hz).1 ho.size⟩)
theorem dropL_step {L : List Strm} {ids : List Nat} {id : Nat} : ∀ y ∈ dropL (ids ++ [id]) L, y ∈ dropL ids L ∧ y.id ≠ id := by
  intro y hy
  rw [dropL_snoc] at hy
  obtain ⟨h1, h2⟩ := List.mem_filter.1 hy
  exact ⟨h1, by simpa using h2⟩
section
variable {ops : Array Oper} {rest : List Oper} {a : Act} {w : World} {Q : Exit → Act → World → Prop}
theorem stop_dl {P : Program} {d : Option Tmp} {x y : Operand} {tt : Array TypeId} {ty : TypeId} {pos : String} {aft : Array Edge} {g : Option (Nat × Bool)}
    (h : Stop (wpList P ops Q (⟨d, .call ⟨.builtin .delete, #[x, y], tt⟩, ty, pos, aft, g⟩ :: rest) a w)) : wpList P ops Q (⟨d, .call ⟨.builtin .delete, #[x, y], tt⟩, ty, pos, aft, g⟩ :: rest) a w := h
theorem stop_rgm {P : Program} {d : Option Tmp} {t : TypeId} {x : Operand} {ty : TypeId} {pos : String} {aft : Array Edge} {g : Option (Nat × Bool)}
    (h : Stop (wpList P ops Q (⟨d, .range t x, ty, pos, aft, g⟩ :: rest) a w)) : wpList P ops Q (⟨d, .range t x, ty, pos, aft, g⟩ :: rest) a w := h
theorem stop_nxm {P : Program} {d : Option Tmp} {x : Operand} {b : Bool} {ty : TypeId} {pos : String} {aft : Array Edge} {g : Option (Nat × Bool)}
    (h : Stop (wpList P ops Q (⟨d, .next x b, ty, pos, aft, g⟩ :: rest) a w)) : wpList P ops Q (⟨d, .next x b, ty, pos, aft, g⟩ :: rest) a w := h
end
theorem fld0 (u : Int) (b : Bool) (w : World) : (Instr.field 26 (.agg #[.int .u8 u, .bool b]) 0).run Tryz.prog w = .ok (.int .u8 u) w := by kernel_rfl
theorem fld1 (u : Int) (b : Bool) (w : World) : (Instr.field 26 (.agg #[.int .u8 u, .bool b]) 1).run Tryz.prog w = .ok (.bool b) w := by kernel_rfl
set_option maxRecDepth 100000 in
set_option maxHeartbeats 16000000 in
theorem first_any (a0 : Option Addr) (n c0 : Nat) (D : List DoS) (w : World) (hn : n = D.length) (hm : D.length ≤ 140737488355328) (hD : DoAt w a0 D) :
    Calls Tryz.prog 5 #[.slice a0 n c0] w fun e w' => e = .returned (.bool true) ∧ Below w.heap.size w w' := by
  have HN := Lib.hid hn
  have HD := Lib.hid hD
  have HHV := Lib.hid (heavy_any a0 n c0 D w hn hm hD)
  clear hn hD
  have hmm := @run_makeMap Tryz.prog
  go_enter Tryz.func5, Tryz.ntmps5
  go_wp2_with (fail)
  refine HHV.out.mono ?_
  rintro e w1 ⟨hb1, v, rfl, hv⟩
  have B1 := Lib.hid hb1
  have HV := Lib.hid hv
  clear hb1 hv
  cases v with
  | true =>
    go_wp2_with (fail)
    refine (works_any w1).mono ?_
    rintro e w2 ⟨rfl, hb2⟩
    have b2 := Lib.hid (below_on B1.out hb2 B1.out.size)
    clear hb2
    go_wp2_with (fail)
    go_returns
    exact ⟨rfl, b2.out⟩
  | false =>
    obtain ⟨hn600, hids⟩ := HV.out rfl
    have hn6 : n ≤ 600 := by have := HN.out; omega
    have HIDS := Lib.hid hids
    clear hids hn600 hm
    go_wp2_with (fail)
    refine (new_st w w1 B1.out).mono ?_
    rintro e w2 ⟨q, rfl, hS2, hq2, _⟩
    have H2 := Lib.hid hS2
    clear hS2
    go_wp2_with (fail)
    have hs1 := PMap.made w2
    have hs2 := hs1.below ((Below.refl _ (w2.alloc (.map #[] 0))).alloc (Nat.le_refl _) (.map #[] 0))
    have hr2 := SetAt.made (w2.alloc (.map #[] 0))
    have hP2 : PSt w q (q + 1) (fun z => z = w2.heap.size ∨ z = w2.heap.size + 1) 0 [] ((w2.alloc (.map #[] 0)).alloc (.map #[] 0)) := H2.out.foreign (((Only.refl _ w2).alloc _).alloc _) (fun k h => h.elim) (fun k hk => ⟨.inr (by omega), by simp; omega⟩)
    have hm0 : w.heap.size ≤ w2.heap.size := H2.out.below.size
    obtain ⟨bs, hbs⟩ : ∃ bs, w2.heap.size = bs := ⟨_, rfl⟩
    have hsz : (w2.alloc (.map #[] 0)).heap.size = bs + 1 := by simp [hbs]
    rw [hsz] at hr2
    rw [hbs] at hs2 hP2 hm0 ⊢
    obtain ⟨W2, hW2⟩ : ∃ W2, (w2.alloc (.map #[] 0)).alloc (.map #[] 0) = W2 := ⟨_, rfl⟩
    rw [hW2] at hs2 hr2 hP2 ⊢
    obtain ⟨br, hbr⟩ : ∃ br, bs + 1 = br := ⟨_, rfl⟩
    rw [hbr] at hr2 hP2 ⊢
    have hbne : bs ≠ br := by omega
    have hbr0 : w.heap.size ≤ br := by omega
    have HF2 := Lib.hid (FSt.mk hP2 hs2 hr2 RdyI.nil)
    clear hW2 hbs hsz hs1 hs2 hr2 hP2 H2 hbr
    go_loopw [7, 9, 10, 11, 12, 13, 14, 15, 16, 25] (fun _ _ _ _ _ _ _ _ _ i wr => ∃ (k ck : Nat) (L : List Strm) (T : List Nat), i = .int .i64 k ∧ k ≤ n ∧ ck ≤ k ∧ Hid (FSt w q bs br k ck L T wr)) (fun _ _ _ _ _ _ _ _ _ i _ => n - (intOf i).toNat)
    case atStart => exact ⟨0, 0, [], [], rfl, by omega, by omega, HF2⟩
    case round =>
      clear HF2
      obtain ⟨k, ck, L, T, rfl, hk, hck, hF⟩ := hrel
      by_cases hlt : k < n
      · obtain ⟨b, off, d, hd, ha, hb, dok, c0, c1, c2, c3, c4, c5⟩ := (HD.out.below hF.out.p.below).get k (by have := HN.out; omega)
        subst ha
        have hidsd := HIDS.out d (List.mem_of_getElem? hd)
        have hslw : Sl .u64 w d.aI d.cI (natI d.ids) := by
          obtain ⟨b', off', d', hd', _, _, dok0, _⟩ := HD.out.get k (by have := HN.out; omega)
          rw [hd] at hd'
          obtain rfl := Option.some.inj hd'
          exact dok0.sl
        obtain ⟨kind, id, u, inc, is, aI, cI, ids⟩ := d
        have DOK := Lib.hid dok
        have hid64 := dok.id
        have hu256 := dok.u
        simp only at *
        obtain ⟨nl, hnl⟩ : ∃ z, ids.length = z := ⟨_, rfl⟩
        rw [hnl] at c5 hidsd
        have HNL := Lib.hid hnl
        have hF1 := hF.out.below ((Below.refl _ wr).alloc (Nat.le_refl _) (.cells #[.int .u8 kind, .int .u64 id, .int .u8 u, .bool inc, .bool is, .slice aI nl cI] 45))
        have hX1 := Blk.new wr #[.int .u8 kind, .int .u64 id, .int .u8 u, .bool inc, .bool is, .slice aI nl cI] 45
        have hP3 : PSt w q (q + 1) (fun z => z = bs ∨ z = br ∨ z = wr.heap.size) ck L (wr.alloc (.cells #[.int .u8 kind, .int .u64 id, .int .u8 u, .bool inc, .bool is, .slice aI nl cI] 45)) := hF.out.p.foreign ((Only.refl _ wr).alloc _) (fun z h => by rcases h with e | e <;> omega) (fun z hz => by
          have h6 := hF.out.p.xs bs (.inl rfl)
          have h7 := hF.out.p.xs br (.inr rfl)
          rcases hz with e | e | e
          · exact ⟨.inl (.inl e), by simp; omega⟩
          · exact ⟨.inl (.inr e), by simp; omega⟩
          · exact ⟨.inr (by omega), by simp; omega⟩)
        obtain ⟨xb, hxb⟩ : ∃ xb, wr.heap.size = xb := ⟨_, rfl⟩
        have hxbs : bs < xb ∧ br < xb := ⟨by rw [← hxb]; exact hF.out.m.lt, by rw [← hxb]; exact hF.out.r.lt⟩
        have hxq : xb ≠ q := by
          obtain ⟨a9, n9, cp9, hP9, _⟩ := hF.out.p.ex
          have := hP9.blk.lt; omega
        have HSL : Hid (∀ W, Below w.heap.size w W → Sl .u64 W aI cI (natI ids)) := Lib.hid (fun W hW => hslw.below hW)
        rw [hxb] at hX1 hP3
        obtain ⟨W4, hW4⟩ : ∃ W4, wr.alloc (.cells #[.int .u8 kind, .int .u64 id, .int .u8 u, .bool inc, .bool is, .slice aI nl cI] 45) = W4 := ⟨_, rfl⟩
        rw [hW4] at hF1 hX1 hP3
        have HP3 := Lib.hid hP3
        have HF1 := Lib.hid hF1
        have HX1 := Lib.hid hX1
        have x0 := hX1.cell 0 _ rfl
        have x1 := hX1.cell 1 _ rfl
        have x2 := hX1.cell 2 _ rfl
        have x3 := hX1.cell 3 _ rfl
        have x4 := hX1.cell 4 _ rfl
        have x5 := hX1.cell 5 _ rfl
        clear hF1 hX1 hP3 hd dok hnl hF hslw
        go_upto_block 2 with (fail)
        go_cut [] from 31 to 157 (fun wc => ∃ (L' : List Strm) (T' : List Nat) (kk : Nat), kk ≤ k + 1 ∧ Hid (FSt w q bs br kk ck L' T' wc))
        case rest =>
          clear HP3 HF1 HX1 x0 x1 x2 x3 x4 x5 HSL
          obtain ⟨LL, TT, kk, hkk, HT⟩ := hcut
          go_wp2_with (fail)
          refine (top_st HT.out.p).mono ?_
          rintro e w5 ⟨hb5, v5, rfl, hv5⟩
          have HT5 := Lib.hid (HT.out.below hb5)
          clear hb5
          rcases hv5 with ⟨hnone, rfl⟩ | ⟨bst, hbst, rfl⟩
          · have hT0 := HT5.out.i.empty hnone
            have HNO := Lib.hid hnone
            clear hnone
            go_wp2_with (fail)
            refine (serve_st HT5.out.p (by omega)).mono ?_
            rintro e w6 ⟨hk6, v6, rfl, hv6⟩
            rcases hv6 with ⟨_, rfl, hS6⟩ | ⟨x6, hx6, _⟩
            · have hm6 := HT5.out.m.only hk6 (fun h => h (.inl rfl))
              have hr6 := HT5.out.r.only hk6 (fun h => h (.inr rfl))
              have hlen := fun ty => run_lenset hr6 ty
              rw [hT0] at hlen
              have HF6 := Lib.hid ((FSt.mk hS6 hm6 hr6 HT5.out.i).mono (k' := k + 1) (by omega))
              clear hS6 hm6 hr6 hk6 hT0
              go_wp2_with (fail)
              exact ⟨⟨k + 1, ck, _, _, by go_num, by omega, by omega, HF6⟩, by simp [intOf]; omega⟩
            · have := HNO.out x6 hx6.1
              rw [hx6.2.1] at this
              cases this
          · have hbT := HT5.out.i.best hbst
            have hb64 := u64_of HT5.out.p.ok hbst.1
            have HBST := Lib.hid hbst
            obtain ⟨bi, hbi⟩ : ∃ z, bst.id = z := ⟨_, rfl⟩
            rw [hbi] at hbT hb64
            rw [hbi]
            have HBM := Lib.hid (And.intro hbst.1 hbi)
            have HBT := Lib.hid hbT
            have HB64 := Lib.hid hb64
            clear hbst hbT hb64 hbi
            go_wp2_with (fail)
            refine (serve_st HT5.out.p (by omega)).mono ?_
            rintro e w6 ⟨hk6, v6, rfl, hv6⟩
            obtain ⟨rfl, hS6⟩ := hv6.known HBST.out
            have hm6 := HT5.out.m.only hk6 (fun h => h (.inl rfl))
            have hr6 := HT5.out.r.only hk6 (fun h => h (.inr rfl))
            have hlen := fun ty => run_lenset hr6 ty
            obtain ⟨tl, htl⟩ : ∃ z, TT.length = z := ⟨_, rfl⟩
            rw [htl] at hlen
            have htl0 : 0 < tl := by rw [← htl]; exact List.length_pos_of_mem HBT.out
            have hS6' := hS6
            rw [HBM.out.2] at hS6' ⊢
            have hm6' := hm6.turn (updL_alike (L := LL) (id := bi) (f := setServed (ck + 1)) (fun x => ⟨rfl, rfl, rfl⟩))
            have HF6 := Lib.hid ((FSt.mk hS6' hm6' hr6 (HT5.out.i.served bi (ck + 1))).mono (k' := k + 1) (by omega))
            have HM6 := Lib.hid hm6
            have hbne0 : ((bi : Int) != (bi : Int)) = false := by simp
            have hdl : decide ((0 : Int) < (tl : Int)) = true := decide_eq_true (by omega)
            have dT : decide (bi ∈ TT) = true := decide_eq_true HBT.out
            have DT := Lib.hid dT
            clear hS6 hS6' hm6 hm6' hr6 hk6 hv6 htl dT
            go_wp2_with (with_reducible refine stop_lk ?_)
            refine Stop.out ?_
            refine wpList_inset rfl rfl HF6.out.r rfl rfl HB64.out ?_
            rw [DT.out]
            clear hlen
            have bW7 : Below w6.heap.size w6 (w6.alloc (.cells #[] 52)) := (Below.refl _ _).alloc (Nat.le_refl _) _
            have HF7 := Lib.hid (HF6.out.below bW7)
            have HM7 := Lib.hid (HM6.out.below bW7)
            clear bW7
            go_wp2_with (with_reducible refine stop_rgm ?_)
            refine Stop.out ?_
            obtain ⟨W7, hW7⟩ : ∃ W, w6.alloc (.cells #[] 52) = W := ⟨_, rfl⟩
            rw [hW7] at HF7 HM7 ⊢
            obtain ⟨hnd, nn, DD, h1, h2, h3, h4, h5⟩ := HF7.out.r
            have H5 := Lib.hid h5
            refine wpList_range_own _ rfl _ _ rfl 31 52 set_keyed Tryz.underlying51 unitElem br nn DD rfl h1 ?_
            intro w8 hrg8 hg8 hs8
            have ho8 : Only (fun _ => False) W7 w8 := ⟨hg8.os, hg8.tape, hg8.output, hg8.size, fun k hk _ => hg8.block k hk (by simp)⟩
            have hp8 : PSt w q (q + 1) (fun z => z = bs ∨ z = br ∨ z = W7.heap.size) (ck + 1) (updL bi (setServed (ck + 1)) LL) w8 := HF7.out.p.foreign (ho8.mono fun k _ h => h.elim) (fun z h => by rcases h with e | e <;> omega) (fun z hz => by
              have h6 := HF7.out.p.xs bs (.inl rfl)
              have h7 := HF7.out.p.xs br (.inr rfl)
              rcases hz with e | e | e
              · exact ⟨.inl (.inl e), by omega⟩
              · exact ⟨.inl (.inr e), by omega⟩
              · exact ⟨.inr (by omega), by omega⟩)
            have hJ8 := Lib.hid (And.intro (And.intro hp8 (HF7.out.r.only ho8 (fun h => h))) (HM7.out.only ho8 (fun h => h)))
            obtain ⟨r0, hr0⟩ : ∃ z, W7.heap.size = z := ⟨_, rfl⟩
            have hr0b : bs < r0 ∧ br < r0 ∧ w.heap.size ≤ r0 := ⟨by rw [← hr0]; exact HF7.out.m.lt, by rw [← hr0]; exact HF7.out.r.lt, by rw [← hr0]; exact HF7.out.p.below.size⟩
            rw [hr0] at hJ8 hrg8 ⊢
            clear h1 h2 h3 h4 h5 hnd hg8 hs8 ho8 hp8 hr0 HF6 HM6 HM7 hW7
            go_frame
            go_wp2_with (fail)
            go_loopw [16] (fun _ wv => ∃ (left : Lit → Bool) (cnt : Nat), wv.ranges Tryz.prog 31 unitElem br r0 nn DD left cnt ∧ Hid ((PSt w q (q + 1) (fun z => z = bs ∨ z = br ∨ z = r0) (ck + 1) (updL bi (setServed (ck + 1)) LL) wv ∧ SetAt wv br (k + 1) TT) ∧ PMap wv bs kk LL)) (fun _ wv => wv.rangeLeft br r0)
            case atStart => exact ⟨_, _, hrg8, hJ8⟩
            case round =>
              clear hrg8 hJ8
              obtain ⟨left, cnt, hrg, hJ⟩ := hrel
              have HRG := Lib.hid hrg
              go_wp2_with (with_reducible refine stop_nxm ?_)
              refine Stop.out ?_
              refine wpList_next_ranges _ rfl _ rfl 31 set_keyed unitElem (fun x : Int => Value.int .u64 x) (fun _ : Unit => Value.agg #[]) (fun key kl h => by obtain ⟨x, rfl, _⟩ := Maps.keyOf_int_inv Tryz.underlying31 h; exact ⟨x, rfl⟩) (fun v y h => ⟨(), (unitElem_inv h).1⟩) br r0 nn DD left cnt rfl hrg ?_ ?_
              · intro _ _
                have HF9 := Lib.hid (FSt.mk (k := k + 1) (hJ.out.1.1.foreign (X' := fun z => z = bs ∨ z = br) (Only.refl _ _) (fun z h => by rcases h with e | e | e <;> omega) (fun z hz => ⟨.inl (by rcases hz with e | e; exact .inl e; exact .inr (.inl e)), (hJ.out.1.1.xs z (by rcases hz with e | e; exact .inl e; exact .inr (.inl e))).1⟩)) ((hJ.out.2.mono (k' := k + 1) (by omega)).turn (updL_alike (L := LL) (id := bi) (f := setServed (ck + 1)) (fun x => ⟨rfl, rfl, rfl⟩))) hJ.out.1.2 (HT5.out.i.served bi (ck + 1)))
                clear hrg hJ HRG
                go_wp2_with (fail)
                exact ⟨⟨k + 1, ck + 1, _, _, by go_num, by omega, by omega, HF9⟩, by simp [intOf]; omega⟩
              · intro x9 _ kl y9 w9 cnt9 hkey hlk hRv hat hrg' hlt9 hgr hsz hen
                obtain ⟨x', ex, rfl, hwx⟩ := Maps.keyOf_int_inv Tryz.underlying31 hkey
                cases ex
                have hxb := bounds_u64 hwx
                obtain ⟨xn, rfl⟩ : ∃ z : Nat, x9 = z := ⟨x9.toNat, by omega⟩
                have hx64 : u64Ok xn := by unfold u64Ok; omega
                have hhas := has_true_of_atKey hat
                rw [H5.out xn hx64] at hhas
                obtain ⟨yv, hyL, hyI, hyr⟩ := (HT5.out.i xn).1 (of_decide_eq_true hhas)
                have hbf := best_first HBST.out hyL hyr
                have HYM := Lib.hid (And.intro hyL hyI)
                have HX64 := Lib.hid hx64
                have ho9 : Only (· = r0) wr w9 := ⟨hgr.os, hgr.tape, hgr.output, hgr.size, fun k hk hs => hgr.block k hk (fun e => hs (by cases e; rfl))⟩
                have hJ9 := Lib.hid (And.intro (And.intro (hJ.out.1.1.foreign (X' := fun z => z = bs ∨ z = br ∨ z = r0) (ho9.mono fun z _ h => .inr (.inr h)) (fun z h => by rcases h with e | e | e <;> omega) (fun z hz => ⟨.inl hz, Nat.lt_of_lt_of_le (hJ.out.1.1.xs z hz).1 ho9.size⟩)) (hJ.out.1.2.only ho9 (by omega))) (hJ.out.2.only ho9 (by omega)))
                clear hJ ho9 hkey hlk hRv hat hgr hsz hwx hxb hhas hyL hyI hyr hx64 hrg
                have hfl0 := fld0
                have hfl1 := fld1
                obtain ⟨hb1, hb2⟩ := hbf
                have g1 : decide ((yv.urg : Int) < (bst.urg : Int)) = false := decide_eq_false (by omega)
                have g1n : decide (yv.urg < bst.urg) = false := decide_eq_false (by omega)
                clear hb1
                go_wp2_with (with_reducible refine stop_lk ?_)
                refine Stop.out ?_
                refine wpList_atprio ?_ rfl hJ9.out.2 HYM.out.1 HYM.out.2 rfl rfl HX64.out ?_
                · first | rfl | (simp [Region.wanted, yielded, g1n]; done)
                go_wp2_with (with_reducible refine stop_lk ?_)
                refine Stop.out ?_
                refine wpList_atprio ?_ rfl hJ9.out.2 HBM.out.1 HBM.out.2 rfl rfl HB64.out ?_
                · first | rfl | (simp [Region.wanted, yielded, g1n]; done)
                go_wp2_with (with_reducible refine stop_lk ?_)
                refine Stop.out ?_
                refine wpList_atprio ?_ rfl hJ9.out.2 HYM.out.1 HYM.out.2 rfl rfl HX64.out ?_
                · first | rfl | (simp [Region.wanted, yielded, g1n]; done)
                go_wp2_with (with_reducible refine stop_lk ?_)
                refine Stop.out ?_
                refine wpList_atprio ?_ rfl hJ9.out.2 HBM.out.1 HBM.out.2 rfl rfl HB64.out ?_
                · first | rfl | (simp [Region.wanted, yielded, g1n]; done)
                rcases hb2 with hb2 | ⟨hb2, hb3⟩
                · have g2 : ((yv.urg : Int) == (bst.urg : Int)) = false := by simp; omega
                  have g2n : (yv.urg == bst.urg) = false := by simp; omega
                  have g2m : decide (yv.urg = bst.urg) = false := decide_eq_false (by omega)
                  clear hb2
                  go_wp2_with (fail)
                  exact ⟨⟨_, _, hrg', hJ9⟩, by rw [hrg'.left_eq, HRG.out.left_eq]; omega⟩

                · have g2 : ((yv.urg : Int) == (bst.urg : Int)) = true := by simp; omega
                  have g2n : (yv.urg == bst.urg) = true := by simp; omega
                  have g2m : decide (yv.urg = bst.urg) = true := decide_eq_true (by omega)
                  clear hb2
                  go_wp2_with (with_reducible refine stop_lk ?_)
                  refine Stop.out ?_
                  refine wpList_atprio ?_ rfl hJ9.out.2 HBM.out.1 HBM.out.2 rfl rfl HB64.out ?_
                  · first | rfl | (simp [Region.wanted, yielded, g1n, g2n, g2m]; done)
                  rcases hb3 with hb3 | hb3
                  · 
                    go_wp2_with (fail)
                    exact ⟨⟨_, _, hrg', hJ9⟩, by rw [hrg'.left_eq, HRG.out.left_eq]; omega⟩

                  · cases hbinc : bst.inc with
                    | false =>
                      go_wp2_with (fail)
                      exact ⟨⟨_, _, hrg', hJ9⟩, by rw [hrg'.left_eq, HRG.out.left_eq]; omega⟩

                    | true =>
                      go_wp2_with (with_reducible refine stop_lk ?_)
                      refine Stop.out ?_
                      refine wpList_atprio ?_ rfl hJ9.out.2 HYM.out.1 HYM.out.2 rfl rfl HX64.out ?_
                      · first | rfl | (simp [Region.wanted, yielded, g1n, g2n, g2m]; done)
                      go_wp2_with (fail)
                      exact ⟨⟨_, _, hrg', hJ9⟩, by rw [hrg'.left_eq, HRG.out.left_eq]; omega⟩

        case first =>
        by_cases k0 : kind = 0
        · have e0 : ((kind : Int) == 0) = true := by simp [k0]
          clear k0
          have h03 : w.heap.size ≤ bs ∧ w.heap.size ≤ br ∧ w.heap.size ≤ xb := ⟨hm0, hbr0, by omega⟩
          go_wp2_with (fail)
          refine (set_st HP3.out id u inc hu256 hid64).mono ?_
          rintro e w10 ⟨rfl, hS10, hk10⟩
          have hm10 := HF1.out.m.only hk10 (fun h => h (.inl rfl))
          have hr10 := HF1.out.r.only hk10 (fun h => h (.inr (.inl rfl)))
          have hx10 := hk10.blk HX1.out (fun h => h (.inr (.inr rfl)))
          have x1 := hx10.cell 1 _ rfl
          have x2 := hx10.cell 2 _ rfl
          have x3 := hx10.cell 3 _ rfl
          have H10 := Lib.hid (And.intro hS10 (And.intro hm10 hr10))
          by_cases hz : setR u id L = 0
          · rw [hz]
            have HZ := Lib.hid hz
            clear hS10 hm10 hr10 hx10 hk10 hz
            go_wp2_with (with_reducible refine stop_mu ?_)
            refine Stop.out ?_
            refine wpList_setprio (L' := setL u inc id L) rfl rfl H10.out.2.1 (by unfold maxLen; omega) rfl rfl rfl hid64 (fun y hy => setL_cases HZ.out hy) ?_
            intro w11 hm11 ho11
            have HT1 := Lib.hid (FSt.mk ((H10.out.1.turn3 h03 (ho11.mono fun z _ h => .inl h)).back h03) hm11 ((H10.out.2.2.only ho11 (fun e => hbne e.symm)).mono (Nat.le_succ k)) (HF1.out.i.set u id inc))
            clear hm11 ho11 H10 x1 x2 x3
            go_wp2_with (fail)
            go_meet
            case rel => exact ⟨_, _, _, by omega, HT1⟩
          · have hz2 : (setR u id L == 0) = false := by simpa using hz
            have hzL := setL_same (b := inc) hz
            obtain ⟨rv, hrv⟩ : ∃ z, setR u id L = z := ⟨_, rfl⟩
            rw [hrv] at hz2 ⊢
            rw [hzL] at H10
            have HT1 := Lib.hid (FSt.mk (H10.out.1.back h03) H10.out.2.1 H10.out.2.2 HF1.out.i)
            clear hS10 hm10 hr10 hx10 hk10 hz hrv H10 x1 x2 x3 hzL
            go_wp2_with (fail)
            go_meet
            case rel => exact ⟨_, _, _, by omega, HT1⟩
        · by_cases k1 : kind = 1
          · have e0 : ((kind : Int) == 0) = false := by simp; omega
            have e1 : ((kind : Int) == 1) = true := by simp [k1]
            clear k0 k1
            have h03 : w.heap.size ≤ bs ∧ w.heap.size ≤ br ∧ w.heap.size ≤ xb := ⟨hm0, hbr0, by omega⟩
            go_wp2_with (fail)
            refine (ready_st HP3.out id is).mono ?_
            rintro e w10 ⟨rfl, hS10, hk10⟩
            have hm10 := (HF1.out.m.only hk10 (fun h => h (.inl rfl))).turn (updL_alike (L := L) (id := id) (f := setReady is) (fun x => ⟨rfl, rfl, rfl⟩))
            have hr10 := HF1.out.r.only hk10 (fun h => h (.inr (.inl rfl)))
            have hx10 := hk10.blk HX1.out (fun h => h (.inr (.inr rfl)))
            have x1 := hx10.cell 1 _ rfl
            have x4 := hx10.cell 4 _ rfl
            have H10 := Lib.hid (And.intro hS10 (And.intro hm10 hr10))
            obtain ⟨hh, hhe⟩ : ∃ z, hasL id L = z := ⟨_, rfl⟩
            rw [hhe]
            have HH := Lib.hid hhe
            clear hS10 hm10 hr10 hx10 hk10 hhe
            by_cases hon : hh = true ∧ is = true
            · obtain ⟨rfl, rfl⟩ := hon
              go_wp2_with (with_reducible refine stop_mu ?_)
              refine Stop.out ?_
              refine wpList_addset rfl rfl H10.out.2.2 (by unfold maxLen; omega) rfl rfl rfl hid64 ?_
              intro w11 hr11 ho11
              have HT1 := Lib.hid (FSt.mk ((H10.out.1.turn3 h03 (ho11.mono fun z _ h => .inr (.inl h))).back h03) ((H10.out.2.1.only ho11 hbne).mono (Nat.le_succ k)) hr11 (HF1.out.i.on HH.out))
              clear hr11 ho11 H10 x1 x4
              go_wp2_with (fail)
              go_meet
              case rel => exact ⟨_, _, _, by omega, HT1⟩
            · have hoff : hasL id L = true → is = false := fun h => by
                rw [HH.out] at h
                cases is with
                | false => rfl
                | true => exact absurd ⟨h, rfl⟩ hon
              have HOFF := Lib.hid hoff
              have hcond : ((if hh = true then (0 : Int) else 4) == 0 && is) = false := by
                cases hh <;> cases is <;> simp at hon ⊢
              have HCO := Lib.hid hcond
              have tailK : ∀ (w' : World), w' = w10 → True := fun _ _ => trivial
              clear hoff hcond tailK
              cases hh with
              | false =>
                clear hon
                go_wp2_with (with_reducible refine stop_dl ?_)
                refine Stop.out ?_
                refine wpList_delset (tk := 0) rfl rfl H10.out.2.2 rfl rfl hid64 ?_
                intro w11 hr11 ho11
                have HT1 := Lib.hid (FSt.mk ((H10.out.1.turn3 h03 (ho11.mono fun z _ h => .inr (.inl h))).back h03) (H10.out.2.1.only ho11 hbne) hr11 (HF1.out.i.off HOFF.out))
                clear hr11 ho11 H10 x1 x4
                go_wp2_with (fail)
                go_meet
                case rel => exact ⟨_, _, _, by omega, HT1⟩
              | true =>
                obtain rfl : is = false := by
                  cases is with
                  | false => rfl
                  | true => exact absurd ⟨rfl, rfl⟩ hon
                clear hon
                go_wp2_with (with_reducible refine stop_dl ?_)
                refine Stop.out ?_
                refine wpList_delset (tk := 0) rfl rfl H10.out.2.2 rfl rfl hid64 ?_
                intro w11 hr11 ho11
                have HT1 := Lib.hid (FSt.mk ((H10.out.1.turn3 h03 (ho11.mono fun z _ h => .inr (.inl h))).back h03) (H10.out.2.1.only ho11 hbne) hr11 (HF1.out.i.off (fun _ => rfl)))
                clear hr11 ho11 H10 x1 x4
                go_wp2_with (fail)
                go_meet
                case rel => exact ⟨_, _, _, by omega, HT1⟩
          · by_cases k2 : kind = 2
            · have e0 : ((kind : Int) == 0) = false := by simp; omega
              have e1 : ((kind : Int) == 1) = false := by simp; omega
              have e2 : ((kind : Int) == 2) = true := by simp [k2]
              clear k0 k1 k2
              have h03 : w.heap.size ≤ bs ∧ w.heap.size ≤ br ∧ w.heap.size ≤ xb := ⟨hm0, hbr0, by omega⟩
              go_wp2_with (fail)
              refine (drop_st HP3.out aI nl cI ids HNL.out.symm (HSL.out _ HP3.out.below) (by have := HNL.out; omega) (fun z hz h0 => .inr (.inl (by
                obtain ⟨b7, o7, e7, h7, _⟩ := (HSL.out w (Below.refl _ _)).ints 0 (by simpa using h0)
                rw [hz] at e7; cases e7; exact h7)))).mono ?_
              rintro e w10 ⟨rfl, hS10, hk10⟩
              have hm10 := HF1.out.m.only hk10 (fun h => h (.inl rfl))
              have hr10 := HF1.out.r.only hk10 (fun h => h (.inr (.inl rfl)))
              have hx10 := hk10.blk HX1.out (fun h => h (.inr (.inr rfl)))
              have x5 := hx10.cell 5 _ rfl
              have H10 := Lib.hid (And.intro hS10 (And.intro hm10 hr10))
              clear hS10 hm10 hr10 hx10 hk10
              go_wp2_with (fail)
              go_loopw [9, 74] (fun _ i wr => ∃ (j : Nat) (TJ : List Nat), i = .int .i64 j ∧ j ≤ nl ∧ Hid (PSt w q (q + 1) (fun z => z = bs ∨ z = br ∨ z = xb) ck (dropL ids L) wr ∧ PMap wr bs k (dropL (ids.take j) L) ∧ SetAt wr br k TJ ∧ RdyI (dropL (ids.take j) L) TJ)) (fun _ i _ => nl - (intOf i).toNat)
              case atStart => exact ⟨0, T, rfl, by omega, Lib.hid ⟨H10.out.1, by rw [List.take_zero, dropL_nil]; exact H10.out.2.1, H10.out.2.2, by rw [List.take_zero, dropL_nil]; exact HF1.out.i⟩⟩
              case round =>
                clear H10 x5
                obtain ⟨j, TJ, rfl, hj, hJ⟩ := hrel
                by_cases hltj : j < nl
                · obtain ⟨b7, o7, xid, ha7, hc7, hx7, hx764⟩ := ids_get (HSL.out _ hJ.out.1.below) (k := j) (by have := HNL.out; omega)
                  subst ha7
                  have htk : ids.take (j + 1) = ids.take j ++ [xid] := by rw [List.take_add_one, hx7]; rfl
                  have HTK := Lib.hid htk
                  clear htk hx7
                  go_wp2_with (with_reducible refine stop_dl ?_)
                  refine Stop.out ?_
                  refine wpList_delprio (L' := dropL (ids.take j ++ [xid]) L) rfl rfl hJ.out.2.1 rfl rfl hx764 dropL_step ?_
                  intro w11 hm11 ho11
                  have H11 := Lib.hid (And.intro (hJ.out.1.turn3 h03 (ho11.mono fun z _ h => .inl h)) (And.intro hm11 (hJ.out.2.2.1.only ho11 (fun e => hbne e.symm))))
                  clear hm11 ho11
                  go_wp2_with (with_reducible refine stop_dl ?_)
                  refine Stop.out ?_
                  refine wpList_delset (tk := 0) rfl rfl H11.out.2.2 rfl rfl hx764 ?_
                  intro w12 hr12 ho12
                  have H12 : Hid (PSt w q (q + 1) (fun z => z = bs ∨ z = br ∨ z = xb) ck (dropL ids L) w12 ∧ PMap w12 bs k (dropL (ids.take (j + 1)) L) ∧ SetAt w12 br k (TJ.filter (fun z => decide (z ≠ xid))) ∧ RdyI (dropL (ids.take (j + 1)) L) (TJ.filter (fun z => decide (z ≠ xid)))) := Lib.hid (by
                    rw [HTK.out]
                    exact ⟨H11.out.1.turn3 h03 (ho12.mono fun z _ h => .inr (.inl h)), H11.out.2.1.only ho12 hbne, hr12, hJ.out.2.2.2.drop xid⟩)
                  clear hr12 ho12 H11 hJ
                  go_wp2_with (fail)
                  exact ⟨⟨j + 1, _, by go_num, by omega, H12⟩, by simp [intOf]; omega⟩
                · obtain rfl : j = nl := by omega
                  have HT1 : Hid (FSt w q bs br k ck (dropL ids L) TJ wr) := Lib.hid (by
                    have hh := hJ.out
                    rw [List.take_of_length_le (by rw [HNL.out]; exact Nat.le_refl _)] at hh
                    exact FSt.mk (hh.1.back h03) hh.2.1 hh.2.2.1 hh.2.2.2)
                  clear hJ
                  go_wp2_with (fail)
                  go_meet
                  case rel => exact ⟨_, _, _, by omega, HT1⟩
            · have e0 : ((kind : Int) == 0) = false := by simp; omega
              have e1 : ((kind : Int) == 1) = false := by simp; omega
              have e2 : ((kind : Int) == 2) = false := by simp; omega
              go_wp2_with (fail)
              go_meet
              case rel => exact ⟨_, _, _, by omega, HF1⟩
      · obtain rfl : k = n := by omega
        go_wp2_with (fail)
        refine (works_any wr).mono ?_
        rintro e w9 ⟨rfl, hb9⟩
        have b9 := Lib.hid (below_on hF.out.p.below hb9 hF.out.p.below.size)
        clear hb9
        go_wp2_with (fail)
        go_returns
        exact ⟨rfl, b9.out⟩
end Go.Proofs.YtjkihpbpnoelnaaGreatDoor
