/- PrioTurns: streams of one urgency take turns. -/
import Derived.Test.YtjkihpbpnoelnaaGreatDoorPr20
import Derived.Test.YtjkihpbpnoelnaaGreatDoorPr19
namespace Go.Proofs.YtjkihpbpnoelnaaGreatDoor
open Go.RowKit Go.Maps
set_option linter.unusedVariables false
theorem PSt.okk {w0 w : World} {q base ck : Nat} {X : Nat → Prop} {L : List Strm} (h : PSt w0 q base X ck L w) : PlanOk L ck := h.ok
theorem SrvIs.some_ {w0 w' : World} {q base ck : Nat} {X : Nat → Prop} {L : List Strm} {v : Value} (h : SrvIs w0 q base X ck L v w') (hr : ∃ y ∈ L, y.ready = true) : ∃ b, IsBest L b ∧ v = .tuple #[.int .u64 b.id, .bool true] ∧ PSt w0 q base X (ck + 1) (updL b.id (setServed (ck + 1)) L) w' := by
  rcases h with ⟨h1, _⟩ | h
  · obtain ⟨y, hy, hr⟩ := hr
    have := h1 y hy; rw [hr] at this; cases this
  · exact h
section
variable {ops : Array Oper} {rest : List Oper} {a : Act} {w : World} {Q : Exit → Act → World → Prop}
theorem stop_mu {P : Program} {d : Option Tmp} {t : TypeId} {x y z : Operand} {ty : TypeId} {pos : String} {aft : Array Edge} {g : Option (Nat × Bool)}
    (h : Stop (wpList P ops Q (⟨d, .mapUpdate t x y z, ty, pos, aft, g⟩ :: rest) a w)) : wpList P ops Q (⟨d, .mapUpdate t x y z, ty, pos, aft, g⟩ :: rest) a w := h
theorem stop_lk {P : Program} {d : Option Tmp} {t : TypeId} {x y : Operand} {b : Bool} {ty : TypeId} {pos : String} {aft : Array Edge} {g : Option (Nat × Bool)}
    (h : Stop (wpList P ops Q (⟨d, .lookup t x y b, ty, pos, aft, g⟩ :: rest) a w)) : wpList P ops Q (⟨d, .lookup t x y b, ty, pos, aft, g⟩ :: rest) a w := h
end
theorem u64_of {L : List Strm} {ck : Nat} (h : PlanOk L ck) {b : Strm} (hb : b ∈ L) : u64Ok b.id := (h.mem b hb).2.2
theorem ids_get {w : World} {a : Option Addr} {c : Nat} {ids : List Nat} (h : Sl .u64 w a c (natI ids)) {k : Nat} (hk : k < ids.length) : ∃ b off x, a = some ⟨b, off, none⟩ ∧ w.cell? ⟨b, off + k, none⟩ = some (.int .u64 (x : Nat)) ∧ ids[k]? = some x ∧ u64Ok x := by
  obtain ⟨b, off, ha, hb, hc, hw⟩ := h.ints k (by simpa using hk)
  have e : (natI ids).getD k 0 = ((ids[k] : Nat) : Int) := by simp [natI, List.getD_eq_getElem?_getD, hk]
  rw [e] at hc hw
  refine ⟨b, off, ids[k], ha, hc, by simp, ?_⟩
  have := bounds_u64 hw
  unfold u64Ok; omega
set_option maxRecDepth 100000 in
set_option maxHeartbeats 8000000 in
theorem turns_any (aI : Option Addr) (nI cI : Nat) (ids : List Nat) (aO : Option Addr) (nO cO : Nat) (others : List Nat) (ur ro : Nat) (w : World) (hnI : nI = ids.length) (hnO : nO = others.length) (hI : Sl .u64 w aI cI (natI ids)) (hO : Sl .u64 w aO cO (natI others)) (hur : ur < 256) (hro : ro < 256) :
    Calls Tryz.prog 6 #[.slice aI nI cI, .slice aO nO cO, .int .u8 ur, .int .u8 ro] w fun e w' => e = .returned (.bool true) ∧ Below w.heap.size w w' := by
  have HNI := Lib.hid hnI
  have HNO := Lib.hid hnO
  have HI := Lib.hid hI
  have HO := Lib.hid hO
  clear hnI hnO hI hO
  by_cases h60 : 60 < nI
  · have h60' : (60 : Int) < (nI : Int) := by omega
    go_enter Tryz.func6, Tryz.ntmps6
    go_wp2_with (fail)
    refine (works_any w).mono ?_
    rintro e w1 ⟨rfl, hb⟩
    go_wp2_with (fail)
    go_returns
    exact ⟨rfl, hb⟩
  · have h60' : ¬ (60 : Int) < (nI : Int) := by omega
    by_cases h61 : 60 < nO
    · have h61' : (60 : Int) < (nO : Int) := by omega
      go_enter Tryz.func6, Tryz.ntmps6
      go_wp2_with (fail)
      refine (works_any w).mono ?_
      rintro e w1 ⟨rfl, hb⟩
      go_wp2_with (fail)
      go_returns
      exact ⟨rfl, hb⟩
    · have h61' : ¬ (60 : Int) < (nO : Int) := by omega
      obtain ⟨u, hu⟩ : ∃ u, ur % 7 = u := ⟨_, rfl⟩
      have hu7 : u < 7 := by omega
      have hui : ((ur : Int)) % 7 = (u : Int) := by omega
      obtain ⟨R, hR⟩ : ∃ R, ro % 11 = R := ⟨_, rfl⟩
      have hR10 : R ≤ 10 := by omega
      have hRi : ((ro : Int)) % 11 = (R : Int) := by omega
      clear hu hR
      go_enter Tryz.func6, Tryz.ntmps6
      go_wp2_with (fail)
      refine (new_st w w (Below.refl _ _)).mono ?_
      rintro e w1 ⟨q, rfl, hS1, hq1, _⟩
      have H1 := Lib.hid hS1
      clear hS1
      have hmm := @run_makeMap Tryz.prog
      go_wp2_with (fail)
      have hm2 := SetAt.made w1
      have hS2 : PSt w q (q + 1) (· = w1.heap.size) 0 [] (w1.alloc (.map #[] 0)) := H1.out.foreign ((Only.refl _ w1).alloc _) (fun k h => h.elim) (fun k hk => ⟨.inr (by omega), by simp [hk]⟩)
      have hm0 : w.heap.size ≤ w1.heap.size := H1.out.below.size
      obtain ⟨m, hm⟩ : ∃ m, w1.heap.size = m := ⟨_, rfl⟩
      rw [hm] at hm2 hS2 hm0 ⊢
      obtain ⟨W2, hW2⟩ : ∃ W2, w1.alloc (.map #[] 0) = W2 := ⟨_, rfl⟩
      rw [hW2] at hm2 hS2 ⊢
      clear hW2 hm H1
      have H2 := Lib.hid (⟨hS2, hm2⟩ : PSt w q (q + 1) (· = m) 0 [] W2 ∧ SetAt W2 m 0 [])
      clear hS2 hm2
      go_loopw [12, 35] (fun _ i wr => ∃ (k : Nat) (L : List Strm), i = .int .i64 k ∧ k ≤ nO ∧ Hid (PSt w q (q + 1) (· = m) 0 L wr ∧ SetAt wr m 0 [] ∧ UpI u [] k L)) (fun _ i _ => nO - (intOf i).toNat)
      case atStart => exact ⟨0, [], rfl, by omega, Lib.hid ⟨H2.out.1, H2.out.2, UpI.nil u⟩⟩
      case round =>
        clear H2
        obtain ⟨k, L, rfl, hk, hJ⟩ := hrel
        by_cases hlt : k < nO
        · obtain ⟨b, off, x, ha, hc, hx, hx64⟩ := ids_get (HO.out.below hJ.out.1.below) (k := k) (by have := HNO.out; omega)
          subst ha
          have hL256 : L.length < 256 := by have := hJ.out.2.2.len; omega
          obtain ⟨g1, g2, g3⟩ := setL_has (L := L) (u := 7) (id := x) (b := false) (by omega) hL256
          go_wp2_with (fail)
          refine (set_st hJ.out.1 x 7 false (by decide) hx64).mono ?_
          rintro e w3 ⟨rfl, hS3, hk3⟩
          have hm3 := hJ.out.2.1.only hk3 (fun h => h rfl)
          have H3 := Lib.hid (⟨hS3, hm3⟩ : PSt w q (q + 1) (· = m) 0 (setL 7 false x L) w3 ∧ SetAt w3 m 0 [])
          clear hS3 hk3 hm3
          go_wp2_with (fail)
          refine (ready_st H3.out.1 x true).mono ?_
          rintro e w4 ⟨rfl, hS4, hk4⟩
          have hm4 := H3.out.2.only hk4 (fun h => h rfl)
          have H4 := Lib.hid (⟨hS4, hm4, hJ.out.2.2.other_step (by omega)⟩ : PSt w q (q + 1) (· = m) 0 (updL x (setReady true) (setL 7 false x L)) w4 ∧ SetAt w4 m 0 [] ∧ UpI u [] (k + 1) (updL x (setReady true) (setL 7 false x L)))
          clear hS4 hk4 hm4 g1 g2 g3 hL256
          go_wp2_with (fail)
          exact ⟨⟨k + 1, _, by go_num, by omega, H4⟩, by simp [intOf]; omega⟩
        · obtain rfl : k = nO := by omega
          have hJ2 : Hid (PSt w q (q + 1) (· = m) 0 L wr ∧ SetAt wr m 0 [] ∧ ([] : List Nat).length ≤ 0 ∧ ∃ K, K ≤ 60 + 0 ∧ UpI u [] K L) := Lib.hid ⟨hJ.out.1, hJ.out.2.1, Nat.le_refl _, k, by omega, hJ.out.2.2⟩
          clear hJ
          go_wp2_with (fail)
          go_loopw [14, 49] (fun _ i wr => ∃ (k : Nat) (L : List Strm) (T : List Nat), i = .int .i64 k ∧ k ≤ nI ∧ Hid (PSt w q (q + 1) (· = m) 0 L wr ∧ SetAt wr m k T ∧ T.length ≤ k ∧ ∃ K, K ≤ 60 + k ∧ UpI u T K L)) (fun _ i _ => nI - (intOf i).toNat)
          case atStart => exact ⟨0, L, [], rfl, by omega, hJ2⟩
          case round =>
            clear hJ2
            obtain ⟨k, L, T, rfl, hk, hJ⟩ := hrel
            by_cases hlt : k < nI
            · obtain ⟨b, off, x, ha, hc, hx, hx64⟩ := ids_get (HI.out.below hJ.out.1.below) (k := k) (by have := HNI.out; omega)
              subst ha
              obtain ⟨hTk, K, hK, hUp⟩ := hJ.out.2.2
              have HUP := Lib.hid hUp
              have hL256 : L.length < 256 := by have := hUp.len; omega
              clear hUp
              obtain ⟨g1, g2, g3⟩ := setL_has (L := L) (u := u) (id := x) (b := true) (by omega) hL256
              have G := Lib.hid (⟨g1, g2⟩ : hasL x (setL u true x L) = true ∧ setR u x L = 0)
              clear g1 g2 g3 hL256
              go_wp2_with (fail)
              refine (set_st hJ.out.1 x u true (by omega) hx64).mono ?_
              rintro e w3 ⟨rfl, hS3, hk3⟩
              rw [G.out.2]
              have hm3 := hJ.out.2.1.only hk3 (fun h => h rfl)
              have H3 := Lib.hid (⟨hS3, hm3⟩ : PSt w q (q + 1) (· = m) 0 (setL u true x L) w3 ∧ SetAt w3 m k T)
              clear hS3 hk3 hm3
              go_wp2_with (fail)
              refine (ready_st H3.out.1 x true).mono ?_
              rintro e w4 ⟨rfl, hS4, hk4⟩
              rw [G.out.1]
              have hm4 := H3.out.2.only hk4 (fun h => h rfl)
              have H4 := Lib.hid (⟨hS4, hm4, HUP.out.mine_step (T' := addS x T) (by omega) hu7 (fun i => mem_addS)⟩ : PSt w q (q + 1) (· = m) 0 (updL x (setReady true) (setL u true x L)) w4 ∧ SetAt w4 m k T ∧ UpI u (addS x T) (K + 1) (updL x (setReady true) (setL u true x L)))
              clear hS4 hk4 hm4
              go_wp2_with (with_reducible refine stop_mu ?_)
              refine Stop.out ?_
              refine wpList_addset rfl rfl H4.out.2.1 (by unfold maxLen; omega) rfl rfl rfl hx64 ?_
              intro w5 hm5 ho5
              have hS5 : PSt w q (q + 1) (· = m) 0 (updL x (setReady true) (setL u true x L)) w5 := H4.out.1.foreign ho5 (fun k h => by rw [h]; exact hm0) (fun k hk => ⟨.inl hk, by rw [hk]; exact hm5.lt⟩)
              have H5 := Lib.hid (⟨hS5, hm5, (by unfold addS; split; omega; simp; omega), K + 1, by omega, H4.out.2.2⟩ : PSt w q (q + 1) (· = m) 0 (updL x (setReady true) (setL u true x L)) w5 ∧ SetAt w5 m (k + 1) (addS x T) ∧ (addS x T).length ≤ k + 1 ∧ ∃ K, K ≤ 60 + (k + 1) ∧ UpI u (addS x T) K (updL x (setReady true) (setL u true x L)))
              clear hm5 ho5 hS5
              go_wp2_with (fail)
              exact ⟨⟨k + 1, _, _, by go_num, by omega, H5⟩, by simp [intOf]; omega⟩
            · obtain rfl : k = nI := by omega
              obtain ⟨hTk, K, hK, hUp⟩ := hJ.out.2.2
              obtain ⟨ml, hml⟩ : ∃ ml, T.length = ml := ⟨_, rfl⟩
              have hml60 : ml ≤ 60 := by omega
              have HML := Lib.hid hml
              have hJ3 := Lib.hid (⟨hJ.out.1, hJ.out.2.1, RoI.begin hUp hu7⟩ : PSt w q (q + 1) (· = m) 0 L wr ∧ SetAt wr m k T ∧ RoI u T [] 0 0 L)
              have HTN := Lib.hid hJ.out.2.1.1
              clear hJ hUp hml hTk
              go_wp2_with (fail)
              rw [hRi]
              clear hRi
              go_loopw [15, 16, 17, 18, 19, 20, 21, 72] (fun _ _ _ _ _ _ _ i wr => ∃ (r ck : Nat) (L : List Strm), i = .int .u8 r ∧ r ≤ R ∧ ck ≤ 60 * r ∧ Hid (PSt w q (q + 1) (· = m) ck L wr ∧ SetAt wr m k T ∧ RoI u T [] ck ck L)) (fun _ _ _ _ _ _ _ i _ => R - (intOf i).toNat)
              case atStart => exact ⟨0, 0, L, rfl, by omega, by omega, hJ3⟩
              case round =>
                clear hJ3
                obtain ⟨r, ck, L, rfl, hr, hck, hJ⟩ := hrel
                by_cases hlt : r < R
                · have hms := SetAt.made wr
                  have hm7 := hJ.out.2.1.below ((Below.refl _ wr).alloc (Nat.le_refl _) (.map #[] 0))
                  have hS7 : PSt w q (q + 1) (fun k => k = m ∨ k = wr.heap.size) ck L (wr.alloc (.map #[] 0)) := hJ.out.1.foreign ((Only.refl _ wr).alloc _) (fun k h => by rw [h]; exact hm0) (fun k hk => ⟨hk.elim .inl (fun e => .inr (by omega)), by rcases hk with e | e <;> (have := hm7.lt; simp at this ⊢; omega)⟩)
                  obtain ⟨sb, hsb⟩ : ∃ sb, wr.heap.size = sb := ⟨_, rfl⟩
                  have hs0 : w.heap.size ≤ sb := by rw [← hsb]; exact hJ.out.1.below.size
                  have hmsb : m < sb := by rw [← hsb]; exact hJ.out.2.1.lt
                  have hlen := fun ty => run_lenset hm7 ty
                  rw [HML.out] at hlen
                  rw [hsb] at hms hS7
                  obtain ⟨W7, hW7⟩ : ∃ W7, wr.alloc (.map #[] 0) = W7 := ⟨_, rfl⟩
                  rw [hW7] at hms hS7 hm7 hlen
                  have H7 := Lib.hid (⟨hS7, hm7, hms, hJ.out.2.2⟩ : PSt w q (q + 1) (fun k => k = m ∨ k = sb) ck L W7 ∧ SetAt W7 m k T ∧ SetAt W7 sb 0 [] ∧ RoI u T [] ck ck L)
                  clear hms hS7 hm7
                  go_wp2_with (fail)
                  clear hlen
                  go_loopw [16, 17, 18, 19, 20, 21, 77] (fun _ _ _ _ _ _ i wr => ∃ (j ck' : Nat) (L : List Strm) (S : List Nat), i = .int .i64 j ∧ j ≤ ml ∧ ck' = ck + j ∧ Hid (PSt w q (q + 1) (fun k => k = m ∨ k = sb) ck' L wr ∧ SetAt wr m k T ∧ SetAt wr sb j S ∧ RoI u T S ck ck' L ∧ S.length = j)) (fun _ _ _ _ _ _ i _ => ml - (intOf i).toNat)
                  case atStart => exact ⟨0, ck, L, [], rfl, by omega, by omega, Lib.hid ⟨H7.out.1, H7.out.2.1, H7.out.2.2.1, H7.out.2.2.2, rfl⟩⟩
                  case round =>
                    clear H7 hJ
                    obtain ⟨j, ck', L, S, rfl, hj, hckj, hJ⟩ := hrel
                    by_cases hlt2 : j < ml
                    · have hnx := hJ.out.2.2.2.1.next HTN.out (by have := HML.out; have := hJ.out.2.2.2.2; omega)
                      have HNX := Lib.hid hnx
                      clear hnx
                      go_wp2_with (fail)
                      refine (serve_st hJ.out.1 (by omega)).mono ?_
                      rintro e w10 ⟨hk10, v, rfl, hv⟩
                      obtain ⟨b, hb, rfl, hS10⟩ := hv.some_ HNX.out.1
                      obtain ⟨hbT, hbS, hRo⟩ := HNX.out.2 b hb
                      have hm10 := hJ.out.2.1.only hk10 (fun h => h (.inl rfl))
                      have hs10 := hJ.out.2.2.1.only hk10 (fun h => h (.inr rfl))
                      have hb64 := u64_of hJ.out.1.ok hb.1
                      have d1 : decide (b.id ∈ T) = true := decide_eq_true hbT
                      have d2 : decide (b.id ∈ S) = false := decide_eq_false hbS
                      have hlS : (addS b.id S).length = j + 1 := by unfold addS; rw [if_neg hbS, List.length_cons, hJ.out.2.2.2.2]
                      obtain ⟨bi, hbi⟩ : ∃ bi, b.id = bi := ⟨_, rfl⟩
                      rw [hbi] at hS10 hRo hb64 d1 d2 hlS
                      rw [hbi]
                      have H10 := Lib.hid (⟨hS10, hm10, hs10, hRo, hlS⟩ : PSt w q (q + 1) (fun k => k = m ∨ k = sb) (ck' + 1) (updL bi (setServed (ck' + 1)) L) w10 ∧ SetAt w10 m k T ∧ SetAt w10 sb j S ∧ RoI u T (addS bi S) ck (ck' + 1) (updL bi (setServed (ck' + 1)) L) ∧ (addS bi S).length = j + 1)
                      have HB64 := Lib.hid hb64
                      have D1 := Lib.hid d1
                      have D2 := Lib.hid d2
                      clear hS10 hm10 hs10 hRo hlS hk10 hv hb hbT hbS hb64 d1 d2 hbi HNX
                      go_wp2_with (with_reducible refine stop_lk ?_)
                      refine Stop.out ?_
                      refine wpList_inset rfl rfl H10.out.2.1 rfl rfl HB64.out ?_
                      rw [D1.out]
                      go_wp2_with (with_reducible refine stop_lk ?_)
                      refine Stop.out ?_
                      have bW : Below w10.heap.size w10 (w10.alloc (.cells #[] 52)) := (Below.refl _ _).alloc (Nat.le_refl _) _
                      have H11 := Lib.hid (⟨H10.out.1.same bW, H10.out.2.1.below bW, H10.out.2.2.1.below bW⟩ : PSt w q (q + 1) (fun k => k = m ∨ k = sb) (ck' + 1) (updL bi (setServed (ck' + 1)) L) (w10.alloc (.cells #[] 52)) ∧ SetAt (w10.alloc (.cells #[] 52)) m k T ∧ SetAt (w10.alloc (.cells #[] 52)) sb j S)
                      refine wpList_inset rfl rfl H11.out.2.2 rfl rfl HB64.out ?_
                      rw [D2.out]
                      go_wp2_with (with_reducible refine stop_mu ?_)
                      refine Stop.out ?_
                      have bW2 : Below w10.heap.size w10 ((w10.alloc (.cells #[] 52)).alloc (.cells #[] 52)) := bW.alloc bW.size _
                      have H12 := Lib.hid (⟨H10.out.1.same bW2, H10.out.2.1.below bW2, H10.out.2.2.1.below bW2⟩ : PSt w q (q + 1) (fun k => k = m ∨ k = sb) (ck' + 1) (updL bi (setServed (ck' + 1)) L) ((w10.alloc (.cells #[] 52)).alloc (.cells #[] 52)) ∧ SetAt ((w10.alloc (.cells #[] 52)).alloc (.cells #[] 52)) m k T ∧ SetAt ((w10.alloc (.cells #[] 52)).alloc (.cells #[] 52)) sb j S)
                      refine wpList_addset rfl rfl H12.out.2.2 (by unfold maxLen; omega) rfl rfl rfl HB64.out ?_
                      intro w11 hm11 ho11
                      have hS11 : PSt w q (q + 1) (fun k => k = m ∨ k = sb) (ck' + 1) (updL bi (setServed (ck' + 1)) L) w11 := H12.out.1.foreign (ho11.mono fun k _ h => .inr h) (fun k h => by rcases h with e | e <;> omega) (fun k hk => ⟨.inl hk, Nat.lt_of_lt_of_le (H12.out.1.xs k hk).1 ho11.size⟩)
                      have ht11 := H12.out.2.1.only ho11 (by omega)
                      have H13 := Lib.hid (⟨hS11, ht11, hm11, H10.out.2.2.2.1, H10.out.2.2.2.2⟩ : PSt w q (q + 1) (fun k => k = m ∨ k = sb) (ck' + 1) (updL bi (setServed (ck' + 1)) L) w11 ∧ SetAt w11 m k T ∧ SetAt w11 sb (j + 1) (addS bi S) ∧ RoI u T (addS bi S) ck (ck' + 1) (updL bi (setServed (ck' + 1)) L) ∧ (addS bi S).length = j + 1)
                      clear hm11 ho11 hS11 ht11 bW bW2 H10 H11 H12 hJ
                      go_wp2_with (fail)
                      exact ⟨⟨j + 1, ck' + 1, _, _, by go_num, by omega, by omega, H13⟩, by simp [intOf]; omega⟩
                    · obtain rfl : j = ml := by omega
                      have hS14 := hJ.out.1.foreign (X' := (· = m)) (Only.refl _ _) (fun k h => by rcases h with e | e <;> omega) (fun k hk => ⟨.inl (.inl hk), (hJ.out.1.xs k (.inl hk)).1⟩)
                      have H14 := Lib.hid (And.intro hS14 (And.intro hJ.out.2.1 hJ.out.2.2.2.1.anew))
                      clear hS14 hJ
                      go_wp2_with (fail)
                      exact ⟨⟨r + 1, ck', _, by go_num, by omega, by omega, H14⟩, by simp [intOf]; omega⟩
                · obtain rfl : r = R := by omega
                  go_wp2_with (fail)
                  refine (works_any wr).mono ?_
                  rintro e w9 ⟨rfl, hb9⟩
                  have b9 := Lib.hid (below_on hJ.out.1.below hb9 hJ.out.1.below.size)
                  clear hb9
                  go_wp2_with (fail)
                  go_returns
                  exact ⟨rfl, b9.out⟩
set_option maxRecDepth 100000 in
theorem open_idsl {H : Type} {enc : TypeId × Value → H} {w : World} {base : Nat} {v : Value} {d : DataW H} {p : List MemPlace} (o : Value.okWide Tryz.prog w .any base 43 v) (h : DataW.Trod enc Tryz.prog w 0 (fun _ => true) true 43 v d p) :
    ∃ a cap ids, v = .slice a ids.length cap ∧ Sl .u64 w a cap (natI ids) := by
  obtain ⟨a, L, cap, rfl, hS⟩ := open_sl Tryz.underlying43 Tryz.underlying31 (by kernel_rfl) o h
  refine ⟨a, cap, L.map Int.toNat, by simp, ?_⟩
  rw [natI_of hS.ints.wf]; exact hS
set_option maxRecDepth 100000 in
theorem walk_PrioTurns (H : Type) (enc : TypeId × Value → H) (w : World) (base : Nat) (v0 : Value) (d0 : DataW H) (p0 : List MemPlace) (v1 : Value) (d1 : DataW H) (p1 : List MemPlace) (v2 : Value) (d2 : DataW H) (p2 : List MemPlace) (v3 : Value) (d3 : DataW H) (p3 : List MemPlace)
    (o0 : Value.okWide Tryz.prog w .any base 43 v0) (h0 : DataW.Trod enc Tryz.prog w 0 (fun _ => true) true 43 v0 d0 p0)
    (o1 : Value.okWide Tryz.prog w .any base 43 v1) (h1 : DataW.Trod enc Tryz.prog w 0 (fun _ => true) true 43 v1 d1 p1)
    (o2 : Value.okWide Tryz.prog w .any base 5 v2) (h2 : DataW.Trod enc Tryz.prog w 0 (fun _ => true) true 5 v2 d2 p2)
    (o3 : Value.okWide Tryz.prog w .any base 5 v3) (h3 : DataW.Trod enc Tryz.prog w 0 (fun _ => true) true 5 v3 d3 p3)
    (hL : laidMet Tryz.prog Rows.prioTurnsRow.laid w) :
    Calls Tryz.prog 6 #[v0, v1, v2, v3] w fun e w' => e = .returned (.bool true) ∧ Below w.heap.size w w' := by
  obtain ⟨a, c, ids, rfl, hS⟩ := open_idsl o0 h0
  obtain ⟨a1, c1, others, rfl, hS1⟩ := open_idsl o1 h1
  obtain ⟨x2, rfl, rfl, rfl, wx2⟩ := ChangeShapes.open_int Tryz.underlying5 o2 h2
  obtain ⟨x3, rfl, rfl, rfl, wx3⟩ := ChangeShapes.open_int Tryz.underlying5 o3 h3
  have b2 := bounds_u8 wx2
  have b3 := bounds_u8 wx3
  obtain ⟨n2, rfl⟩ : ∃ n : Nat, x2 = n := ⟨x2.toNat, by omega⟩
  obtain ⟨n3, rfl⟩ : ∃ n : Nat, x3 = n := ⟨x3.toNat, by omega⟩
  exact turns_any a _ c ids a1 _ c1 others n2 n3 w rfl rfl hS hS1 (by omega) (by omega)
end Go.Proofs.YtjkihpbpnoelnaaGreatDoor
