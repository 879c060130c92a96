/- script.move. -/
import Derived.Test.YthangjgdjhhfgaaGreatDoorScW5
import Derived.Lib.OthersKept
import Derived.Laws.RangeString
import Derived.Laws.RangeAny
namespace Go.Proofs.YthangjgdjhhfgaaGreatDoor
open Go.RowKit
set_option linter.unusedVariables false
theorem move_size : (Tryz.prog.info? 35).map (·.size) = some 9 := by kernel_rfl
section
variable {P : Program} {ops : Array Oper} {rest : List Oper} {o : Oper} {a : Act} {w : World} {Q : Exit → Act → World → Prop}
theorem stop_storem {d : Option Tmp} {x y : Operand} {ty : TypeId} {pos : String} {aft : Array Edge} {g : Option (Nat × Bool)}
    (h : Stop (wpList P ops Q (⟨d, .store 35 x y, ty, pos, aft, g⟩ :: rest) a w)) : wpList P ops Q (⟨d, .store 35 x y, ty, pos, aft, g⟩ :: rest) a w := h
theorem stop_loadm {d : Option Tmp} {x : Operand} {ty : TypeId} {pos : String} {aft : Array Edge} {g : Option (Nat × Bool)}
    (h : Stop (wpList P ops Q (⟨d, .load 35 x, ty, pos, aft, g⟩ :: rest) a w)) : wpList P ops Q (⟨d, .load 35 x, ty, pos, aft, g⟩ :: rest) a w := h
theorem wpList_storem (hgd : o.guard = none) {x y : Operand} (ho : o.op = .store 35 x y) {b : Nat} {cs cs' : Array Value} (h1 : cs.size = 9) (h2 : cs'.size = 9) (h3 : cs.all Value.oneCell' = true) (hx : a.eval x = .pointer (some ⟨b, 0, none⟩)) (hy : a.eval y = .agg cs) (hb : Blk w b cs' 35)
    (hi : (P.info? 35).map (·.size) = some 9)
    (h : ∀ w', Blk w' b cs 35 → Only (· = b) w w' → wpList P ops Q rest (a.put o.dst undef) w') : wpList P ops Q (o :: rest) a w :=
  wpList_store_row hgd _ x y ho b _ hx hy _ _ hb (by rw [h1]; exact hi) (by rw [h1, h2]) h3 (h _ (setRow_heap w b _ _ _ _ hb) ⟨rfl, rfl, rfl, by simp [World.setRow], fun k hk hs => setRow_other _ _ _ _ hs⟩)
end
theorem results_e {P : Program} {fn : Func} {t s : Tmp} {T : TypeId} (h : fn.results = #[.cell t T, .tmp s]) (tmps : Array Value) (w : World) {b : Nat} {cs : Array Value} {v : Value} (ht : tmps.getD t undef = .pointer (some ⟨b, 0, none⟩)) (hs : tmps.getD s undef = v) (hl : (loadVar T ⟨b, 0, none⟩).run P w = .ok (.agg cs) w) :
    (results fn tmps).run P w = .ok (.tuple #[.agg cs, v]) w := by
  have ht' : tmps[t]?.getD undef = .pointer (some ⟨b, 0, none⟩) := by simpa using ht
  have hs' : tmps[s]?.getD undef = v := by simpa using hs
  simp [results, h, ht', hs', asAddr, Result.andThen, hl]
theorem ret_m (w : World) (b : Nat) (cs : Array Value) (h : cs.size = 9) (hb : Blk w b cs 35) : (loadVar 35 ⟨b, 0, none⟩).run Tryz.prog w = .ok (.agg cs) w :=
  run_loadVar_row (P := Tryz.prog) _ b 35 35 cs (0, 0) _ hb Tryz.underlying35 rfl (by rw [h]; exact move_size)
def sumC : List UInt8 → Nat
  | [] => 0
  | c :: l => cntL c + sumC l
theorem manyL_sum : ∀ l : List UInt8, manyL l = 1 + sumC l
  | [] => rfl
  | c :: l => by
    have h := manyL_sum l
    unfold manyL at h ⊢
    rw [sumC]
    by_cases hc : c = 100
    · subst hc; simp [cntL]; omega
    · simp [cntL, hc]; omega
theorem mvCs_one (m : Mv) (a b : Option Addr) (n1 c1 n2 c2 : Nat) : (mvCs m (.slice a n1 c1) (.slice b n2 c2)).all Value.oneCell' = true := by simp [mvCs, Value.oneCell']
def zeroM : Array Value := mvCs (mv0 0) (.slice none 0 0) (.slice none 0 0)
/-- What move tells. -/
def MvPost (base : Nat) (ws : List (List UInt8)) (e : Ending) (w' : World) : Prop := ∃ m aB nB cB aD nD cD, ∃ er : Nat, e = .returned (.tuple #[.agg (mvCs m (.slice aB nB cB) (.slice aD nD cD)), .int .i64 er]) ∧ By w' base aB nB cB m.b ∧ By w' base aD nD cD m.d ∧ ((er = 0 ∧ oneE ws = .ok m) ∨ (er ≠ 0 ∧ oneE ws = .err er))
theorem RdAt.iter {S : Nat → Prop} {w w' : World} {rb wb : Nat} {ws : List (List UInt8)} {bad : Bool} (h : RdAt w rb ws bad wb) (hb : Only S w w') (h1 : ¬ S rb) (h2 : ¬ S wb) : RdAt w' rb ws bad wb := by
  obtain ⟨⟨o, k1, k2⟩, h3, h4, h5⟩ := h
  exact ⟨⟨o, hb.blk k1 h1, fun i hi => (hb.cell (p := ⟨wb, o + i, none⟩) h4 h2).trans (k2 i hi)⟩, h3, Nat.lt_of_lt_of_le h4 hb.size, h5⟩
theorem own_cells {w : World} {base : Nat} {a : Option Addr} {n cap : Nat} {l : List UInt8} (h : By w base a n cap l) {ib : Nat} {s : ByteArray} {pos : Nat} (hit : w.heap[ib]? = some (.stringIter s pos)) : ∀ x, a = some x → x.block ≠ ib := by
  intro x hx e
  have h2 := h.own
  subst hx
  rcases h2.2 with ⟨h3, _⟩ | ⟨g, c', cur, h3, _, h5, _⟩
  · cases h3
  · cases h3
    simp only at e
    rw [e] at h5
    rw [h5] at hit
    cases hit
theorem TkAt.iter {w w' : World} {base rb wb mb ib : Nat} {ws : List (List UInt8)} {st : Option Mv} (h : TkAt w base rb wb mb ws st) (hb : Only (fun i => i = ib) w w') (h1 : rb ≠ ib) (h2 : mb ≠ ib) (h3 : wb ≠ ib) {s : ByteArray} {pos : Nat} (hit : w.heap[ib]? = some (.stringIter s pos)) : TkAt w' base rb wb mb ws st := by
  obtain ⟨bad, m, hr, ⟨aB, nB, cB, aD, nD, cD, k1, k2, k3, k4, k5⟩, hst⟩ := h
  exact ⟨bad, m, hr.iter hb h1 h3, ⟨aB, nB, cB, aD, nD, cD, hb.blk k1 h2, k2.only hb (own_cells k2 hit), k3.only hb (own_cells k3 hit), k4, k5⟩, hst⟩
theorem lt_of_iter {w : World} {ib : Nat} {s : ByteArray} {pos : Nat} (h : w.heap[ib]? = some (.stringIter s pos)) : ib < w.heap.size := (Array.getElem?_eq_some_iff.1 h).1
theorem By.base_le {w : World} {base base' : Nat} {a : Option Addr} {n cap : Nat} {l : List UInt8} (h : By w base a n cap l) (hb : base' ≤ base) : By w base' a n cap l := ⟨h.own.base_le hb, h.len, h.small⟩
/-- What a round of move keeps. -/
structure LpI (w0 : World) (rb wb mb r0 ib : Nat) (lt : List UInt8) (R : Option Mv) (pos : Nat) (w : World) : Prop where
  below : Below w0.heap.size w0 w
  it : w.heap[ib]? = some (.stringIter (tx lt) pos)
  res : Blk w r0 zeroM 35
  tk : ∃ ws st, TkAt w w0.heap.size rb wb mb ws st ∧ runL (lt.drop pos) ws st = R ∧ sumC (lt.drop pos) ≤ ws.length ∧ ∀ s ∈ ws, s.length < 1000000
  le : pos ≤ lt.length
theorem iter_below {B : Nat} {w w' : World} (h : Below B w w') (s : ByteArray) (p : Nat) (hB : B ≤ w'.heap.size) : Below B w (w'.iter s p) := h.alloc hB (.stringIter s p)
set_option maxRecDepth 100000 in
set_option maxHeartbeats 16000000 in
theorem move_any (w : World) (A n : Nat) (ws : List (List UInt8)) (hn : n = ws.length) (hA : A < w.heap.size) (hc : ∀ i, i < ws.length → w.cell? ⟨A, i, none⟩ = some (.string (tx (ws.getD i [])))) (h0 : ws ≠ []) (hs : ∀ s ∈ ws, s.length < 1000000) (hl : ws.length ≤ 1000000) (hV : Vars w) :
    Calls Tryz.prog 26 #[.slice (some ⟨A, 0, none⟩) n n] w fun e w' => MvPost w.heap.size ws e w' ∧ Below w.heap.size w w' := by
  obtain ⟨w0s, wsr, rfl⟩ : ∃ a r, ws = a :: r := by cases ws with
    | nil => exact absurd rfl h0
    | cons a r => exact ⟨a, r, rfl⟩
  have hn1 : 1 ≤ n := by rw [hn]; simp
  have hnb : n ≤ 1000000 := by rw [hn]; exact hl
  have c0 : w.cell? ⟨A, 0, none⟩ = some (.string (tx w0s)) := hc 0 (by simp)
  have b1 : Below w.heap.size w (w.alloc (.cells zeroM 35)) := (Below.refl _ _).alloc (Nat.le_refl _) _
  have n1 := Blk.new w zeroM 35
  have hs1 : (w.alloc (.cells zeroM 35)).heap.size = w.heap.size + 1 := by simp
  have hzl : zeroM = #[.int .u8 0, .int .u8 0, .int .i64 0, .int .u64 0, .int .u64 0, .slice none 0 0, .int .u32 0, .int .u32 0, .slice none 0 0] := rfl
  obtain ⟨w1, hw1⟩ : ∃ w1, w.alloc (.cells zeroM 35) = w1 := ⟨_, rfl⟩
  have hw1' : w.alloc (.cells #[.int .u8 0, .int .u8 0, .int .i64 0, .int .u64 0, .int .u64 0, .slice none 0 0, .int .u32 0, .int .u32 0, .slice none 0 0] 35) = w1 := hw1
  rw [hw1] at b1 n1 hs1
  have B1 := Lib.hid b1
  have N1 := Lib.hid n1
  have HS1 := Lib.hid hs1
  have HC := Lib.hid hc
  have HN := Lib.hid hn
  have HS := Lib.hid hs
  have HL := Lib.hid hl
  have HV := Lib.hid hV
  have HA := Lib.hid hA
  have HW1 := Lib.hid hw1'
  clear b1 n1 hs1 hw1 hw1' hzl hc hn hs hl hV h0
  go_enter Tryz.func26, Tryz.ntmps26
  go_wp2_with (fail)
  rw [HW1.out]
  clear c0 hA
  refine (kind_any w0s w1 (HV.out.below B1.out).mx (HV.out.below B1.out).g2).mono ?_
  rintro e w2 ⟨rfl, hb2⟩
  have B2 := Lib.hid (below_on B1.out hb2 B1.out.size)
  have N2 := Lib.hid (N1.out.below hb2)
  have HS2 : Hid (w.heap.size + 1 ≤ w2.heap.size) := Lib.hid (by rw [← HS1.out]; exact hb2.size)
  have B2w := Lib.hid hb2
  clear hb2
  have hk26 := kindW_le w0s
  obtain ⟨k, hkk⟩ : ∃ k, kindW w0s = k := ⟨_, rfl⟩
  rw [hkk] at hk26 ⊢
  have HKK := Lib.hid hkk
  clear hkk
  have b3w := B2w.out.alloc B2w.out.size (.cells (mvCs (mv0 k) (.slice none 0 0) (.slice none 0 0)) 35)
  have b3 : Below w.heap.size w (w2.alloc (.cells (mvCs (mv0 k) (.slice none 0 0) (.slice none 0 0)) 35)) := B2.out.alloc B2.out.size _
  have n3 := Blk.new w2 (mvCs (mv0 k) (.slice none 0 0) (.slice none 0 0)) 35
  have r3 := N2.out.alloc (.cells (mvCs (mv0 k) (.slice none 0 0) (.slice none 0 0)) 35)
  obtain ⟨w3, hw3⟩ : ∃ w3, w2.alloc (.cells (mvCs (mv0 k) (.slice none 0 0) (.slice none 0 0)) 35) = w3 := ⟨_, rfl⟩
  have hw3' : w2.alloc (.cells #[.int .u8 k, .int .u8 0, .int .i64 0, .int .u64 0, .int .u64 0, .slice none 0 0, .int .u32 0, .int .u32 0, .slice none 0 0] 35) = w3 := hw3
  rw [hw3] at b3 b3w n3 r3
  have B3 := Lib.hid b3
  have B3w := Lib.hid b3w
  have N3 := Lib.hid n3
  have R3 := Lib.hid r3
  have HW3 := Lib.hid hw3'
  clear b3 b3w n3 r3 hw3 hw3'
  go_wp2_with (fail)
  rw [HW3.out]
  refine (form_any k w3 (by omega) (HV.out.below B3.out).mx (HV.out.below B3.out).g2).mono ?_
  rintro e w4 ⟨rfl, hb4⟩
  have B4 := Lib.hid (below_on B3.out hb4 B3.out.size)
  have B4w := Lib.hid (below_on B3w.out hb4 B3w.out.size)
  have N4 := Lib.hid (N3.out.below hb4)
  have R4 := Lib.hid (R3.out.below hb4)
  have HS4 : Hid (w2.heap.size + 1 ≤ w4.heap.size) := Lib.hid (by
    have := hb4.size
    have h1 : w3.heap.size = w2.heap.size + 1 := by rw [← HW3.out]; simp
    omega)
  clear hb4
  by_cases hi : isK k = true
  · rw [show formV k = .tuple #[.string (tx (wordK k)), .string (tx (letK k)), .bool true] from if_pos hi]
    obtain ⟨wd, hwd⟩ : ∃ x, wordK k = x := ⟨_, rfl⟩
    obtain ⟨lt, hlt⟩ : ∃ x, letK k = x := ⟨_, rfl⟩
    have hltl := let_len k (by omega)
    have hlto := let_ok k (by omega)
    have hms := manyL_sum (letK k)
    rw [hwd, hlt]
    rw [hlt] at hltl hlto hms
    have HLT := Lib.hid hlt
    have HLO := Lib.hid hlto
    have HMS := Lib.hid hms
    clear hwd hlt hlto hms
    obtain ⟨ll, hll⟩ : ∃ ll, lt.length = ll := ⟨_, rfl⟩
    have hsz : (tx lt).size = ll := by rw [tx_size, hll]
    rw [hll] at hltl
    have HLL := Lib.hid hll
    clear hll
    go_wp2_with (fail)
    refine (count_any lt 100 w4).mono ?_
    rintro e w5 ⟨rfl, rfl⟩
    have hcc : lt.count 100 ≤ ll := by rw [← HLL.out]; exact List.count_le_length
    obtain ⟨cc, hccc⟩ : ∃ cc, lt.count 100 = cc := ⟨_, rfl⟩
    rw [hccc] at hcc ⊢
    have hmany : 1 + ll + 2 * cc = 1 + sumC lt := by have := HMS.out; unfold manyL at this; rw [HLL.out, hccc] at this; exact this
    obtain ⟨sc, hsc⟩ : ∃ sc, sumC lt = sc := ⟨_, rfl⟩
    rw [hsc] at hmany
    have HSC := Lib.hid hsc
    have e5 : 1 + (ll : Int) + 2 * (cc : Int) = ((1 + sc : Nat) : Int) := by omega
    clear hccc hsc
    by_cases hlen : n = 1 + sc
    · have hq : ((n : Int) = 1 + (ll : Int) + 2 * (cc : Int)) := by omega
      obtain ⟨m1, hm1⟩ : ∃ m1, n = m1 + 1 := ⟨n - 1, by omega⟩
      subst hm1
      have hwl : wsr.length = m1 := by have := HN.out; simp at this; omega
      have HM1 := Lib.hid hwl
      obtain rfl : m1 = sc := by omega
      clear hwl
      by_cases hm0 : m1 = 0
      · subst hm0
        have hll0 : ll = 0 := by omega
        have hcc0 : cc = 0 := by omega
        clear e5 hmany
        go_wp2_with (fail)
        have hb6 : Below w.heap.size w (w5.alloc (.cells #[.slice (some ⟨A, 0, none⟩) 0 0, .bool false] 80)) := B4.out.alloc B4.out.size _
        have hb6w : Below w1.heap.size w1 (w5.alloc (.cells #[.slice (some ⟨A, 0, none⟩) 0 0, .bool false] 80)) := B4w.out.alloc B4w.out.size _
        have rd6 : RdAt (w5.alloc (.cells #[.slice (some ⟨A, 0, none⟩) 0 0, .bool false] 80)) w5.heap.size wsr false A := by
          refine ⟨⟨0, ?_, fun i hi => ?_⟩, by have := HA.out; have := B4.out.size; omega, by have := HA.out; have := hb6.size; omega, by have := HL.out; simp at this; omega⟩
          · rw [HM1.out]; exact Blk.new w5 _ _
          · have h1 := HC.out (i + 1) (by simpa using hi)
            rw [show 0 + i = i + 1 by (have := HM1.out; omega), hb6.cell (p := ⟨A, i + 1, none⟩) HA.out]
            simpa using h1
        have mv6 : MvAt (w5.alloc (.cells #[.slice (some ⟨A, 0, none⟩) 0 0, .bool false] 80)) w1.heap.size w5.heap.size w2.heap.size (mv0 k) :=
          ⟨none, 0, 0, none, 0, 0, N4.out.alloc _, By.nil _ _, By.nil _ _, (fun x h => (by cases h)), fun x h => (by cases h)⟩
        have rs6 := R4.out.alloc (.cells #[.slice (some ⟨A, 0, none⟩) 0 0, .bool false] 80)
        have hz6 : (w5.alloc (.cells #[.slice (some ⟨A, 0, none⟩) 0 0, .bool false] 80)).heap.size = w5.heap.size + 1 := by simp
        obtain ⟨w6, hw6⟩ : ∃ w6, w5.alloc (.cells #[.slice (some ⟨A, 0, none⟩) 0 0, .bool false] 80) = w6 := ⟨_, rfl⟩
        rw [hw6] at hb6 hb6w rd6 mv6 rs6 hz6 ⊢
        have hb7 := hb6w.alloc hb6w.size (.stringIter (tx lt) 0)
        have HST : Hid (LpI w1 w5.heap.size A w2.heap.size w.heap.size (w5.heap.size + 1) lt (runL lt wsr (some (mv0 k))) 0 (w6.iter (tx lt) 0)) := Lib.hid ⟨hb7, by rw [← hz6]; exact World.iter_heap _ _ _, rs6.alloc _, ⟨wsr, some (mv0 k), ⟨false, mv0 k, rd6.only ((Below.refl _ _).alloc (Nat.le_refl _) _), mv6.below ((Below.refl _ _).alloc (Nat.le_refl _) _), .inl ⟨rfl, rfl⟩⟩, rfl, by rw [List.drop_zero, HSC.out, HM1.out]; omega, fun s hs => HS.out s (List.mem_cons_of_mem _ hs)⟩, Nat.zero_le _⟩
        have HZ6 := Lib.hid hz6
        obtain ⟨R, hR⟩ : ∃ R, runL lt wsr (some (mv0 k)) = R := ⟨_, rfl⟩
        rw [hR] at HST
        have HR := Lib.hid hR
        clear hb6 hb6w rd6 mv6 rs6 hz6 hw6 hb7 hR
        go_wp2_with (fail)
        go_loopw [11] (fun _ wr => ∃ pos : Nat, Hid (LpI w1 w5.heap.size A w2.heap.size w.heap.size (w5.heap.size + 1) lt R pos wr)) (fun _ wr => ll - wr.iterPos (w5.heap.size + 1))
        case atStart => exact ⟨0, HST⟩
        case round =>
          obtain ⟨pos, hok⟩ := hrel
          have hit := hok.out.it
          by_cases hp : pos < ll
          · have hps : pos < (tx lt).size := by rw [hsz]; exact hp
            have hpl : pos < lt.length := by rw [HLL.out]; exact hp
            obtain ⟨c, hcx⟩ : ∃ c, lt.getD pos 0 = c := ⟨_, rfl⟩
            have hcm : c ∈ lt := by rw [← hcx]; simp [hpl]
            have hco := HLO.out c hcm
            have hc128 : c.toNat < 128 := by rcases hco with rfl | rfl | rfl | rfl | rfl | rfl <;> decide
            have hcg : ∀ h, (tx lt)[pos]'h = c := fun h => by rw [tx_get, hcx]
            have hnx : ∀ ty, (Instr.next (.pointer (some ⟨w5.heap.size + 1, 0, none⟩)) true ty).run Tryz.prog wr = .ok (.tuple #[.bool true, .int .i64 pos, .int .i32 (c.toNat : Nat)]) (wr.iterAt (w5.heap.size + 1) (tx lt) (pos + 1)) := fun ty => by
              have := Lib.run_next_ascii_at (P := Tryz.prog) wr (w5.heap.size + 1) (tx lt) pos ty hit hps (by rw [hcg]; exact hc128)
              rw [hcg] at this; exact this
            have hd := drop_cons hpl
            rw [hcx] at hd
            have HD := Lib.hid hd
            have HCO := Lib.hid hco
            have HIT := Lib.hid hit
            have HPL := Lib.hid hpl
            clear hd hco hcm hcg hc128 hcx hpl
            go_wp2_with (fail)
            have below9 : Below w1.heap.size w1 (wr.iterAt (w5.heap.size + 1) (tx lt) (pos + 1)) := Lib.below_iterAt hok.out.below (by have := B4w.out.size; omega) _ _
            have oth : Only (fun i => i = w5.heap.size + 1) wr (wr.iterAt (w5.heap.size + 1) (tx lt) (pos + 1)) := ⟨rfl, rfl, rfl, by rw [Lib.iterAt_size]; exact Nat.le_refl _, fun i hi hne => Lib.iterAt_other wr _ i _ _ hne⟩
            obtain ⟨wsn, stn, htk, hrun, hsum, hsm⟩ := hok.out.tk
            have htk9 : TkAt (wr.iterAt (w5.heap.size + 1) (tx lt) (pos + 1)) w1.heap.size w5.heap.size A w2.heap.size wsn stn := htk.iter oth (by have := HA.out; have := B4.out.size; omega) (by have := HS4.out; omega) (by have := HA.out; have := B4.out.size; omega) HIT.out
            rw [HD.out, runL] at hrun
            rw [HD.out, sumC] at hsum
            have HTK := Lib.hid htk9
            have HRUN := Lib.hid hrun
            have HSUM := Lib.hid hsum
            have HSM := Lib.hid hsm
            have BL9 := Lib.hid below9
            have IT9 := Lib.hid (Lib.iterAt_heap wr (w5.heap.size + 1) (tx lt) pos (pos + 1) HIT.out)
            have RS9 := Lib.hid (oth.blk hok.out.res (by have := B4.out.size; omega))
            obtain ⟨w9, hw9⟩ : ∃ w9, wr.iterAt (w5.heap.size + 1) (tx lt) (pos + 1) = w9 := ⟨_, rfl⟩
            rw [hw9] at HTK BL9 IT9 RS9 ⊢
            clear below9 oth htk hrun hsum hsm htk9 hw9
            refine (take_any w1 w9 w5.heap.size A w2.heap.size c HCO.out wsn (by have := HSUM.out; omega) stn HTK.out (HV.out.below B1.out) BL9.out B4w.out.size B2w.out.size (by have := HS4.out; omega) (by have := HA.out; have := B2.out.size; omega) HSM.out).mono ?_
            rintro e wA ⟨rfl, htkA, onA⟩
            have FIN : Hid (LpI w1 w5.heap.size A w2.heap.size w.heap.size (w5.heap.size + 1) lt R (pos + 1) wA) := Lib.hid ⟨below_onto BL9.out onA BL9.out.size (by have := HS1.out; have := HS2.out; have := HS4.out; omega), by rw [onA.block _ (lt_of_iter IT9.out) (by have := HS4.out; omega)]; exact IT9.out, onA.blk RS9.out (by have := HS2.out; have := HS4.out; omega), ⟨_, _, htkA, HRUN.out, by have := HSUM.out; rw [List.length_drop]; omega, fun s hs => HSM.out s (List.mem_of_mem_drop hs)⟩, HPL.out⟩
            have hposA := iterPos_of FIN.out.it
            have hposR := iterPos_of HIT.out
            clear htkA onA
            go_wp2_with (fail)
            exact ⟨⟨pos + 1, FIN⟩, by rw [hposA, hposR]; omega⟩
          · have hpe : pos = ll := by have := hok.out.le; have := HLL.out; omega
            obtain ⟨wsn, stn, ⟨bad, m, hrd, hmv, hst⟩, hrun, _, _⟩ := hok.out.tk
            rw [List.drop_of_length_le (by have := HLL.out; omega), runL] at hrun
            have hpn : ¬ pos < (tx lt).size := by rw [hsz]; exact hp
            have hnx : ∀ ty, (Instr.next (.pointer (some ⟨w5.heap.size + 1, 0, none⟩)) true ty).run Tryz.prog wr = .ok (.tuple #[.bool false]) wr := fun ty => Lib.run_next_end_at (P := Tryz.prog) wr (w5.heap.size + 1) (tx lt) pos ty hit hpn
            obtain ⟨orr, hrk, _⟩ := hrd.ex
            have cb := hrk.cell 1 _ rfl
            obtain ⟨aB, nB, cB, aD, nD, cD, hm1, hm2, hm3, _, _⟩ := hmv
            have HM_1 := Lib.hid hm1
            have HM_2 := Lib.hid hm2
            have HM_3 := Lib.hid hm3
            have HRUN := Lib.hid hrun
            have HSTT := Lib.hid hst
            have RES := Lib.hid hok.out.res
            have BEL := Lib.hid (below_on B1.out hok.out.below B1.out.size)
            clear hit hpe hrd hst hrun hrk hm1 hm2 hm3 hp hpn
            cases bad with
            | true =>
              go_wp2_with (with_reducible refine stop_loadm ?_)
              refine Stop.out ?_
              refine wpList_loadAll Tryz.underlying35 move_size rfl rfl rfl HM_1.out rfl ?_
              refine wpList_storem rfl rfl rfl rfl (mvCs_one _ _ _ _ _ _ _) rfl rfl RES.out move_size ?_
              intro w9 hb9 on9
              have b9 : Below w.heap.size w w9 := below_onto BEL.out on9 BEL.out.size (by intro z hz h9; omega)
              have H9 := Lib.hid hb9
              have B9 := Lib.hid b9
              have ON9 := Lib.hid on9
              clear hb9 on9 b9
              go_wp2_with (fail)
              refine bodyPost_ret (results_e rfl _ _ rfl rfl (ret_m _ _ _ rfl H9.out)) rfl ?_
              have her : oneE (w0s :: wsr) = .err 5 := by
                rcases HSTT.out with ⟨h, _⟩ | ⟨_, h⟩
                · cases h
                · unfold oneE
                  rw [show (w0s :: wsr).getD 0 [] = w0s from rfl, HKK.out, if_neg (by simp [isK] at hi; omega), if_neg (by rw [HLT.out, manyL_sum, HSC.out]; have := HN.out; simp at this ⊢; omega), HLT.out, show (w0s :: wsr).tail = wsr from rfl, HR.out, ← HRUN.out, h]
              exact ⟨⟨m, aB, nB, cB, aD, nD, cD, 5, rfl, (HM_2.out.only ON9.out (fun x hx => by have := (HM_2.out.own.block hx).1; have := HS1.out; omega)).base_le B1.out.size, (HM_3.out.only ON9.out (fun x hx => by have := (HM_3.out.own.block hx).1; have := HS1.out; omega)).base_le B1.out.size, .inr ⟨by decide, her⟩⟩, B9.out⟩
            | false =>
              go_wp2_with (with_reducible refine stop_loadm ?_)
              refine Stop.out ?_
              refine wpList_loadAll Tryz.underlying35 move_size rfl rfl rfl HM_1.out rfl ?_
              refine wpList_storem rfl rfl rfl rfl (mvCs_one _ _ _ _ _ _ _) rfl rfl RES.out move_size ?_
              intro w9 hb9 on9
              have b9 : Below w.heap.size w w9 := below_onto BEL.out on9 BEL.out.size (by intro z hz h9; omega)
              have H9 := Lib.hid hb9
              have B9 := Lib.hid b9
              have ON9 := Lib.hid on9
              clear hb9 on9 b9
              go_wp2_with (fail)
              refine bodyPost_ret (results_e rfl _ _ rfl rfl (ret_m _ _ _ rfl H9.out)) rfl ?_
              have her : oneE (w0s :: wsr) = .ok m := by
                rcases HSTT.out with ⟨_, h⟩ | ⟨h, _⟩
                · unfold oneE
                  rw [show (w0s :: wsr).getD 0 [] = w0s from rfl, HKK.out, if_neg (by simp [isK] at hi; omega), if_neg (by rw [HLT.out, manyL_sum, HSC.out]; have := HN.out; simp at this ⊢; omega), HLT.out, show (w0s :: wsr).tail = wsr from rfl, HR.out, ← HRUN.out, h]
                · cases h
              exact ⟨⟨m, aB, nB, cB, aD, nD, cD, 0, rfl, (HM_2.out.only ON9.out (fun x hx => by have := (HM_2.out.own.block hx).1; have := HS1.out; omega)).base_le B1.out.size, (HM_3.out.only ON9.out (fun x hx => by have := (HM_3.out.own.block hx).1; have := HS1.out; omega)).base_le B1.out.size, .inl ⟨rfl, her⟩⟩, B9.out⟩
      · skip
        go_wp2_with (fail)
        have hb6 : Below w.heap.size w (w5.alloc (.cells #[.slice (some ⟨A, 1, none⟩) m1 m1, .bool false] 80)) := B4.out.alloc B4.out.size _
        have hb6w : Below w1.heap.size w1 (w5.alloc (.cells #[.slice (some ⟨A, 1, none⟩) m1 m1, .bool false] 80)) := B4w.out.alloc B4w.out.size _
        have rd6 : RdAt (w5.alloc (.cells #[.slice (some ⟨A, 1, none⟩) m1 m1, .bool false] 80)) w5.heap.size wsr false A := by
          refine ⟨⟨1, ?_, fun i hi => ?_⟩, by have := HA.out; have := B4.out.size; omega, by have := HA.out; have := hb6.size; omega, by have := HL.out; simp at this; omega⟩
          · rw [HM1.out]; exact Blk.new w5 _ _
          · have h1 := HC.out (i + 1) (by simpa using hi)
            rw [show 1 + i = i + 1 by omega, hb6.cell (p := ⟨A, i + 1, none⟩) HA.out]
            simpa using h1
        have mv6 : MvAt (w5.alloc (.cells #[.slice (some ⟨A, 1, none⟩) m1 m1, .bool false] 80)) w1.heap.size w5.heap.size w2.heap.size (mv0 k) :=
          ⟨none, 0, 0, none, 0, 0, N4.out.alloc _, By.nil _ _, By.nil _ _, (fun x h => (by cases h)), fun x h => (by cases h)⟩
        have rs6 := R4.out.alloc (.cells #[.slice (some ⟨A, 1, none⟩) m1 m1, .bool false] 80)
        have hz6 : (w5.alloc (.cells #[.slice (some ⟨A, 1, none⟩) m1 m1, .bool false] 80)).heap.size = w5.heap.size + 1 := by simp
        obtain ⟨w6, hw6⟩ : ∃ w6, w5.alloc (.cells #[.slice (some ⟨A, 1, none⟩) m1 m1, .bool false] 80) = w6 := ⟨_, rfl⟩
        rw [hw6] at hb6 hb6w rd6 mv6 rs6 hz6 ⊢
        have hb7 := hb6w.alloc hb6w.size (.stringIter (tx lt) 0)
        have HST : Hid (LpI w1 w5.heap.size A w2.heap.size w.heap.size (w5.heap.size + 1) lt (runL lt wsr (some (mv0 k))) 0 (w6.iter (tx lt) 0)) := Lib.hid ⟨hb7, by rw [← hz6]; exact World.iter_heap _ _ _, rs6.alloc _, ⟨wsr, some (mv0 k), ⟨false, mv0 k, rd6.only ((Below.refl _ _).alloc (Nat.le_refl _) _), mv6.below ((Below.refl _ _).alloc (Nat.le_refl _) _), .inl ⟨rfl, rfl⟩⟩, rfl, by rw [List.drop_zero, HSC.out, HM1.out]; omega, fun s hs => HS.out s (List.mem_cons_of_mem _ hs)⟩, Nat.zero_le _⟩
        have HZ6 := Lib.hid hz6
        obtain ⟨R, hR⟩ : ∃ R, runL lt wsr (some (mv0 k)) = R := ⟨_, rfl⟩
        rw [hR] at HST
        have HR := Lib.hid hR
        clear hb6 hb6w rd6 mv6 rs6 hz6 hw6 hb7 hR
        go_wp2_with (fail)
        go_loopw [11] (fun _ wr => ∃ pos : Nat, Hid (LpI w1 w5.heap.size A w2.heap.size w.heap.size (w5.heap.size + 1) lt R pos wr)) (fun _ wr => ll - wr.iterPos (w5.heap.size + 1))
        case atStart => exact ⟨0, HST⟩
        case round =>
          obtain ⟨pos, hok⟩ := hrel
          have hit := hok.out.it
          by_cases hp : pos < ll
          · have hps : pos < (tx lt).size := by rw [hsz]; exact hp
            have hpl : pos < lt.length := by rw [HLL.out]; exact hp
            obtain ⟨c, hcx⟩ : ∃ c, lt.getD pos 0 = c := ⟨_, rfl⟩
            have hcm : c ∈ lt := by rw [← hcx]; simp [hpl]
            have hco := HLO.out c hcm
            have hc128 : c.toNat < 128 := by rcases hco with rfl | rfl | rfl | rfl | rfl | rfl <;> decide
            have hcg : ∀ h, (tx lt)[pos]'h = c := fun h => by rw [tx_get, hcx]
            have hnx : ∀ ty, (Instr.next (.pointer (some ⟨w5.heap.size + 1, 0, none⟩)) true ty).run Tryz.prog wr = .ok (.tuple #[.bool true, .int .i64 pos, .int .i32 (c.toNat : Nat)]) (wr.iterAt (w5.heap.size + 1) (tx lt) (pos + 1)) := fun ty => by
              have := Lib.run_next_ascii_at (P := Tryz.prog) wr (w5.heap.size + 1) (tx lt) pos ty hit hps (by rw [hcg]; exact hc128)
              rw [hcg] at this; exact this
            have hd := drop_cons hpl
            rw [hcx] at hd
            have HD := Lib.hid hd
            have HCO := Lib.hid hco
            have HIT := Lib.hid hit
            have HPL := Lib.hid hpl
            clear hd hco hcm hcg hc128 hcx hpl
            go_wp2_with (fail)
            have below9 : Below w1.heap.size w1 (wr.iterAt (w5.heap.size + 1) (tx lt) (pos + 1)) := Lib.below_iterAt hok.out.below (by have := B4w.out.size; omega) _ _
            have oth : Only (fun i => i = w5.heap.size + 1) wr (wr.iterAt (w5.heap.size + 1) (tx lt) (pos + 1)) := ⟨rfl, rfl, rfl, by rw [Lib.iterAt_size]; exact Nat.le_refl _, fun i hi hne => Lib.iterAt_other wr _ i _ _ hne⟩
            obtain ⟨wsn, stn, htk, hrun, hsum, hsm⟩ := hok.out.tk
            have htk9 : TkAt (wr.iterAt (w5.heap.size + 1) (tx lt) (pos + 1)) w1.heap.size w5.heap.size A w2.heap.size wsn stn := htk.iter oth (by have := HA.out; have := B4.out.size; omega) (by have := HS4.out; omega) (by have := HA.out; have := B4.out.size; omega) HIT.out
            rw [HD.out, runL] at hrun
            rw [HD.out, sumC] at hsum
            have HTK := Lib.hid htk9
            have HRUN := Lib.hid hrun
            have HSUM := Lib.hid hsum
            have HSM := Lib.hid hsm
            have BL9 := Lib.hid below9
            have IT9 := Lib.hid (Lib.iterAt_heap wr (w5.heap.size + 1) (tx lt) pos (pos + 1) HIT.out)
            have RS9 := Lib.hid (oth.blk hok.out.res (by have := B4.out.size; omega))
            obtain ⟨w9, hw9⟩ : ∃ w9, wr.iterAt (w5.heap.size + 1) (tx lt) (pos + 1) = w9 := ⟨_, rfl⟩
            rw [hw9] at HTK BL9 IT9 RS9 ⊢
            clear below9 oth htk hrun hsum hsm htk9 hw9
            refine (take_any w1 w9 w5.heap.size A w2.heap.size c HCO.out wsn (by have := HSUM.out; omega) stn HTK.out (HV.out.below B1.out) BL9.out B4w.out.size B2w.out.size (by have := HS4.out; omega) (by have := HA.out; have := B2.out.size; omega) HSM.out).mono ?_
            rintro e wA ⟨rfl, htkA, onA⟩
            have FIN : Hid (LpI w1 w5.heap.size A w2.heap.size w.heap.size (w5.heap.size + 1) lt R (pos + 1) wA) := Lib.hid ⟨below_onto BL9.out onA BL9.out.size (by have := HS1.out; have := HS2.out; have := HS4.out; omega), by rw [onA.block _ (lt_of_iter IT9.out) (by have := HS4.out; omega)]; exact IT9.out, onA.blk RS9.out (by have := HS2.out; have := HS4.out; omega), ⟨_, _, htkA, HRUN.out, by have := HSUM.out; rw [List.length_drop]; omega, fun s hs => HSM.out s (List.mem_of_mem_drop hs)⟩, HPL.out⟩
            have hposA := iterPos_of FIN.out.it
            have hposR := iterPos_of HIT.out
            clear htkA onA
            go_wp2_with (fail)
            exact ⟨⟨pos + 1, FIN⟩, by rw [hposA, hposR]; omega⟩
          · have hpe : pos = ll := by have := hok.out.le; have := HLL.out; omega
            obtain ⟨wsn, stn, ⟨bad, m, hrd, hmv, hst⟩, hrun, _, _⟩ := hok.out.tk
            rw [List.drop_of_length_le (by have := HLL.out; omega), runL] at hrun
            have hpn : ¬ pos < (tx lt).size := by rw [hsz]; exact hp
            have hnx : ∀ ty, (Instr.next (.pointer (some ⟨w5.heap.size + 1, 0, none⟩)) true ty).run Tryz.prog wr = .ok (.tuple #[.bool false]) wr := fun ty => Lib.run_next_end_at (P := Tryz.prog) wr (w5.heap.size + 1) (tx lt) pos ty hit hpn
            obtain ⟨orr, hrk, _⟩ := hrd.ex
            have cb := hrk.cell 1 _ rfl
            obtain ⟨aB, nB, cB, aD, nD, cD, hm1, hm2, hm3, _, _⟩ := hmv
            have HM_1 := Lib.hid hm1
            have HM_2 := Lib.hid hm2
            have HM_3 := Lib.hid hm3
            have HRUN := Lib.hid hrun
            have HSTT := Lib.hid hst
            have RES := Lib.hid hok.out.res
            have BEL := Lib.hid (below_on B1.out hok.out.below B1.out.size)
            clear hit hpe hrd hst hrun hrk hm1 hm2 hm3 hp hpn
            cases bad with
            | true =>
              go_wp2_with (with_reducible refine stop_loadm ?_)
              refine Stop.out ?_
              refine wpList_loadAll Tryz.underlying35 move_size rfl rfl rfl HM_1.out rfl ?_
              refine wpList_storem rfl rfl rfl rfl (mvCs_one _ _ _ _ _ _ _) rfl rfl RES.out move_size ?_
              intro w9 hb9 on9
              have b9 : Below w.heap.size w w9 := below_onto BEL.out on9 BEL.out.size (by intro z hz h9; omega)
              have H9 := Lib.hid hb9
              have B9 := Lib.hid b9
              have ON9 := Lib.hid on9
              clear hb9 on9 b9
              go_wp2_with (fail)
              refine bodyPost_ret (results_e rfl _ _ rfl rfl (ret_m _ _ _ rfl H9.out)) rfl ?_
              have her : oneE (w0s :: wsr) = .err 5 := by
                rcases HSTT.out with ⟨h, _⟩ | ⟨_, h⟩
                · cases h
                · unfold oneE
                  rw [show (w0s :: wsr).getD 0 [] = w0s from rfl, HKK.out, if_neg (by simp [isK] at hi; omega), if_neg (by rw [HLT.out, manyL_sum, HSC.out]; have := HN.out; simp at this ⊢; omega), HLT.out, show (w0s :: wsr).tail = wsr from rfl, HR.out, ← HRUN.out, h]
              exact ⟨⟨m, aB, nB, cB, aD, nD, cD, 5, rfl, (HM_2.out.only ON9.out (fun x hx => by have := (HM_2.out.own.block hx).1; have := HS1.out; omega)).base_le B1.out.size, (HM_3.out.only ON9.out (fun x hx => by have := (HM_3.out.own.block hx).1; have := HS1.out; omega)).base_le B1.out.size, .inr ⟨by decide, her⟩⟩, B9.out⟩
            | false =>
              go_wp2_with (with_reducible refine stop_loadm ?_)
              refine Stop.out ?_
              refine wpList_loadAll Tryz.underlying35 move_size rfl rfl rfl HM_1.out rfl ?_
              refine wpList_storem rfl rfl rfl rfl (mvCs_one _ _ _ _ _ _ _) rfl rfl RES.out move_size ?_
              intro w9 hb9 on9
              have b9 : Below w.heap.size w w9 := below_onto BEL.out on9 BEL.out.size (by intro z hz h9; omega)
              have H9 := Lib.hid hb9
              have B9 := Lib.hid b9
              have ON9 := Lib.hid on9
              clear hb9 on9 b9
              go_wp2_with (fail)
              refine bodyPost_ret (results_e rfl _ _ rfl rfl (ret_m _ _ _ rfl H9.out)) rfl ?_
              have her : oneE (w0s :: wsr) = .ok m := by
                rcases HSTT.out with ⟨_, h⟩ | ⟨h, _⟩
                · unfold oneE
                  rw [show (w0s :: wsr).getD 0 [] = w0s from rfl, HKK.out, if_neg (by simp [isK] at hi; omega), if_neg (by rw [HLT.out, manyL_sum, HSC.out]; have := HN.out; simp at this ⊢; omega), HLT.out, show (w0s :: wsr).tail = wsr from rfl, HR.out, ← HRUN.out, h]
                · cases h
              exact ⟨⟨m, aB, nB, cB, aD, nD, cD, 0, rfl, (HM_2.out.only ON9.out (fun x hx => by have := (HM_2.out.own.block hx).1; have := HS1.out; omega)).base_le B1.out.size, (HM_3.out.only ON9.out (fun x hx => by have := (HM_3.out.own.block hx).1; have := HS1.out; omega)).base_le B1.out.size, .inl ⟨rfl, her⟩⟩, B9.out⟩

    · have hq : ¬ ((n : Int) = 1 + (ll : Int) + 2 * (cc : Int)) := by omega
      have hno : oneE (w0s :: wsr) = .err 2 := by
        unfold oneE
        rw [show (w0s :: wsr).getD 0 [] = w0s from rfl, HKK.out, if_neg (by simp [isK] at hi; omega), if_pos (by rw [← HN.out, HLT.out, manyL_sum, HSC.out]; exact hlen)]
      have HNO := Lib.hid hno
      clear hno hlen
      go_wp2_with (with_reducible refine stop_loadm ?_)
      refine Stop.out ?_
      refine wpList_loadAll Tryz.underlying35 move_size rfl rfl rfl N4.out rfl ?_
      refine wpList_storem rfl rfl rfl rfl (mvCs_one _ _ _ _ _ _ _) rfl rfl R4.out move_size ?_
      intro w9 hb9 on9
      have b9 : Below w.heap.size w w9 := below_onto B4.out on9 B4.out.size (by intro z hz h9; omega)
      have H9 := Lib.hid hb9
      have B9 := Lib.hid b9
      have ON9 := Lib.hid on9
      clear hb9 on9 b9
      go_wp2_with (fail)
      refine bodyPost_ret (results_e rfl _ _ rfl rfl (ret_m _ _ _ rfl H9.out)) rfl ?_
      exact ⟨⟨mv0 k, none, 0, 0, none, 0, 0, 2, rfl, By.nil _ _, By.nil _ _, .inr ⟨by decide, HNO.out⟩⟩, B9.out⟩
  · rw [show formV k = .tuple #[.string (tx []), .string (tx []), .bool false] from if_neg hi]
    have hk0 : k = 0 := by simp [isK] at hi; omega
    have hno : oneE (w0s :: wsr) = .err 2 := by
      unfold oneE
      rw [show (w0s :: wsr).getD 0 [] = w0s from rfl, HKK.out, if_pos hk0]
    have HNO := Lib.hid hno
    clear hno hk0 hi
    go_wp2_with (fail)
    refine (count_any [] 100 w4).mono ?_
    rintro e w5 ⟨rfl, rfl⟩
    go_wp2_with (with_reducible refine stop_loadm ?_)
    refine Stop.out ?_
    refine wpList_loadAll Tryz.underlying35 move_size rfl rfl rfl N4.out rfl ?_
    refine wpList_storem rfl rfl rfl rfl (mvCs_one _ _ _ _ _ _ _) rfl rfl R4.out move_size ?_
    intro w9 hb9 on9
    have b9 : Below w.heap.size w w9 := below_onto B4.out on9 B4.out.size (by intro z hz h9; omega)
    have H9 := Lib.hid hb9
    have B9 := Lib.hid b9
    have ON9 := Lib.hid on9
    clear hb9 on9 b9
    go_wp2_with (fail)
    refine bodyPost_ret (results_e rfl _ _ rfl rfl (ret_m _ _ _ rfl H9.out)) rfl ?_
    exact ⟨⟨mv0 k, none, 0, 0, none, 0, 0, 2, rfl, By.nil _ _, By.nil _ _, .inr ⟨by decide, HNO.out⟩⟩, B9.out⟩
end Go.Proofs.YthangjgdjhhfgaaGreatDoor
