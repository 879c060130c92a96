/- OutGoes: the law walked. -/
import Derived.Test.YtidfimpchbkppaaOu7
import Derived.Test.YtidfimpchbkppaaQuie
import Derived.Test.YtidfimpchbkppaaRf14
import Derived.Test.YtidfimpchbkppaaArgs
import Derived.Test.YtidfimpchbkppaaArgSl
import Derived.OpenShut
namespace Go.Proofs.Ytidfimpchbkppaa
open Go.RowKit
set_option linter.unusedVariables false

theorem og_mixed : Try.prog.follows .mixedOrders = true := by kernel_rfl
theorem og_goes : Rf.runs Try.prog 53 100000 = true := by kernel_rfl
theorem ogworks_any (w : World) : Calls Try.prog 53 #[] w fun e w' => e = .returned (.bool true) ∧ Below w.heap.size w w' := Rf.runs_true og_mixed og_goes w

/-! ### Rows of truths -/
def boolsA (L : List Bool) : Array Value := (L.map Value.bool).toArray
theorem boolsA_get {L : List Bool} {i : Nat} {v : Bool} (h : L[i]? = some v) : (boolsA L)[i]? = some (.bool v) := by simp [boolsA, h]
theorem boolsA_set (L : List Bool) (i : Nat) (v : Bool) : (boolsA L).setIfInBounds i (.bool v) = boolsA (L.set i v) := by simp [boolsA, List.map_set]
theorem Blk.cell_eq {w : World} {b : Nat} {cs : Array Value} {T : TypeId} (h : Blk w b cs T) (i : Nat) : w.cell? ⟨b, i, none⟩ = cs[i]? := by
  cases hc : cs[i]? with
  | some v => exact h.cell i v hc
  | none =>
    unfold Blk at h
    simp [World.cell?, h, hc]
theorem ints_ne {kd : IntKind} {w : World} {a : Option Addr} {L : List Int} {g : Nat} {got : List Bool} {T : TypeId} (h : IntsAt kd w a L) (hB : Blk w g (boolsA got) T) : ∀ x, a = some x → 0 < L.length → x.block ≠ g := by
  intro x hx h0 he
  obtain ⟨b, off, ha, _, hc, _⟩ := h 0 h0
  rw [hx] at ha
  cases ha
  simp only at he
  subst he
  rw [hB.cell_eq] at hc
  simp [boolsA] at hc
/-- A slice of truths that came in. -/
def BoolsAt (w : World) (a : Option Addr) (L : List Bool) : Prop := ∀ i, ∀ h : i < L.length, ∃ b off, a = some ⟨b, off, none⟩ ∧ b < w.heap.size ∧ w.cell? ⟨b, off + i, none⟩ = some (.bool L[i])
theorem BoolsAt.below {w w' : World} {a : Option Addr} {L : List Bool} (h : BoolsAt w a L) (hb : Below w.heap.size w w') : BoolsAt w' a L := fun i hi => by
  obtain ⟨b, off, ha, hlt, hc⟩ := h i hi
  exact ⟨b, off, ha, Nat.lt_of_lt_of_le hlt hb.size, (hb.cell (p := ⟨b, off + i, none⟩) hlt).trans hc⟩

/-- What the law's loop keeps. -/
structure GoesI (w : World) (b gq n : Nat) (B : List Int) (s : OSt) (LA LL : List Rg) (got : List Bool) (i mb lb : Nat) : Prop where
  ob : OB w b s
  oi : OutI n got s LA LL
  bf : BufOk w b s (B.drop s.base.toNat)
  ak : AckedOk w b s LA
  ls : LostOk w b s LL
  gt : Blk w gq (boolsA got) 4
  ne : gq ≠ b
  bl : B.length = n
  ci : i ≤ mb + lb + got.count true + (if s.ack = true then 1 else 0)
  cl : lb ≤ 100 ∧ lb ≤ i
  cm : mb ≤ 3000 ∧ (mb : Int) ≤ s.mx
  cx : s.mx ≤ 65535 + i * 65536
section
variable {w w' : World} {b gq n : Nat} {B : List Int} {s : OSt} {LA LL : List Rg} {got : List Bool} {i mb lb : Nat}
theorem GoesI.bound (h : GoesI w b gq n B s LA LL got i mb lb) : i ≤ 6101 := by
  have h1 := h.ci
  have h2 := h.cl
  have h3 := h.cm
  have h4 := count_le h.oi
  split at h1 <;> omega
theorem GoesI.ook (h : GoesI w b gq n B s LA LL got i mb lb) : OOk s := by
  have h1 := h.bound
  have h2 := h.cx
  exact h.oi.ok (by omega)
theorem GoesI.below (h : GoesI w b gq n B s LA LL got i mb lb) (hb : Below w.heap.size w w') : GoesI w' b gq n B s LA LL got i mb lb := by
  have ho : Only (fun z => z = b ∧ False) w w' := only_of_below hb _
  exact ⟨Blk.below h.ob hb, h.oi, ⟨h.bf.1, h.bf.2.1.below hb, h.bf.2.2⟩, ⟨h.ak.1, h.ak.2.1.below hb, h.ak.2.2⟩, ⟨h.ls.1, h.ls.2.1.below hb, h.ls.2.2⟩, h.gt.below hb, h.ne, h.bl, h.ci, h.cl, h.cm, h.cx⟩
/-- Truths are written. -/
theorem GoesI.marks (h1 : OB w b s) (h2 : BufOk w b s (B.drop s.base.toNat)) (h3 : AckedOk w b s LA) (h4 : LostOk w b s LL) (hg : Blk w gq (boolsA got) 4) (hne : gq ≠ b) (ho : Only (· = gq) w w') : OB w' b s ∧ BufOk w' b s (B.drop s.base.toNat) ∧ AckedOk w' b s LA ∧ LostOk w' b s LL := by
  refine ⟨ho.blk h1 (fun e => hne e.symm), ⟨h2.1, h2.2.1.only ho (fun x hx h0 => ints_ne h2.2.1.ints hg x hx h0), h2.2.2⟩, ⟨h3.1, h3.2.1.only ho (fun x hx h0 => ints_ne h3.2.1.ints hg x hx (by rw [flat_length]; omega)), h3.2.2⟩, ⟨h4.1, h4.2.1.only ho (fun x hx h0 => ints_ne h4.2.1.ints hg x hx (by rw [flat_length]; omega)), h4.2.2⟩⟩
end
section
variable {P : Program} {ops : Array Oper} {C : World → Prop} {Q : Act → Prop} {a : Act} {o : Oper} {rest : List Oper}
theorem wpQuiet_unsame {t ty : TypeId} (hgd : Region.wanted o (yielded ops a.tmps) = true) {x y : Operand} (ho : o.op = .binOp .neq t x y ty) {s : ByteArray} (hx : a.eval x = .string s) (hy : a.eval y = .string s)
    (h : wpQuiet P ops C Q rest (a.put o.dst (.bool false))) : wpQuiet P ops C Q (o :: rest) a :=
  wpQuiet_val hgd _ (fun w hc => by
    have hr : binOp .neq t (.string s) (.string s) = pure (.bool false) := by rw [binOp_string_neq]; simp only [BEq.rfl, Bool.not_true]
    have hr2 : eqGuard .neq t x y (.string s) (.string s) = pure () := eqGuard_at_string ..
    unfold execOp
    simp only [ho, hx, hy, hr, hr2]
    simp [Result.andThen]) h
end
set_option maxRecDepth 100000 in
set_option maxHeartbeats 16000000 in
theorem goes_law (a0 l0 : Option Addr) (c0 lc0 rm : Nat) (B : List Int) (Lb : List Bool) (first step : Int) (w : World) (hB : Sl .u8 w a0 c0 B) (hLb : BoolsAt w l0 Lb) (hrm : rm ≤ 255) (hf : 0 ≤ first ∧ first ≤ 65535) (hst : 0 ≤ step ∧ step ≤ 65535) (hBl : B.length ≤ 140737488355328) (hLl : Lb.length ≤ 140737488355328) :
    Calls Try.prog 13 #[.slice a0 B.length c0, .int .u8 rm, .slice l0 Lb.length lc0, .int .u16 first, .int .u16 step] w fun e w' => e = .returned (.bool true) ∧ Below w.heap.size w w' := by
  obtain ⟨n, hn⟩ : ∃ n, B.length = n := ⟨_, rfl⟩
  obtain ⟨ln, hln⟩ : ∃ n, Lb.length = n := ⟨_, rfl⟩
  rw [hn] at hBl ⊢
  rw [hln] at hLl ⊢
  have HN := Lib.hid hn
  have HLN := Lib.hid hln
  have HB := Lib.hid hB
  have HL := Lib.hid hLb
  clear hn hln hB hLb
  by_cases g1 : 3000 < n
  · go_enter Try.func13, Try.ntmps13
    go_wp2_with (fail)
    refine (ogworks_any w).mono ?_
    rintro e w2 ⟨rfl, hb⟩
    go_wp2_with (fail)
    go_returns
    exact ⟨rfl, hb⟩
  by_cases g2 : 100 < ln
  · go_enter Try.func13, Try.ntmps13
    go_wp2_with (fail)
    refine (ogworks_any w).mono ?_
    rintro e w2 ⟨rfl, hb⟩
    go_wp2_with (fail)
    go_returns
    exact ⟨rfl, hb⟩
  have hmk : ∃ cs : Array Value, cs = boolsA (List.replicate n false) ∧ ∀ W : World, (Instr.makeSlice 90 (.int .i64 n) (.int .i64 n)).run Try.prog W = .ok (.slice (some ⟨W.heap.size, 0, none⟩) n n) (W.alloc (.cells cs 4)) := by
    obtain ⟨i0, z, ht, hi0, hz0, hs1, hb1, hzs, _⟩ : ET Try.prog 90 4 1 1 := et_of (by kernel_rfl)
    have hzz : Option.bind ((Try.prog).info? 4) (fun x => x.zero) = some (.bool false) := by kernel_rfl
    have hz : z = .bool false := by
      rw [hi0] at hzz
      simp only [Option.bind_some] at hzz
      rw [hz0] at hzz
      cases hzz
      rfl
    subst hz
    refine ⟨madeCells #[.bool false] n, ?_, fun W => ?_⟩
    · apply Array.ext'
      simp only [madeCells, boolsA, Array.toList_map, Array.toList_range]
      refine List.ext_getElem? fun j => ?_
      by_cases hj : j < n
      · simp [hj, Nat.mod_one]
      · simp [hj]
    · have hr := run_make (P := Try.prog) W 90 4 i0 (.bool false) ht hi0 hz0 .i64 .i64 n n (by omega) (by omega) (by rw [hb1]; omega) (by omega)
      rw [hs1] at hr
      simp only [Nat.mul_one, Int.toNat_natCast] at hr
      exact hr
  obtain ⟨cs, hcs, hmk⟩ := hmk
  have HCS := Lib.hid hcs
  clear hcs
  go_enter Try.func13, Try.ntmps13
  go_wp2_with (fail)
  obtain ⟨b, hbb⟩ : ∃ z, w.heap.size = z := ⟨_, rfl⟩
  have x0 : Blk ((w.alloc (.cells #[.slice none 0 0, .int .u64 0, .int .u64 0, .int .u64 0, .slice none 0 0, .slice none 0 0, .bool false, .bool false, .bool false, .bool false, .int .u64 0, .bool false, .bool false, .bool false] 96)).alloc (.cells #[.slice a0 n c0] 46)) w.heap.size #[.slice none 0 0, .int .u64 0, .int .u64 0, .int .u64 0, .slice none 0 0, .slice none 0 0, .bool false, .bool false, .bool false, .bool false, .int .u64 0, .bool false, .bool false, .bool false] 96 := (Blk.new w _ _).alloc _
  have x1 : Blk ((w.alloc (.cells #[.slice none 0 0, .int .u64 0, .int .u64 0, .int .u64 0, .slice none 0 0, .slice none 0 0, .bool false, .bool false, .bool false, .bool false, .int .u64 0, .bool false, .bool false, .bool false] 96)).alloc (.cells #[.slice a0 n c0] 46)) (w.heap.size + 1) #[.slice a0 n c0] 46 := by
    have := Blk.new (w.alloc (.cells #[.slice none 0 0, .int .u64 0, .int .u64 0, .int .u64 0, .slice none 0 0, .slice none 0 0, .bool false, .bool false, .bool false, .bool false, .int .u64 0, .bool false, .bool false, .bool false] 96)) #[.slice a0 n c0] 46
    simpa using this
  have bA : Below w.heap.size w ((w.alloc (.cells #[.slice none 0 0, .int .u64 0, .int .u64 0, .int .u64 0, .slice none 0 0, .slice none 0 0, .bool false, .bool false, .bool false, .bool false, .int .u64 0, .bool false, .bool false, .bool false] 96)).alloc (.cells #[.slice a0 n c0] 46)) := ((Below.refl _ _).alloc (Nat.le_refl _) _).alloc (by simp) _
  obtain ⟨wA, hwA⟩ : ∃ z, (w.alloc (.cells #[.slice none 0 0, .int .u64 0, .int .u64 0, .int .u64 0, .slice none 0 0, .slice none 0 0, .bool false, .bool false, .bool false, .bool false, .int .u64 0, .bool false, .bool false, .bool false] 96)).alloc (.cells #[.slice a0 n c0] 46) = z := ⟨_, rfl⟩
  rw [hwA] at x0 x1 bA ⊢
  rw [hbb] at x0 x1 ⊢
  have hwb : w.heap.size ≤ b := by omega
  have hS0 : OB wA b ⟨none, 0, 0, 0, 0, 0, none, 0, 0, none, 0, 0, false, false, false⟩ := x0
  have OK0 : OOk ⟨none, 0, 0, 0, 0, 0, none, 0, 0, none, 0, 0, false, false, false⟩ := by refine ⟨?_, ?_, ?_, ?_⟩ <;> simp
  have hn3 : B.length ≤ 3000 := by have := HN.out; omega
  have hWR := owrite_any b (b + 1) _ n c0 a0 B wA hS0 OK0 ⟨rfl, rfl, rfl, rfl⟩ rfl HN.out.symm (HB.out.below bA) hn3 x1
  have WR := Lib.hid hWR
  have BA := Lib.hid bA
  clear x0 x1 bA hwA hbb hS0 hWR
  refine WR.out.mono ?_
  rintro e w1 ⟨on1, rfl, a1, c1, hob1, hfar1, hsl1⟩
  try simp only at hob1
  have hF := ofinish_any b _ w1 hob1 rfl
  have HF := Lib.hid hF
  have ON1 := Lib.hid on1
  have F1 := Lib.hid hfar1
  have SL1 := Lib.hid hsl1
  clear on1 hob1 hfar1 hsl1 hF WR
  go_wp2_with (fail)
  refine HF.out.mono ?_
  rintro e w2 ⟨on2, hob2, rfl⟩
  try simp only at hob2
  have hAl := oallow_any b _ first w2 hob2 ⟨by simp, by simp, by simp, by simp only; omega⟩ (by omega) (by simp only; omega)
  have HAL := Lib.hid hAl
  have ON2 := Lib.hid (ON1.out.trans on2)
  have SL2 := Lib.hid (SL1.out.only on2 (fun x hx _ => (F1.out x hx).1))
  clear on2 hob2 hAl ON1 SL1 HF
  go_wp2_with (fail)
  refine HAL.out.mono ?_
  rintro e w3 ⟨on3, hob3, v3, rfl⟩
  try simp only at hob3
  have ON3 := Lib.hid (ON2.out.trans on3)
  have SL3 := Lib.hid (SL2.out.only on3 (fun x hx _ => (F1.out x hx).1))
  have OB3 := Lib.hid hob3
  clear on3 hob3 ON2 SL2 HAL
  go_wp2_with (fail)
  have x4 := Blk.new w3 cs 4
  have b34 : Below w3.heap.size w3 (w3.alloc (.cells cs 4)) := (Below.refl _ _).alloc (Nat.le_refl _) _
  obtain ⟨w4, hw4⟩ : ∃ z, w3.alloc (.cells cs 4) = z := ⟨_, rfl⟩
  rw [hw4] at x4 b34 ⊢
  obtain ⟨gq, hgq⟩ : ∃ z, w3.heap.size = z := ⟨_, rfl⟩
  have hbg : b < gq := by have := Blk.lt OB3.out; omega
  have bW : Below w.heap.size w w4 := below_on (below_onto BA.out ON3.out BA.out.size (by intro z hz h; omega)) b34 (by have := BA.out.size; have := ON3.out.size; omega)
  rw [hgq] at x4 ⊢
  have HI : Hid (GoesI w4 b gq n B ⟨a1, n, c1, 0, 0, first, none, 0, 0, none, 0, 0, true, false, false⟩ [] [] (List.replicate n false) 0 0 0) := Lib.hid (by
    have hnog : ∀ x, ¬ G (List.replicate n false) x := fun x ⟨h1, h2⟩ => by
      rw [List.getElem?_replicate] at h2
      split at h2 <;> simp at h2
    refine ⟨Blk.below OB3.out b34, ⟨by simp, by omega, by simp, by simp, by simp only; omega, fun x h1 h2 => by simp only at h2; omega, fun x _ => hnog x, fun h => by simp at h, ⟨trivial, fun x => ?_⟩, ⟨trivial, fun x => ?_⟩, rfl, rfl, fun h => by simp at h⟩, ⟨by simpa using HN.out.symm, by simpa using SL3.out.below b34, fun x hx _ => (F1.out x hx).1⟩, ⟨rfl, Rs.nil _, fun x hx => nomatch hx⟩, ⟨rfl, Rs.nil _, fun x hx => nomatch hx⟩, by rw [← HCS.out]; exact x4, by omega, HN.out, by simp, by omega, by simp only; omega, by simp only; omega⟩
    · simp only
      constructor
      · intro h; exact absurd h (memR_nil _)
      · rintro ⟨h1, h2, h3⟩; exact absurd h3 (hnog x)
    · simp only
      constructor
      · intro h; exact absurd h (memR_nil _)
      · rintro ⟨h1, h2, h3⟩; omega)
  have BW := Lib.hid bW
  clear x4 b34 hw4 hgq bW ON3 SL3 OB3 BA F1 OK0 hn3
  go_loopw [12, 14, 15, 16, 17, 18, 19, 20, 21] (fun m' e' i' _ _ _ _ _ _ wr => ∃ (i : Nat) (s : OSt) (LA LL : List Rg) (got : List Bool) (mb lb : Nat) (mx : Int) (ak : Bool), i' = .int .i64 i ∧ m' = .int .u64 mx ∧ e' = .bool ak ∧ Below w.heap.size w wr ∧ Hid (mx = s.mx ∧ ak = s.ack) ∧ Hid (GoesI wr b gq n B s LA LL got i mb lb)) (fun _ _ i' _ _ _ _ _ _ _ => 7000 - (intOf i').toNat)
  case atStart => exact ⟨0, _, _, _, _, _, _, first, false, rfl, rfl, rfl, BW.out, Lib.hid ⟨rfl, rfl⟩, HI⟩
  case round =>
    clear HI BW
    obtain ⟨i, s, LA, LL, got, mb, lb, mx, ak, rfl, rfl, rfl, bw, hsx, hI⟩ := hrel
    have hib := hI.out.bound
    have hok := hI.out.ook
    have hcx := hI.out.cx
    have hmx0 : 0 ≤ mx ∧ mx ≤ 500000000 := by have h1 := hok.2.2.1; have h2 := hsx.out.1; omega
    have hgb := hI.out.gt.lt
    obtain ⟨ov, hov⟩ : ∃ v, overB s = v := ⟨_, rfl⟩
    have HOV := oover_any b s wr hI.out.ob hok
    rw [hov] at HOV
    have HO := Lib.hid HOV
    have HV := Lib.hid hov
    have OK := Lib.hid hok
    clear HOV hov hok
    go_wp2_with (fail)
    refine HO.out.mono ?_
    rintro e w1 ⟨hb1, rfl⟩
    have I1 := Lib.hid (hI.out.below hb1)
    have BW := Lib.hid (below_on bw hb1 bw.size)
    have hg1 : gq < w1.heap.size := I1.out.gt.lt
    clear hb1 bw hI HO
    cases ov with
    | true =>
      obtain ⟨hack, hall⟩ := I1.out.oi.done HV.out
      obtain rfl : ak = true := by rw [hsx.out.2]; exact hack
      have HALL := Lib.hid hall
      have hgl := I1.out.oi.gl
      clear hack hall hgl
      go_wp2_with (fail)
      go_loopw [23, 168] (fun _ i wr => ∃ j : Nat, i = .int .i64 j ∧ j ≤ n ∧ wr = w1) (fun _ i _ => n - (intOf i).toNat)
      case atStart => exact ⟨0, rfl, by omega, by trivial⟩
      case round =>
        obtain ⟨j, rfl, hj, rfl⟩ := hrel
        by_cases hlt : j < n
        · have c0 := I1.out.gt.cell j (.bool true) (boolsA_get (HALL.out j hlt))
          go_wp2_with (fail)
          exact ⟨⟨j + 1, rfl, by omega, by trivial⟩, by simp [intOf]; omega⟩
        · obtain rfl : j = n := by omega
          go_wp2_with (fail)
          refine (ogworks_any wr).mono ?_
          rintro e w2 ⟨rfl, hb⟩
          go_wp2_with (fail)
          go_returns
          exact ⟨rfl, below_on BW.out hb BW.out.size⟩
    | false =>
      obtain ⟨r, hr⟩ : ∃ r : Nat, rm + 1 = r := ⟨_, rfl⟩
      have hr1 : (rm : Int) + 1 = (r : Int) := by omega
      have hrb : 1 ≤ r ∧ r ≤ 256 := by omega
      have hlens := I1.out.oi.lens
      clear hr
      go_wp2_with (fail)
      try rw [hr1]
      cases LL with
      | nil =>
        have hm : ∃ m : Nat, (m : Int) = min (r : Int) (min 4611686018427387904 (min (s.base + s.bn - s.next) (max s.mx s.next - s.next))) := ⟨(min (r : Int) (min 4611686018427387904 (min (s.base + s.bn - s.next) (max s.mx s.next - s.next)))).toNat, by have h1 := I1.out.oi.bas; have h2 := I1.out.oi.bn; omega⟩
        obtain ⟨m, hm⟩ := hm
        obtain ⟨fv, hfv⟩ : ∃ v, (decide (s.next + m = (n : Int)) && !s.ack) = v := ⟨_, rfl⟩
        have hbn := I1.out.oi.bn
        have hbas := I1.out.oi.bas
        have hls0 : s.ln = 0 := I1.out.ls.1
        rcases I1.out.oi.fresh hrb.1 HV.out hm hfv.symm with ⟨rfl, rfl, k1, k2, k3⟩ | ⟨hgo, hp⟩
        · refine (opick_none b s r w1 I1.out.ob OK.out hrb I1.out.oi.fin I1.out.oi.sa (by omega) hls0 (by rw [← hm]; rfl) k3).mono ?_
          rintro e w2 ⟨hb2, rfl⟩
          have I2 := Lib.hid (I1.out.below hb2)
          have BW2 := Lib.hid (below_on BW.out hb2 BW.out.size)
          have HBL := Lib.hid (oblocked_any b s w2 I2.out.ob OK.out (by omega) k2)
          have hmb : (mb : Int) + 1 ≤ mx + (step + 1) ∧ mb + 1 ≤ 3000 := by have h1 := I1.out.cm; have h2 := hsx.out.1; have h3 := I1.out.oi.nb; omega
          have K12 := Lib.hid (And.intro k1 k2)
          clear hb2 hm hfv k1 k2 k3 hbn hbas hls0 I1 BW
          go_wp2_with (fail)
          refine HBL.out.mono ?_
          rintro e w3 ⟨hb3, rfl⟩
          have I3 := Lib.hid (I2.out.below hb3)
          have BW3 := Lib.hid (below_on BW2.out hb3 BW2.out.size)
          obtain ⟨mx2, hmx2⟩ : ∃ x, mx + (step + 1) = x := ⟨_, rfl⟩
          have hmx2b : 0 ≤ mx2 ∧ mx2 ≤ 100000000000 := by omega
          have HAW := Lib.hid (oallow_any b s mx2 w3 I3.out.ob OK.out hmx2b (by have := hsx.out.1; omega))
          clear hb3 HBL I2 BW2
          go_wp2_with (fail)
          try rw [hmx2]
          refine HAW.out.mono ?_
          rintro e w4 ⟨on4, hob4, v4, rfl⟩
          have b4 := below_onto BW3.out on4 BW3.out.size (by intro z hz h; omega)
          have h3 := I3.out
          have hi4 : GoesI w4 b gq n B { s with mx := mx2 } LA [] got (i + 1) (mb + 1) lb := ⟨hob4, ⟨h3.oi.gl, h3.oi.nb, h3.oi.bas, h3.oi.bn, by have h1 := h3.oi.mx; have h2 := hsx.out.1; simp only; omega, h3.oi.low, h3.oi.high, h3.oi.at_, h3.oi.la, h3.oi.ll, h3.oi.sa, h3.oi.fin, h3.oi.end_⟩, h3.bf.only on4 ⟨rfl, rfl, rfl⟩, h3.ak.only on4 ⟨rfl, rfl, rfl⟩, h3.ls.only on4 ⟨rfl, rfl, rfl⟩, on4.blk h3.gt h3.ne, h3.ne, h3.bl, by have h1 := h3.ci; simp only; omega, by have h1 := h3.cl; omega, by simp only; omega, by have h1 := h3.cx; have h2 := hsx.out.1; simp only; omega⟩
          have I4 := Lib.hid hi4
          have B4 := Lib.hid b4
          clear on4 hob4 b4 h3 hi4 I3 BW3 HAW
          go_wp2_with (fail)
          exact ⟨⟨i + 1, { s with mx := mx2 }, LA, [], got, mb + 1, lb, mx2, ak, by go_num, rfl, rfl, B4.out, Lib.hid ⟨rfl, hsx.out.2⟩, I4⟩, by simp [intOf]; omega⟩
        · obtain ⟨off, hoff⟩ : ∃ x, s.next = x := ⟨_, rfl⟩
          rw [hoff] at hm hfv hp
          obtain ⟨DD, hDD⟩ : ∃ x, ((B.drop s.base.toNat).drop (off - s.base).toNat).take m = x := ⟨_, rfl⟩
          refine (opick_fresh b s (B.drop s.base.toNat) DD r off m fv w1 I1.out.ob OK.out I1.out.bf.1 I1.out.bf.2.1 hrb I1.out.oi.fin I1.out.oi.sa (by omega) hls0 hoff.symm (by rw [hoff]; exact hm) (by omega) (by have := hp.o2; omega) (by rw [← hfv, hbn]) hgo hDD).mono ?_
          rintro e wP ⟨hbP, a', c', rfl, hoP⟩
          have IP := Lib.hid (I1.out.below hbP)
          have BP := Lib.hid (below_on BW.out hbP BW.out.size)
          have hwfB : ∀ x ∈ DD, (Lit.int .u8 x).wf = true := fun x hx => by rw [← hDD] at hx; exact HB.out.wf x (List.mem_of_mem_drop (List.mem_of_mem_drop (List.mem_of_mem_take hx)))
          have hDB : DD = (B.drop off.toNat).take m := by
            have h1 := hp.o1
            have h2 := hbas.1
            rw [← hDD, List.drop_drop, show s.base.toNat + (off - s.base).toNat = off.toNat by omega]
          have hslP := (OwnS.sl (L := DD) hoP hwfB)
          have ho1 := hp.o1
          have ho2 := hp.o2
          have ho3 := hp.o3
          have hl9 : ∃ l9 : Nat, off = l9 := ⟨off.toNat, by omega⟩
          obtain ⟨l9, hl9⟩ := hl9
          have hcut := fun W => run_cut2 (P := Try.prog) u8_et (av := a0) (n := n) (cap := c0) (kl := .u64) (kh := .u64) l9 (l9 + m) (by omega) (by have := HB.out.le; have := HN.out; omega) (li := off) (hj := off + m) hl9 (by omega) W
          have hslB := (HB.out.below BP.out).cut l9 (l9 + m) (by omega) (by have := HN.out; omega)
          obtain ⟨a2, ha2⟩ : ∃ x, (if c0 = l9 then a0 else a0.map (·.add (l9 * 1))) = x := ⟨_, rfl⟩
          obtain ⟨c2, hc2⟩ : ∃ x, c0 - l9 = x := ⟨_, rfl⟩
          rw [ha2, hc2, show l9 + m - l9 = m by omega] at hcut hslB
          rw [show l9 = off.toNat by omega, ← hDB] at hslB
          have HLD := Lib.hid hslP.1
          have HSP := Lib.hid hslP.2
          have HSB := Lib.hid hslB
          have hmn : m ≤ 3000 := by omega
          have hoffb : 0 ≤ off ∧ off ≤ 3000 := by omega
          have d1 : decide ((n : Int) < off + m) = false := decide_eq_false (by omega)
          have d2 : decide (mx < off + m) = false := decide_eq_false (by have := hsx.out.1; omega)
          obtain ⟨fe, hfe⟩ : ∃ x, (off + (m : Int) == (n : Int)) = x := ⟨_, rfl⟩
          obtain rfl : fv = fe := by
            rw [← hfe, hp.fv1]
            by_cases h9 : off + (m : Int) = n
            · simp [h9]
            · simp [h9]
          have hPK := Lib.hid hp
          have gP : gq < wP.heap.size := IP.out.gt.lt
          have hTK := otook_any b s [] off m fv wP.drew (Blk.below IP.out.ob (Below.refl wP.heap.size wP).drew) OK.out ⟨IP.out.ls.1, IP.out.ls.2.1.below (Below.refl wP.heap.size wP).drew, IP.out.ls.2.2⟩ (by have h9 := hlens.2; simp only [List.length_nil, List.length_cons] at h9 ⊢; omega) (by omega) (by omega)
          have HTK := Lib.hid hTK
          clear hslP hslB hDB hDD hwfB hoP hbP ha2 hc2 hl9 hp hbas hbn hm hfv hgo hoff hls0 I1 BW hTK
          go_wp2_with (fail)
          refine rg_start 37 ?_
          refine rg_belowB fun p hB' hx hne hC hbel => ?_
          refine rg_quiet 0 [0,1,2,3,4,5,6,7,8,9,10,11,12,13,14,15,16,17,18,19,20,21,22,23,24,25,26,27,28,29,30,31,32,33,34,35,36] hC ?_
          simp only [pickD, List.map_cons, List.map_nil, List.getD_cons_zero, List.getD_cons_succ]; repeat (go_big_quiet_step (fail))
          refine wpQuiet_str Try.underlying46 Try.underlying5 Try.underlying9 rfl rfl rfl HLD.out (fun W hc => (HSP.out.below (below_on (Below.refl wP.heap.size wP).drew (hB' W hc) (Nat.le_refl _))).ints) ?_
          simp only [Act.put, Array.set!_eq_setIfInBounds, List.setIfInBounds_toArray, List.set_cons_succ, List.set_cons_zero]
          repeat (go_big_quiet_step (fail))
          refine wpQuiet_str Try.underlying46 Try.underlying5 Try.underlying9 rfl rfl rfl HLD.out (fun W hc => (HSB.out.below (below_on (Below.refl wP.heap.size wP).drew (hB' W hc) (Nat.le_refl _))).ints) ?_
          simp only [Act.put, Array.set!_eq_setIfInBounds, List.setIfInBounds_toArray, List.set_cons_succ, List.set_cons_zero]
          repeat (go_big_quiet_step (fail))
          refine wpQuiet_nil ?_
          refine rg_end ?_
          clear hx hne hC hbel hB' hcut
          go_wp2_with (fail)
          refine HTK.out.mono ?_
          rintro e w3 ⟨on3, ⟨v, rfl⟩, la3, lc3, M, hob3, hM, hrs3, hfar3⟩
          have on3' : Only (· = b) wP w3 := Only.trans (only_of_below (Below.refl wP.heap.size wP).drew _) on3
          obtain ⟨s1, hs1⟩ : ∃ x : OSt, { s with la := la3, ln := M.length, lc := lc3, next := max s.next (off + m), sent := s.sent || fv } = x := ⟨_, rfl⟩
          rw [hs1] at hob3
          have hb3 : BufOk w3 b s1 (B.drop s.base.toNat) := IP.out.bf.only on3' (by rw [← hs1]; exact ⟨rfl, rfl, rfl⟩)
          have ha3 : AckedOk w3 b s1 LA := IP.out.ak.only on3' (by rw [← hs1]; exact ⟨rfl, rfl, rfl⟩)
          have hl3 : LostOk w3 b s1 M := by rw [← hs1]; exact ⟨rfl, hrs3, fun x hx _ => (hfar3 x hx).1⟩
          have hg3 := on3'.blk IP.out.gt IP.out.ne
          have bw3 := below_onto BP.out on3' BP.out.size (by intro z hz h; omega)
          have hok1 : OOk s1 := by
            obtain ⟨q1, q2, q3, q4⟩ := OK.out
            rw [← hs1]
            exact ⟨q1, by simp only; omega, q3, q4⟩
          have hMl : M.length ≤ 3001 := nf_len (n := 3000) hM (fun x hx => by
            simp only [Bool.and_eq_true] at hx
            have h9 := (IP.out.oi.ll.mem x).1 ((inB_iff _ _).1 hx.1)
            have h8 := IP.out.oi.bas
            have h7 := IP.out.oi.nb
            omega)
          have hcond : fv = true → s1.sent = true ∧ off + m = s1.base + s1.bn := fun hfv9 => by
            rw [← hs1]
            have h9 := hPK.out.fv1
            have h8 := IP.out.oi.bn
            rw [hfv9] at h9
            have h7 := of_decide_eq_true h9.symm
            exact ⟨by simp [hfv9], by simp only; omega⟩
          have hnext : off + m ≤ s1.next := by rw [← hs1]; simp only; omega
          have hMS := omiss_any b s1 LA M off m fv w3 hob3 hok1 ha3 hl3 (by omega) (by omega) hoffb.1 (by omega) hnext hcond
          have hAC := oack_any b s1 (B.drop s.base.toNat) LA M off m fv w3 hob3 hok1 hb3 ha3 hl3 (by omega) (by omega) hoffb.1 (by omega) hnext hcond (fun all hall => by rw [← hs1]; exact IP.out.oi.gap hPK.out hall)
          have MS := Lib.hid hMS
          have AC := Lib.hid hAC
          have B3 := Lib.hid bw3
          have HA3 := Lib.hid ha3
          have HB3 := Lib.hid hb3
          have HG3 := Lib.hid hg3
          have HM := Lib.hid hM
          have S1 := Lib.hid hs1
          have L3 := Lib.hid (HL.out.below bw3)
          clear on3 on3' hob3 hrs3 hfar3 hb3 ha3 hl3 hg3 bw3 hok1 hMl hcond hnext hMS hAC hM hs1 HTK HSP HSB HLD
          by_cases hlost : i < ln ∧ Lb[i]? = some true
          · obtain ⟨hil, hlv⟩ := hlost
            obtain ⟨lg, lo, hl0, hlg, hlc⟩ := L3.out i (by have := HLN.out; omega)
            have hlv2 : Lb[i]'(by have := HLN.out; omega) = true := by
              obtain ⟨h8, h9⟩ := List.getElem?_eq_some_iff.1 hlv
              exact h9
            rw [hlv2] at hlc
            subst hl0
            clear hlv hlv2
            go_wp2_with (fail)
            refine MS.out.mono ?_
            rintro e w4 ⟨on4, rfl, s2, MO, ML, hob4, hs2, hls4, hMO, hML⟩
            have e1 : s2.base = s.base := by rw [hs2, ← S1.out]
            have e2 : s2.bn = s.bn := by rw [hs2, ← S1.out]
            have e3 : s2.next = max s.next (off + m) := by rw [hs2, ← S1.out]
            have e4 : s2.mx = s.mx := by rw [hs2, ← S1.out]
            have e5 : s2.fin = s.fin := by rw [hs2, ← S1.out]
            have e6 : s2.ack = s.ack := by rw [hs2, ← S1.out]
            have e7 : s2.sent = ((s.sent || fv) && !(fv && !s.ack)) := by rw [hs2, ← S1.out]
            have e8 : s1.base = s.base := by rw [← S1.out]
            rw [e8] at hMO
            have hoi := IP.out.oi.missed hPK.out HM.out hMO hML e1 e2 e3 e4 e5 e6 e7
            have hi4 : GoesI w4 b gq n B s2 LA ML got (i + 1) mb (lb + 1) := ⟨hob4, hoi, by rw [e1]; exact HB3.out.only on4 (by rw [hs2]; exact ⟨rfl, rfl, rfl⟩), HA3.out.only on4 (by rw [hs2]; exact ⟨rfl, rfl, rfl⟩), hls4, on4.blk HG3.out IP.out.ne, IP.out.ne, IP.out.bl, by have h1 := IP.out.ci; rw [e6]; omega, by have h1 := IP.out.cl; omega, by rw [e4]; exact IP.out.cm, by have h1 := IP.out.cx; rw [e4]; omega⟩
            have I4 := Lib.hid hi4
            have B4 := Lib.hid (below_onto B3.out on4 B3.out.size (by intro z hz h; omega))
            have E := Lib.hid (And.intro (hsx.out.1.trans e4.symm) (hsx.out.2.trans e6.symm))
            clear on4 hob4 hs2 hls4 hMO hML e1 e2 e3 e4 e5 e6 e7 e8 hoi hi4 MS AC IP BP
            go_wp2_with (fail)
            exact ⟨⟨i + 1, s2, LA, ML, got, mb, lb + 1, mx, ak, by go_num, rfl, rfl, B4.out, E, I4⟩, by simp [intOf]; omega⟩
          · have hread : ∀ hil : i < ln, ∃ lg lo, l0 = some ⟨lg, lo, none⟩ ∧ w3.cell? ⟨lg, lo + i, none⟩ = some (.bool false) := fun hil => by
              obtain ⟨lg, lo, hl0, hlg, hlc⟩ := L3.out i (by have := HLN.out; omega)
              refine ⟨lg, lo, hl0, ?_⟩
              rw [hlc]
              have h7 : i < Lb.length := by have := HLN.out; omega
              cases hv : Lb[i]'h7 with
              | false => rfl
              | true => exact absurd ⟨hil, by simp [h7, hv]⟩ hlost
            have HR := Lib.hid hread
            clear hread hlost
            by_cases hil : i < ln
            · obtain ⟨lg, lo, hl0, hlc⟩ := HR.out hil
              subst hl0
              go_wp2_with (fail)
              refine AC.out.mono ?_
              rintro e w4 ⟨on4, rfl, s2, all, MA, ML, hall, hob4, hs2, hbf4, hak4, hls4, hMA, hML⟩
              have e0 : s1.base = s.base := by rw [← S1.out]
              rw [e0] at hs2 hbf4 hMA hML
              have e1 : s2.base = gapP all s.base := by rw [hs2]
              have e2 : s2.bn = s.bn - (gapP all s.base - s.base).toNat := by rw [hs2, ← S1.out]
              have e3 : s2.next = max s.next (off + m) := by rw [hs2, ← S1.out]
              have e4 : s2.mx = s.mx := by rw [hs2, ← S1.out]
              have e5 : s2.fin = s.fin := by rw [hs2, ← S1.out]
              have e6 : s2.ack = (s.ack || fv) := by rw [hs2, ← S1.out]
              have e7 : s2.sent = (s.sent || fv) := by rw [hs2, ← S1.out]
              obtain ⟨hoi, hcnt⟩ := IP.out.oi.acked hPK.out HM.out hall hMA hML e1 e2 e3 e4 e5 e6 e7
              have hgap := IP.out.oi.gap hPK.out hall
              have hbf5 : BufOk w4 b s2 (B.drop s2.base.toNat) := by
                rw [e1]
                have h1 := IP.out.oi.bas
                rw [List.drop_drop, show s.base.toNat + (gapP all s.base - s.base).toNat = (gapP all s.base).toNat by omega] at hbf4
                exact hbf4
              have hg4 := on4.blk HG3.out IP.out.ne
              have hbw4 := below_onto B3.out on4 B3.out.size (by intro z hz h; omega)
              have OI := Lib.hid hoi
              have CN := Lib.hid hcnt
              have BF := Lib.hid hbf5
              have OB4 := Lib.hid hob4
              have AK4 := Lib.hid hak4
              have LS4 := Lib.hid hls4
              have G4 := Lib.hid hg4
              have BW4 := Lib.hid hbw4
              have E4 := Lib.hid e4
              have E6 := Lib.hid e6
              have hon : (off.toNat : Int) = off := by omega
              have hgl := IP.out.oi.gl
              obtain ⟨on, hon2⟩ : ∃ x, off.toNat = x := ⟨_, rfl⟩
              rw [hon2] at OI CN hon
              have HON := Lib.hid hon
              have HGL := Lib.hid hgl
              subst hon
              clear on4 hall hob4 hs2 hbf4 hak4 hls4 hMA hML e0 e1 e2 e3 e4 e5 e6 e7 hoi hcnt hgap hbf5 hg4 hbw4 hgl MS AC hon2
              go_wp2_with (fail)
              go_loopw [21, 152] (fun _ i' wr => ∃ j : Nat, i' = .int .i64 j ∧ j ≤ m ∧ Only (· = gq) w4 wr ∧ Hid (Blk wr gq (boolsA (setR got on j)) 4)) (fun _ i' _ => m - (intOf i').toNat)
              case atStart => exact ⟨0, rfl, by omega, Only.refl _ _, G4⟩
              case round =>
                obtain ⟨j, rfl, hj, ow, hblk⟩ := hrel
                by_cases hlt2 : j < m
                · have hsl := setR_length got on j
                  obtain ⟨x9, hx9⟩ : ∃ x, on + j = x := ⟨_, rfl⟩
                  have hlt3 : x9 < (setR got on j).length := by have := HGL.out; omega
                  have c9 := hblk.out.cell x9 _ (boolsA_get (List.getElem?_eq_getElem hlt3))
                  have f9 := hblk.out.free x9
                  have hset : Blk (wr.setCell ⟨gq, x9, none⟩ (.bool true)) gq (boolsA (setR got on (j + 1))) 4 := by
                    have h9 := (hblk.out.set x9 (.bool true)).congr (boolsA_set _ _ _)
                    rw [← hx9] at h9 ⊢
                    exact h9
                  have lg9 := hblk.out.lt
                  have hsum9 : (on : Int) + (j : Int) = (x9 : Int) := by omega
                  have hltn : x9 < n := by have := HGL.out; omega
                  have ow2 := ow.set x9 (.bool true)
                  have HSET := Lib.hid hset
                  have OW2 := Lib.hid ow2
                  clear hset ow2 hsl hx9
                  go_wp2_with (fail)
                  exact ⟨⟨j + 1, by go_num, by omega, OW2.out, HSET⟩, by simp [intOf]; omega⟩
                · obtain rfl : j = m := by omega
                  obtain ⟨m1, m2, m3, m4⟩ := GoesI.marks OB4.out BF.out AK4.out LS4.out G4.out IP.out.ne ow
                  have hi5 : GoesI wr b gq n B s2 MA ML (setR got on j) (i + 1) mb lb := ⟨m1, OI.out, m2, m3, m4, hblk.out, IP.out.ne, IP.out.bl, by have h1 := IP.out.ci; have h2 := CN.out; omega, by have h1 := IP.out.cl; omega, by rw [E4.out]; exact IP.out.cm, by have h1 := IP.out.cx; rw [E4.out]; omega⟩
                  have I5 := Lib.hid hi5
                  have B5 := Lib.hid (below_onto BW4.out ow BW4.out.size (by intro z hz h; omega))
                  have EA := Lib.hid (And.intro (hsx.out.1.trans E4.out.symm) (show (ak || fv) = s2.ack by rw [E6.out, hsx.out.2]))
                  clear m1 m2 m3 m4 hi5 ow hblk OB4 BF AK4 LS4 G4 OI CN IP BP
                  cases ak with
                  | true =>
                    go_wp2_with (fail)
                    exact ⟨⟨i + 1, s2, MA, ML, setR got on j, mb, lb, mx, true, by go_num, rfl, rfl, B5.out, Lib.hid ⟨EA.out.1, by simpa using EA.out.2⟩, I5⟩, by simp [intOf]; omega⟩
                  | false =>
                    go_wp2_with (fail)
                    exact ⟨⟨i + 1, s2, MA, ML, setR got on j, mb, lb, mx, fv, by go_num, rfl, rfl, B5.out, Lib.hid ⟨EA.out.1, by simpa using EA.out.2⟩, I5⟩, by simp [intOf]; omega⟩
            · skip
              go_wp2_with (fail)
              refine AC.out.mono ?_
              rintro e w4 ⟨on4, rfl, s2, all, MA, ML, hall, hob4, hs2, hbf4, hak4, hls4, hMA, hML⟩
              have e0 : s1.base = s.base := by rw [← S1.out]
              rw [e0] at hs2 hbf4 hMA hML
              have e1 : s2.base = gapP all s.base := by rw [hs2]
              have e2 : s2.bn = s.bn - (gapP all s.base - s.base).toNat := by rw [hs2, ← S1.out]
              have e3 : s2.next = max s.next (off + m) := by rw [hs2, ← S1.out]
              have e4 : s2.mx = s.mx := by rw [hs2, ← S1.out]
              have e5 : s2.fin = s.fin := by rw [hs2, ← S1.out]
              have e6 : s2.ack = (s.ack || fv) := by rw [hs2, ← S1.out]
              have e7 : s2.sent = (s.sent || fv) := by rw [hs2, ← S1.out]
              obtain ⟨hoi, hcnt⟩ := IP.out.oi.acked hPK.out HM.out hall hMA hML e1 e2 e3 e4 e5 e6 e7
              have hgap := IP.out.oi.gap hPK.out hall
              have hbf5 : BufOk w4 b s2 (B.drop s2.base.toNat) := by
                rw [e1]
                have h1 := IP.out.oi.bas
                rw [List.drop_drop, show s.base.toNat + (gapP all s.base - s.base).toNat = (gapP all s.base).toNat by omega] at hbf4
                exact hbf4
              have hg4 := on4.blk HG3.out IP.out.ne
              have hbw4 := below_onto B3.out on4 B3.out.size (by intro z hz h; omega)
              have OI := Lib.hid hoi
              have CN := Lib.hid hcnt
              have BF := Lib.hid hbf5
              have OB4 := Lib.hid hob4
              have AK4 := Lib.hid hak4
              have LS4 := Lib.hid hls4
              have G4 := Lib.hid hg4
              have BW4 := Lib.hid hbw4
              have E4 := Lib.hid e4
              have E6 := Lib.hid e6
              have hon : (off.toNat : Int) = off := by omega
              have hgl := IP.out.oi.gl
              obtain ⟨on, hon2⟩ : ∃ x, off.toNat = x := ⟨_, rfl⟩
              rw [hon2] at OI CN hon
              have HON := Lib.hid hon
              have HGL := Lib.hid hgl
              subst hon
              clear on4 hall hob4 hs2 hbf4 hak4 hls4 hMA hML e0 e1 e2 e3 e4 e5 e6 e7 hoi hcnt hgap hbf5 hg4 hbw4 hgl MS AC hon2
              go_wp2_with (fail)
              go_loopw [21, 152] (fun _ i' wr => ∃ j : Nat, i' = .int .i64 j ∧ j ≤ m ∧ Only (· = gq) w4 wr ∧ Hid (Blk wr gq (boolsA (setR got on j)) 4)) (fun _ i' _ => m - (intOf i').toNat)
              case atStart => exact ⟨0, rfl, by omega, Only.refl _ _, G4⟩
              case round =>
                obtain ⟨j, rfl, hj, ow, hblk⟩ := hrel
                by_cases hlt2 : j < m
                · have hsl := setR_length got on j
                  obtain ⟨x9, hx9⟩ : ∃ x, on + j = x := ⟨_, rfl⟩
                  have hlt3 : x9 < (setR got on j).length := by have := HGL.out; omega
                  have c9 := hblk.out.cell x9 _ (boolsA_get (List.getElem?_eq_getElem hlt3))
                  have f9 := hblk.out.free x9
                  have hset : Blk (wr.setCell ⟨gq, x9, none⟩ (.bool true)) gq (boolsA (setR got on (j + 1))) 4 := by
                    have h9 := (hblk.out.set x9 (.bool true)).congr (boolsA_set _ _ _)
                    rw [← hx9] at h9 ⊢
                    exact h9
                  have lg9 := hblk.out.lt
                  have hsum9 : (on : Int) + (j : Int) = (x9 : Int) := by omega
                  have hltn : x9 < n := by have := HGL.out; omega
                  have ow2 := ow.set x9 (.bool true)
                  have HSET := Lib.hid hset
                  have OW2 := Lib.hid ow2
                  clear hset ow2 hsl hx9
                  go_wp2_with (fail)
                  exact ⟨⟨j + 1, by go_num, by omega, OW2.out, HSET⟩, by simp [intOf]; omega⟩
                · obtain rfl : j = m := by omega
                  obtain ⟨m1, m2, m3, m4⟩ := GoesI.marks OB4.out BF.out AK4.out LS4.out G4.out IP.out.ne ow
                  have hi5 : GoesI wr b gq n B s2 MA ML (setR got on j) (i + 1) mb lb := ⟨m1, OI.out, m2, m3, m4, hblk.out, IP.out.ne, IP.out.bl, by have h1 := IP.out.ci; have h2 := CN.out; omega, by have h1 := IP.out.cl; omega, by rw [E4.out]; exact IP.out.cm, by have h1 := IP.out.cx; rw [E4.out]; omega⟩
                  have I5 := Lib.hid hi5
                  have B5 := Lib.hid (below_onto BW4.out ow BW4.out.size (by intro z hz h; omega))
                  have EA := Lib.hid (And.intro (hsx.out.1.trans E4.out.symm) (show (ak || fv) = s2.ack by rw [E6.out, hsx.out.2]))
                  clear m1 m2 m3 m4 hi5 ow hblk OB4 BF AK4 LS4 G4 OI CN IP BP
                  cases ak with
                  | true =>
                    go_wp2_with (fail)
                    exact ⟨⟨i + 1, s2, MA, ML, setR got on j, mb, lb, mx, true, by go_num, rfl, rfl, B5.out, Lib.hid ⟨EA.out.1, by simpa using EA.out.2⟩, I5⟩, by simp [intOf]; omega⟩
                  | false =>
                    go_wp2_with (fail)
                    exact ⟨⟨i + 1, s2, MA, ML, setR got on j, mb, lb, mx, fv, by go_num, rfl, rfl, B5.out, Lib.hid ⟨EA.out.1, by simpa using EA.out.2⟩, I5⟩, by simp [intOf]; omega⟩
      | cons r0 l =>
        have hm : ∃ m : Nat, (m : Int) = min (r : Int) (r0.2 - r0.1) := ⟨(min (r : Int) (r0.2 - r0.1)).toNat, by have h1 := (nf_head I1.out.oi.ll).1; omega⟩
        obtain ⟨m, hm⟩ := hm
        obtain ⟨fv, hfv⟩ : ∃ v, (decide (r0.1 + m = (n : Int)) && !s.ack) = v := ⟨_, rfl⟩
        have hbn := I1.out.oi.bn
        have hbas := I1.out.oi.bas
        obtain ⟨hp, hm1, hto1, hto2, hoff0⟩ := I1.out.oi.again rfl hrb.1 hm hfv.symm
        obtain ⟨off, hoff⟩ : ∃ x, r0.1 = x := ⟨_, rfl⟩
        rw [hoff] at hm hfv hp hto1 hoff0
        obtain ⟨DD, hDD⟩ : ∃ x, ((B.drop s.base.toNat).drop (off - s.base).toNat).take m = x := ⟨_, rfl⟩
        refine (opick_again b s (B.drop s.base.toNat) DD r off m fv w1 I1.out.ob OK.out I1.out.bf.1 I1.out.bf.2.1 hrb I1.out.oi.fin I1.out.oi.sa (by omega) r0.2 (r0 :: l) I1.out.ls.1 I1.out.ls.2.1 (by simp) (by have := hlens.2; omega) (by simpa using hoff) (by simp) hm hm1 hp.o1 (by have := hp.o2; omega) ⟨hto1, hto2⟩ (by rw [← hfv, hbn]) hDD).mono ?_
        rintro e wP ⟨hbP, a', c', rfl, hoP⟩
        have IP := Lib.hid (I1.out.below hbP)
        have BP := Lib.hid (below_on BW.out hbP BW.out.size)
        have hwfB : ∀ x ∈ DD, (Lit.int .u8 x).wf = true := fun x hx => by rw [← hDD] at hx; exact HB.out.wf x (List.mem_of_mem_drop (List.mem_of_mem_drop (List.mem_of_mem_take hx)))
        have hDB : DD = (B.drop off.toNat).take m := by
          have h1 := hp.o1
          have h2 := hbas.1
          rw [← hDD, List.drop_drop, show s.base.toNat + (off - s.base).toNat = off.toNat by omega]
        have hslP := (OwnS.sl (L := DD) hoP hwfB)
        have ho1 := hp.o1
        have ho2 := hp.o2
        have ho3 := hp.o3
        have hl9 : ∃ l9 : Nat, off = l9 := ⟨off.toNat, by omega⟩
        obtain ⟨l9, hl9⟩ := hl9
        have hcut := fun W => run_cut2 (P := Try.prog) u8_et (av := a0) (n := n) (cap := c0) (kl := .u64) (kh := .u64) l9 (l9 + m) (by omega) (by have := HB.out.le; have := HN.out; omega) (li := off) (hj := off + m) hl9 (by omega) W
        have hslB := (HB.out.below BP.out).cut l9 (l9 + m) (by omega) (by have := HN.out; omega)
        obtain ⟨a2, ha2⟩ : ∃ x, (if c0 = l9 then a0 else a0.map (·.add (l9 * 1))) = x := ⟨_, rfl⟩
        obtain ⟨c2, hc2⟩ : ∃ x, c0 - l9 = x := ⟨_, rfl⟩
        rw [ha2, hc2, show l9 + m - l9 = m by omega] at hcut hslB
        rw [show l9 = off.toNat by omega, ← hDB] at hslB
        have HLD := Lib.hid hslP.1
        have HSP := Lib.hid hslP.2
        have HSB := Lib.hid hslB
        have hmn : m ≤ 3000 := by omega
        have hoffb : 0 ≤ off ∧ off ≤ 3000 := by omega
        have d1 : decide ((n : Int) < off + m) = false := decide_eq_false (by omega)
        have d2 : decide (mx < off + m) = false := decide_eq_false (by have := hsx.out.1; omega)
        obtain ⟨fe, hfe⟩ : ∃ x, (off + (m : Int) == (n : Int)) = x := ⟨_, rfl⟩
        obtain rfl : fv = fe := by
          rw [← hfe, hp.fv1]
          by_cases h9 : off + (m : Int) = n
          · simp [h9]
          · simp [h9]
        have hPK := Lib.hid hp
        have gP : gq < wP.heap.size := IP.out.gt.lt
        have hTK := otook_any b s (r0 :: l) off m fv wP.drew (Blk.below IP.out.ob (Below.refl wP.heap.size wP).drew) OK.out ⟨IP.out.ls.1, IP.out.ls.2.1.below (Below.refl wP.heap.size wP).drew, IP.out.ls.2.2⟩ (by have h9 := hlens.2; simp only [List.length_nil, List.length_cons] at h9 ⊢; omega) (by omega) (by omega)
        have HTK := Lib.hid hTK
        clear hslP hslB hDB hDD hwfB hoP hbP ha2 hc2 hl9 hp hbas hbn hm hfv hm1 hto1 hto2 hoff0 hoff I1 BW hTK
        go_wp2_with (fail)
        refine rg_start 37 ?_
        refine rg_belowB fun p hB' hx hne hC hbel => ?_
        refine rg_quiet 0 [0,1,2,3,4,5,6,7,8,9,10,11,12,13,14,15,16,17,18,19,20,21,22,23,24,25,26,27,28,29,30,31,32,33,34,35,36] hC ?_
        simp only [pickD, List.map_cons, List.map_nil, List.getD_cons_zero, List.getD_cons_succ]; repeat (go_big_quiet_step (fail))
        refine wpQuiet_str Try.underlying46 Try.underlying5 Try.underlying9 rfl rfl rfl HLD.out (fun W hc => (HSP.out.below (below_on (Below.refl wP.heap.size wP).drew (hB' W hc) (Nat.le_refl _))).ints) ?_
        simp only [Act.put, Array.set!_eq_setIfInBounds, List.setIfInBounds_toArray, List.set_cons_succ, List.set_cons_zero]
        repeat (go_big_quiet_step (fail))
        refine wpQuiet_str Try.underlying46 Try.underlying5 Try.underlying9 rfl rfl rfl HLD.out (fun W hc => (HSB.out.below (below_on (Below.refl wP.heap.size wP).drew (hB' W hc) (Nat.le_refl _))).ints) ?_
        simp only [Act.put, Array.set!_eq_setIfInBounds, List.setIfInBounds_toArray, List.set_cons_succ, List.set_cons_zero]
        repeat (go_big_quiet_step (fail))
        refine wpQuiet_nil ?_
        refine rg_end ?_
        clear hx hne hC hbel hB' hcut
        go_wp2_with (fail)
        refine HTK.out.mono ?_
        rintro e w3 ⟨on3, ⟨v, rfl⟩, la3, lc3, M, hob3, hM, hrs3, hfar3⟩
        have on3' : Only (· = b) wP w3 := Only.trans (only_of_below (Below.refl wP.heap.size wP).drew _) on3
        obtain ⟨s1, hs1⟩ : ∃ x : OSt, { s with la := la3, ln := M.length, lc := lc3, next := max s.next (off + m), sent := s.sent || fv } = x := ⟨_, rfl⟩
        rw [hs1] at hob3
        have hb3 : BufOk w3 b s1 (B.drop s.base.toNat) := IP.out.bf.only on3' (by rw [← hs1]; exact ⟨rfl, rfl, rfl⟩)
        have ha3 : AckedOk w3 b s1 LA := IP.out.ak.only on3' (by rw [← hs1]; exact ⟨rfl, rfl, rfl⟩)
        have hl3 : LostOk w3 b s1 M := by rw [← hs1]; exact ⟨rfl, hrs3, fun x hx _ => (hfar3 x hx).1⟩
        have hg3 := on3'.blk IP.out.gt IP.out.ne
        have bw3 := below_onto BP.out on3' BP.out.size (by intro z hz h; omega)
        have hok1 : OOk s1 := by
          obtain ⟨q1, q2, q3, q4⟩ := OK.out
          rw [← hs1]
          exact ⟨q1, by simp only; omega, q3, q4⟩
        have hMl : M.length ≤ 3001 := nf_len (n := 3000) hM (fun x hx => by
          simp only [Bool.and_eq_true] at hx
          have h9 := (IP.out.oi.ll.mem x).1 ((inB_iff _ _).1 hx.1)
          have h8 := IP.out.oi.bas
          have h7 := IP.out.oi.nb
          omega)
        have hcond : fv = true → s1.sent = true ∧ off + m = s1.base + s1.bn := fun hfv9 => by
          rw [← hs1]
          have h9 := hPK.out.fv1
          have h8 := IP.out.oi.bn
          rw [hfv9] at h9
          have h7 := of_decide_eq_true h9.symm
          exact ⟨by simp [hfv9], by simp only; omega⟩
        have hnext : off + m ≤ s1.next := by rw [← hs1]; simp only; omega
        have hMS := omiss_any b s1 LA M off m fv w3 hob3 hok1 ha3 hl3 (by omega) (by omega) hoffb.1 (by omega) hnext hcond
        have hAC := oack_any b s1 (B.drop s.base.toNat) LA M off m fv w3 hob3 hok1 hb3 ha3 hl3 (by omega) (by omega) hoffb.1 (by omega) hnext hcond (fun all hall => by rw [← hs1]; exact IP.out.oi.gap hPK.out hall)
        have MS := Lib.hid hMS
        have AC := Lib.hid hAC
        have B3 := Lib.hid bw3
        have HA3 := Lib.hid ha3
        have HB3 := Lib.hid hb3
        have HG3 := Lib.hid hg3
        have HM := Lib.hid hM
        have S1 := Lib.hid hs1
        have L3 := Lib.hid (HL.out.below bw3)
        clear on3 on3' hob3 hrs3 hfar3 hb3 ha3 hl3 hg3 bw3 hok1 hMl hcond hnext hMS hAC hM hs1 HTK HSP HSB HLD
        by_cases hlost : i < ln ∧ Lb[i]? = some true
        · obtain ⟨hil, hlv⟩ := hlost
          obtain ⟨lg, lo, hl0, hlg, hlc⟩ := L3.out i (by have := HLN.out; omega)
          have hlv2 : Lb[i]'(by have := HLN.out; omega) = true := by
            obtain ⟨h8, h9⟩ := List.getElem?_eq_some_iff.1 hlv
            exact h9
          rw [hlv2] at hlc
          subst hl0
          clear hlv hlv2
          go_wp2_with (fail)
          refine MS.out.mono ?_
          rintro e w4 ⟨on4, rfl, s2, MO, ML, hob4, hs2, hls4, hMO, hML⟩
          have e1 : s2.base = s.base := by rw [hs2, ← S1.out]
          have e2 : s2.bn = s.bn := by rw [hs2, ← S1.out]
          have e3 : s2.next = max s.next (off + m) := by rw [hs2, ← S1.out]
          have e4 : s2.mx = s.mx := by rw [hs2, ← S1.out]
          have e5 : s2.fin = s.fin := by rw [hs2, ← S1.out]
          have e6 : s2.ack = s.ack := by rw [hs2, ← S1.out]
          have e7 : s2.sent = ((s.sent || fv) && !(fv && !s.ack)) := by rw [hs2, ← S1.out]
          have e8 : s1.base = s.base := by rw [← S1.out]
          rw [e8] at hMO
          have hoi := IP.out.oi.missed hPK.out HM.out hMO hML e1 e2 e3 e4 e5 e6 e7
          have hi4 : GoesI w4 b gq n B s2 LA ML got (i + 1) mb (lb + 1) := ⟨hob4, hoi, by rw [e1]; exact HB3.out.only on4 (by rw [hs2]; exact ⟨rfl, rfl, rfl⟩), HA3.out.only on4 (by rw [hs2]; exact ⟨rfl, rfl, rfl⟩), hls4, on4.blk HG3.out IP.out.ne, IP.out.ne, IP.out.bl, by have h1 := IP.out.ci; rw [e6]; omega, by have h1 := IP.out.cl; omega, by rw [e4]; exact IP.out.cm, by have h1 := IP.out.cx; rw [e4]; omega⟩
          have I4 := Lib.hid hi4
          have B4 := Lib.hid (below_onto B3.out on4 B3.out.size (by intro z hz h; omega))
          have E := Lib.hid (And.intro (hsx.out.1.trans e4.symm) (hsx.out.2.trans e6.symm))
          clear on4 hob4 hs2 hls4 hMO hML e1 e2 e3 e4 e5 e6 e7 e8 hoi hi4 MS AC IP BP
          go_wp2_with (fail)
          exact ⟨⟨i + 1, s2, LA, ML, got, mb, lb + 1, mx, ak, by go_num, rfl, rfl, B4.out, E, I4⟩, by simp [intOf]; omega⟩
        · have hread : ∀ hil : i < ln, ∃ lg lo, l0 = some ⟨lg, lo, none⟩ ∧ w3.cell? ⟨lg, lo + i, none⟩ = some (.bool false) := fun hil => by
            obtain ⟨lg, lo, hl0, hlg, hlc⟩ := L3.out i (by have := HLN.out; omega)
            refine ⟨lg, lo, hl0, ?_⟩
            rw [hlc]
            have h7 : i < Lb.length := by have := HLN.out; omega
            cases hv : Lb[i]'h7 with
            | false => rfl
            | true => exact absurd ⟨hil, by simp [h7, hv]⟩ hlost
          have HR := Lib.hid hread
          clear hread hlost
          by_cases hil : i < ln
          · obtain ⟨lg, lo, hl0, hlc⟩ := HR.out hil
            subst hl0
            go_wp2_with (fail)
            refine AC.out.mono ?_
            rintro e w4 ⟨on4, rfl, s2, all, MA, ML, hall, hob4, hs2, hbf4, hak4, hls4, hMA, hML⟩
            have e0 : s1.base = s.base := by rw [← S1.out]
            rw [e0] at hs2 hbf4 hMA hML
            have e1 : s2.base = gapP all s.base := by rw [hs2]
            have e2 : s2.bn = s.bn - (gapP all s.base - s.base).toNat := by rw [hs2, ← S1.out]
            have e3 : s2.next = max s.next (off + m) := by rw [hs2, ← S1.out]
            have e4 : s2.mx = s.mx := by rw [hs2, ← S1.out]
            have e5 : s2.fin = s.fin := by rw [hs2, ← S1.out]
            have e6 : s2.ack = (s.ack || fv) := by rw [hs2, ← S1.out]
            have e7 : s2.sent = (s.sent || fv) := by rw [hs2, ← S1.out]
            obtain ⟨hoi, hcnt⟩ := IP.out.oi.acked hPK.out HM.out hall hMA hML e1 e2 e3 e4 e5 e6 e7
            have hgap := IP.out.oi.gap hPK.out hall
            have hbf5 : BufOk w4 b s2 (B.drop s2.base.toNat) := by
              rw [e1]
              have h1 := IP.out.oi.bas
              rw [List.drop_drop, show s.base.toNat + (gapP all s.base - s.base).toNat = (gapP all s.base).toNat by omega] at hbf4
              exact hbf4
            have hg4 := on4.blk HG3.out IP.out.ne
            have hbw4 := below_onto B3.out on4 B3.out.size (by intro z hz h; omega)
            have OI := Lib.hid hoi
            have CN := Lib.hid hcnt
            have BF := Lib.hid hbf5
            have OB4 := Lib.hid hob4
            have AK4 := Lib.hid hak4
            have LS4 := Lib.hid hls4
            have G4 := Lib.hid hg4
            have BW4 := Lib.hid hbw4
            have E4 := Lib.hid e4
            have E6 := Lib.hid e6
            have hon : (off.toNat : Int) = off := by omega
            have hgl := IP.out.oi.gl
            obtain ⟨on, hon2⟩ : ∃ x, off.toNat = x := ⟨_, rfl⟩
            rw [hon2] at OI CN hon
            have HON := Lib.hid hon
            have HGL := Lib.hid hgl
            subst hon
            clear on4 hall hob4 hs2 hbf4 hak4 hls4 hMA hML e0 e1 e2 e3 e4 e5 e6 e7 hoi hcnt hgap hbf5 hg4 hbw4 hgl MS AC hon2
            go_wp2_with (fail)
            go_loopw [21, 152] (fun _ i' wr => ∃ j : Nat, i' = .int .i64 j ∧ j ≤ m ∧ Only (· = gq) w4 wr ∧ Hid (Blk wr gq (boolsA (setR got on j)) 4)) (fun _ i' _ => m - (intOf i').toNat)
            case atStart => exact ⟨0, rfl, by omega, Only.refl _ _, G4⟩
            case round =>
              obtain ⟨j, rfl, hj, ow, hblk⟩ := hrel
              by_cases hlt2 : j < m
              · have hsl := setR_length got on j
                obtain ⟨x9, hx9⟩ : ∃ x, on + j = x := ⟨_, rfl⟩
                have hlt3 : x9 < (setR got on j).length := by have := HGL.out; omega
                have c9 := hblk.out.cell x9 _ (boolsA_get (List.getElem?_eq_getElem hlt3))
                have f9 := hblk.out.free x9
                have hset : Blk (wr.setCell ⟨gq, x9, none⟩ (.bool true)) gq (boolsA (setR got on (j + 1))) 4 := by
                  have h9 := (hblk.out.set x9 (.bool true)).congr (boolsA_set _ _ _)
                  rw [← hx9] at h9 ⊢
                  exact h9
                have lg9 := hblk.out.lt
                have hsum9 : (on : Int) + (j : Int) = (x9 : Int) := by omega
                have hltn : x9 < n := by have := HGL.out; omega
                have ow2 := ow.set x9 (.bool true)
                have HSET := Lib.hid hset
                have OW2 := Lib.hid ow2
                clear hset ow2 hsl hx9
                go_wp2_with (fail)
                exact ⟨⟨j + 1, by go_num, by omega, OW2.out, HSET⟩, by simp [intOf]; omega⟩
              · obtain rfl : j = m := by omega
                obtain ⟨m1, m2, m3, m4⟩ := GoesI.marks OB4.out BF.out AK4.out LS4.out G4.out IP.out.ne ow
                have hi5 : GoesI wr b gq n B s2 MA ML (setR got on j) (i + 1) mb lb := ⟨m1, OI.out, m2, m3, m4, hblk.out, IP.out.ne, IP.out.bl, by have h1 := IP.out.ci; have h2 := CN.out; omega, by have h1 := IP.out.cl; omega, by rw [E4.out]; exact IP.out.cm, by have h1 := IP.out.cx; rw [E4.out]; omega⟩
                have I5 := Lib.hid hi5
                have B5 := Lib.hid (below_onto BW4.out ow BW4.out.size (by intro z hz h; omega))
                have EA := Lib.hid (And.intro (hsx.out.1.trans E4.out.symm) (show (ak || fv) = s2.ack by rw [E6.out, hsx.out.2]))
                clear m1 m2 m3 m4 hi5 ow hblk OB4 BF AK4 LS4 G4 OI CN IP BP
                cases ak with
                | true =>
                  go_wp2_with (fail)
                  exact ⟨⟨i + 1, s2, MA, ML, setR got on j, mb, lb, mx, true, by go_num, rfl, rfl, B5.out, Lib.hid ⟨EA.out.1, by simpa using EA.out.2⟩, I5⟩, by simp [intOf]; omega⟩
                | false =>
                  go_wp2_with (fail)
                  exact ⟨⟨i + 1, s2, MA, ML, setR got on j, mb, lb, mx, fv, by go_num, rfl, rfl, B5.out, Lib.hid ⟨EA.out.1, by simpa using EA.out.2⟩, I5⟩, by simp [intOf]; omega⟩
          · skip
            go_wp2_with (fail)
            refine AC.out.mono ?_
            rintro e w4 ⟨on4, rfl, s2, all, MA, ML, hall, hob4, hs2, hbf4, hak4, hls4, hMA, hML⟩
            have e0 : s1.base = s.base := by rw [← S1.out]
            rw [e0] at hs2 hbf4 hMA hML
            have e1 : s2.base = gapP all s.base := by rw [hs2]
            have e2 : s2.bn = s.bn - (gapP all s.base - s.base).toNat := by rw [hs2, ← S1.out]
            have e3 : s2.next = max s.next (off + m) := by rw [hs2, ← S1.out]
            have e4 : s2.mx = s.mx := by rw [hs2, ← S1.out]
            have e5 : s2.fin = s.fin := by rw [hs2, ← S1.out]
            have e6 : s2.ack = (s.ack || fv) := by rw [hs2, ← S1.out]
            have e7 : s2.sent = (s.sent || fv) := by rw [hs2, ← S1.out]
            obtain ⟨hoi, hcnt⟩ := IP.out.oi.acked hPK.out HM.out hall hMA hML e1 e2 e3 e4 e5 e6 e7
            have hgap := IP.out.oi.gap hPK.out hall
            have hbf5 : BufOk w4 b s2 (B.drop s2.base.toNat) := by
              rw [e1]
              have h1 := IP.out.oi.bas
              rw [List.drop_drop, show s.base.toNat + (gapP all s.base - s.base).toNat = (gapP all s.base).toNat by omega] at hbf4
              exact hbf4
            have hg4 := on4.blk HG3.out IP.out.ne
            have hbw4 := below_onto B3.out on4 B3.out.size (by intro z hz h; omega)
            have OI := Lib.hid hoi
            have CN := Lib.hid hcnt
            have BF := Lib.hid hbf5
            have OB4 := Lib.hid hob4
            have AK4 := Lib.hid hak4
            have LS4 := Lib.hid hls4
            have G4 := Lib.hid hg4
            have BW4 := Lib.hid hbw4
            have E4 := Lib.hid e4
            have E6 := Lib.hid e6
            have hon : (off.toNat : Int) = off := by omega
            have hgl := IP.out.oi.gl
            obtain ⟨on, hon2⟩ : ∃ x, off.toNat = x := ⟨_, rfl⟩
            rw [hon2] at OI CN hon
            have HON := Lib.hid hon
            have HGL := Lib.hid hgl
            subst hon
            clear on4 hall hob4 hs2 hbf4 hak4 hls4 hMA hML e0 e1 e2 e3 e4 e5 e6 e7 hoi hcnt hgap hbf5 hg4 hbw4 hgl MS AC hon2
            go_wp2_with (fail)
            go_loopw [21, 152] (fun _ i' wr => ∃ j : Nat, i' = .int .i64 j ∧ j ≤ m ∧ Only (· = gq) w4 wr ∧ Hid (Blk wr gq (boolsA (setR got on j)) 4)) (fun _ i' _ => m - (intOf i').toNat)
            case atStart => exact ⟨0, rfl, by omega, Only.refl _ _, G4⟩
            case round =>
              obtain ⟨j, rfl, hj, ow, hblk⟩ := hrel
              by_cases hlt2 : j < m
              · have hsl := setR_length got on j
                obtain ⟨x9, hx9⟩ : ∃ x, on + j = x := ⟨_, rfl⟩
                have hlt3 : x9 < (setR got on j).length := by have := HGL.out; omega
                have c9 := hblk.out.cell x9 _ (boolsA_get (List.getElem?_eq_getElem hlt3))
                have f9 := hblk.out.free x9
                have hset : Blk (wr.setCell ⟨gq, x9, none⟩ (.bool true)) gq (boolsA (setR got on (j + 1))) 4 := by
                  have h9 := (hblk.out.set x9 (.bool true)).congr (boolsA_set _ _ _)
                  rw [← hx9] at h9 ⊢
                  exact h9
                have lg9 := hblk.out.lt
                have hsum9 : (on : Int) + (j : Int) = (x9 : Int) := by omega
                have hltn : x9 < n := by have := HGL.out; omega
                have ow2 := ow.set x9 (.bool true)
                have HSET := Lib.hid hset
                have OW2 := Lib.hid ow2
                clear hset ow2 hsl hx9
                go_wp2_with (fail)
                exact ⟨⟨j + 1, by go_num, by omega, OW2.out, HSET⟩, by simp [intOf]; omega⟩
              · obtain rfl : j = m := by omega
                obtain ⟨m1, m2, m3, m4⟩ := GoesI.marks OB4.out BF.out AK4.out LS4.out G4.out IP.out.ne ow
                have hi5 : GoesI wr b gq n B s2 MA ML (setR got on j) (i + 1) mb lb := ⟨m1, OI.out, m2, m3, m4, hblk.out, IP.out.ne, IP.out.bl, by have h1 := IP.out.ci; have h2 := CN.out; omega, by have h1 := IP.out.cl; omega, by rw [E4.out]; exact IP.out.cm, by have h1 := IP.out.cx; rw [E4.out]; omega⟩
                have I5 := Lib.hid hi5
                have B5 := Lib.hid (below_onto BW4.out ow BW4.out.size (by intro z hz h; omega))
                have EA := Lib.hid (And.intro (hsx.out.1.trans E4.out.symm) (show (ak || fv) = s2.ack by rw [E6.out, hsx.out.2]))
                clear m1 m2 m3 m4 hi5 ow hblk OB4 BF AK4 LS4 G4 OI CN IP BP
                cases ak with
                | true =>
                  go_wp2_with (fail)
                  exact ⟨⟨i + 1, s2, MA, ML, setR got on j, mb, lb, mx, true, by go_num, rfl, rfl, B5.out, Lib.hid ⟨EA.out.1, by simpa using EA.out.2⟩, I5⟩, by simp [intOf]; omega⟩
                | false =>
                  go_wp2_with (fail)
                  exact ⟨⟨i + 1, s2, MA, ML, setR got on j, mb, lb, mx, fv, by go_num, rfl, rfl, B5.out, Lib.hid ⟨EA.out.1, by simpa using EA.out.2⟩, I5⟩, by simp [intOf]; omega⟩

section
variable {H : Type} {enc : TypeId × Value → H} {w : World}
theorem open_bools {fuel : Nat} {v : Value} {z : DataW H × List MemPlace} (h : DataW.trod enc Try.prog w 0 (fun _ => true) true fuel 90 [v] = some z) (hz : Sized Try.prog 90 z.1) : ∃ a Lb cap, v = .slice a Lb.length cap ∧ Lb.length ≤ 140737488355328 ∧ BoolsAt w a Lb := by
  obtain ⟨a, Lb, cap, hcs, h1, h2, h3, h4, h5⟩ := open_slof (α := Bool) (fun x cs => cs = [.bool x]) Try.underlying90 (show (Try.prog).cellsOf 4 = 1 by kernel_rfl) (by omega) (fun n cs y hl ht' _ => by
    obtain ⟨x, e0, _⟩ := DataW.trod_bool Try.underlying4 ht'
    exact ⟨x, e0⟩) h hz
  cases hcs
  refine ⟨a, Lb, cap, rfl, ?_, fun i hi => ?_⟩
  · have h6 : 1 ≤ (Try.prog).bytesOf 4 := of_decide_eq_true (by kernel_rfl)
    have h7 : cap * 1 ≤ cap * (Try.prog).bytesOf 4 := Nat.mul_le_mul_left cap h6
    unfold reachBytes at h3
    omega
  · obtain ⟨b, off, cs, ha, hb, _, hcell, rfl⟩ := h5 i hi
    exact ⟨b, off, ha, hb, by simpa using hcell 0 _ rfl⟩
end
set_option maxRecDepth 100000 in
theorem walk_OutGoes (H : Type) (enc : TypeId × Value → H) (w : World) (base : Nat) (v0 : Value) (d0 : DataW H) (p0 : List MemPlace) (v1 : Value) (d1 : DataW H) (p1 : List MemPlace) (v2 : Value) (d2 : DataW H) (p2 : List MemPlace) (v3 : Value) (d3 : DataW H) (p3 : List MemPlace) (v4 : Value) (d4 : DataW H) (p4 : List MemPlace)
    (o0 : Value.okWide Try.prog w .any base 46 v0) (h0 : DataW.Trod enc Try.prog w 0 (fun _ => true) true 46 v0 d0 p0)
    (o1 : Value.okWide Try.prog w .any base 5 v1) (h1 : DataW.Trod enc Try.prog w 0 (fun _ => true) true 5 v1 d1 p1)
    (o2 : Value.okWide Try.prog w .any base 90 v2) (h2 : DataW.Trod enc Try.prog w 0 (fun _ => true) true 90 v2 d2 p2)
    (o3 : Value.okWide Try.prog w .any base 91 v3) (h3 : DataW.Trod enc Try.prog w 0 (fun _ => true) true 91 v3 d3 p3)
    (o4 : Value.okWide Try.prog w .any base 91 v4) (h4 : DataW.Trod enc Try.prog w 0 (fun _ => true) true 91 v4 d4 p4)
    (z0 : Sized Try.prog 46 d0) (z1 : Sized Try.prog 5 d1) (z2 : Sized Try.prog 90 d2) (z3 : Sized Try.prog 91 d3) (z4 : Sized Try.prog 91 d4) :
    Calls Try.prog 13 #[v0, v1, v2, v3, v4] w fun e w' => e = .returned (.bool true) ∧ Below w.heap.size w w' := by
  obtain ⟨a0, B, c0, rfl, hB⟩ := open_sl Try.underlying46 Try.underlying5 (by kernel_rfl) o0 h0
  obtain ⟨fuel, hf⟩ := h0
  obtain ⟨a', L', cap', e', p', q', r', u', v'⟩ := open_ints_z Try.underlying46 Try.underlying5 (by kernel_rfl) hf z0
  have hl : B.length = L'.length := by simp only [Value.slice.injEq] at e'; exact e'.2.1
  have b5 : 1 ≤ (Try.prog).bytesOf 5 := of_decide_eq_true (by kernel_rfl)
  have b6 : cap' * 1 ≤ cap' * (Try.prog).bytesOf 5 := Nat.mul_le_mul_left cap' b5
  obtain ⟨x1, rfl, rfl, rfl, wx1⟩ := ChangeShapes.open_int Try.underlying5 o1 h1
  have hx1 := bounds_u8 wx1
  obtain ⟨rm, rfl⟩ : ∃ rm : Nat, x1 = rm := ⟨x1.toNat, by omega⟩
  obtain ⟨a2, len2, c2, rfl⟩ := WideShapes.okWide_slice Try.underlying90 o2
  obtain ⟨fuel2, hf2⟩ := h2
  have hf2' : DataW.trod enc Try.prog w 0 (fun _ => true) true fuel2 90 [.slice a2 len2 c2] = some (d2, p2) := by simpa [Value.cells] using hf2
  obtain ⟨a3, Lb, c3, e3, hb3, hL3⟩ := open_bools hf2' z2
  simp only [Value.slice.injEq] at e3
  obtain ⟨rfl, rfl, rfl⟩ := e3
  obtain ⟨x3, rfl, rfl, rfl, wx3⟩ := ChangeShapes.open_int Try.underlying91 o3 h3
  obtain ⟨x4, rfl, rfl, rfl, wx4⟩ := ChangeShapes.open_int Try.underlying91 o4 h4
  have hx3 := bounds_u16 wx3
  have hx4 := bounds_u16 wx4
  exact goes_law a0 a2 c0 c2 rm B Lb x3 x4 w hB hL3 (by omega) hx3 hx4 (by unfold reachBytes at r'; omega) hb3
end Go.Proofs.Ytidfimpchbkppaa
