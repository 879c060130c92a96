/- The law TraceKnown. -/
import Derived.Test.YtfaopoaephlenaaGreatDoorTk6
import Derived.Test.YtfaopoaephlenaaGreatDoorTr4
namespace Go.Proofs.YtfaopoaephlenaaGreatDoor
open Go.RowKit
set_option linter.unusedVariables false
theorem print_long (a : Option Addr) (n cap : Nat) (w : World) (h : 10000 < n) (hn : n ≤ 9223372036854775807) :
    Calls Tryz.prog 5 #[.slice a n cap] w fun x w' => x = .returned (.tuple #[.string (tx []), .int .i64 3]) ∧ Below w.heap.size w w' := by
  have d : (n : Int) > 10000 := by omega
  go_enter Tryz.func5, Tryz.ntmps5
  go_wp2_with (fail)
  go_returns
  exact ⟨rfl, Below.refl _ _⟩
theorem parse_long (l : List UInt8) (w : World) (h : 10000 < l.count 10) (hl : l.count 10 ≤ 9223372036854775807) :
    Calls Tryz.prog 4 #[.string (tx l)] w fun x w' => x = .returned (.tuple #[.slice none 0 0, .int .i64 0, .int .i64 3]) ∧ Below w.heap.size w w' := by
  obtain ⟨c, hc⟩ : ∃ c, l.count 10 = c := ⟨_, rfl⟩
  rw [hc] at h hl
  have d : (c : Int) > 10000 := by omega
  have HC := Lib.hid hc
  clear hc
  go_enter Tryz.func4, Tryz.ntmps4
  go_wp2_with (fail)
  refine (count_any l 10 w).mono ?_
  rintro e w1 ⟨rfl, rfl⟩
  rw [HC.out]
  go_wp2_with (fail)
  go_returns
  exact ⟨rfl, Below.refl _ _⟩
def six : List (List UInt8) := [[48, 53, 32, 114, 101, 97, 100, 32, 52, 32, 49, 48, 48, 10], [53, 32, 104, 111, 112, 32, 49, 32, 50, 10], [53, 32, 114, 101, 97, 100, 32, 52, 32, 49, 48, 48], [53, 32, 114, 101, 97, 100, 32, 52, 10], [53, 32, 45, 32, 49, 32, 50, 10], [10]]
theorem six_parse (k : Nat) (h : k < 6) : parseT (six.getD k []) = ([], 1) ∧ (six.getD k []).length ≤ 20 := by
  have h0 : parseT (six.getD 0 []) = ([], 1) := by rfl
  have h1 : parseT (six.getD 1 []) = ([], 1) := by rfl
  have h2 : parseT (six.getD 2 []) = ([], 1) := by rfl
  have h3 : parseT (six.getD 3 []) = ([], 1) := by rfl
  have h4 : parseT (six.getD 4 []) = ([], 1) := by rfl
  have h5 : parseT (six.getD 5 []) = ([], 1) := by rfl
  have hl : ∀ k, k < 6 → (six.getD k []).length ≤ 20 := by decide
  refine ⟨?_, hl k h⟩
  match k, h with
  | 0, _ => exact h0
  | 1, _ => exact h1
  | 2, _ => exact h2
  | 3, _ => exact h3
  | 4, _ => exact h4
  | 5, _ => exact h5
theorem arr_eql (w : World) (L : List Nat) (hl : L.length = 11) : (Op.equalIn 9999 34 (.agg (mA L)) (.agg (mA L))).run Tryz.prog w = .ok true w := by
  obtain ⟨ti, hti⟩ : ∃ ti, Tryz.prog.info? 3 = some ti := Option.isSome_iff_exists.1 (by kernel_rfl)
  rw [show (9999 : Nat) = 9998 + 1 from rfl, run_equalIn_array w 9998 _ _ Tryz.underlying34 hti, arr_cells, show 9998 = 9997 + 1 from rfl, run_items_i64 9997 arr_plain Tryz.underlying3 L w _ (by intro i hi; simp at hi; omega)]
theorem tot_eql (w : World) : (binOp .eql 36 (.agg (tsA ts0)) (.agg (tsA ts0))).run Tryz.prog w = .ok (.bool true) w := by
  have u3 := Tryz.underlying29
  have a3 := Tryz.isAgg29
  have z3 := Tryz.sizeOf29
  have hS : Tryz.prog.underlying 36 = some (.struct (Tryz.prog.fieldsOf 36)) := by kernel_rfl
  have hp : Tryz.prog.stoodInHeld 36 = false := by kernel_rfl
  have hA := fun W => arr_eql W [0, 0, 0, 0, 0, 0, 0, 0, 0, 0, 0] rfl
  have e1 : (tsA ts0).extract 0 11 = mA [0, 0, 0, 0, 0, 0, 0, 0, 0, 0, 0] := rfl
  have e2 : (tsA ts0)[11]? = some (.int .u64 0) := rfl
  have e3 : (tsA ts0)[12]? = some (.int .u64 0) := rfl
  have e4 : (tsA ts0)[13]? = some (.int .u64 0) := rfl
  rw [run_eql_struct, show (10000 : Nat) = 9999 + 1 from rfl, run_equalIn_agg w 9999 36 _ _ hS hp]
  simp only [Program.fieldsOf, Tryz.underlying36]
  go_simp
theorem tot_guard (A B : Array Value) (x y : Operand) (w : World) : (eqGuard .eql 36 x y (.agg A) (.agg B)).run Tryz.prog w = .ok () w := run_eqGuard_agg w .eql _ x y A B (by kernel_rfl)
theorem tot_eql' (w : World) : (binOp .eql 36 (.agg #[.int .i64 0, .int .i64 0, .int .i64 0, .int .i64 0, .int .i64 0, .int .i64 0, .int .i64 0, .int .i64 0, .int .i64 0, .int .i64 0, .int .i64 0, .int .u64 0, .int .u64 0, .int .u64 0]) (.agg #[.int .i64 0, .int .i64 0, .int .i64 0, .int .i64 0, .int .i64 0, .int .i64 0, .int .i64 0, .int .i64 0, .int .i64 0, .int .i64 0, .int .i64 0, .int .u64 0, .int .u64 0, .int .u64 0])).run Tryz.prog w = .ok (.bool true) w := tot_eql w
attribute [go_sem ↓] tot_eql' tot_guard
theorem Es.one (w : World) (e : Ev) (h : EvOk e) : Es (w.alloc (.cells #[.int .u64 e.at_, .int .u64 e.a, .int .u64 e.b, .int .u8 e.kind] 31)) (some ⟨w.heap.size, 0, none⟩) 1 [e] := by
  refine ⟨fun i hi => ?_, fun ha => (by cases ha), Nat.le_refl _, by simp [maxLen], fun p hp => by rw [List.mem_singleton.1 hp]; exact h⟩
  obtain rfl : i = 0 := by simpa using hi
  refine ⟨w.heap.size, 0, rfl, by simp, fun j v hv => ?_⟩
  rw [World.cell?_alloc_new]
  simpa [encE] using hv
/-- What a round keeps. -/
structure TkI (w0 w : World) : Prop where
  below : Below w0.heap.size w0 w
  strs : Blk w w0.heap.size (strCs six) 9
set_option maxRecDepth 100000 in
set_option maxHeartbeats 8000000 in
theorem known_law (w : World) (hG : ∀ g c, (g, c) ∈ tabs → w.rangeAt g 0 c ∧ g < w.heap.size) (hp : Pow10 w) (hm : MaxLenAt w) (he : ErrAt w)
    (hg1 : 3 < w.heap.size) (hg2 : 0 < w.heap.size) (hg3 : 1 < w.heap.size ∧ 2 < w.heap.size) :
    Calls Tryz.prog 3 #[] w fun x w' => x = .returned (.bool true) ∧ Below w.heap.size w w' := by
  have HWK : Hid (∀ W, Below w.heap.size w W → Calls Tryz.prog 7 #[] W fun e W' => e = .returned (.bool true) ∧ Below W.heap.size W W') := Lib.hid (fun W hb => tworks_any W (fun g c hg => by
    obtain ⟨h1, h2⟩ := hG g c hg
    refine ⟨fun j v hv => ?_, Nat.lt_of_lt_of_le h2 hb.size⟩
    exact (hb.cell (p := ⟨g, 0 + j, none⟩) h2).trans (h1 j v hv)))
  have HP := Lib.hid hp
  have HM := Lib.hid hm
  have HER := Lib.hid he
  have HG1 := Lib.hid hg1
  have HG2 := Lib.hid hg2
  have HG3 := Lib.hid hg3
  have HST := Lib.hid (show TkI w (w.alloc (.cells (strCs six) 9)) from ⟨(Below.refl _ _).alloc (Nat.le_refl _) _, Blk.new w _ _⟩)
  clear hG hp hm he hg1 hg2 hg3
  go_enter Tryz.func3, Tryz.ntmps3
  go_wp2_with (fail)
  have hlit : #[Value.string ⟨#[48, 53, 32, 114, 101, 97, 100, 32, 52, 32, 49, 48, 48, 10]⟩, .string ⟨#[53, 32, 104, 111, 112, 32, 49, 32, 50, 10]⟩, .string ⟨#[53, 32, 114, 101, 97, 100, 32, 52, 32, 49, 48, 48]⟩, .string ⟨#[53, 32, 114, 101, 97, 100, 32, 52, 10]⟩, .string ⟨#[53, 32, 45, 32, 49, 32, 50, 10]⟩, .string ⟨#[10]⟩] = strCs six := rfl
  rw [hlit]
  obtain ⟨w1, hw1⟩ : ∃ w1, w.alloc (.cells (strCs six) 9) = w1 := ⟨_, rfl⟩
  rw [hw1] at HST ⊢
  clear hlit hw1
  go_loopw [2, 3, 4, 5, 15] (fun _ _ _ _ i wr => ∃ k : Nat, i = .int .i64 k ∧ k ≤ 6 ∧ Hid (TkI w wr)) (fun _ _ _ _ i _ => 6 - (intOf i).toNat)
  case atStart => exact ⟨0, rfl, by omega, HST⟩
  case round =>
    obtain ⟨k, rfl, hk, hok⟩ := hrel
    by_cases hlt : k < 6
    · have hki : (k : Int) < 6 := by omega
      obtain ⟨hsp, hsl⟩ := six_parse k hlt
      have hc := hok.out.strs.cell k _ (strCs_get six k hlt)
      obtain ⟨s, hs⟩ : ∃ s, six.getD k [] = s := ⟨_, rfl⟩
      rw [hs] at hsp hsl hc
      have HSP := Lib.hid hsp
      clear hsp hs
      go_wp2_with (fail)
      refine (parse_any s wr (by omega) (HP.out.below HG1.out hok.out.below) (HM.out.below HG2.out hok.out.below) (HER.out.below HG3.out hok.out.below) (Nat.lt_of_lt_of_le HG1.out hok.out.below.size) (Nat.lt_of_lt_of_le HG2.out hok.out.below.size) ⟨Nat.lt_of_lt_of_le HG3.out.1 hok.out.below.size, Nat.lt_of_lt_of_le HG3.out.2 hok.out.below.size⟩).mono ?_
      rintro e w6 ⟨pa, pn, pc, rfl, hpn, hpe, hb6⟩
      rw [HSP.out] at hpn ⊢
      have hpn0 : pn = 0 := hpn
      subst hpn0
      rw [show (([], 1) : List Ev × Nat).snd = 1 from rfl, show errOf 1 = 2 from rfl]
      have FIN := Lib.hid (show TkI w w6 from ⟨below_on hok.out.below hb6 hok.out.below.size, hok.out.strs.below hb6⟩)
      clear hb6 hpn hpe hc hsl
      go_wp2_with (fail)
      exact ⟨⟨k + 1, by go_num, by omega, FIN⟩, by simp [intOf]; omega⟩
    · obtain rfl : k = 6 := by omega
      have b1 := hok.out.below.alloc hok.out.below.size (.cells #[.int .u64 0, .int .u64 0, .int .u64 0, .int .u8 11] 31)
      have B1 := Lib.hid b1
      clear b1
      go_wp2_with (fail)
      refine (print_any _ 1 1 [⟨0, 0, 0, 11⟩] _ rfl (Es.one wr ⟨0, 0, 0, 11⟩ (by unfold EvOk; simp)) (by simp) (HP.out.below HG1.out B1.out) (HM.out.below HG2.out B1.out) (Nat.lt_of_lt_of_le HG1.out B1.out.size)).mono ?_
      rintro e w2 ⟨rfl, hb2⟩
      have B2 := Lib.hid (below_on B1.out hb2 B1.out.size)
      clear hb2
      rw [show printV [⟨0, 0, 0, 11⟩] = .tuple #[.string (tx []), .int .i64 2] from rfl]
      have bw2 := B2.out.size
      go_wp2_with (at_make; refine Stop.mk ?_)
      refine Stop.out ?_
      obtain ⟨i, z, q1, q2, q3, q4, q5, q6, q7⟩ := ev_et
      refine wpList_make_full _ rfl _ _ 23 rfl w.heap.size 31 i z 4 q1 q2 q3 q4 .i64 .i64 _ _ 10001 rfl rfl rfl rfl (by rw [q5]; decide) (by unfold maxLen; decide) bw2 ?_
      intro w3 hr hg
      have hb3 : Below w2.heap.size w2 w3 := ⟨hg.os, hg.tape, hg.output, hg.size, fun k hk => hg.block k hk (by simp)⟩
      have B3 := Lib.hid (below_on B2.out hb3 B2.out.size)
      clear hr hg q1 q2 q3 q4 q5 q6 q7 hb3 bw2
      obtain ⟨N, hN⟩ : ∃ N : Nat, 10001 = N := ⟨_, rfl⟩
      rw [hN]
      have hN1 : 10000 < N := by omega
      have hN2 : N ≤ 9223372036854775807 := by omega
      clear hN
      go_wp2_with (fail)
      refine (print_long _ N N w3 hN1 hN2).mono ?_
      rintro e w4 ⟨rfl, hb4⟩
      have B4 := Lib.hid (below_on B3.out hb4 B3.out.size)
      clear hb4
      go_wp2_with (fail)
      refine (repeat_any [10] 10001 w4 (by omega) (by simp)).mono ?_
      rintro e w5 ⟨rfl, hb5⟩
      have B5 := Lib.hid (below_on B4.out hb5 B4.out.size)
      have hcnt : (Lib.repeatL [10] 10001).count 10 = 10001 := by
        have h := Lib.repeatL_replicate 10 1 10001
        rw [show List.replicate 1 (10 : UInt8) = [10] from rfl] at h
        rw [h, List.count_replicate_self]
      obtain ⟨l, hl⟩ : ∃ l, Lib.repeatL [10] 10001 = l := ⟨_, rfl⟩
      rw [hl] at hcnt ⊢
      have HCN := Lib.hid hcnt
      clear hb5 hl hcnt
      go_wp2_with (fail)
      refine (parse_long l w5 (by rw [HCN.out]; omega) (by rw [HCN.out]; omega)).mono ?_
      rintro e w6 ⟨rfl, hb6⟩
      have B6 := Lib.hid (below_on B5.out hb6 B5.out.size)
      clear hb6
      go_wp2_with (fail)
      refine (HWK.out _ B6.out).mono ?_
      rintro e w7 ⟨rfl, hb7⟩
      have B7 := Lib.hid (below_on B6.out hb7 B6.out.size)
      clear hb7
      go_wp2_with (fail)
      refine (total_any none 0 0 [] w7 rfl (Es.nil w7) (by simp)).mono ?_
      rintro e w8 ⟨rfl, hb8⟩
      have B8 := Lib.hid (below_on B7.out hb8 B7.out.size)
      clear hb8
      rw [show tsA (totF []) = #[.int .i64 0, .int .i64 0, .int .i64 0, .int .i64 0, .int .i64 0, .int .i64 0, .int .i64 0, .int .i64 0, .int .i64 0, .int .i64 0, .int .i64 0, .int .u64 0, .int .u64 0, .int .u64 0] from rfl]
      go_wp2_with (fail)
      go_returns
      exact ⟨rfl, B8.out⟩
end Go.Proofs.YtfaopoaephlenaaGreatDoor
