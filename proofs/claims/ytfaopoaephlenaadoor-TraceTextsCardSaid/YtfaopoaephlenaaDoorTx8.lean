/- The law's others and same. -/
import Derived.Test.YtfaopoaephlenaaDoorTx7
namespace Go.Proofs.YtfaopoaephlenaaDoor
open Go.RowKit
set_option linter.unusedVariables false

/-- What a round of others keeps. -/
structure OtI (w0 : World) (L : List Ev) (a : Option Addr) (n cap k : Nat) (w : World) : Prop where
  below : Below w0.heap.size w0 w
  own : OwnS w w0.heap.size 28 4 a n cap (cellsE (L.take k))
  len : n = k
set_option maxRecDepth 100000 in
set_option maxHeartbeats 8000000 in
theorem others_any (a : Option Addr) (n cap : Nat) (L : List Ev) (w : World) (hn : n = L.length) (h : Es w a cap L) (hl : L.length ≤ 20000) :
    Calls Tryd.prog 23 #[.slice a n cap] w fun x w' => ∃ b m c, x = .returned (.slice b m c) ∧ m = L.length ∧ Es w' b c L ∧ Below w.heap.size w w' := by
  have HE := Lib.hid h
  have HN := Lib.hid hn
  have hnb : n ≤ 20000 := by omega
  have hst : OtI w L none 0 0 0 w := ⟨Below.refl _ _, OwnS.nil _ _ _ _, rfl⟩
  have HST := Lib.hid hst
  clear h hn hl hst
  go_enter Tryd.func23, Tryd.ntmps23
  go_wp2_with (fail)
  go_loopw [3, 5, 8] (fun v _ i wr => ∃ (b : Option Addr) (m c k : Nat), v = .slice b m c ∧ i = .int .i64 k ∧ k ≤ n ∧ Hid (OtI w L b m c k wr)) (fun _ _ i _ => n - (intOf i).toNat)
  case atStart => exact ⟨none, 0, 0, 0, rfl, rfl, by omega, HST⟩
  case round =>
    obtain ⟨b, m, c, k, rfl, rfl, hk, hok⟩ := hrel
    by_cases hlt : k < n
    · have hltL : k < L.length := by have := HN.out; omega
      obtain ⟨gb, go, rfl, hgb, e, hed, e0, e1, e2, e3, he⟩ := (HE.out.below hok.out.below).at_ hltL
      obtain ⟨ea, eA, eB, ek⟩ := e
      simp only at e0 e1 e2 e3
      have HED := Lib.hid hed
      have HEO := Lib.hid he
      clear hed he
      have hki : (k : Int) < (n : Int) := by omega
      have hmk := hok.out.len
      have hb4 : Below w.heap.size w (wr.alloc (.cells #[.int .u64 ea, .int .u64 eA, .int .u64 eB, .int .u8 ek] 26)) := hok.out.below.alloc hok.out.below.size _
      have o4 := hok.out.own.below (show Below wr.heap.size wr (wr.alloc (.cells #[.int .u64 ea, .int .u64 eA, .int .u64 eB, .int .u8 ek] 26)) from (Below.refl _ _).alloc (Nat.le_refl _) _)
      have hs5 := SrcAt.cells (wr.alloc (.cells #[.int .u64 ea, .int .u64 eA, .int .u64 eB, .int .u8 ek] 26)) #[.int .u64 ea, .int .u64 eA, .int .u64 eB, .int .u8 ek] 28 1 4 rfl (by intro u hu; exact cellsE_one [⟨ea, eA, eB, ek⟩] u (by simpa [cellsE, encE] using hu))
      have hz4 : (wr.alloc (.cells #[.int .u64 ea, .int .u64 eA, .int .u64 eB, .int .u8 ek] 26)).heap.size = wr.heap.size + 1 := by simp
      have hb5 := hb4.alloc hb4.size (.cells #[.int .u64 ea, .int .u64 eA, .int .u64 eB, .int .u8 ek] 28)
      have o5 := o4.below ((Below.refl _ _).alloc (Nat.le_refl _) (.cells #[.int .u64 ea, .int .u64 eA, .int .u64 eB, .int .u8 ek] 28))
      rw [hz4] at hs5
      have HB5 := Lib.hid hb5
      have O5 := Lib.hid o5
      have HS5 := Lib.hid hs5
      clear hb4 o4 hz4 hb5 o5 hs5
      have HMK := Lib.hid hmk
      clear hmk
      go_wp2_with (at_builtin; refine Stop.mk ?_)
      refine Stop.out ?_
      refine wpList_app ev2_et rfl rfl (base := w.heap.size) rfl rfl O5.out HS5.out (by have := HMK.out; simp only [maxLen]; omega) (by have := HMK.out; omega) HB5.out.size ?_
      intro a6 c6 w6 ho6 on6 at6
      have b6 : Below w.heap.size w w6 := below_onto HB5.out on6 HB5.out.size (by rintro z hz ⟨y, hy, rfl⟩; have := (O5.out.block hy).1; omega)
      have ho7 : OwnS w6 w.heap.size 28 4 a6 (m + 1) c6 (cellsE (L.take (k + 1))) := by
        rw [take_succ hltL HED.out, cellsE_append]
        exact ho6
      have FIN := Lib.hid (show OtI w L a6 (m + 1) c6 (k + 1) w6 from ⟨b6, ho7, by rw [HMK.out]⟩)
      clear ho6 ho7 on6 at6 b6
      go_wp2_with (fail)
      exact ⟨⟨a6, m + 1, c6, k + 1, rfl, by go_num, by omega, FIN⟩, by simp [intOf]; omega⟩
    · obtain rfl : k = n := by omega
      have ho := hok.out.own
      have hm := hok.out.len
      rw [List.take_of_length_le (by have := HN.out; omega)] at ho
      obtain ⟨hml, hes⟩ := ho.es HE.out.ok
      have HML := Lib.hid hml
      have HES := Lib.hid hes
      clear ho hm hml hes
      go_wp2_with (fail)
      go_returns
      exact ⟨b, m, c, rfl, HML.out, HES.out, hok.out.below⟩
theorem ev_neq (a b c k : Int) (w : World) : (binOp .neq 28 (.agg #[.int .u64 a, .int .u64 b, .int .u64 c, .int .u8 k]) (.agg #[.int .u64 a, .int .u64 b, .int .u64 c, .int .u8 k])).run Tryd.prog w = .ok (.bool false) w := by
  have u3 := Tryd.underlying24
  have a3 := Tryd.isAgg24
  have z3 := Tryd.sizeOf24
  have u4 := Tryd.underlying5
  have a4 := Tryd.isAgg5
  have z4 := Tryd.sizeOf5
  have hS : Tryd.prog.underlying 28 = some (.struct (Tryd.prog.fieldsOf 28)) := by kernel_rfl
  have hp : Tryd.prog.stoodInHeld 28 = false := by kernel_rfl
  rw [run_neq_struct, show (10000 : Nat) = 9999 + 1 from rfl, run_equalIn_agg w 9999 28 _ _ hS hp]
  simp only [Program.fieldsOf, Tryd.underlying28]
  go_simp
attribute [go_sem ↓] ev_neq
theorem ev_guard (A B : Array Value) (x y : Operand) (w : World) : (eqGuard .neq 28 x y (.agg A) (.agg B)).run Tryd.prog w = .ok () w := run_eqGuard_agg w .neq _ x y A B (by kernel_rfl)
attribute [go_sem ↓] ev_guard
set_option maxRecDepth 100000 in
set_option maxHeartbeats 8000000 in
theorem same_any (a : Option Addr) (n cap : Nat) (b : Option Addr) (m c : Nat) (L : List Ev) (w : World) (hn : n = L.length) (hm : m = L.length) (h : Es w a cap L) (h2 : Es w b c L) (hl : L.length ≤ 20000) :
    Calls Tryd.prog 10 #[.slice a n cap, .slice b m c] w fun x w' => x = .returned (.bool true) ∧ Below w.heap.size w w' := by
  obtain rfl : n = m := by omega
  have hnb : n ≤ 20000 := by omega
  have HN := Lib.hid hn
  have HC := Lib.hid (others_any a n cap L w hn h hl)
  have H2 := Lib.hid h2
  clear hn hm h h2 hl
  go_enter Tryd.func10, Tryd.ntmps10
  go_wp2_with (fail)
  refine HC.out.mono ?_
  rintro e w1 ⟨d, q, f, rfl, hq, hes, hb1⟩
  obtain rfl : q = n := by rw [hq, HN.out]
  have HES := Lib.hid hes
  have B1 := Lib.hid hb1
  have H3 := Lib.hid (H2.out.below hb1)
  clear hq hes hb1
  go_wp2_with (fail)
  go_loopw [6, 11] (fun _ i wr => ∃ k : Nat, i = .int .i64 k ∧ k ≤ q ∧ Hid (Below w1.heap.size w1 wr)) (fun _ i _ => q - (intOf i).toNat)
  case atStart => exact ⟨0, rfl, by omega, Lib.hid (Below.refl _ _)⟩
  case round =>
    obtain ⟨k, rfl, hk, hok⟩ := hrel
    by_cases hlt : k < q
    · have hltL : k < L.length := by have := HN.out; omega
      obtain ⟨gb, go, rfl, hgb, e, hed, e0, e1, e2, e3, he⟩ := (HES.out.below hok.out).at_ hltL
      obtain ⟨gc, gp, rfl, hgc, e', hed', f0, f1, f2, f3, he'⟩ := (H3.out.below hok.out).at_ hltL
      rw [hed] at hed'
      subst hed'
      obtain ⟨ea, eA, eB, ek⟩ := e
      simp only at e0 e1 e2 e3 f0 f1 f2 f3
      clear hed he he'
      have hki : (k : Int) < (q : Int) := by omega
      have hqk : decide (q ≤ k) = false := by simp; omega
      go_wp2_with (fail)
      refine rg_start 15 ?_
      refine rg_same fun p hx hne hC => ?_
      refine rg_quiet 0 [0,1,2,3,4,5,6,7,8,9,10,11,12,13,14] hC ?_
      simp only [pickD, List.map_cons, List.map_nil, List.getD_cons_zero, List.getD_cons_succ]; repeat (go_big_quiet_step (fail))
      refine wpQuiet_nil ?_
      refine rg_end ?_
      go_wp2_with (fail)
      exact ⟨⟨k + 1, by go_num, by omega, Lib.hid hok.out.drew⟩, by simp [intOf]; omega⟩
    · obtain rfl : k = q := by omega
      go_wp2_with (fail)
      go_returns
      exact ⟨rfl, below_on B1.out hok.out B1.out.size⟩
end Go.Proofs.YtfaopoaephlenaaDoor
