/- The document's set (written by gen_scd6.py). -/
import Derived.Test.YthangjgdjhhfgaaDoorScD5
import Derived.Test.YthangjgdjhhfgaaDoorScW8
namespace Go.Proofs.YthangjgdjhhfgaaDoor
open Go.RowKit
set_option linter.unusedVariables false
def setD (c : UInt8) (s : List UInt8) (m : Mv) : Option Mv :=
  if c = 115 then (numM 255 s).map fun n => { m with side := n }
  else if c = 110 then (intO s).map fun n => { m with n := n }
  else if c = 105 then (numM 18446744073709551615 s).map fun n => { m with id := n }
  else if c = 99 then (numM 18446744073709551615 s).map fun n => { m with code := n }
  else if c = 98 then (unhexO s).map fun b => { m with b := b }
  else if c = 102 then (numM 4294967295 s).map fun n => { m with from_ := n }
  else if c = 116 then (numM 4294967295 s).map fun n => { m with to_ := n }
  else (unhexO s).map fun d => { m with d := d }
/-- What set tells. -/
def SetPost (base : Nat) (r : Option Mv) (e : Ending) (w' : World) : Prop :=
  ∃ m' aB nB cB aD nD cD, ∃ b : Bool, e = .returned (.tuple #[.agg (mvCs m' (.slice aB nB cB) (.slice aD nD cD)), .bool b]) ∧ By w' base aB nB cB m'.b ∧ By w' base aD nD cD m'.d ∧ ((b = true ∧ r = some m') ∨ (b = false ∧ r = none))
theorem By.below {w w' : World} {base : Nat} {a : Option Addr} {n cap : Nat} {l : List UInt8} (h : By w base a n cap l) (hb : Below w.heap.size w w') : By w' base a n cap l := h.only (only_of_below hb (fun _ => False)) (fun _ _ h => h)
/-- set's boxes: the move, and the answer. -/
theorem two_boxes (w : World) (cs : Array Value) : Below w.heap.size w ((w.alloc (.cells cs 42)).alloc (.cells zeroM 42)) ∧ Blk ((w.alloc (.cells cs 42)).alloc (.cells zeroM 42)) w.heap.size cs 42 ∧ Blk ((w.alloc (.cells cs 42)).alloc (.cells zeroM 42)) (w.heap.size + 1) zeroM 42 ∧ ((w.alloc (.cells cs 42)).alloc (.cells zeroM 42)).heap.size = w.heap.size + 2 :=
  ⟨((Below.refl _ _).alloc (Nat.le_refl _) _).alloc (by simp) _, (Blk.new w _ _).alloc _, blk_at (by simp), by simp⟩

set_option maxRecDepth 100000 in
set_option maxHeartbeats 16000000 in
theorem rset_115 (w : World) (base : Nat) (m : Mv) (s : List UInt8) {aB : Option Addr} {nB cB : Nat} {aD : Option Addr} {nD cD : Nat} (hB : By w base aB nB cB m.b) (hD : By w base aD nD cD m.d) (hbase : base ≤ w.heap.size) (hs : s.length ≤ 500000) :
    Calls Tryd.prog 41 #[.agg (mvCs m (.slice aB nB cB) (.slice aD nD cD)), .int .u8 115, .string (tx s)] w fun e w' => SetPost base (setD 115 s m) e w' ∧ Below w.heap.size w w' := by
  obtain ⟨b2, k2, r2, s2⟩ := two_boxes w (mvCs m (.slice aB nB cB) (.slice aD nD cD))
  have hzl : zeroM = #[.int .u8 0, .int .u8 0, .int .i64 0, .int .u64 0, .int .u64 0, .slice none 0 0, .int .u32 0, .int .u32 0, .slice none 0 0] := rfl
  obtain ⟨w2, hw2⟩ : ∃ w2, (w.alloc (.cells (mvCs m (.slice aB nB cB) (.slice aD nD cD)) 42)).alloc (.cells zeroM 42) = w2 := ⟨_, rfl⟩
  rw [hw2] at b2 k2 r2 s2
  rw [hzl] at hw2
  have HB0 := Lib.hid hB
  have HD0 := Lib.hid hD
  have HB2 := Lib.hid (hB.below b2)
  have HD2 := Lib.hid (hD.below b2)
  have B2 := Lib.hid b2
  have K2 := Lib.hid k2
  have R2 := Lib.hid r2
  have S2 := Lib.hid s2
  have HW2 := Lib.hid hw2
  have HBA := Lib.hid hbase
  clear b2 k2 r2 s2 hw2 hzl hB hD hbase
  have HC := Lib.hid (rnumber_any 255 (by omega) (by omega) s w2)
  cases hk : numM 255 s with
  | none =>
    have hv : setD 115 s m = none := by simp [setD, hk]
    rw [hv]
    have hn : numMV 255 s = .tuple #[.int .u64 0, .bool false] := by simp [numMV, hk]
    rw [hn] at HC
    clear hn hk hv hs
    go_enter Tryd.func41, Tryd.ntmps41
    go_wp2_with (fail)
    rw [HW2.out]
    refine HC.out.mono ?_
    rintro x w3 ⟨rfl, b3⟩
    have k3 := K2.out.below b3
    have f3 := k3.free 1
    have c3 := k3.cell 1 _ rfl
    have K4 := Lib.hid ((k3.set 1 (.int .u8 0)).congr (show _ = mvCs { m with side := 0 } (.slice aB nB cB) (.slice aD nD cD) from rfl))
    have O4 := Lib.hid ((Only.refl (· = w.heap.size) w3).set 1 (.int .u8 0))
    have B3 := Lib.hid b3
    clear k3 b3
    go_wp2_with (with_reducible refine stop_loadm ?_)
    refine Stop.out ?_
    obtain ⟨w4, hw4⟩ : ∃ w4, w3.setCell ⟨w.heap.size, 1, none⟩ (.int .u8 0) = w4 := ⟨_, rfl⟩
    rw [hw4] at K4 O4 ⊢
    clear hw4 c3 f3
    have R4 := Lib.hid (O4.out.blk (R2.out.below B3.out) (by omega))
    refine wpList_loadAll Tryd.underlying42 move_size rfl rfl rfl K4.out rfl ?_
    go_wp2_with (with_reducible refine stop_storem ?_)
    refine Stop.out ?_
    refine wpList_storem rfl rfl rfl rfl (mvCs_one _ _ _ _ _ _ _) rfl rfl R4.out move_size ?_
    intro w5 hb5 on5
    have H5 := Lib.hid hb5
    have O5 := Lib.hid on5
    clear hb5 on5
    go_wp2_with (fail)
    refine bodyPost_ret (results_e rfl _ _ rfl rfl (ret_m _ _ _ rfl H5.out)) rfl ?_
    have hz : w2.heap.size ≤ w3.heap.size := B3.out.size
    have hz2 := S2.out
    have hfin : ∀ {a : Option Addr} {n cap : Nat} {l : List UInt8}, By w3 base a n cap l → (∀ x, a = some x → x.block ≠ w.heap.size ∧ x.block ≠ w.heap.size + 1) → By w5 base a n cap l := fun h hx => (h.only O4.out (fun x h1 => (hx x h1).1)).only O5.out (fun x h1 => (hx x h1).2)
    have hold : ∀ {a : Option Addr} {n cap : Nat} {l : List UInt8}, By w base a n cap l → ∀ x, a = some x → x.block ≠ w.heap.size ∧ x.block ≠ w.heap.size + 1 := fun h x hx => by have := (h.own.block hx).2.1; omega
    refine ⟨⟨{ m with side := 0 }, _, _, _, _, _, _, _, rfl, ?_, ?_, .inr ⟨rfl, rfl⟩⟩, ?_⟩
    · exact hfin (HB2.out.below B3.out) (hold HB0.out)
    · exact hfin (HD2.out.below B3.out) (hold HD0.out)
    · exact below_onto (below_onto (below_on B2.out B3.out (by omega)) O4.out (by omega) (by intro z hz h; omega)) O5.out (by have := O4.out.size; omega) (by intro z hz h; omega)
  | some u =>
    have hv : setD 115 s m = some { m with side := u } := by simp [setD, hk]
    rw [hv]
    have hn : numMV 255 s = .tuple #[.int .u64 (u : Nat), .bool true] := by simp [numMV, hk]
    rw [hn] at HC
    have hmax : u ≤ 255 := numM_max (by omega) hk
    have hmod : (u : Int) % 256 = u := by omega
    clear hmax
    clear hn hk hv hs
    go_enter Tryd.func41, Tryd.ntmps41
    go_wp2_with (fail)
    rw [HW2.out]
    refine HC.out.mono ?_
    rintro x w3 ⟨rfl, b3⟩
    have k3 := K2.out.below b3
    have f3 := k3.free 1
    have c3 := k3.cell 1 _ rfl
    have K4 := Lib.hid ((k3.set 1 (.int .u8 (u : Nat))).congr (show _ = mvCs { m with side := u } (.slice aB nB cB) (.slice aD nD cD) from rfl))
    have O4 := Lib.hid ((Only.refl (· = w.heap.size) w3).set 1 (.int .u8 (u : Nat)))
    have B3 := Lib.hid b3
    clear k3 b3
    go_wp2_with (with_reducible refine stop_loadm ?_)
    refine Stop.out ?_
    obtain ⟨w4, hw4⟩ : ∃ w4, w3.setCell ⟨w.heap.size, 1, none⟩ (.int .u8 (u : Nat)) = w4 := ⟨_, rfl⟩
    rw [hw4] at K4 O4 ⊢
    clear hw4 c3 f3
    have R4 := Lib.hid (O4.out.blk (R2.out.below B3.out) (by omega))
    refine wpList_loadAll Tryd.underlying42 move_size rfl rfl rfl K4.out rfl ?_
    go_wp2_with (with_reducible refine stop_storem ?_)
    refine Stop.out ?_
    refine wpList_storem rfl rfl rfl rfl (mvCs_one _ _ _ _ _ _ _) rfl rfl R4.out move_size ?_
    intro w5 hb5 on5
    have H5 := Lib.hid hb5
    have O5 := Lib.hid on5
    clear hb5 on5
    go_wp2_with (fail)
    refine bodyPost_ret (results_e rfl _ _ rfl rfl (ret_m _ _ _ rfl H5.out)) rfl ?_
    have hz : w2.heap.size ≤ w3.heap.size := B3.out.size
    have hz2 := S2.out
    have hfin : ∀ {a : Option Addr} {n cap : Nat} {l : List UInt8}, By w3 base a n cap l → (∀ x, a = some x → x.block ≠ w.heap.size ∧ x.block ≠ w.heap.size + 1) → By w5 base a n cap l := fun h hx => (h.only O4.out (fun x h1 => (hx x h1).1)).only O5.out (fun x h1 => (hx x h1).2)
    have hold : ∀ {a : Option Addr} {n cap : Nat} {l : List UInt8}, By w base a n cap l → ∀ x, a = some x → x.block ≠ w.heap.size ∧ x.block ≠ w.heap.size + 1 := fun h x hx => by have := (h.own.block hx).2.1; omega
    refine ⟨⟨{ m with side := u }, _, _, _, _, _, _, _, rfl, ?_, ?_, .inl ⟨rfl, rfl⟩⟩, ?_⟩
    · exact hfin (HB2.out.below B3.out) (hold HB0.out)
    · exact hfin (HD2.out.below B3.out) (hold HD0.out)
    · exact below_onto (below_onto (below_on B2.out B3.out (by omega)) O4.out (by omega) (by intro z hz h; omega)) O5.out (by have := O4.out.size; omega) (by intro z hz h; omega)
set_option maxRecDepth 100000 in
set_option maxHeartbeats 16000000 in
theorem rset_110 (w : World) (base : Nat) (m : Mv) (s : List UInt8) {aB : Option Addr} {nB cB : Nat} {aD : Option Addr} {nD cD : Nat} (hB : By w base aB nB cB m.b) (hD : By w base aD nD cD m.d) (hbase : base ≤ w.heap.size) (hs : s.length ≤ 500000) :
    Calls Tryd.prog 41 #[.agg (mvCs m (.slice aB nB cB) (.slice aD nD cD)), .int .u8 110, .string (tx s)] w fun e w' => SetPost base (setD 110 s m) e w' ∧ Below w.heap.size w w' := by
  obtain ⟨b2, k2, r2, s2⟩ := two_boxes w (mvCs m (.slice aB nB cB) (.slice aD nD cD))
  have hzl : zeroM = #[.int .u8 0, .int .u8 0, .int .i64 0, .int .u64 0, .int .u64 0, .slice none 0 0, .int .u32 0, .int .u32 0, .slice none 0 0] := rfl
  obtain ⟨w2, hw2⟩ : ∃ w2, (w.alloc (.cells (mvCs m (.slice aB nB cB) (.slice aD nD cD)) 42)).alloc (.cells zeroM 42) = w2 := ⟨_, rfl⟩
  rw [hw2] at b2 k2 r2 s2
  rw [hzl] at hw2
  have HB0 := Lib.hid hB
  have HD0 := Lib.hid hD
  have HB2 := Lib.hid (hB.below b2)
  have HD2 := Lib.hid (hD.below b2)
  have B2 := Lib.hid b2
  have K2 := Lib.hid k2
  have R2 := Lib.hid r2
  have S2 := Lib.hid s2
  have HW2 := Lib.hid hw2
  have HBA := Lib.hid hbase
  clear b2 k2 r2 s2 hw2 hzl hB hD hbase
  have HC := Lib.hid (rint_any s w2 (by omega))
  cases hk : intO s with
  | none =>
    have hv : setD 110 s m = none := by simp [setD, hk]
    rw [hv]
    have hn : intV s = .tuple #[.int .i64 0, .bool false] := by simp [intV, hk]
    rw [hn] at HC
    clear hn hk hv hs
    go_enter Tryd.func41, Tryd.ntmps41
    go_wp2_with (fail)
    rw [HW2.out]
    refine HC.out.mono ?_
    rintro x w3 ⟨rfl, b3⟩
    have k3 := K2.out.below b3
    have f3 := k3.free 2
    have c3 := k3.cell 2 _ rfl
    have K4 := Lib.hid ((k3.set 2 (.int .i64 0)).congr (show _ = mvCs { m with n := 0 } (.slice aB nB cB) (.slice aD nD cD) from rfl))
    have O4 := Lib.hid ((Only.refl (· = w.heap.size) w3).set 2 (.int .i64 0))
    have B3 := Lib.hid b3
    clear k3 b3
    go_wp2_with (with_reducible refine stop_loadm ?_)
    refine Stop.out ?_
    obtain ⟨w4, hw4⟩ : ∃ w4, w3.setCell ⟨w.heap.size, 2, none⟩ (.int .i64 0) = w4 := ⟨_, rfl⟩
    rw [hw4] at K4 O4 ⊢
    clear hw4 c3 f3
    have R4 := Lib.hid (O4.out.blk (R2.out.below B3.out) (by omega))
    refine wpList_loadAll Tryd.underlying42 move_size rfl rfl rfl K4.out rfl ?_
    go_wp2_with (with_reducible refine stop_storem ?_)
    refine Stop.out ?_
    refine wpList_storem rfl rfl rfl rfl (mvCs_one _ _ _ _ _ _ _) rfl rfl R4.out move_size ?_
    intro w5 hb5 on5
    have H5 := Lib.hid hb5
    have O5 := Lib.hid on5
    clear hb5 on5
    go_wp2_with (fail)
    refine bodyPost_ret (results_e rfl _ _ rfl rfl (ret_m _ _ _ rfl H5.out)) rfl ?_
    have hz : w2.heap.size ≤ w3.heap.size := B3.out.size
    have hz2 := S2.out
    have hfin : ∀ {a : Option Addr} {n cap : Nat} {l : List UInt8}, By w3 base a n cap l → (∀ x, a = some x → x.block ≠ w.heap.size ∧ x.block ≠ w.heap.size + 1) → By w5 base a n cap l := fun h hx => (h.only O4.out (fun x h1 => (hx x h1).1)).only O5.out (fun x h1 => (hx x h1).2)
    have hold : ∀ {a : Option Addr} {n cap : Nat} {l : List UInt8}, By w base a n cap l → ∀ x, a = some x → x.block ≠ w.heap.size ∧ x.block ≠ w.heap.size + 1 := fun h x hx => by have := (h.own.block hx).2.1; omega
    refine ⟨⟨{ m with n := 0 }, _, _, _, _, _, _, _, rfl, ?_, ?_, .inr ⟨rfl, rfl⟩⟩, ?_⟩
    · exact hfin (HB2.out.below B3.out) (hold HB0.out)
    · exact hfin (HD2.out.below B3.out) (hold HD0.out)
    · exact below_onto (below_onto (below_on B2.out B3.out (by omega)) O4.out (by omega) (by intro z hz h; omega)) O5.out (by have := O4.out.size; omega) (by intro z hz h; omega)
  | some u =>
    have hv : setD 110 s m = some { m with n := u } := by simp [setD, hk]
    rw [hv]
    have hn : intV s = .tuple #[.int .i64 u, .bool true] := by simp [intV, hk]
    rw [hn] at HC
    clear hn hk hv hs
    go_enter Tryd.func41, Tryd.ntmps41
    go_wp2_with (fail)
    rw [HW2.out]
    refine HC.out.mono ?_
    rintro x w3 ⟨rfl, b3⟩
    have k3 := K2.out.below b3
    have f3 := k3.free 2
    have c3 := k3.cell 2 _ rfl
    have K4 := Lib.hid ((k3.set 2 (.int .i64 u)).congr (show _ = mvCs { m with n := u } (.slice aB nB cB) (.slice aD nD cD) from rfl))
    have O4 := Lib.hid ((Only.refl (· = w.heap.size) w3).set 2 (.int .i64 u))
    have B3 := Lib.hid b3
    clear k3 b3
    go_wp2_with (with_reducible refine stop_loadm ?_)
    refine Stop.out ?_
    obtain ⟨w4, hw4⟩ : ∃ w4, w3.setCell ⟨w.heap.size, 2, none⟩ (.int .i64 u) = w4 := ⟨_, rfl⟩
    rw [hw4] at K4 O4 ⊢
    clear hw4 c3 f3
    have R4 := Lib.hid (O4.out.blk (R2.out.below B3.out) (by omega))
    refine wpList_loadAll Tryd.underlying42 move_size rfl rfl rfl K4.out rfl ?_
    go_wp2_with (with_reducible refine stop_storem ?_)
    refine Stop.out ?_
    refine wpList_storem rfl rfl rfl rfl (mvCs_one _ _ _ _ _ _ _) rfl rfl R4.out move_size ?_
    intro w5 hb5 on5
    have H5 := Lib.hid hb5
    have O5 := Lib.hid on5
    clear hb5 on5
    go_wp2_with (fail)
    refine bodyPost_ret (results_e rfl _ _ rfl rfl (ret_m _ _ _ rfl H5.out)) rfl ?_
    have hz : w2.heap.size ≤ w3.heap.size := B3.out.size
    have hz2 := S2.out
    have hfin : ∀ {a : Option Addr} {n cap : Nat} {l : List UInt8}, By w3 base a n cap l → (∀ x, a = some x → x.block ≠ w.heap.size ∧ x.block ≠ w.heap.size + 1) → By w5 base a n cap l := fun h hx => (h.only O4.out (fun x h1 => (hx x h1).1)).only O5.out (fun x h1 => (hx x h1).2)
    have hold : ∀ {a : Option Addr} {n cap : Nat} {l : List UInt8}, By w base a n cap l → ∀ x, a = some x → x.block ≠ w.heap.size ∧ x.block ≠ w.heap.size + 1 := fun h x hx => by have := (h.own.block hx).2.1; omega
    refine ⟨⟨{ m with n := u }, _, _, _, _, _, _, _, rfl, ?_, ?_, .inl ⟨rfl, rfl⟩⟩, ?_⟩
    · exact hfin (HB2.out.below B3.out) (hold HB0.out)
    · exact hfin (HD2.out.below B3.out) (hold HD0.out)
    · exact below_onto (below_onto (below_on B2.out B3.out (by omega)) O4.out (by omega) (by intro z hz h; omega)) O5.out (by have := O4.out.size; omega) (by intro z hz h; omega)
set_option maxRecDepth 100000 in
set_option maxHeartbeats 16000000 in
theorem rset_105 (w : World) (base : Nat) (m : Mv) (s : List UInt8) {aB : Option Addr} {nB cB : Nat} {aD : Option Addr} {nD cD : Nat} (hB : By w base aB nB cB m.b) (hD : By w base aD nD cD m.d) (hbase : base ≤ w.heap.size) (hs : s.length ≤ 500000) :
    Calls Tryd.prog 41 #[.agg (mvCs m (.slice aB nB cB) (.slice aD nD cD)), .int .u8 105, .string (tx s)] w fun e w' => SetPost base (setD 105 s m) e w' ∧ Below w.heap.size w w' := by
  obtain ⟨b2, k2, r2, s2⟩ := two_boxes w (mvCs m (.slice aB nB cB) (.slice aD nD cD))
  have hzl : zeroM = #[.int .u8 0, .int .u8 0, .int .i64 0, .int .u64 0, .int .u64 0, .slice none 0 0, .int .u32 0, .int .u32 0, .slice none 0 0] := rfl
  obtain ⟨w2, hw2⟩ : ∃ w2, (w.alloc (.cells (mvCs m (.slice aB nB cB) (.slice aD nD cD)) 42)).alloc (.cells zeroM 42) = w2 := ⟨_, rfl⟩
  rw [hw2] at b2 k2 r2 s2
  rw [hzl] at hw2
  have HB0 := Lib.hid hB
  have HD0 := Lib.hid hD
  have HB2 := Lib.hid (hB.below b2)
  have HD2 := Lib.hid (hD.below b2)
  have B2 := Lib.hid b2
  have K2 := Lib.hid k2
  have R2 := Lib.hid r2
  have S2 := Lib.hid s2
  have HW2 := Lib.hid hw2
  have HBA := Lib.hid hbase
  clear b2 k2 r2 s2 hw2 hzl hB hD hbase
  have HC := Lib.hid (rnumber_any 18446744073709551615 (by omega) (by omega) s w2)
  cases hk : numM 18446744073709551615 s with
  | none =>
    have hv : setD 105 s m = none := by simp [setD, hk]
    rw [hv]
    have hn : numMV 18446744073709551615 s = .tuple #[.int .u64 0, .bool false] := by simp [numMV, hk]
    rw [hn] at HC
    clear hn hk hv hs
    go_enter Tryd.func41, Tryd.ntmps41
    go_wp2_with (fail)
    rw [HW2.out]
    refine HC.out.mono ?_
    rintro x w3 ⟨rfl, b3⟩
    have k3 := K2.out.below b3
    have f3 := k3.free 3
    have c3 := k3.cell 3 _ rfl
    have K4 := Lib.hid ((k3.set 3 (.int .u64 0)).congr (show _ = mvCs { m with id := 0 } (.slice aB nB cB) (.slice aD nD cD) from rfl))
    have O4 := Lib.hid ((Only.refl (· = w.heap.size) w3).set 3 (.int .u64 0))
    have B3 := Lib.hid b3
    clear k3 b3
    go_wp2_with (with_reducible refine stop_loadm ?_)
    refine Stop.out ?_
    obtain ⟨w4, hw4⟩ : ∃ w4, w3.setCell ⟨w.heap.size, 3, none⟩ (.int .u64 0) = w4 := ⟨_, rfl⟩
    rw [hw4] at K4 O4 ⊢
    clear hw4 c3 f3
    have R4 := Lib.hid (O4.out.blk (R2.out.below B3.out) (by omega))
    refine wpList_loadAll Tryd.underlying42 move_size rfl rfl rfl K4.out rfl ?_
    go_wp2_with (with_reducible refine stop_storem ?_)
    refine Stop.out ?_
    refine wpList_storem rfl rfl rfl rfl (mvCs_one _ _ _ _ _ _ _) rfl rfl R4.out move_size ?_
    intro w5 hb5 on5
    have H5 := Lib.hid hb5
    have O5 := Lib.hid on5
    clear hb5 on5
    go_wp2_with (fail)
    refine bodyPost_ret (results_e rfl _ _ rfl rfl (ret_m _ _ _ rfl H5.out)) rfl ?_
    have hz : w2.heap.size ≤ w3.heap.size := B3.out.size
    have hz2 := S2.out
    have hfin : ∀ {a : Option Addr} {n cap : Nat} {l : List UInt8}, By w3 base a n cap l → (∀ x, a = some x → x.block ≠ w.heap.size ∧ x.block ≠ w.heap.size + 1) → By w5 base a n cap l := fun h hx => (h.only O4.out (fun x h1 => (hx x h1).1)).only O5.out (fun x h1 => (hx x h1).2)
    have hold : ∀ {a : Option Addr} {n cap : Nat} {l : List UInt8}, By w base a n cap l → ∀ x, a = some x → x.block ≠ w.heap.size ∧ x.block ≠ w.heap.size + 1 := fun h x hx => by have := (h.own.block hx).2.1; omega
    refine ⟨⟨{ m with id := 0 }, _, _, _, _, _, _, _, rfl, ?_, ?_, .inr ⟨rfl, rfl⟩⟩, ?_⟩
    · exact hfin (HB2.out.below B3.out) (hold HB0.out)
    · exact hfin (HD2.out.below B3.out) (hold HD0.out)
    · exact below_onto (below_onto (below_on B2.out B3.out (by omega)) O4.out (by omega) (by intro z hz h; omega)) O5.out (by have := O4.out.size; omega) (by intro z hz h; omega)
  | some u =>
    have hv : setD 105 s m = some { m with id := u } := by simp [setD, hk]
    rw [hv]
    have hn : numMV 18446744073709551615 s = .tuple #[.int .u64 (u : Nat), .bool true] := by simp [numMV, hk]
    rw [hn] at HC
    clear hn hk hv hs
    go_enter Tryd.func41, Tryd.ntmps41
    go_wp2_with (fail)
    rw [HW2.out]
    refine HC.out.mono ?_
    rintro x w3 ⟨rfl, b3⟩
    have k3 := K2.out.below b3
    have f3 := k3.free 3
    have c3 := k3.cell 3 _ rfl
    have K4 := Lib.hid ((k3.set 3 (.int .u64 (u : Nat))).congr (show _ = mvCs { m with id := u } (.slice aB nB cB) (.slice aD nD cD) from rfl))
    have O4 := Lib.hid ((Only.refl (· = w.heap.size) w3).set 3 (.int .u64 (u : Nat)))
    have B3 := Lib.hid b3
    clear k3 b3
    go_wp2_with (with_reducible refine stop_loadm ?_)
    refine Stop.out ?_
    obtain ⟨w4, hw4⟩ : ∃ w4, w3.setCell ⟨w.heap.size, 3, none⟩ (.int .u64 (u : Nat)) = w4 := ⟨_, rfl⟩
    rw [hw4] at K4 O4 ⊢
    clear hw4 c3 f3
    have R4 := Lib.hid (O4.out.blk (R2.out.below B3.out) (by omega))
    refine wpList_loadAll Tryd.underlying42 move_size rfl rfl rfl K4.out rfl ?_
    go_wp2_with (with_reducible refine stop_storem ?_)
    refine Stop.out ?_
    refine wpList_storem rfl rfl rfl rfl (mvCs_one _ _ _ _ _ _ _) rfl rfl R4.out move_size ?_
    intro w5 hb5 on5
    have H5 := Lib.hid hb5
    have O5 := Lib.hid on5
    clear hb5 on5
    go_wp2_with (fail)
    refine bodyPost_ret (results_e rfl _ _ rfl rfl (ret_m _ _ _ rfl H5.out)) rfl ?_
    have hz : w2.heap.size ≤ w3.heap.size := B3.out.size
    have hz2 := S2.out
    have hfin : ∀ {a : Option Addr} {n cap : Nat} {l : List UInt8}, By w3 base a n cap l → (∀ x, a = some x → x.block ≠ w.heap.size ∧ x.block ≠ w.heap.size + 1) → By w5 base a n cap l := fun h hx => (h.only O4.out (fun x h1 => (hx x h1).1)).only O5.out (fun x h1 => (hx x h1).2)
    have hold : ∀ {a : Option Addr} {n cap : Nat} {l : List UInt8}, By w base a n cap l → ∀ x, a = some x → x.block ≠ w.heap.size ∧ x.block ≠ w.heap.size + 1 := fun h x hx => by have := (h.own.block hx).2.1; omega
    refine ⟨⟨{ m with id := u }, _, _, _, _, _, _, _, rfl, ?_, ?_, .inl ⟨rfl, rfl⟩⟩, ?_⟩
    · exact hfin (HB2.out.below B3.out) (hold HB0.out)
    · exact hfin (HD2.out.below B3.out) (hold HD0.out)
    · exact below_onto (below_onto (below_on B2.out B3.out (by omega)) O4.out (by omega) (by intro z hz h; omega)) O5.out (by have := O4.out.size; omega) (by intro z hz h; omega)
set_option maxRecDepth 100000 in
set_option maxHeartbeats 16000000 in
theorem rset_99 (w : World) (base : Nat) (m : Mv) (s : List UInt8) {aB : Option Addr} {nB cB : Nat} {aD : Option Addr} {nD cD : Nat} (hB : By w base aB nB cB m.b) (hD : By w base aD nD cD m.d) (hbase : base ≤ w.heap.size) (hs : s.length ≤ 500000) :
    Calls Tryd.prog 41 #[.agg (mvCs m (.slice aB nB cB) (.slice aD nD cD)), .int .u8 99, .string (tx s)] w fun e w' => SetPost base (setD 99 s m) e w' ∧ Below w.heap.size w w' := by
  obtain ⟨b2, k2, r2, s2⟩ := two_boxes w (mvCs m (.slice aB nB cB) (.slice aD nD cD))
  have hzl : zeroM = #[.int .u8 0, .int .u8 0, .int .i64 0, .int .u64 0, .int .u64 0, .slice none 0 0, .int .u32 0, .int .u32 0, .slice none 0 0] := rfl
  obtain ⟨w2, hw2⟩ : ∃ w2, (w.alloc (.cells (mvCs m (.slice aB nB cB) (.slice aD nD cD)) 42)).alloc (.cells zeroM 42) = w2 := ⟨_, rfl⟩
  rw [hw2] at b2 k2 r2 s2
  rw [hzl] at hw2
  have HB0 := Lib.hid hB
  have HD0 := Lib.hid hD
  have HB2 := Lib.hid (hB.below b2)
  have HD2 := Lib.hid (hD.below b2)
  have B2 := Lib.hid b2
  have K2 := Lib.hid k2
  have R2 := Lib.hid r2
  have S2 := Lib.hid s2
  have HW2 := Lib.hid hw2
  have HBA := Lib.hid hbase
  clear b2 k2 r2 s2 hw2 hzl hB hD hbase
  have HC := Lib.hid (rnumber_any 18446744073709551615 (by omega) (by omega) s w2)
  cases hk : numM 18446744073709551615 s with
  | none =>
    have hv : setD 99 s m = none := by simp [setD, hk]
    rw [hv]
    have hn : numMV 18446744073709551615 s = .tuple #[.int .u64 0, .bool false] := by simp [numMV, hk]
    rw [hn] at HC
    clear hn hk hv hs
    go_enter Tryd.func41, Tryd.ntmps41
    go_wp2_with (fail)
    rw [HW2.out]
    refine HC.out.mono ?_
    rintro x w3 ⟨rfl, b3⟩
    have k3 := K2.out.below b3
    have f3 := k3.free 4
    have c3 := k3.cell 4 _ rfl
    have K4 := Lib.hid ((k3.set 4 (.int .u64 0)).congr (show _ = mvCs { m with code := 0 } (.slice aB nB cB) (.slice aD nD cD) from rfl))
    have O4 := Lib.hid ((Only.refl (· = w.heap.size) w3).set 4 (.int .u64 0))
    have B3 := Lib.hid b3
    clear k3 b3
    go_wp2_with (with_reducible refine stop_loadm ?_)
    refine Stop.out ?_
    obtain ⟨w4, hw4⟩ : ∃ w4, w3.setCell ⟨w.heap.size, 4, none⟩ (.int .u64 0) = w4 := ⟨_, rfl⟩
    rw [hw4] at K4 O4 ⊢
    clear hw4 c3 f3
    have R4 := Lib.hid (O4.out.blk (R2.out.below B3.out) (by omega))
    refine wpList_loadAll Tryd.underlying42 move_size rfl rfl rfl K4.out rfl ?_
    go_wp2_with (with_reducible refine stop_storem ?_)
    refine Stop.out ?_
    refine wpList_storem rfl rfl rfl rfl (mvCs_one _ _ _ _ _ _ _) rfl rfl R4.out move_size ?_
    intro w5 hb5 on5
    have H5 := Lib.hid hb5
    have O5 := Lib.hid on5
    clear hb5 on5
    go_wp2_with (fail)
    refine bodyPost_ret (results_e rfl _ _ rfl rfl (ret_m _ _ _ rfl H5.out)) rfl ?_
    have hz : w2.heap.size ≤ w3.heap.size := B3.out.size
    have hz2 := S2.out
    have hfin : ∀ {a : Option Addr} {n cap : Nat} {l : List UInt8}, By w3 base a n cap l → (∀ x, a = some x → x.block ≠ w.heap.size ∧ x.block ≠ w.heap.size + 1) → By w5 base a n cap l := fun h hx => (h.only O4.out (fun x h1 => (hx x h1).1)).only O5.out (fun x h1 => (hx x h1).2)
    have hold : ∀ {a : Option Addr} {n cap : Nat} {l : List UInt8}, By w base a n cap l → ∀ x, a = some x → x.block ≠ w.heap.size ∧ x.block ≠ w.heap.size + 1 := fun h x hx => by have := (h.own.block hx).2.1; omega
    refine ⟨⟨{ m with code := 0 }, _, _, _, _, _, _, _, rfl, ?_, ?_, .inr ⟨rfl, rfl⟩⟩, ?_⟩
    · exact hfin (HB2.out.below B3.out) (hold HB0.out)
    · exact hfin (HD2.out.below B3.out) (hold HD0.out)
    · exact below_onto (below_onto (below_on B2.out B3.out (by omega)) O4.out (by omega) (by intro z hz h; omega)) O5.out (by have := O4.out.size; omega) (by intro z hz h; omega)
  | some u =>
    have hv : setD 99 s m = some { m with code := u } := by simp [setD, hk]
    rw [hv]
    have hn : numMV 18446744073709551615 s = .tuple #[.int .u64 (u : Nat), .bool true] := by simp [numMV, hk]
    rw [hn] at HC
    clear hn hk hv hs
    go_enter Tryd.func41, Tryd.ntmps41
    go_wp2_with (fail)
    rw [HW2.out]
    refine HC.out.mono ?_
    rintro x w3 ⟨rfl, b3⟩
    have k3 := K2.out.below b3
    have f3 := k3.free 4
    have c3 := k3.cell 4 _ rfl
    have K4 := Lib.hid ((k3.set 4 (.int .u64 (u : Nat))).congr (show _ = mvCs { m with code := u } (.slice aB nB cB) (.slice aD nD cD) from rfl))
    have O4 := Lib.hid ((Only.refl (· = w.heap.size) w3).set 4 (.int .u64 (u : Nat)))
    have B3 := Lib.hid b3
    clear k3 b3
    go_wp2_with (with_reducible refine stop_loadm ?_)
    refine Stop.out ?_
    obtain ⟨w4, hw4⟩ : ∃ w4, w3.setCell ⟨w.heap.size, 4, none⟩ (.int .u64 (u : Nat)) = w4 := ⟨_, rfl⟩
    rw [hw4] at K4 O4 ⊢
    clear hw4 c3 f3
    have R4 := Lib.hid (O4.out.blk (R2.out.below B3.out) (by omega))
    refine wpList_loadAll Tryd.underlying42 move_size rfl rfl rfl K4.out rfl ?_
    go_wp2_with (with_reducible refine stop_storem ?_)
    refine Stop.out ?_
    refine wpList_storem rfl rfl rfl rfl (mvCs_one _ _ _ _ _ _ _) rfl rfl R4.out move_size ?_
    intro w5 hb5 on5
    have H5 := Lib.hid hb5
    have O5 := Lib.hid on5
    clear hb5 on5
    go_wp2_with (fail)
    refine bodyPost_ret (results_e rfl _ _ rfl rfl (ret_m _ _ _ rfl H5.out)) rfl ?_
    have hz : w2.heap.size ≤ w3.heap.size := B3.out.size
    have hz2 := S2.out
    have hfin : ∀ {a : Option Addr} {n cap : Nat} {l : List UInt8}, By w3 base a n cap l → (∀ x, a = some x → x.block ≠ w.heap.size ∧ x.block ≠ w.heap.size + 1) → By w5 base a n cap l := fun h hx => (h.only O4.out (fun x h1 => (hx x h1).1)).only O5.out (fun x h1 => (hx x h1).2)
    have hold : ∀ {a : Option Addr} {n cap : Nat} {l : List UInt8}, By w base a n cap l → ∀ x, a = some x → x.block ≠ w.heap.size ∧ x.block ≠ w.heap.size + 1 := fun h x hx => by have := (h.own.block hx).2.1; omega
    refine ⟨⟨{ m with code := u }, _, _, _, _, _, _, _, rfl, ?_, ?_, .inl ⟨rfl, rfl⟩⟩, ?_⟩
    · exact hfin (HB2.out.below B3.out) (hold HB0.out)
    · exact hfin (HD2.out.below B3.out) (hold HD0.out)
    · exact below_onto (below_onto (below_on B2.out B3.out (by omega)) O4.out (by omega) (by intro z hz h; omega)) O5.out (by have := O4.out.size; omega) (by intro z hz h; omega)
set_option maxRecDepth 100000 in
set_option maxHeartbeats 16000000 in
theorem rset_98 (w : World) (base : Nat) (m : Mv) (s : List UInt8) {aB : Option Addr} {nB cB : Nat} {aD : Option Addr} {nD cD : Nat} (hB : By w base aB nB cB m.b) (hD : By w base aD nD cD m.d) (hbase : base ≤ w.heap.size) (hs : s.length ≤ 500000) :
    Calls Tryd.prog 41 #[.agg (mvCs m (.slice aB nB cB) (.slice aD nD cD)), .int .u8 98, .string (tx s)] w fun e w' => SetPost base (setD 98 s m) e w' ∧ Below w.heap.size w w' := by
  obtain ⟨b2, k2, r2, s2⟩ := two_boxes w (mvCs m (.slice aB nB cB) (.slice aD nD cD))
  have hzl : zeroM = #[.int .u8 0, .int .u8 0, .int .i64 0, .int .u64 0, .int .u64 0, .slice none 0 0, .int .u32 0, .int .u32 0, .slice none 0 0] := rfl
  obtain ⟨w2, hw2⟩ : ∃ w2, (w.alloc (.cells (mvCs m (.slice aB nB cB) (.slice aD nD cD)) 42)).alloc (.cells zeroM 42) = w2 := ⟨_, rfl⟩
  rw [hw2] at b2 k2 r2 s2
  rw [hzl] at hw2
  have HB0 := Lib.hid hB
  have HD0 := Lib.hid hD
  have HB2 := Lib.hid (hB.below b2)
  have HD2 := Lib.hid (hD.below b2)
  have B2 := Lib.hid b2
  have K2 := Lib.hid k2
  have R2 := Lib.hid r2
  have S2 := Lib.hid s2
  have HW2 := Lib.hid hw2
  have HBA := Lib.hid hbase
  clear b2 k2 r2 s2 hw2 hzl hB hD hbase
  have HC := Lib.hid (runhex_any s w2 hs)
  cases hk : unhexO s with
  | none =>
    have hv : setD 98 s m = none := by simp [setD, hk]
    rw [hv]
    have HU := Lib.hid hk
    clear hk hv hs
    go_enter Tryd.func41, Tryd.ntmps41
    go_wp2_with (fail)
    rw [HW2.out]
    refine HC.out.mono ?_
    rintro x w3 ⟨hx, b3⟩
    unfold UxPost at hx
    rw [HU.out] at hx
    dsimp only at hx
    subst hx
    have k3 := K2.out.below b3
    have f3 := k3.free 5
    have c3 := k3.cell 5 _ rfl
    have K4 := Lib.hid ((k3.set 5 (.slice none 0 0)).congr (show _ = mvCs { m with b := [] } (.slice none 0 0) (.slice aD nD cD) from rfl))
    have O4 := Lib.hid ((Only.refl (· = w.heap.size) w3).set 5 (.slice none 0 0))
    have B3 := Lib.hid b3
    clear k3 b3
    go_wp2_with (with_reducible refine stop_loadm ?_)
    refine Stop.out ?_
    obtain ⟨w4, hw4⟩ : ∃ w4, w3.setCell ⟨w.heap.size, 5, none⟩ (.slice none 0 0) = w4 := ⟨_, rfl⟩
    rw [hw4] at K4 O4 ⊢
    clear hw4 c3 f3
    have R4 := Lib.hid (O4.out.blk (R2.out.below B3.out) (by omega))
    refine wpList_loadAll Tryd.underlying42 move_size rfl rfl rfl K4.out rfl ?_
    go_wp2_with (with_reducible refine stop_storem ?_)
    refine Stop.out ?_
    refine wpList_storem rfl rfl rfl rfl (mvCs_one _ _ _ _ _ _ _) rfl rfl R4.out move_size ?_
    intro w5 hb5 on5
    have H5 := Lib.hid hb5
    have O5 := Lib.hid on5
    clear hb5 on5
    go_wp2_with (fail)
    refine bodyPost_ret (results_e rfl _ _ rfl rfl (ret_m _ _ _ rfl H5.out)) rfl ?_
    have hz : w2.heap.size ≤ w3.heap.size := B3.out.size
    have hz2 := S2.out
    have hfin : ∀ {a : Option Addr} {n cap : Nat} {l : List UInt8}, By w3 base a n cap l → (∀ x, a = some x → x.block ≠ w.heap.size ∧ x.block ≠ w.heap.size + 1) → By w5 base a n cap l := fun h hx => (h.only O4.out (fun x h1 => (hx x h1).1)).only O5.out (fun x h1 => (hx x h1).2)
    have hold : ∀ {a : Option Addr} {n cap : Nat} {l : List UInt8}, By w base a n cap l → ∀ x, a = some x → x.block ≠ w.heap.size ∧ x.block ≠ w.heap.size + 1 := fun h x hx => by have := (h.own.block hx).2.1; omega
    refine ⟨⟨{ m with b := [] }, _, _, _, _, _, _, _, rfl, ?_, ?_, .inr ⟨rfl, rfl⟩⟩, ?_⟩
    · exact By.nil _ _
    · exact hfin (HD2.out.below B3.out) (hold HD0.out)
    · exact below_onto (below_onto (below_on B2.out B3.out (by omega)) O4.out (by omega) (by intro z hz h; omega)) O5.out (by have := O4.out.size; omega) (by intro z hz h; omega)
  | some u =>
    have hv : setD 98 s m = some { m with b := u } := by simp [setD, hk]
    rw [hv]
    have HU := Lib.hid hk
    clear hk hv hs
    go_enter Tryd.func41, Tryd.ntmps41
    go_wp2_with (fail)
    rw [HW2.out]
    refine HC.out.mono ?_
    rintro x w3 ⟨hx, b3⟩
    unfold UxPost at hx
    rw [HU.out] at hx
    dsimp only at hx
    obtain ⟨aX, nX, cX, rfl, hX⟩ := hx
    have k3 := K2.out.below b3
    have f3 := k3.free 5
    have c3 := k3.cell 5 _ rfl
    have K4 := Lib.hid ((k3.set 5 (.slice aX nX cX)).congr (show _ = mvCs { m with b := u } (.slice aX nX cX) (.slice aD nD cD) from rfl))
    have O4 := Lib.hid ((Only.refl (· = w.heap.size) w3).set 5 (.slice aX nX cX))
    have B3 := Lib.hid b3
    have HX := Lib.hid hX
    clear hX
    clear k3 b3
    go_wp2_with (with_reducible refine stop_loadm ?_)
    refine Stop.out ?_
    obtain ⟨w4, hw4⟩ : ∃ w4, w3.setCell ⟨w.heap.size, 5, none⟩ (.slice aX nX cX) = w4 := ⟨_, rfl⟩
    rw [hw4] at K4 O4 ⊢
    clear hw4 c3 f3
    have R4 := Lib.hid (O4.out.blk (R2.out.below B3.out) (by omega))
    refine wpList_loadAll Tryd.underlying42 move_size rfl rfl rfl K4.out rfl ?_
    go_wp2_with (with_reducible refine stop_storem ?_)
    refine Stop.out ?_
    refine wpList_storem rfl rfl rfl rfl (mvCs_one _ _ _ _ _ _ _) rfl rfl R4.out move_size ?_
    intro w5 hb5 on5
    have H5 := Lib.hid hb5
    have O5 := Lib.hid on5
    clear hb5 on5
    go_wp2_with (fail)
    refine bodyPost_ret (results_e rfl _ _ rfl rfl (ret_m _ _ _ rfl H5.out)) rfl ?_
    have hz : w2.heap.size ≤ w3.heap.size := B3.out.size
    have hz2 := S2.out
    have hfin : ∀ {a : Option Addr} {n cap : Nat} {l : List UInt8}, By w3 base a n cap l → (∀ x, a = some x → x.block ≠ w.heap.size ∧ x.block ≠ w.heap.size + 1) → By w5 base a n cap l := fun h hx => (h.only O4.out (fun x h1 => (hx x h1).1)).only O5.out (fun x h1 => (hx x h1).2)
    have hold : ∀ {a : Option Addr} {n cap : Nat} {l : List UInt8}, By w base a n cap l → ∀ x, a = some x → x.block ≠ w.heap.size ∧ x.block ≠ w.heap.size + 1 := fun h x hx => by have := (h.own.block hx).2.1; omega
    refine ⟨⟨{ m with b := u }, _, _, _, _, _, _, _, rfl, ?_, ?_, .inl ⟨rfl, rfl⟩⟩, ?_⟩
    · exact hfin ((HX.out).base_le (by have := HBA.out; omega)) (fun x hx => by have := (HX.out.own.block hx).1; omega)
    · exact hfin (HD2.out.below B3.out) (hold HD0.out)
    · exact below_onto (below_onto (below_on B2.out B3.out (by omega)) O4.out (by omega) (by intro z hz h; omega)) O5.out (by have := O4.out.size; omega) (by intro z hz h; omega)
set_option maxRecDepth 100000 in
set_option maxHeartbeats 16000000 in
theorem rset_102 (w : World) (base : Nat) (m : Mv) (s : List UInt8) {aB : Option Addr} {nB cB : Nat} {aD : Option Addr} {nD cD : Nat} (hB : By w base aB nB cB m.b) (hD : By w base aD nD cD m.d) (hbase : base ≤ w.heap.size) (hs : s.length ≤ 500000) :
    Calls Tryd.prog 41 #[.agg (mvCs m (.slice aB nB cB) (.slice aD nD cD)), .int .u8 102, .string (tx s)] w fun e w' => SetPost base (setD 102 s m) e w' ∧ Below w.heap.size w w' := by
  obtain ⟨b2, k2, r2, s2⟩ := two_boxes w (mvCs m (.slice aB nB cB) (.slice aD nD cD))
  have hzl : zeroM = #[.int .u8 0, .int .u8 0, .int .i64 0, .int .u64 0, .int .u64 0, .slice none 0 0, .int .u32 0, .int .u32 0, .slice none 0 0] := rfl
  obtain ⟨w2, hw2⟩ : ∃ w2, (w.alloc (.cells (mvCs m (.slice aB nB cB) (.slice aD nD cD)) 42)).alloc (.cells zeroM 42) = w2 := ⟨_, rfl⟩
  rw [hw2] at b2 k2 r2 s2
  rw [hzl] at hw2
  have HB0 := Lib.hid hB
  have HD0 := Lib.hid hD
  have HB2 := Lib.hid (hB.below b2)
  have HD2 := Lib.hid (hD.below b2)
  have B2 := Lib.hid b2
  have K2 := Lib.hid k2
  have R2 := Lib.hid r2
  have S2 := Lib.hid s2
  have HW2 := Lib.hid hw2
  have HBA := Lib.hid hbase
  clear b2 k2 r2 s2 hw2 hzl hB hD hbase
  have HC := Lib.hid (rnumber_any 4294967295 (by omega) (by omega) s w2)
  cases hk : numM 4294967295 s with
  | none =>
    have hv : setD 102 s m = none := by simp [setD, hk]
    rw [hv]
    have hn : numMV 4294967295 s = .tuple #[.int .u64 0, .bool false] := by simp [numMV, hk]
    rw [hn] at HC
    clear hn hk hv hs
    go_enter Tryd.func41, Tryd.ntmps41
    go_wp2_with (fail)
    rw [HW2.out]
    refine HC.out.mono ?_
    rintro x w3 ⟨rfl, b3⟩
    have k3 := K2.out.below b3
    have f3 := k3.free 6
    have c3 := k3.cell 6 _ rfl
    have K4 := Lib.hid ((k3.set 6 (.int .u32 0)).congr (show _ = mvCs { m with from_ := 0 } (.slice aB nB cB) (.slice aD nD cD) from rfl))
    have O4 := Lib.hid ((Only.refl (· = w.heap.size) w3).set 6 (.int .u32 0))
    have B3 := Lib.hid b3
    clear k3 b3
    go_wp2_with (with_reducible refine stop_loadm ?_)
    refine Stop.out ?_
    obtain ⟨w4, hw4⟩ : ∃ w4, w3.setCell ⟨w.heap.size, 6, none⟩ (.int .u32 0) = w4 := ⟨_, rfl⟩
    rw [hw4] at K4 O4 ⊢
    clear hw4 c3 f3
    have R4 := Lib.hid (O4.out.blk (R2.out.below B3.out) (by omega))
    refine wpList_loadAll Tryd.underlying42 move_size rfl rfl rfl K4.out rfl ?_
    go_wp2_with (with_reducible refine stop_storem ?_)
    refine Stop.out ?_
    refine wpList_storem rfl rfl rfl rfl (mvCs_one _ _ _ _ _ _ _) rfl rfl R4.out move_size ?_
    intro w5 hb5 on5
    have H5 := Lib.hid hb5
    have O5 := Lib.hid on5
    clear hb5 on5
    go_wp2_with (fail)
    refine bodyPost_ret (results_e rfl _ _ rfl rfl (ret_m _ _ _ rfl H5.out)) rfl ?_
    have hz : w2.heap.size ≤ w3.heap.size := B3.out.size
    have hz2 := S2.out
    have hfin : ∀ {a : Option Addr} {n cap : Nat} {l : List UInt8}, By w3 base a n cap l → (∀ x, a = some x → x.block ≠ w.heap.size ∧ x.block ≠ w.heap.size + 1) → By w5 base a n cap l := fun h hx => (h.only O4.out (fun x h1 => (hx x h1).1)).only O5.out (fun x h1 => (hx x h1).2)
    have hold : ∀ {a : Option Addr} {n cap : Nat} {l : List UInt8}, By w base a n cap l → ∀ x, a = some x → x.block ≠ w.heap.size ∧ x.block ≠ w.heap.size + 1 := fun h x hx => by have := (h.own.block hx).2.1; omega
    refine ⟨⟨{ m with from_ := 0 }, _, _, _, _, _, _, _, rfl, ?_, ?_, .inr ⟨rfl, rfl⟩⟩, ?_⟩
    · exact hfin (HB2.out.below B3.out) (hold HB0.out)
    · exact hfin (HD2.out.below B3.out) (hold HD0.out)
    · exact below_onto (below_onto (below_on B2.out B3.out (by omega)) O4.out (by omega) (by intro z hz h; omega)) O5.out (by have := O4.out.size; omega) (by intro z hz h; omega)
  | some u =>
    have hv : setD 102 s m = some { m with from_ := u } := by simp [setD, hk]
    rw [hv]
    have hn : numMV 4294967295 s = .tuple #[.int .u64 (u : Nat), .bool true] := by simp [numMV, hk]
    rw [hn] at HC
    have hmax : u ≤ 4294967295 := numM_max (by omega) hk
    have hmod : (u : Int) % 4294967296 = u := by omega
    clear hmax
    clear hn hk hv hs
    go_enter Tryd.func41, Tryd.ntmps41
    go_wp2_with (fail)
    rw [HW2.out]
    refine HC.out.mono ?_
    rintro x w3 ⟨rfl, b3⟩
    have k3 := K2.out.below b3
    have f3 := k3.free 6
    have c3 := k3.cell 6 _ rfl
    have K4 := Lib.hid ((k3.set 6 (.int .u32 (u : Nat))).congr (show _ = mvCs { m with from_ := u } (.slice aB nB cB) (.slice aD nD cD) from rfl))
    have O4 := Lib.hid ((Only.refl (· = w.heap.size) w3).set 6 (.int .u32 (u : Nat)))
    have B3 := Lib.hid b3
    clear k3 b3
    go_wp2_with (with_reducible refine stop_loadm ?_)
    refine Stop.out ?_
    obtain ⟨w4, hw4⟩ : ∃ w4, w3.setCell ⟨w.heap.size, 6, none⟩ (.int .u32 (u : Nat)) = w4 := ⟨_, rfl⟩
    rw [hw4] at K4 O4 ⊢
    clear hw4 c3 f3
    have R4 := Lib.hid (O4.out.blk (R2.out.below B3.out) (by omega))
    refine wpList_loadAll Tryd.underlying42 move_size rfl rfl rfl K4.out rfl ?_
    go_wp2_with (with_reducible refine stop_storem ?_)
    refine Stop.out ?_
    refine wpList_storem rfl rfl rfl rfl (mvCs_one _ _ _ _ _ _ _) rfl rfl R4.out move_size ?_
    intro w5 hb5 on5
    have H5 := Lib.hid hb5
    have O5 := Lib.hid on5
    clear hb5 on5
    go_wp2_with (fail)
    refine bodyPost_ret (results_e rfl _ _ rfl rfl (ret_m _ _ _ rfl H5.out)) rfl ?_
    have hz : w2.heap.size ≤ w3.heap.size := B3.out.size
    have hz2 := S2.out
    have hfin : ∀ {a : Option Addr} {n cap : Nat} {l : List UInt8}, By w3 base a n cap l → (∀ x, a = some x → x.block ≠ w.heap.size ∧ x.block ≠ w.heap.size + 1) → By w5 base a n cap l := fun h hx => (h.only O4.out (fun x h1 => (hx x h1).1)).only O5.out (fun x h1 => (hx x h1).2)
    have hold : ∀ {a : Option Addr} {n cap : Nat} {l : List UInt8}, By w base a n cap l → ∀ x, a = some x → x.block ≠ w.heap.size ∧ x.block ≠ w.heap.size + 1 := fun h x hx => by have := (h.own.block hx).2.1; omega
    refine ⟨⟨{ m with from_ := u }, _, _, _, _, _, _, _, rfl, ?_, ?_, .inl ⟨rfl, rfl⟩⟩, ?_⟩
    · exact hfin (HB2.out.below B3.out) (hold HB0.out)
    · exact hfin (HD2.out.below B3.out) (hold HD0.out)
    · exact below_onto (below_onto (below_on B2.out B3.out (by omega)) O4.out (by omega) (by intro z hz h; omega)) O5.out (by have := O4.out.size; omega) (by intro z hz h; omega)
set_option maxRecDepth 100000 in
set_option maxHeartbeats 16000000 in
theorem rset_116 (w : World) (base : Nat) (m : Mv) (s : List UInt8) {aB : Option Addr} {nB cB : Nat} {aD : Option Addr} {nD cD : Nat} (hB : By w base aB nB cB m.b) (hD : By w base aD nD cD m.d) (hbase : base ≤ w.heap.size) (hs : s.length ≤ 500000) :
    Calls Tryd.prog 41 #[.agg (mvCs m (.slice aB nB cB) (.slice aD nD cD)), .int .u8 116, .string (tx s)] w fun e w' => SetPost base (setD 116 s m) e w' ∧ Below w.heap.size w w' := by
  obtain ⟨b2, k2, r2, s2⟩ := two_boxes w (mvCs m (.slice aB nB cB) (.slice aD nD cD))
  have hzl : zeroM = #[.int .u8 0, .int .u8 0, .int .i64 0, .int .u64 0, .int .u64 0, .slice none 0 0, .int .u32 0, .int .u32 0, .slice none 0 0] := rfl
  obtain ⟨w2, hw2⟩ : ∃ w2, (w.alloc (.cells (mvCs m (.slice aB nB cB) (.slice aD nD cD)) 42)).alloc (.cells zeroM 42) = w2 := ⟨_, rfl⟩
  rw [hw2] at b2 k2 r2 s2
  rw [hzl] at hw2
  have HB0 := Lib.hid hB
  have HD0 := Lib.hid hD
  have HB2 := Lib.hid (hB.below b2)
  have HD2 := Lib.hid (hD.below b2)
  have B2 := Lib.hid b2
  have K2 := Lib.hid k2
  have R2 := Lib.hid r2
  have S2 := Lib.hid s2
  have HW2 := Lib.hid hw2
  have HBA := Lib.hid hbase
  clear b2 k2 r2 s2 hw2 hzl hB hD hbase
  have HC := Lib.hid (rnumber_any 4294967295 (by omega) (by omega) s w2)
  cases hk : numM 4294967295 s with
  | none =>
    have hv : setD 116 s m = none := by simp [setD, hk]
    rw [hv]
    have hn : numMV 4294967295 s = .tuple #[.int .u64 0, .bool false] := by simp [numMV, hk]
    rw [hn] at HC
    clear hn hk hv hs
    go_enter Tryd.func41, Tryd.ntmps41
    go_wp2_with (fail)
    rw [HW2.out]
    refine HC.out.mono ?_
    rintro x w3 ⟨rfl, b3⟩
    have k3 := K2.out.below b3
    have f3 := k3.free 7
    have c3 := k3.cell 7 _ rfl
    have K4 := Lib.hid ((k3.set 7 (.int .u32 0)).congr (show _ = mvCs { m with to_ := 0 } (.slice aB nB cB) (.slice aD nD cD) from rfl))
    have O4 := Lib.hid ((Only.refl (· = w.heap.size) w3).set 7 (.int .u32 0))
    have B3 := Lib.hid b3
    clear k3 b3
    go_wp2_with (with_reducible refine stop_loadm ?_)
    refine Stop.out ?_
    obtain ⟨w4, hw4⟩ : ∃ w4, w3.setCell ⟨w.heap.size, 7, none⟩ (.int .u32 0) = w4 := ⟨_, rfl⟩
    rw [hw4] at K4 O4 ⊢
    clear hw4 c3 f3
    have R4 := Lib.hid (O4.out.blk (R2.out.below B3.out) (by omega))
    refine wpList_loadAll Tryd.underlying42 move_size rfl rfl rfl K4.out rfl ?_
    go_wp2_with (with_reducible refine stop_storem ?_)
    refine Stop.out ?_
    refine wpList_storem rfl rfl rfl rfl (mvCs_one _ _ _ _ _ _ _) rfl rfl R4.out move_size ?_
    intro w5 hb5 on5
    have H5 := Lib.hid hb5
    have O5 := Lib.hid on5
    clear hb5 on5
    go_wp2_with (fail)
    refine bodyPost_ret (results_e rfl _ _ rfl rfl (ret_m _ _ _ rfl H5.out)) rfl ?_
    have hz : w2.heap.size ≤ w3.heap.size := B3.out.size
    have hz2 := S2.out
    have hfin : ∀ {a : Option Addr} {n cap : Nat} {l : List UInt8}, By w3 base a n cap l → (∀ x, a = some x → x.block ≠ w.heap.size ∧ x.block ≠ w.heap.size + 1) → By w5 base a n cap l := fun h hx => (h.only O4.out (fun x h1 => (hx x h1).1)).only O5.out (fun x h1 => (hx x h1).2)
    have hold : ∀ {a : Option Addr} {n cap : Nat} {l : List UInt8}, By w base a n cap l → ∀ x, a = some x → x.block ≠ w.heap.size ∧ x.block ≠ w.heap.size + 1 := fun h x hx => by have := (h.own.block hx).2.1; omega
    refine ⟨⟨{ m with to_ := 0 }, _, _, _, _, _, _, _, rfl, ?_, ?_, .inr ⟨rfl, rfl⟩⟩, ?_⟩
    · exact hfin (HB2.out.below B3.out) (hold HB0.out)
    · exact hfin (HD2.out.below B3.out) (hold HD0.out)
    · exact below_onto (below_onto (below_on B2.out B3.out (by omega)) O4.out (by omega) (by intro z hz h; omega)) O5.out (by have := O4.out.size; omega) (by intro z hz h; omega)
  | some u =>
    have hv : setD 116 s m = some { m with to_ := u } := by simp [setD, hk]
    rw [hv]
    have hn : numMV 4294967295 s = .tuple #[.int .u64 (u : Nat), .bool true] := by simp [numMV, hk]
    rw [hn] at HC
    have hmax : u ≤ 4294967295 := numM_max (by omega) hk
    have hmod : (u : Int) % 4294967296 = u := by omega
    clear hmax
    clear hn hk hv hs
    go_enter Tryd.func41, Tryd.ntmps41
    go_wp2_with (fail)
    rw [HW2.out]
    refine HC.out.mono ?_
    rintro x w3 ⟨rfl, b3⟩
    have k3 := K2.out.below b3
    have f3 := k3.free 7
    have c3 := k3.cell 7 _ rfl
    have K4 := Lib.hid ((k3.set 7 (.int .u32 (u : Nat))).congr (show _ = mvCs { m with to_ := u } (.slice aB nB cB) (.slice aD nD cD) from rfl))
    have O4 := Lib.hid ((Only.refl (· = w.heap.size) w3).set 7 (.int .u32 (u : Nat)))
    have B3 := Lib.hid b3
    clear k3 b3
    go_wp2_with (with_reducible refine stop_loadm ?_)
    refine Stop.out ?_
    obtain ⟨w4, hw4⟩ : ∃ w4, w3.setCell ⟨w.heap.size, 7, none⟩ (.int .u32 (u : Nat)) = w4 := ⟨_, rfl⟩
    rw [hw4] at K4 O4 ⊢
    clear hw4 c3 f3
    have R4 := Lib.hid (O4.out.blk (R2.out.below B3.out) (by omega))
    refine wpList_loadAll Tryd.underlying42 move_size rfl rfl rfl K4.out rfl ?_
    go_wp2_with (with_reducible refine stop_storem ?_)
    refine Stop.out ?_
    refine wpList_storem rfl rfl rfl rfl (mvCs_one _ _ _ _ _ _ _) rfl rfl R4.out move_size ?_
    intro w5 hb5 on5
    have H5 := Lib.hid hb5
    have O5 := Lib.hid on5
    clear hb5 on5
    go_wp2_with (fail)
    refine bodyPost_ret (results_e rfl _ _ rfl rfl (ret_m _ _ _ rfl H5.out)) rfl ?_
    have hz : w2.heap.size ≤ w3.heap.size := B3.out.size
    have hz2 := S2.out
    have hfin : ∀ {a : Option Addr} {n cap : Nat} {l : List UInt8}, By w3 base a n cap l → (∀ x, a = some x → x.block ≠ w.heap.size ∧ x.block ≠ w.heap.size + 1) → By w5 base a n cap l := fun h hx => (h.only O4.out (fun x h1 => (hx x h1).1)).only O5.out (fun x h1 => (hx x h1).2)
    have hold : ∀ {a : Option Addr} {n cap : Nat} {l : List UInt8}, By w base a n cap l → ∀ x, a = some x → x.block ≠ w.heap.size ∧ x.block ≠ w.heap.size + 1 := fun h x hx => by have := (h.own.block hx).2.1; omega
    refine ⟨⟨{ m with to_ := u }, _, _, _, _, _, _, _, rfl, ?_, ?_, .inl ⟨rfl, rfl⟩⟩, ?_⟩
    · exact hfin (HB2.out.below B3.out) (hold HB0.out)
    · exact hfin (HD2.out.below B3.out) (hold HD0.out)
    · exact below_onto (below_onto (below_on B2.out B3.out (by omega)) O4.out (by omega) (by intro z hz h; omega)) O5.out (by have := O4.out.size; omega) (by intro z hz h; omega)
set_option maxRecDepth 100000 in
set_option maxHeartbeats 16000000 in
theorem rset_100 (w : World) (base : Nat) (m : Mv) (s : List UInt8) {aB : Option Addr} {nB cB : Nat} {aD : Option Addr} {nD cD : Nat} (hB : By w base aB nB cB m.b) (hD : By w base aD nD cD m.d) (hbase : base ≤ w.heap.size) (hs : s.length ≤ 500000) :
    Calls Tryd.prog 41 #[.agg (mvCs m (.slice aB nB cB) (.slice aD nD cD)), .int .u8 100, .string (tx s)] w fun e w' => SetPost base (setD 100 s m) e w' ∧ Below w.heap.size w w' := by
  obtain ⟨b2, k2, r2, s2⟩ := two_boxes w (mvCs m (.slice aB nB cB) (.slice aD nD cD))
  have hzl : zeroM = #[.int .u8 0, .int .u8 0, .int .i64 0, .int .u64 0, .int .u64 0, .slice none 0 0, .int .u32 0, .int .u32 0, .slice none 0 0] := rfl
  obtain ⟨w2, hw2⟩ : ∃ w2, (w.alloc (.cells (mvCs m (.slice aB nB cB) (.slice aD nD cD)) 42)).alloc (.cells zeroM 42) = w2 := ⟨_, rfl⟩
  rw [hw2] at b2 k2 r2 s2
  rw [hzl] at hw2
  have HB0 := Lib.hid hB
  have HD0 := Lib.hid hD
  have HB2 := Lib.hid (hB.below b2)
  have HD2 := Lib.hid (hD.below b2)
  have B2 := Lib.hid b2
  have K2 := Lib.hid k2
  have R2 := Lib.hid r2
  have S2 := Lib.hid s2
  have HW2 := Lib.hid hw2
  have HBA := Lib.hid hbase
  clear b2 k2 r2 s2 hw2 hzl hB hD hbase
  have HC := Lib.hid (runhex_any s w2 hs)
  cases hk : unhexO s with
  | none =>
    have hv : setD 100 s m = none := by simp [setD, hk]
    rw [hv]
    have HU := Lib.hid hk
    clear hk hv hs
    go_enter Tryd.func41, Tryd.ntmps41
    go_wp2_with (fail)
    rw [HW2.out]
    refine HC.out.mono ?_
    rintro x w3 ⟨hx, b3⟩
    unfold UxPost at hx
    rw [HU.out] at hx
    dsimp only at hx
    subst hx
    have k3 := K2.out.below b3
    have f3 := k3.free 8
    have c3 := k3.cell 8 _ rfl
    have K4 := Lib.hid ((k3.set 8 (.slice none 0 0)).congr (show _ = mvCs { m with d := [] } (.slice aB nB cB) (.slice none 0 0) from rfl))
    have O4 := Lib.hid ((Only.refl (· = w.heap.size) w3).set 8 (.slice none 0 0))
    have B3 := Lib.hid b3
    clear k3 b3
    go_wp2_with (with_reducible refine stop_loadm ?_)
    refine Stop.out ?_
    obtain ⟨w4, hw4⟩ : ∃ w4, w3.setCell ⟨w.heap.size, 8, none⟩ (.slice none 0 0) = w4 := ⟨_, rfl⟩
    rw [hw4] at K4 O4 ⊢
    clear hw4 c3 f3
    have R4 := Lib.hid (O4.out.blk (R2.out.below B3.out) (by omega))
    refine wpList_loadAll Tryd.underlying42 move_size rfl rfl rfl K4.out rfl ?_
    go_wp2_with (with_reducible refine stop_storem ?_)
    refine Stop.out ?_
    refine wpList_storem rfl rfl rfl rfl (mvCs_one _ _ _ _ _ _ _) rfl rfl R4.out move_size ?_
    intro w5 hb5 on5
    have H5 := Lib.hid hb5
    have O5 := Lib.hid on5
    clear hb5 on5
    go_wp2_with (fail)
    refine bodyPost_ret (results_e rfl _ _ rfl rfl (ret_m _ _ _ rfl H5.out)) rfl ?_
    have hz : w2.heap.size ≤ w3.heap.size := B3.out.size
    have hz2 := S2.out
    have hfin : ∀ {a : Option Addr} {n cap : Nat} {l : List UInt8}, By w3 base a n cap l → (∀ x, a = some x → x.block ≠ w.heap.size ∧ x.block ≠ w.heap.size + 1) → By w5 base a n cap l := fun h hx => (h.only O4.out (fun x h1 => (hx x h1).1)).only O5.out (fun x h1 => (hx x h1).2)
    have hold : ∀ {a : Option Addr} {n cap : Nat} {l : List UInt8}, By w base a n cap l → ∀ x, a = some x → x.block ≠ w.heap.size ∧ x.block ≠ w.heap.size + 1 := fun h x hx => by have := (h.own.block hx).2.1; omega
    refine ⟨⟨{ m with d := [] }, _, _, _, _, _, _, _, rfl, ?_, ?_, .inr ⟨rfl, rfl⟩⟩, ?_⟩
    · exact hfin (HB2.out.below B3.out) (hold HB0.out)
    · exact By.nil _ _
    · exact below_onto (below_onto (below_on B2.out B3.out (by omega)) O4.out (by omega) (by intro z hz h; omega)) O5.out (by have := O4.out.size; omega) (by intro z hz h; omega)
  | some u =>
    have hv : setD 100 s m = some { m with d := u } := by simp [setD, hk]
    rw [hv]
    have HU := Lib.hid hk
    clear hk hv hs
    go_enter Tryd.func41, Tryd.ntmps41
    go_wp2_with (fail)
    rw [HW2.out]
    refine HC.out.mono ?_
    rintro x w3 ⟨hx, b3⟩
    unfold UxPost at hx
    rw [HU.out] at hx
    dsimp only at hx
    obtain ⟨aX, nX, cX, rfl, hX⟩ := hx
    have k3 := K2.out.below b3
    have f3 := k3.free 8
    have c3 := k3.cell 8 _ rfl
    have K4 := Lib.hid ((k3.set 8 (.slice aX nX cX)).congr (show _ = mvCs { m with d := u } (.slice aB nB cB) (.slice aX nX cX) from rfl))
    have O4 := Lib.hid ((Only.refl (· = w.heap.size) w3).set 8 (.slice aX nX cX))
    have B3 := Lib.hid b3
    have HX := Lib.hid hX
    clear hX
    clear k3 b3
    go_wp2_with (with_reducible refine stop_loadm ?_)
    refine Stop.out ?_
    obtain ⟨w4, hw4⟩ : ∃ w4, w3.setCell ⟨w.heap.size, 8, none⟩ (.slice aX nX cX) = w4 := ⟨_, rfl⟩
    rw [hw4] at K4 O4 ⊢
    clear hw4 c3 f3
    have R4 := Lib.hid (O4.out.blk (R2.out.below B3.out) (by omega))
    refine wpList_loadAll Tryd.underlying42 move_size rfl rfl rfl K4.out rfl ?_
    go_wp2_with (with_reducible refine stop_storem ?_)
    refine Stop.out ?_
    refine wpList_storem rfl rfl rfl rfl (mvCs_one _ _ _ _ _ _ _) rfl rfl R4.out move_size ?_
    intro w5 hb5 on5
    have H5 := Lib.hid hb5
    have O5 := Lib.hid on5
    clear hb5 on5
    go_wp2_with (fail)
    refine bodyPost_ret (results_e rfl _ _ rfl rfl (ret_m _ _ _ rfl H5.out)) rfl ?_
    have hz : w2.heap.size ≤ w3.heap.size := B3.out.size
    have hz2 := S2.out
    have hfin : ∀ {a : Option Addr} {n cap : Nat} {l : List UInt8}, By w3 base a n cap l → (∀ x, a = some x → x.block ≠ w.heap.size ∧ x.block ≠ w.heap.size + 1) → By w5 base a n cap l := fun h hx => (h.only O4.out (fun x h1 => (hx x h1).1)).only O5.out (fun x h1 => (hx x h1).2)
    have hold : ∀ {a : Option Addr} {n cap : Nat} {l : List UInt8}, By w base a n cap l → ∀ x, a = some x → x.block ≠ w.heap.size ∧ x.block ≠ w.heap.size + 1 := fun h x hx => by have := (h.own.block hx).2.1; omega
    refine ⟨⟨{ m with d := u }, _, _, _, _, _, _, _, rfl, ?_, ?_, .inl ⟨rfl, rfl⟩⟩, ?_⟩
    · exact hfin (HB2.out.below B3.out) (hold HB0.out)
    · exact hfin ((HX.out).base_le (by have := HBA.out; omega)) (fun x hx => by have := (HX.out.own.block hx).1; omega)
    · exact below_onto (below_onto (below_on B2.out B3.out (by omega)) O4.out (by omega) (by intro z hz h; omega)) O5.out (by have := O4.out.size; omega) (by intro z hz h; omega)
theorem rset_any (w : World) (base : Nat) (m : Mv) (s : List UInt8) (c : UInt8) (hc : c = 115 ∨ c = 110 ∨ c = 105 ∨ c = 99 ∨ c = 98 ∨ c = 102 ∨ c = 116 ∨ c = 100) {aB : Option Addr} {nB cB : Nat} {aD : Option Addr} {nD cD : Nat} (hB : By w base aB nB cB m.b) (hD : By w base aD nD cD m.d) (hbase : base ≤ w.heap.size) (hs : s.length ≤ 500000) :
    Calls Tryd.prog 41 #[.agg (mvCs m (.slice aB nB cB) (.slice aD nD cD)), .int .u8 c.toNat, .string (tx s)] w fun e w' => SetPost base (setD c s m) e w' ∧ Below w.heap.size w w' := by
  rcases hc with rfl | rfl | rfl | rfl | rfl | rfl | rfl | rfl
  · exact rset_115 w base m s hB hD hbase hs
  · exact rset_110 w base m s hB hD hbase hs
  · exact rset_105 w base m s hB hD hbase hs
  · exact rset_99 w base m s hB hD hbase hs
  · exact rset_98 w base m s hB hD hbase hs
  · exact rset_102 w base m s hB hD hbase hs
  · exact rset_116 w base m s hB hD hbase hs
  · exact rset_100 w base m s hB hD hbase hs
end Go.Proofs.YthangjgdjhhfgaaDoor
