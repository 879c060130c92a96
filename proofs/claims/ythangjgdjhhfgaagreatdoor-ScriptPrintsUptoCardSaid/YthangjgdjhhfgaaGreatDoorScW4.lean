/- The reader's take (written by gen_scw4.py). -/
import Derived.Test.YthangjgdjhhfgaaGreatDoorScW3
namespace Go.Proofs.YthangjgdjhhfgaaGreatDoor
open Go.RowKit
set_option linter.unusedVariables false
/-- Bytes of one's own. -/
structure By (w : World) (base : Nat) (a : Option Addr) (n cap : Nat) (l : List UInt8) : Prop where
  own : OwnS w base 5 1 a n cap (l.map fun c => Value.int .u8 c.toNat)
  len : n = l.length
  small : l.length ≤ 1000000
theorem By.nil (w : World) (base : Nat) : By w base none 0 0 [] := ⟨OwnS.nil _ _ _ _, rfl, by simp⟩
theorem By.only {S : Nat → Prop} {w w' : World} {base : Nat} {a : Option Addr} {n cap : Nat} {l : List UInt8} (h : By w base a n cap l) (hb : Only S w w') (hs : ∀ x, a = some x → ¬ S x.block) : By w' base a n cap l := ⟨h.own.only hb hs, h.len, h.small⟩
def mvCs (m : Mv) (vb vd : Value) : Array Value := #[.int .u8 m.kind, .int .u8 m.side, .int .i64 m.n, .int .u64 m.id, .int .u64 m.code, vb, .int .u32 m.from_, .int .u32 m.to_, vd]
/-- A move in a block of its own; its bytes lie elsewhere. -/
structure MvAt (w : World) (base rb mb : Nat) (m : Mv) : Prop where
  ex : ∃ aB nB cB aD nD cD, Blk w mb (mvCs m (.slice aB nB cB) (.slice aD nD cD)) 35 ∧ By w base aB nB cB m.b ∧ By w base aD nD cD m.d ∧ (∀ x, aB = some x → x.block ≠ rb ∧ x.block ≠ mb) ∧ (∀ x, aD = some x → x.block ≠ rb ∧ x.block ≠ mb)
theorem MvAt.only {w w' : World} {base rb mb : Nat} {m : Mv} (h : MvAt w base rb mb m) (hb : Only (· = rb) w w') (hne : mb ≠ rb) : MvAt w' base rb mb m := by
  obtain ⟨aB, nB, cB, aD, nD, cD, h1, h2, h3, h4, h5⟩ := h
  exact ⟨aB, nB, cB, aD, nD, cD, hb.blk h1 hne, h2.only hb (fun x hx => (h4 x hx).1), h3.only hb (fun x hx => (h5 x hx).1), h4, h5⟩
theorem MvAt.below {w w' : World} {base rb mb : Nat} {m : Mv} (h : MvAt w base rb mb m) (hb : Below w.heap.size w w') : MvAt w' base rb mb m := by
  obtain ⟨aB, nB, cB, aD, nD, cD, h1, h2, h3, h4, h5⟩ := h
  exact ⟨aB, nB, cB, aD, nD, cD, h1.below hb, h2.only (only_of_below hb (fun _ => False)) (fun _ _ h => h), h3.only (only_of_below hb (fun _ => False)) (fun _ _ h => h), h4, h5⟩
theorem MvAt.free {w : World} {base rb mb : Nat} {m : Mv} (h : MvAt w base rb mb m) (i : Nat) : w.frozen? ⟨mb, i, none⟩ = false := by
  obtain ⟨aB, nB, cB, aD, nD, cD, h1, _⟩ := h
  exact h1.free i
theorem MvAt.some_ {w : World} {base rb mb : Nat} {m : Mv} (h : MvAt w base rb mb m) (i : Nat) (hi : i < 9) : ∃ v, w.cell? ⟨mb, i, none⟩ = some v := by
  obtain ⟨aB, nB, cB, aD, nD, cD, h1, _⟩ := h
  exact ⟨_, h1.cell i _ (Array.getElem?_eq_getElem (by simpa [mvCs] using hi))⟩
theorem only_set (w : World) (b i : Nat) (u : Value) : Only (· = b) w (w.setCell ⟨b, i, none⟩ u) := (Only.refl _ w).set i u
theorem MvAt.set_side {w : World} {base rb mb : Nat} {m : Mv} (h : MvAt w base rb mb m) (x : Nat) : MvAt (w.setCell ⟨mb, 1, none⟩ (.int .u8 x)) base rb mb { m with side := x } := by
  obtain ⟨aB, nB, cB, aD, nD, cD, h1, h2, h3, h4, h5⟩ := h
  exact ⟨aB, nB, cB, aD, nD, cD, (h1.set 1 _).congr rfl, h2.only (only_set _ _ _ _) (fun x hx => (h4 x hx).2), h3.only (only_set _ _ _ _) (fun x hx => (h5 x hx).2), h4, h5⟩
theorem MvAt.set_n {w : World} {base rb mb : Nat} {m : Mv} (h : MvAt w base rb mb m) (x : Int) : MvAt (w.setCell ⟨mb, 2, none⟩ (.int .i64 x)) base rb mb { m with n := x } := by
  obtain ⟨aB, nB, cB, aD, nD, cD, h1, h2, h3, h4, h5⟩ := h
  exact ⟨aB, nB, cB, aD, nD, cD, (h1.set 2 _).congr rfl, h2.only (only_set _ _ _ _) (fun x hx => (h4 x hx).2), h3.only (only_set _ _ _ _) (fun x hx => (h5 x hx).2), h4, h5⟩
theorem MvAt.set_id {w : World} {base rb mb : Nat} {m : Mv} (h : MvAt w base rb mb m) (x : Nat) : MvAt (w.setCell ⟨mb, 3, none⟩ (.int .u64 x)) base rb mb { m with id := x } := by
  obtain ⟨aB, nB, cB, aD, nD, cD, h1, h2, h3, h4, h5⟩ := h
  exact ⟨aB, nB, cB, aD, nD, cD, (h1.set 3 _).congr rfl, h2.only (only_set _ _ _ _) (fun x hx => (h4 x hx).2), h3.only (only_set _ _ _ _) (fun x hx => (h5 x hx).2), h4, h5⟩
theorem MvAt.set_code {w : World} {base rb mb : Nat} {m : Mv} (h : MvAt w base rb mb m) (x : Nat) : MvAt (w.setCell ⟨mb, 4, none⟩ (.int .u64 x)) base rb mb { m with code := x } := by
  obtain ⟨aB, nB, cB, aD, nD, cD, h1, h2, h3, h4, h5⟩ := h
  exact ⟨aB, nB, cB, aD, nD, cD, (h1.set 4 _).congr rfl, h2.only (only_set _ _ _ _) (fun x hx => (h4 x hx).2), h3.only (only_set _ _ _ _) (fun x hx => (h5 x hx).2), h4, h5⟩
theorem MvAt.set_from_ {w : World} {base rb mb : Nat} {m : Mv} (h : MvAt w base rb mb m) (x : Nat) : MvAt (w.setCell ⟨mb, 6, none⟩ (.int .u32 x)) base rb mb { m with from_ := x } := by
  obtain ⟨aB, nB, cB, aD, nD, cD, h1, h2, h3, h4, h5⟩ := h
  exact ⟨aB, nB, cB, aD, nD, cD, (h1.set 6 _).congr rfl, h2.only (only_set _ _ _ _) (fun x hx => (h4 x hx).2), h3.only (only_set _ _ _ _) (fun x hx => (h5 x hx).2), h4, h5⟩
theorem MvAt.set_to_ {w : World} {base rb mb : Nat} {m : Mv} (h : MvAt w base rb mb m) (x : Nat) : MvAt (w.setCell ⟨mb, 7, none⟩ (.int .u32 x)) base rb mb { m with to_ := x } := by
  obtain ⟨aB, nB, cB, aD, nD, cD, h1, h2, h3, h4, h5⟩ := h
  exact ⟨aB, nB, cB, aD, nD, cD, (h1.set 7 _).congr rfl, h2.only (only_set _ _ _ _) (fun x hx => (h4 x hx).2), h3.only (only_set _ _ _ _) (fun x hx => (h5 x hx).2), h4, h5⟩
theorem MvAt.set_b {w : World} {base rb mb : Nat} {m : Mv} (h : MvAt w base rb mb m) {a : Option Addr} {n cap : Nat} {l : List UInt8} (hl : By w base a n cap l) (hx : ∀ x, a = some x → x.block ≠ rb ∧ x.block ≠ mb) : MvAt (w.setCell ⟨mb, 5, none⟩ (.slice a n cap)) base rb mb { m with b := l } := by
  obtain ⟨aB, nB, cB, aD, nD, cD, h1, h2, h3, h4, h5⟩ := h
  exact ⟨a, n, cap, aD, nD, cD, (h1.set 5 _).congr rfl, hl.only (only_set _ _ _ _) (fun x h => (hx x h).2), h3.only (only_set _ _ _ _) (fun x hx => (h5 x hx).2), hx, h5⟩
theorem MvAt.set_d {w : World} {base rb mb : Nat} {m : Mv} (h : MvAt w base rb mb m) {a : Option Addr} {n cap : Nat} {l : List UInt8} (hl : By w base a n cap l) (hx : ∀ x, a = some x → x.block ≠ rb ∧ x.block ≠ mb) : MvAt (w.setCell ⟨mb, 8, none⟩ (.slice a n cap)) base rb mb { m with d := l } := by
  obtain ⟨aB, nB, cB, aD, nD, cD, h1, h2, h3, h4, h5⟩ := h
  exact ⟨aB, nB, cB, a, n, cap, (h1.set 8 _).congr rfl, h2.only (only_set _ _ _ _) (fun x hx => (h4 x hx).2), hl.only (only_set _ _ _ _) (fun x h => (hx x h).2), h4, hx⟩
theorem RdAt.other {w w' : World} {rb wb mb : Nat} {ws : List (List UInt8)} {bad : Bool} (h : RdAt w rb ws bad wb) (hb : Only (· = mb) w w') (h1 : rb ≠ mb) (h2 : wb ≠ mb) : RdAt w' rb ws bad wb := by
  obtain ⟨⟨o, k1, k2⟩, h3, h4, h5⟩ := h
  exact ⟨⟨o, hb.blk k1 h1, fun i hi => (hb.cell (p := ⟨wb, o + i, none⟩) h4 h2).trans (k2 i hi)⟩, h3, Nat.lt_of_lt_of_le h4 hb.size, h5⟩
theorem numM_le {M : Nat} {s : List UInt8} {u : Nat} (h : numM M s = some u) (h9 : 9 ≤ M := by decide) : u ≤ M := by
  unfold numM at h
  split at h
  · cases h
  · exact ((refLoop_iff M h9 s 0 u (Nat.zero_le _)).1 h).2.2
/-- The reader and the move, so far. -/
def TkAt (w : World) (base rb wb mb : Nat) (ws : List (List UInt8)) (st : Option Mv) : Prop := ∃ bad m, RdAt w rb ws bad wb ∧ MvAt w base rb mb m ∧ ((bad = false ∧ st = some m) ∨ (bad = true ∧ st = none))
def TkPost (base rb wb mb : Nat) (ws : List (List UInt8)) (st : Option Mv) (w : World) (e : Ending) (w' : World) : Prop := e = .returned (.tuple #[]) ∧ TkAt w' base rb wb mb ws st ∧ Only (fun k => k = rb ∨ k = mb) w w'
theorem only_rb {w w' : World} {rb mb : Nat} (h : Only (· = rb) w w') : Only (fun k => k = rb ∨ k = mb) w w' := h.mono fun k _ e => .inl e
theorem only_mb {w w' : World} {rb mb : Nat} (h : Only (· = mb) w w') : Only (fun k => k = rb ∨ k = mb) w w' := h.mono fun k _ e => .inr e
theorem only_bel {B : Nat} {S : Nat → Prop} {W0 w w' : World} (h : Below B W0 w) (ho : Only S w w') (hB : B ≤ w.heap.size) (hS : ∀ k, k < B → ¬ S k) : Below B W0 w' := below_onto h ho hB hS
set_option maxRecDepth 100000 in
set_option maxHeartbeats 8000000 in
theorem take_115 (W0 w : World) (rb wb mb : Nat) (s : List UInt8) (ws : List (List UInt8)) (st : Option Mv) (h : TkAt w W0.heap.size rb wb mb (s :: ws) st) (hV : Vars W0) (hW : Below W0.heap.size W0 w) (hrb : W0.heap.size ≤ rb) (hmb : W0.heap.size ≤ mb) (hne : mb ≠ rb) (hwm : wb ≠ mb) (hs : s.length < 1000000) :
    Calls Tryz.prog 39 #[.pointer (some ⟨rb, 0, none⟩), .pointer (some ⟨mb, 0, none⟩), .int .i32 115] w fun e w' => TkPost W0.heap.size rb wb mb ws (st.bind (setO 115 (s :: ws))) w e w' := by
  obtain ⟨bad, m, hR, hM, hst⟩ := h
  have HC := Lib.hid (rnum_any W0 w rb wb 8 (by decide) s ws bad hR hV hW hrb (by omega))
  have HM := Lib.hid hM
  have HST := Lib.hid hst
  have HNE := Lib.hid hne
  have HWM := Lib.hid hwm
  have HLT : Hid (mb < w.heap.size) := Lib.hid (by obtain ⟨_, _, _, _, _, _, h1, _⟩ := hM; exact h1.lt)
  have HRLT : Hid (rb < w.heap.size) := Lib.hid (by obtain ⟨⟨_, h1, _⟩, _⟩ := hR; exact h1.lt)
  clear hV hW hrb hmb hne hwm hs hR hM hst
  go_enter Tryz.func39, Tryz.ntmps39
  go_wp2_with (fail)
  refine HC.out.mono ?_
  rintro e w1 ⟨u, b, rfl, hu, hr1, on1, hd⟩
  have M1 := Lib.hid (HM.out.only on1 HNE.out)
  have R1 := Lib.hid hr1
  have O1 := Lib.hid on1
  have f1 := M1.out.free 1
  obtain ⟨v1, c1⟩ := M1.out.some_ 1 (by decide)
  have HD := Lib.hid hd
  clear on1 hr1 hd
  go_wp2_with (fail)
  refine bodyPost_ret (results_none rfl _ _ _) rfl ?_
  have hset := M1.out.set_side (u % 256)
  refine ⟨rfl, ⟨b, _, R1.out.other (only_set _ _ _ _) (Ne.symm HNE.out) HWM.out, hset, ?_⟩, (only_rb O1.out).trans (only_mb (only_set _ _ _ _))⟩
  rcases HD.out with ⟨hb, hbad, hn⟩ | ⟨hb, hbad⟩
  · left
    refine ⟨hb, ?_⟩
    rcases HST.out with ⟨_, h2⟩ | ⟨h1, _⟩
    · rw [h2]
      show setO 115 (s :: ws) m = _
      rw [show setO 115 (s :: ws) m = (numM 255 s).map (fun x => { m with side := x }) from rfl]
      have hn' : numM 255 s = some u := hn
      rw [hn']
      have h255 : u ≤ 255 := numM_le hn
      simp [Nat.mod_eq_of_lt (show u < 256 by omega)]
    · rw [hbad] at h1; cases h1
  · right
    refine ⟨hb, ?_⟩
    rcases HST.out with ⟨h1, h2⟩ | ⟨_, h2⟩
    · rcases hbad with h3 | h3
      · rw [h1] at h3; cases h3
      · rw [h2]
        show setO 115 (s :: ws) m = none
        rw [show setO 115 (s :: ws) m = (numM 255 s).map (fun x => { m with side := x }) from rfl]
        have hn' : numM 255 s = none := h3
        rw [hn']
        rfl
    · rw [h2]; rfl
set_option maxRecDepth 100000 in
set_option maxHeartbeats 8000000 in
theorem take_110 (W0 w : World) (rb wb mb : Nat) (s : List UInt8) (ws : List (List UInt8)) (st : Option Mv) (h : TkAt w W0.heap.size rb wb mb (s :: ws) st) (hV : Vars W0) (hW : Below W0.heap.size W0 w) (hrb : W0.heap.size ≤ rb) (hmb : W0.heap.size ≤ mb) (hne : mb ≠ rb) (hwm : wb ≠ mb) (hs : s.length < 1000000) :
    Calls Tryz.prog 39 #[.pointer (some ⟨rb, 0, none⟩), .pointer (some ⟨mb, 0, none⟩), .int .i32 110] w fun e w' => TkPost W0.heap.size rb wb mb ws (st.bind (setO 110 (s :: ws))) w e w' := by
  obtain ⟨bad, m, hR, hM, hst⟩ := h
  have HC := Lib.hid (rwhole_any W0 w rb wb s ws bad hR hV hW hrb (by omega))
  have HM := Lib.hid hM
  have HST := Lib.hid hst
  have HNE := Lib.hid hne
  have HWM := Lib.hid hwm
  have HLT : Hid (mb < w.heap.size) := Lib.hid (by obtain ⟨_, _, _, _, _, _, h1, _⟩ := hM; exact h1.lt)
  have HRLT : Hid (rb < w.heap.size) := Lib.hid (by obtain ⟨⟨_, h1, _⟩, _⟩ := hR; exact h1.lt)
  clear hV hW hrb hmb hne hwm hs hR hM hst
  go_enter Tryz.func39, Tryz.ntmps39
  go_wp2_with (fail)
  refine HC.out.mono ?_
  rintro e w1 ⟨u, b, rfl, hr1, on1, hd⟩
  have M1 := Lib.hid (HM.out.only on1 HNE.out)
  have R1 := Lib.hid hr1
  have O1 := Lib.hid on1
  have f1 := M1.out.free 2
  obtain ⟨v1, c1⟩ := M1.out.some_ 2 (by decide)
  have HD := Lib.hid hd
  clear on1 hr1 hd
  go_wp2_with (fail)
  refine bodyPost_ret (results_none rfl _ _ _) rfl ?_
  have hset := M1.out.set_n u
  refine ⟨rfl, ⟨b, _, R1.out.other (only_set _ _ _ _) (Ne.symm HNE.out) HWM.out, hset, ?_⟩, (only_rb O1.out).trans (only_mb (only_set _ _ _ _))⟩
  rcases HD.out with ⟨hb, hbad, hn⟩ | ⟨hb, hbad⟩
  · left
    refine ⟨hb, ?_⟩
    rcases HST.out with ⟨_, h2⟩ | ⟨h1, _⟩
    · rw [h2]
      show setO 110 (s :: ws) m = _
      rw [show setO 110 (s :: ws) m = (intO s).map (fun x => { m with n := x }) from rfl]
      have hn' : intO s = some u := hn
      rw [hn']
      rfl
    · rw [hbad] at h1; cases h1
  · right
    refine ⟨hb, ?_⟩
    rcases HST.out with ⟨h1, h2⟩ | ⟨_, h2⟩
    · rcases hbad with h3 | h3
      · rw [h1] at h3; cases h3
      · rw [h2]
        show setO 110 (s :: ws) m = none
        rw [show setO 110 (s :: ws) m = (intO s).map (fun x => { m with n := x }) from rfl]
        have hn' : intO s = none := h3
        rw [hn']
        rfl
    · rw [h2]; rfl
set_option maxRecDepth 100000 in
set_option maxHeartbeats 8000000 in
theorem take_105 (W0 w : World) (rb wb mb : Nat) (s : List UInt8) (ws : List (List UInt8)) (st : Option Mv) (h : TkAt w W0.heap.size rb wb mb (s :: ws) st) (hV : Vars W0) (hW : Below W0.heap.size W0 w) (hrb : W0.heap.size ≤ rb) (hmb : W0.heap.size ≤ mb) (hne : mb ≠ rb) (hwm : wb ≠ mb) (hs : s.length < 1000000) :
    Calls Tryz.prog 39 #[.pointer (some ⟨rb, 0, none⟩), .pointer (some ⟨mb, 0, none⟩), .int .i32 105] w fun e w' => TkPost W0.heap.size rb wb mb ws (st.bind (setO 105 (s :: ws))) w e w' := by
  obtain ⟨bad, m, hR, hM, hst⟩ := h
  have HC := Lib.hid (rnum_any W0 w rb wb 64 (by decide) s ws bad hR hV hW hrb (by omega))
  have HM := Lib.hid hM
  have HST := Lib.hid hst
  have HNE := Lib.hid hne
  have HWM := Lib.hid hwm
  have HLT : Hid (mb < w.heap.size) := Lib.hid (by obtain ⟨_, _, _, _, _, _, h1, _⟩ := hM; exact h1.lt)
  have HRLT : Hid (rb < w.heap.size) := Lib.hid (by obtain ⟨⟨_, h1, _⟩, _⟩ := hR; exact h1.lt)
  clear hV hW hrb hmb hne hwm hs hR hM hst
  go_enter Tryz.func39, Tryz.ntmps39
  go_wp2_with (fail)
  refine HC.out.mono ?_
  rintro e w1 ⟨u, b, rfl, hu, hr1, on1, hd⟩
  have M1 := Lib.hid (HM.out.only on1 HNE.out)
  have R1 := Lib.hid hr1
  have O1 := Lib.hid on1
  have f1 := M1.out.free 3
  obtain ⟨v1, c1⟩ := M1.out.some_ 3 (by decide)
  have HD := Lib.hid hd
  clear on1 hr1 hd
  go_wp2_with (fail)
  refine bodyPost_ret (results_none rfl _ _ _) rfl ?_
  have hset := M1.out.set_id u
  refine ⟨rfl, ⟨b, _, R1.out.other (only_set _ _ _ _) (Ne.symm HNE.out) HWM.out, hset, ?_⟩, (only_rb O1.out).trans (only_mb (only_set _ _ _ _))⟩
  rcases HD.out with ⟨hb, hbad, hn⟩ | ⟨hb, hbad⟩
  · left
    refine ⟨hb, ?_⟩
    rcases HST.out with ⟨_, h2⟩ | ⟨h1, _⟩
    · rw [h2]
      show setO 105 (s :: ws) m = _
      rw [show setO 105 (s :: ws) m = (numM M64 s).map (fun x => { m with id := x }) from rfl]
      have hn' : numM M64 s = some u := hn
      rw [hn']
      rfl
    · rw [hbad] at h1; cases h1
  · right
    refine ⟨hb, ?_⟩
    rcases HST.out with ⟨h1, h2⟩ | ⟨_, h2⟩
    · rcases hbad with h3 | h3
      · rw [h1] at h3; cases h3
      · rw [h2]
        show setO 105 (s :: ws) m = none
        rw [show setO 105 (s :: ws) m = (numM M64 s).map (fun x => { m with id := x }) from rfl]
        have hn' : numM M64 s = none := h3
        rw [hn']
        rfl
    · rw [h2]; rfl
set_option maxRecDepth 100000 in
set_option maxHeartbeats 8000000 in
theorem take_99 (W0 w : World) (rb wb mb : Nat) (s : List UInt8) (ws : List (List UInt8)) (st : Option Mv) (h : TkAt w W0.heap.size rb wb mb (s :: ws) st) (hV : Vars W0) (hW : Below W0.heap.size W0 w) (hrb : W0.heap.size ≤ rb) (hmb : W0.heap.size ≤ mb) (hne : mb ≠ rb) (hwm : wb ≠ mb) (hs : s.length < 1000000) :
    Calls Tryz.prog 39 #[.pointer (some ⟨rb, 0, none⟩), .pointer (some ⟨mb, 0, none⟩), .int .i32 99] w fun e w' => TkPost W0.heap.size rb wb mb ws (st.bind (setO 99 (s :: ws))) w e w' := by
  obtain ⟨bad, m, hR, hM, hst⟩ := h
  have HC := Lib.hid (rnum_any W0 w rb wb 64 (by decide) s ws bad hR hV hW hrb (by omega))
  have HM := Lib.hid hM
  have HST := Lib.hid hst
  have HNE := Lib.hid hne
  have HWM := Lib.hid hwm
  have HLT : Hid (mb < w.heap.size) := Lib.hid (by obtain ⟨_, _, _, _, _, _, h1, _⟩ := hM; exact h1.lt)
  have HRLT : Hid (rb < w.heap.size) := Lib.hid (by obtain ⟨⟨_, h1, _⟩, _⟩ := hR; exact h1.lt)
  clear hV hW hrb hmb hne hwm hs hR hM hst
  go_enter Tryz.func39, Tryz.ntmps39
  go_wp2_with (fail)
  refine HC.out.mono ?_
  rintro e w1 ⟨u, b, rfl, hu, hr1, on1, hd⟩
  have M1 := Lib.hid (HM.out.only on1 HNE.out)
  have R1 := Lib.hid hr1
  have O1 := Lib.hid on1
  have f1 := M1.out.free 4
  obtain ⟨v1, c1⟩ := M1.out.some_ 4 (by decide)
  have HD := Lib.hid hd
  clear on1 hr1 hd
  go_wp2_with (fail)
  refine bodyPost_ret (results_none rfl _ _ _) rfl ?_
  have hset := M1.out.set_code u
  refine ⟨rfl, ⟨b, _, R1.out.other (only_set _ _ _ _) (Ne.symm HNE.out) HWM.out, hset, ?_⟩, (only_rb O1.out).trans (only_mb (only_set _ _ _ _))⟩
  rcases HD.out with ⟨hb, hbad, hn⟩ | ⟨hb, hbad⟩
  · left
    refine ⟨hb, ?_⟩
    rcases HST.out with ⟨_, h2⟩ | ⟨h1, _⟩
    · rw [h2]
      show setO 99 (s :: ws) m = _
      rw [show setO 99 (s :: ws) m = (numM M64 s).map (fun x => { m with code := x }) from rfl]
      have hn' : numM M64 s = some u := hn
      rw [hn']
      rfl
    · rw [hbad] at h1; cases h1
  · right
    refine ⟨hb, ?_⟩
    rcases HST.out with ⟨h1, h2⟩ | ⟨_, h2⟩
    · rcases hbad with h3 | h3
      · rw [h1] at h3; cases h3
      · rw [h2]
        show setO 99 (s :: ws) m = none
        rw [show setO 99 (s :: ws) m = (numM M64 s).map (fun x => { m with code := x }) from rfl]
        have hn' : numM M64 s = none := h3
        rw [hn']
        rfl
    · rw [h2]; rfl
set_option maxRecDepth 100000 in
set_option maxHeartbeats 8000000 in
theorem take_98 (W0 w : World) (rb wb mb : Nat) (s : List UInt8) (ws : List (List UInt8)) (st : Option Mv) (h : TkAt w W0.heap.size rb wb mb (s :: ws) st) (hV : Vars W0) (hW : Below W0.heap.size W0 w) (hrb : W0.heap.size ≤ rb) (hmb : W0.heap.size ≤ mb) (hne : mb ≠ rb) (hwm : wb ≠ mb) (hs : s.length < 1000000) :
    Calls Tryz.prog 39 #[.pointer (some ⟨rb, 0, none⟩), .pointer (some ⟨mb, 0, none⟩), .int .i32 98] w fun e w' => TkPost W0.heap.size rb wb mb ws (st.bind (setO 98 (s :: ws))) w e w' := by
  obtain ⟨bad, m, hR, hM, hst⟩ := h
  have HC := Lib.hid (rbytes_any W0 w rb wb s ws bad hR hW hrb hs)
  have HM := Lib.hid hM
  have HST := Lib.hid hst
  have HNE := Lib.hid hne
  have HWM := Lib.hid hwm
  have HLT : Hid (mb < w.heap.size) := Lib.hid (by obtain ⟨_, _, _, _, _, _, h1, _⟩ := hM; exact h1.lt)
  have HRLT : Hid (rb < w.heap.size) := Lib.hid (by obtain ⟨⟨_, h1, _⟩, _⟩ := hR; exact h1.lt)
  have HW0 := Lib.hid hW.size
  have HSL := Lib.hid hs
  clear hV hW hrb hmb hne hwm hs hR hM hst
  go_enter Tryz.func39, Tryz.ntmps39
  go_wp2_with (fail)
  refine HC.out.mono ?_
  rintro e w1 ⟨a, n, cap, l, b, rfl, hr1, on1, ho, hn, hln, hd⟩
  have M1 := Lib.hid (HM.out.only on1 HNE.out)
  have R1 := Lib.hid hr1
  have O1 := Lib.hid on1
  have HO := Lib.hid ho
  have HN := Lib.hid hn
  have HLN := Lib.hid hln
  have f1 := M1.out.free 5
  obtain ⟨v1, c1⟩ := M1.out.some_ 5 (by decide)
  have HD := Lib.hid hd
  clear on1 hr1 hd ho hn hln
  go_wp2_with (fail)
  refine bodyPost_ret (results_none rfl _ _ _) rfl ?_
  have hby : By w1 W0.heap.size a n cap l := ⟨HO.out.base_le HW0.out, HN.out, by have := HLN.out; have := HSL.out; omega⟩
  have hset := M1.out.set_b hby (fun x hx => by have := (HO.out.block hx).1; have := HLT.out; have := HRLT.out; omega)
  refine ⟨rfl, ⟨b, _, R1.out.other (only_set _ _ _ _) (Ne.symm HNE.out) HWM.out, hset, ?_⟩, (only_rb O1.out).trans (only_mb (only_set _ _ _ _))⟩
  rcases HD.out with ⟨hb, hn⟩ | ⟨hb, hn⟩
  · rcases HST.out with ⟨h1, h2⟩ | ⟨h1, h2⟩
    · left
      refine ⟨hb.trans h1, ?_⟩
      rw [h2]
      show setO 98 (s :: ws) m = _
      rw [show setO 98 (s :: ws) m = (unhexO s).map (fun x => { m with b := x }) from rfl, hn]
      rfl
    · right
      exact ⟨hb.trans h1, by rw [h2]; rfl⟩
  · right
    refine ⟨hb, ?_⟩
    rcases HST.out with ⟨h1, h2⟩ | ⟨_, h2⟩
    · rw [h2]
      show setO 98 (s :: ws) m = none
      rw [show setO 98 (s :: ws) m = (unhexO s).map (fun x => { m with b := x }) from rfl, hn]
      rfl
    · rw [h2]; rfl
end Go.Proofs.YthangjgdjhhfgaaGreatDoor
