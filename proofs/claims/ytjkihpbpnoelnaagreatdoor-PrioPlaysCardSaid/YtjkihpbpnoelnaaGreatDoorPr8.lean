/- Plans in memory: Set. -/
import Derived.Test.YtjkihpbpnoelnaaGreatDoorPr7
import Derived.Great.BuildSlice
namespace Go.Proofs.YtjkihpbpnoelnaaGreatDoor
open Go.RowKit
set_option linter.unusedVariables false
def setX (u : Nat) (b : Bool) (x : Strm) : Strm := { x with urg := u, inc := b }
def setR (u : Nat) (id : Nat) (L : List Strm) : Int := if 7 < u then 2 else if hasL id L then 0 else if 256 ≤ L.length then 7 else 0
def setL (u : Nat) (b : Bool) (id : Nat) (L : List Strm) : List Strm := if 7 < u then L else if hasL id L then updL id (setX u b) L else if 256 ≤ L.length then L else insL ⟨id, u, b, false, 0⟩ L
/-- Behind a call that may lay the row anew. -/
def NewPost (base q : Nat) (a : Option Addr) (ck : Nat) (L : List Strm) (r : Int) (w : World) (e : Ending) (w' : World) : Prop := e = .returned (.int .i64 r) ∧ Only (PS q a) w w' ∧ ∃ a' n' c', PlanAt w' base q a' n' c' ck L ∧ ∀ y, a' = some y → (∃ z, a = some z ∧ y.block = z.block) ∨ w.heap.size ≤ y.block
theorem same_spot (a : Option Addr) (w : World) : ∀ y, a = some y → (∃ z, a = some z ∧ y.block = z.block) ∨ w.heap.size ≤ y.block := fun y h => .inl ⟨y, h, rfl⟩
section
variable {ops : Array Oper} {rest : List Oper} {o : Oper} {a : Act} {w : World} {Q : Exit → Act → World → Prop}
theorem stop_bs {P : Program} {d : Option Tmp} {t : TypeId} {n : Nat} {x : Array (Nat × Operand)} {ty : TypeId} {pos : String} {aft : Array Edge} {g : Option (Nat × Bool)}
    (h : Stop (wpList P ops Q (⟨d, .buildSlice t n x, ty, pos, aft, g⟩ :: rest) a w)) : wpList P ops Q (⟨d, .buildSlice t n x, ty, pos, aft, g⟩ :: rest) a w := h
theorem fill_five (zs cs : Array Value) (h : zs.size = 5) (h2 : cs.size = 5) : Instr.fill (fun i => some (i * 5, 5)) zs [(0, .agg cs)] = some cs := by
  have := Great.fill_whole (s := 5) (by omega) [.agg cs] zs (fun v hv => by rw [List.mem_singleton] at hv; subst hv; exact h2) (by rw [h]; rfl)
  rw [List.flatMap_cons, List.flatMap_nil, List.append_nil] at this
  exact this
theorem wpList_bs1 (hg : o.guard = none) {x : Operand} (ho : o.op = .buildSlice 65 1 #[(0, x)]) {cs : Array Value} (hx : a.eval x = .agg cs) (h5 : cs.size = 5)
    (h : wpList Tryz.prog ops Q rest (a.put o.dst (.slice (some ⟨w.heap.size, 0, none⟩) 1 1)) (w.alloc (.cells cs 64))) : wpList Tryz.prog ops Q (o :: rest) a w := by
  obtain ⟨ie, z, hu, hie, hz, hs, hb, hc, hp⟩ := (strm_et : ET Tryz.prog 65 64 5 24)
  refine wpList_buildSlice hg 65 64 1 _ ho _ ie z hu hie hz (by omega) (by omega) ?_ h
  rw [hs]
  have hl : ((#[((0 : Nat), x)] : Array (Nat × Operand)).map fun (i, x) => (i, a.eval x)).toList = [((0 : Nat), Value.agg cs)] := by simp [hx]
  rw [hl]
  exact fill_five _ _ (by simp [hc]) h5
end
theorem PlanAt.relen {w : World} {base q n n' cap ck : Nat} {a : Option Addr} {L L' : List Strm} (h : PlanAt w base q a n cap ck L) (e : L = L') : PlanAt w base q a n cap ck L' := e ▸ h
set_option maxRecDepth 100000 in
set_option maxHeartbeats 4000000 in
theorem set_any (base q : Nat) (a : Option Addr) (n cap ck : Nat) (L : List Strm) (id u : Nat) (b : Bool) (w : World) (h : PlanAt w base q a n cap ck L) (hok : PlanOk L ck) (hbase : base ≤ w.heap.size) (hu : u < 256) (hid : id < 18446744073709551616) :
    Calls Tryz.prog 13 #[.pointer (some ⟨q, 0, none⟩), .int .u64 id, .agg #[.int .u8 u, .bool b]] w fun e w' => NewPost base q a ck (setL u b id L) (setR u id L) w e w' := by
  have lb := h.blk.lt
  have hl256 : n ≤ 256 := by rw [h.len]; exact hok.len
  have hcap := h.own.caps.1
  have hoffq : ∀ x, a = some x → x.block ≠ q := h.off
  have HOFF := Lib.hid hoffq
  have HN := Lib.hid h.len
  have H := Lib.hid h
  have HK := Lib.hid hok
  clear h hok hoffq
  obtain ⟨R, hR⟩ : ∃ R, setR u id L = R := ⟨_, rfl⟩
  obtain ⟨M, hM⟩ : ∃ M, setL u b id L = M := ⟨_, rfl⟩
  rw [hR, hM]
  unfold setR at hR
  unfold setL at hM
  have HF := fun W hW => find_any base q a n cap ck L id W hW HK.out
  obtain ⟨pos, hpos⟩ : ∃ k, posL id L = k := ⟨_, rfl⟩
  have hple : pos ≤ n := by rw [← hpos, HN.out]; exact posL_le id L
  rw [hpos] at HF
  by_cases h7 : 7 < u
  · rw [if_pos h7] at hR hM
    subst hR hM
    have HFH := Lib.hid HF
    have h7' : (7 : Int) < (u : Int) := by omega
    clear HF h7
    go_enter Tryz.func13, Tryz.ntmps13
    go_wp2_with (fail)
    refine (HFH.out _ (H.out.below ((Below.refl _ _).alloc (Nat.le_refl _) _))).mono ?_
    rintro e w1 ⟨hb1, rfl⟩
    have hb : Below w.heap.size w w1 := ((Below.refl _ _).alloc (Nat.le_refl _) _).trans (hb1.mono (by simp))
    have cx0 := (hb1.cell (p := ⟨w.heap.size, 0, none⟩) (by simp)).trans ((Blk.new w #[.int .u8 u, .bool b] 26).cell 0 _ rfl)
    go_wp2_with (fail)
    go_returns
    exact ⟨rfl, only_of_below hb _, a, n, cap, H.out.below hb, same_spot _ _⟩
  · rw [if_neg h7] at hR hM
    have h7' : ¬ (7 : Int) < (u : Int) := by omega
    clear h7
    cases hh : hasL id L with
    | true =>
      rw [if_pos hh] at hR hM
      subst hR hM
      obtain ⟨x, hx, hxi, hgx⟩ := at_pos HK.out.asc hh
      have hlt := ((hasL_iff id HK.out.asc).1 hh).1
      rw [hpos] at hx hgx hlt
      have hin : pos < n := by rw [HN.out]; exact hlt
      simp only [hh] at HF
      have HFH := Lib.hid HF
      have HX := Lib.hid (⟨hx, hxi, hgx⟩ : L[pos]? = some x ∧ x.id = id ∧ L.getD pos default = x)
      clear HF hx hxi hgx hlt hpos hh
      go_enter Tryz.func13, Tryz.ntmps13
      go_wp2_with (fail)
      refine (HFH.out _ (H.out.below ((Below.refl _ _).alloc (Nat.le_refl _) _))).mono ?_
      rintro e w1 ⟨hb1, rfl⟩
      have hb : Below w.heap.size w w1 := ((Below.refl _ _).alloc (Nat.le_refl _) _).trans (hb1.mono (by simp))
      have cx0 := (hb1.cell (p := ⟨w.heap.size, 0, none⟩) (by simp)).trans ((Blk.new w #[.int .u8 u, .bool b] 26).cell 0 _ rfl)
      have cx1 := (hb1.cell (p := ⟨w.heap.size, 1, none⟩) (by simp)).trans ((Blk.new w #[.int .u8 u, .bool b] 26).cell 1 _ rfl)
      have hP := H.out.below hb
      have c0 := hP.blk.cell 0 _ rfl
      have lb2 := hP.blk.lt
      have lw2 : w.heap.size < w1.heap.size := Nat.lt_of_lt_of_le (by simp) hb1.size
      obtain ⟨g, ha, hbg, hg, ⟨_, d1, d2, _, _⟩, hfr⟩ := hP.own.getF HX.out.1
      have hf1 := hfr 1 (by omega)
      have hf2 := hfr 2 (by omega)
      have B2 := Lib.hid hb
      have HP := Lib.hid hP
      have HA := Lib.hid ha
      rw [ha] at c0
      clear hb hb1 hP ha hfr
      go_wp2_with (fail)
      refine rg_start 9 ?_
      refine rg_same fun p hx hne hC => ?_
      refine rg_quiet 1 [0,1,2,3,4,5,6,7] hC ?_
      simp only [pickD, List.map_cons, List.map_nil, List.getD_cons_zero, List.getD_cons_succ]; repeat (go_big_quiet_step (fail))
      refine wpQuiet_nil ?_
      refine rg_cut 8 ?_
      go_wp2_with (fail)
      refine rg_end0 ?_
      clear hx hne hC
      go_wp2_with (fail)
      go_returns
      have hP2 : PlanAt w1.drew base q a n cap ck L := ⟨HP.out.blk, HP.out.own, HP.out.len, HP.out.off⟩
      have hP3 := hP2.setF HA.out HX.out.1 1 (by omega) (.int .u8 u) (fun x => { x with urg := u }) (fun x => rfl)
      have hx2 : (L.set pos { x with urg := u })[pos]? = some { x with urg := u } := by rw [List.getElem?_set_self (by have := HN.out; omega)]
      have hP4 := hP3.setF HA.out hx2 2 (by omega) (.bool b) (fun x => { x with inc := b }) (fun x => rfl)
      have he : (L.set pos { x with urg := u }).set pos { x with urg := u, inc := b } = updL id (setX u b) L := by
        rw [List.set_set]
        have := updL_set (L := L) (id := id) (setX u b) HK.out.asc (i := pos) (by have := HN.out; omega) (by rw [HX.out.2.2]; exact HX.out.2.1)
        rw [HX.out.2.2] at this; exact this
      refine ⟨rfl, ?_, a, n, cap, hP4.relen (n' := n) he, same_spot _ _⟩
      exact ((only_of_below B2.out _).drew.setCell (p := ⟨g, pos * 5 + 1, none⟩) (.inl (.inr ⟨_, HA.out, rfl⟩)) _).setCell (p := ⟨g, pos * 5 + 2, none⟩) (.inl (.inr ⟨_, HA.out, rfl⟩)) _
    | false =>
      rw [hh, if_neg (by simp)] at hR hM
      simp only [hh] at HF
      have HFH := Lib.hid HF
      by_cases h256 : 256 ≤ L.length
      · rw [if_pos h256] at hR hM
        subst hR hM
        have hn256 : (256 : Int) ≤ (n : Int) := by have := HN.out; omega
        clear HF hpos hh h256
        go_enter Tryz.func13, Tryz.ntmps13
        go_wp2_with (fail)
        refine (HFH.out _ (H.out.below ((Below.refl _ _).alloc (Nat.le_refl _) _))).mono ?_
        rintro e w1 ⟨hb1, rfl⟩
        have hb : Below w.heap.size w w1 := ((Below.refl _ _).alloc (Nat.le_refl _) _).trans (hb1.mono (by simp))
        have cx0 := (hb1.cell (p := ⟨w.heap.size, 0, none⟩) (by simp)).trans ((Blk.new w #[.int .u8 u, .bool b] 26).cell 0 _ rfl)
        have c0 := (H.out.below hb).blk.cell 0 _ rfl
        go_wp2_with (fail)
        go_returns
        exact ⟨rfl, only_of_below hb _, a, n, cap, H.out.below hb, same_spot _ _⟩
      · rw [if_neg h256] at hR hM
        subst hR
        have hn256 : ¬ (256 : Int) ≤ (n : Int) := by have := HN.out; omega
        have hins : L.take pos ++ ⟨id, u, b, false, 0⟩ :: L.drop pos = M := by rw [← hM, insL_at, ← hpos]
        have HINS := Lib.hid hins
        have HNH := Lib.hid hh
        have hn256' : n ≤ 255 := by have := HN.out; omega
        clear HF hpos hh h256 hM hins
        go_enter Tryz.func13, Tryz.ntmps13
        go_wp2_with (fail)
        refine (HFH.out _ (H.out.below ((Below.refl _ _).alloc (Nat.le_refl _) _))).mono ?_
        rintro e w1 ⟨hb1, rfl⟩
        have hb : Below w.heap.size w w1 := ((Below.refl _ _).alloc (Nat.le_refl _) _).trans (hb1.mono (by simp))
        have cx0 := (hb1.cell (p := ⟨w.heap.size, 0, none⟩) (by simp)).trans ((Blk.new w #[.int .u8 u, .bool b] 26).cell 0 _ rfl)
        have cx1 := (hb1.cell (p := ⟨w.heap.size, 1, none⟩) (by simp)).trans ((Blk.new w #[.int .u8 u, .bool b] 26).cell 1 _ rfl)
        have hP := H.out.below hb
        have c0 := hP.blk.cell 0 _ rfl
        have lb2 := hP.blk.lt
        have lw2 : w.heap.size < w1.heap.size := Nat.lt_of_lt_of_le (by simp) hb1.size
        have B2 := Lib.hid hb
        have HP := Lib.hid hP
        clear hb hb1 hP
        go_wp2_with (fail)
        refine rg_start 14 ?_
        refine rg_besides (fun k => ∃ y, a = some y ∧ y.block = k) fun p hx hne hC hbes => ?_
        have k0 : ∀ z : Wd p, z.w.cell? ⟨q, 0, none⟩ = some (.slice a n cap) := fun z => (hx z _ _ _ lb2 (fun ⟨y, hy, e⟩ => HOFF.out y hy e)).trans c0
        have kx0 : ∀ z : Wd p, z.w.cell? ⟨w.heap.size, 0, none⟩ = some (.int .u8 u) := fun z => (hx z _ _ _ lw2 (fun ⟨y, hy, e⟩ => by have := (H.out.own.block hy).2.1; omega)).trans cx0
        have kx1 : ∀ z : Wd p, z.w.cell? ⟨w.heap.size, 1, none⟩ = some (.bool b) := fun z => (hx z _ _ _ lw2 (fun ⟨y, hy, e⟩ => by have := (H.out.own.block hy).2.1; omega)).trans cx1
        refine rg_quiet 5 [0,1,2,3,4,5,6,7,8] hC ?_
        simp only [pickD, List.map_cons, List.map_nil, List.getD_cons_zero, List.getD_cons_succ]; repeat (go_big_quiet_step (fail))
        refine wpQuiet_nil ?_
        refine rg_act 9 ?_
        go_wp2_with (with_reducible refine stop_bs ?_)
        refine Stop.out ?_
        refine wpList_bs1 rfl rfl rfl rfl ?_
        go_wp2_with (fail)
        obtain ⟨W2, hW2⟩ : ∃ W2, (w1.alloc (.cells #[.int .u64 id, .int .u8 u, .bool b, .bool false, .int .u64 0] 64)).drew = W2 := ⟨_, rfl⟩
        have hB2 : Below w1.heap.size w1 W2 := by rw [← hW2]; exact ((Below.refl _ w1).alloc (Nat.le_refl _) _).drew
        have hV2 : Blk W2 w1.heap.size (strmV ⟨id, u, b, false, 0⟩).toArray 64 := by rw [← hW2]; exact (Blk.new w1 _ _).drew
        have hI := insert_any base a n cap pos w1.heap.size L ⟨id, u, b, false, 0⟩ W2 HN.out (HP.out.own.below hB2) hple hV2 (fun y hy e => by have := (HP.out.own.block hy).2.1; omega) hl256 (Nat.le_trans hbase (Nat.le_trans B2.out.size hB2.size))
        rw [HINS.out] at hI
        have HI := Lib.hid hI
        have HB2 := Lib.hid hB2
        have lq2 : q < W2.heap.size := Nat.lt_of_lt_of_le lb2 hB2.size
        clear hI hV2
        have hC2 : Cls p W2 := hbes _ (fun k hk hs => HB2.out.block k hk)
        rw [hW2]
        clear hW2 hB2
        refine ⟨hC2, ?_⟩
        refine rg_act 10 ?_
        go_wp2_with (fail)
        refine HI.out.mono ?_
        rintro e w3 ⟨a', c', rfl, ho3, hon3, hat3⟩
        have hC3 : Cls p w3 := hbes _ (fun k hk hs => (hon3.block k (Nat.lt_of_lt_of_le hk HB2.out.size) hs).trans (HB2.out.block k hk))
        have lq3 : q < w3.heap.size := Nat.lt_of_lt_of_le lq2 hon3.size
        have hq3 : Blk w3 q _ _ := hon3.blk (HP.out.blk.below HB2.out) (fun ⟨y, hy, e⟩ => HOFF.out y hy e)
        have f0 := hq3.free 0
        have c03 := hq3.cell 0 _ rfl
        have HQ3 := Lib.hid hq3
        have HO3 := Lib.hid ho3
        have HON3 := Lib.hid hon3
        have HAT3 := Lib.hid hat3
        clear ho3 hon3 hat3 hq3 hC hC2
        go_wp2_with (fail)
        refine ⟨hC3, ?_⟩
        refine rg_quiet 1 [11,12] hC3 ?_
        simp only [pickD, List.map_cons, List.map_nil, List.getD_cons_zero, List.getD_cons_succ]; repeat (go_big_quiet_step (fail))
        refine wpQuiet_nil ?_
        refine rg_cut 13 ?_
        go_wp2_with (fail)
        refine rg_end0 ?_
        clear hx hne hC3 hbes k0 kx0 kx1
        go_wp2_with (fail)
        go_returns
        have hoff' : ∀ y, a' = some y → y.block ≠ q := fun y hy e => by
          rcases HAT3.out y hy with ⟨z, hz, h1⟩ | h1
          · exact HOFF.out z hz (h1.symm.trans e)
          · omega
        have hq4 := HQ3.out.set 0 (.slice a' (n + 1) c')
        have hM : n + 1 = M.length := by rw [← HINS.out]; simp only [List.length_append, List.length_cons, List.length_take, List.length_drop]; have := HN.out; omega
        have hw3 : Only (PS q a) w w3 := (only_of_below (B2.out.trans (HB2.out.mono B2.out.size)) _).trans ((HON3.out).mono fun k _ h => .inr h)
        refine ⟨rfl, hw3.setCell (p := ⟨q, 0, none⟩) (.inl (.inl rfl)) _, a', n + 1, c', ⟨hq4.congr rfl, HO3.out.only (Only.setCell (Only.refl (· = q) _) (.inl rfl) _) (fun y hy e => hoff' y hy e), hM, hoff'⟩, fun y hy => ?_⟩
        rcases HAT3.out y hy with h1 | h1
        · exact .inl h1
        · exact .inr (Nat.le_trans (B2.out.trans (HB2.out.mono B2.out.size)).size h1)
end Go.Proofs.YtjkihpbpnoelnaaGreatDoor
