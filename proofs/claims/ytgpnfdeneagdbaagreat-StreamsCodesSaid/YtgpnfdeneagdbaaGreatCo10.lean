/- A set of streams: a stream is opened. -/
import Derived.Test.YtgpnfdeneagdbaaGreatCo9
import Derived.Great.BuildSlice
namespace Go.Proofs.YtgpnfdeneagdbaaGreat
open Go.RowKit
set_option linter.unusedVariables false
section
variable {ops : Array Oper} {rest : List Oper} {o : Oper} {a : Act} {w : World} {Q : Exit → Act → World → Prop}
theorem stop_sto {P : Program} {d : Option Tmp} {t : TypeId} {x y : Operand} {ty : TypeId} {pos : String} {aft : Array Edge} {g : Option (Nat × Bool)}
    (h : Stop (wpList P ops Q (⟨d, .store t x y, ty, pos, aft, g⟩ :: rest) a w)) : wpList P ops Q (⟨d, .store t x y, ty, pos, aft, g⟩ :: rest) a w := h
theorem fill_SS (zs cs : Array Value) (h : zs.size = 28) (h2 : cs.size = 28) : Instr.fill (fun i => some (i * 28, 28)) zs [(0, .agg cs)] = some cs := by
  have := Great.fill_whole (s := 28) (by omega) [.agg cs] zs (fun v hv => by rw [List.mem_singleton] at hv; subst hv; exact h2) (by rw [h]; rfl)
  rw [List.flatMap_cons, List.flatMap_nil, List.append_nil] at this
  exact this
theorem wpList_bsS (hg : o.guard = none) {x : Operand} (ho : o.op = .buildSlice 52 1 #[(0, x)]) {cs : Array Value} (hx : a.eval x = .agg cs) (h5 : cs.size = 28)
    (h : wpList Tryz.prog ops Q rest (a.put o.dst (.slice (some ⟨w.heap.size, 0, none⟩) 1 1)) (w.alloc (.cells cs 68))) : wpList Tryz.prog ops Q (o :: rest) a w := by
  obtain ⟨ie, z, hu, hie, hz, hs, hb, hc, hp⟩ := (ss_et : ET Tryz.prog 52 68 28 256)
  refine wpList_buildSlice hg 52 68 1 _ ho _ ie z hu hie hz (by omega) (by omega) ?_ h
  rw [hs]
  have hl : ((#[((0 : Nat), x)] : Array (Nat × Operand)).map fun (i, x) => (i, a.eval x)).toList = [((0 : Nat), Value.agg cs)] := by simp [hx]
  rw [hl]
  exact fill_SS _ _ (by simp [hc]) h5
end
/-- A set in memory: its block's cells, its list in a row of the call's own. -/
structure StAt (w : World) (s base : Nat) (sv : Bool) (own peer : Nat → Nat) (cs : Array Value) (a : Option Addr) (n cap : Nat) (L : List Strm) : Prop where
  blk : Blk w s cs 54
  srv : cs[13]? = some (.bool sv)
  o : ∀ k, k < 3 → cs[18 + k]? = some (.int .u64 (own k)) ∧ own k < 18446744073709551616
  p : ∀ k, k < 3 → cs[46 + k]? = some (.int .u64 (peer k)) ∧ peer k < 18446744073709551616
  l : cs[70]? = some (.slice a n cap)
  row : OwnS w base 68 28 a n cap (L.flatMap ssV)
  len : n = L.length
  off : s < base
  bs : base ≤ w.heap.size
section
variable {w w' : World} {s base n cap : Nat} {sv : Bool} {own peer : Nat → Nat} {cs : Array Value} {a : Option Addr} {L : List Strm}
theorem StAt.sc (h : StAt w s base sv own peer cs a n cap L) : SC w s sv own peer := ⟨h.blk.cell 13 _ h.srv, fun k hk => ⟨h.blk.cell _ _ (h.o k hk).1, (h.o k hk).2⟩, fun k hk => ⟨h.blk.cell _ _ (h.p k hk).1, (h.p k hk).2⟩⟩
theorem StAt.below (h : StAt w s base sv own peer cs a n cap L) (hb : Below w.heap.size w w') : StAt w' s base sv own peer cs a n cap L := ⟨h.blk.below hb, h.srv, h.o, h.p, h.l, h.row.below hb, h.len, h.off, Nat.le_trans h.bs hb.size⟩
end
def AddPost (s base : Nat) (sv : Bool) (own peer : Nat → Nat) (cs : Array Value) (n : Nat) (L : List Strm) (id : Nat) (w : World) (e : Ending) (w' : World) : Prop :=
  ∃ (om im : Nat) (a' : Option Addr) (c' : Nat), e = .returned (.tuple #[]) ∧ StAt w' s base sv own peer (cs.setIfInBounds 70 (.slice a' (n + 1) c')) a' (n + 1) c' (insL (mkS id om im) L) ∧ Only (· = s) w w' ∧ ∀ y, a' = some y → w.heap.size ≤ y.block
theorem of_drew {B : Nat} {w w' : World} (h : Below B w w') : Below B w.drew w' := ⟨h.os, h.tape, h.output, h.size, h.block⟩
theorem alloc_size' (w : World) (o : Obj) : (w.alloc o).heap.size = w.heap.size + 1 := by simp
theorem add_fin {w w8 : World} {s base n cap : Nat} {sv : Bool} {own peer : Nat → Nat} {cs : Array Value} {a : Option Addr} {L : List Strm} {id om im : Nat} {a8 : Option Addr} {c8 : Nat} (H : StAt w s base sv own peer cs a n cap L) (b8 : Below w.heap.size w w8)
    (h8 : Blk w8 s cs 54) (o8 : OwnS w8 base 68 28 a8 (n + 1) c8 ((insL (mkS id om im) L).flatMap ssV)) (ha : ∀ y, a8 = some y → w.heap.size ≤ y.block) :
    AddPost s base sv own peer cs n L id w (.returned (.tuple #[])) (w8.setCell ⟨s, 70, none⟩ (.slice a8 (n + 1) c8)) := by
  have hl := (Array.getElem?_eq_some_iff.1 H.l).1
  have hoff := H.off
  have hbs := H.bs
  refine ⟨om, im, a8, c8, rfl, ⟨h8.set 70 _, ?_, fun k hk => ?_, fun k hk => ?_, by simp [hl], o8.only ((Only.refl (· = s) _).set _ _) (fun y hy e => by have := ha y hy; omega), by rw [insL_len, H.len], hoff, by have := b8.size; simpa using (by omega : base ≤ w8.heap.size)⟩, ((only_of_below b8 (· = s)).set _ _), ha⟩
  · rw [Array.getElem?_setIfInBounds_ne (by omega)]; exact H.srv
  · rw [Array.getElem?_setIfInBounds_ne (by omega)]; exact H.o k hk
  · rw [Array.getElem?_setIfInBounds_ne (by omega)]; exact H.p k hk
set_option maxRecDepth 100000 in
set_option maxHeartbeats 8000000 in
theorem add_any (s base : Nat) (sv : Bool) (own peer : Nat → Nat) (cs : Array Value) (a : Option Addr) (n cap : Nat) (L : List Strm) (id : Nat) (w : World) (h : StAt w s base sv own peer cs a n cap L) (hA : Asc L) (hn : n ≤ 250) (hid : id < 18446744073709551616) :
    Calls Tryz.prog 24 #[.pointer (some ⟨s, 0, none⟩), .int .u64 id] w fun e w' => AddPost s base sv own peer cs n L id w e w' := by
  have H := Lib.hid h
  have HA := Lib.hid hA
  clear h hA
  go_enter Tryz.func24, Tryz.ntmps24
  go_wp2_with (with_reducible refine stop_sto ?_)
  refine Stop.out ?_
  refine wpList_storePart rfl rfl (b := w.heap.size) (q := 0) (T := 68) (ssV (mkS 0 0 0)) (ssV (mkS id 0 0)) rfl rfl (Blk.new w _ _) ss_size (by simp [ssV_len]) (ssV_one _) ?_
  intro w2 hb2 o2
  have x2 : Blk w2 w.heap.size (ssV (mkS id 0 0)).toArray 68 := hb2
  have b2 : Below w.heap.size w w2 := below_onto ((Below.refl _ _).alloc (Nat.le_refl _) _) o2 (by simp) (fun k hk e => by omega)
  have s2 : w.heap.size < w2.heap.size := x2.lt
  clear hb2 o2
  have lsw : s < w.heap.size := by have := H.out.off; have := H.out.bs; omega
  have B2 := Lib.hid b2
  have X2 := Lib.hid x2
  clear b2 x2
  go_wp2_with (fail)
  refine (limits_any s sv own peer id w2 hid (H.out.below B2.out).sc (by omega)).mono ?_
  rintro e w3 ⟨hb3, om, im, hom, him, rfl⟩
  have b3 : Below w.heap.size w w3 := below_on B2.out hb3 (by omega)
  have s3 := hb3.size
  have x3 := X2.out.below hb3
  have f4 := x3.free 4
  have f19 := x3.free 19
  have c4 := x3.cell 4 _ rfl
  have c19 := x3.cell 19 _ rfl
  have B3 := Lib.hid b3
  have X3 := Lib.hid x3
  clear b3 x3 hb3 B2 X2
  go_wp2_with (fail)
  have b4 : Below w.heap.size w ((w3.setCell ⟨w.heap.size, 4, none⟩ (.int .u64 om)).setCell ⟨w.heap.size, 19, none⟩ (.int .u64 im)) := (B3.out.setCell (Nat.le_refl _) _).setCell (Nat.le_refl _) _
  have x4 : Blk ((w3.setCell ⟨w.heap.size, 4, none⟩ (.int .u64 om)).setCell ⟨w.heap.size, 19, none⟩ (.int .u64 im)) w.heap.size (ssV (mkS id om im)).toArray 68 := Blk.congr ((X3.out.set 4 _).set 19 _) rfl
  have s4 : ((w3.setCell ⟨w.heap.size, 4, none⟩ (.int .u64 om)).setCell ⟨w.heap.size, 19, none⟩ (.int .u64 im)).heap.size = w3.heap.size := by simp
  generalize ((w3.setCell ⟨w.heap.size, 4, none⟩ (.int .u64 om)).setCell ⟨w.heap.size, 19, none⟩ (.int .u64 im)) = w4 at b4 x4 s4 ⊢
  have H4 := H.out.below b4
  refine (at_any s base a n cap L id w4 (H4.blk.cell 70 _ H4.l) H4.len H4.row HA.out (by have := H4.len; omega)).mono ?_
  rintro e w5 ⟨hb5, rfl⟩
  have b5 : Below w.heap.size w w5 := below_on b4 hb5 (by omega)
  have x5 := x4.below hb5
  have s5 := hb5.size
  have H5 := H4.below hb5
  have c70 := H5.blk.cell 70 _ H5.l
  have l5 : s < w5.heap.size := H5.blk.lt
  have B5 := Lib.hid b5
  have X5 := Lib.hid x5
  have H5 := Lib.hid H5
  clear b4 x4 H4 hb5 b5 x5 X3 B3 f4 f19 c4 c19
  obtain ⟨pos, hpos⟩ : ∃ k, posL id L = k := ⟨_, rfl⟩
  have hple : pos ≤ n := by rw [← hpos, H.out.len]; exact posL_le id L
  have HINS : Hid (L.take pos ++ mkS id om im :: L.drop pos = insL (mkS id om im) L) := Lib.hid (by rw [insL_at, ← hpos]; rfl)
  rw [hpos]
  clear hpos
  generalize hasL id L = hb
  go_wp2_with (fail)
  refine rg_start 13 ?_
  refine rg_below fun p hx hne hC hbel => ?_
  have k0 : ∀ z : Wd p, z.w.cell? ⟨s, 70, none⟩ = some (.slice a n cap) := fun z => (hx z _ _ _ l5).trans c70
  have kx : ∀ z, Cls p z → ∀ j v, (ssV (mkS id om im))[j]? = some v → z.cell? ⟨w.heap.size, 0 + j, none⟩ = some v := fun z hz j v hv => by
    obtain ⟨y, rfl⟩ := hz
    have hj : (ssV (mkS id om im)).toArray[j]? = some v := by simpa using hv
    have lw : w.heap.size < w5.heap.size := by omega
    rw [Nat.zero_add]
    exact (hx y _ _ _ lw).trans (X5.out.cell j v hj)
  refine rg_quiet 6 [0,1,2,3,4,6,7] hC ?_
  simp only [pickD, List.map_cons, List.map_nil, List.getD_cons_zero, List.getD_cons_succ]
  repeat (go_big_quiet_step (fail))
  refine wpQuiet_loadPart (ssV (mkS id om im)) Tryz.underlying68 rfl ss_size rfl rfl rfl kx ?_
  refine wpQuiet_nil ?_
  refine rg_among [5, 8] ?_
  simp only [List.forall_mem_cons, List.getD_cons_zero, List.getD_cons_succ]
  refine ⟨?_, ?_, by simp⟩
  · go_wp2_with (fail)
    refine (clone_any base a n cap L w5.drew (H5.out.row.below (Below.refl _ _).drew) (by omega) H5.out.bs).mono ?_
    rintro e w6 ⟨a7, c7, rfl, ho7, hb7, hat7⟩
    go_wp2_with (fail)
    refine ⟨hbel _ hb7, ?_⟩
    refine rg_act 8 ?_
    go_wp2_with (with_reducible refine stop_bs ?_)
    refine Stop.out ?_
    refine wpList_bsS rfl rfl (cs := (ssV (mkS id om im)).toArray) rfl rfl ?_
    have b56 : Below w5.heap.size w5 w6 := below_on (Below.refl w5.heap.size w5).drew hb7 (Nat.le_refl _)
    have V7 := Lib.hid (Blk.new w6 (ssV (mkS id om im)).toArray 68)
    have b6 : Below w6.heap.size w6 (w6.alloc (.cells (ssV (mkS id om im)).toArray 68)) := (Below.refl _ _).alloc (Nat.le_refl _) _
    have z6 : (w6.alloc (.cells (ssV (mkS id om im)).toArray 68)).heap.size = w6.heap.size + 1 := alloc_size' _ _
    have OFF7 : Hid (∀ y, a7 = some y → w6.heap.size ≠ y.block) := Lib.hid (fun y hy e => by have := (ho7.block hy).2.1; omega)
    generalize (w6.alloc (.cells (ssV (mkS id om im)).toArray 68)) = w7 at V7 b6 z6 ⊢
    have BB7 := Lib.hid (below_on b56 b6 b56.size)
    have B7 := Lib.hid (below_on B5.out BB7.out B5.out.size)
    have O7 := Lib.hid (ho7.below b6)
    have AT57 : Hid (∀ y, a7 = some y → w5.heap.size ≤ y.block) := Lib.hid hat7
    have hb7' := BB7.out
    have s67 := b56.size
    clear ho7 hb7 hat7 b56 b6
    go_wp2_with (fail)
    refine ⟨hbel _ (of_drew hb7'), ?_⟩
    clear hb7'
    refine rg_act 9 ?_
    go_wp2_with (fail)
    refine (insert_any base a7 n c7 pos w6.heap.size L (mkS id om im) w7 H.out.len O7.out hple V7.out OFF7.out (by omega) (by have := H.out.bs; have := B7.out.size; omega)).mono ?_
    rintro e w8 ⟨a8, c8, rfl, ho8, hon8, hat8⟩
    have b8 : Below w.heap.size w w8 := below_onto B7.out hon8 B7.out.size (fun k hk e => by obtain ⟨y, hy, e⟩ := e; have := AT57.out y hy; have := B5.out.size; omega)
    have b58 : Below w5.heap.size w5 w8 := below_onto BB7.out hon8 BB7.out.size (fun k hk e => by obtain ⟨y, hy, e⟩ := e; have := AT57.out y hy; omega)
    have hbk : Blk w8 s cs 54 := (H.out.blk.below b8)
    have c8' := hbk.cell 70 _ H.out.l
    have f8 := hbk.free 70
    have A8 : Hid (∀ y, a8 = some y → w.heap.size ≤ y.block) := Lib.hid (fun y hy => by
      have s5' := B5.out.size
      have s57 := BB7.out.size
      rcases hat8 y hy with ⟨z, hz, e⟩ | e
      · rw [e]; have := AT57.out z hz; omega
      · omega)
    have B8 := Lib.hid b8
    have H8 := Lib.hid hbk
    have l8 : s < w8.heap.size := H8.out.lt
    have O8 := Lib.hid ho8
    clear hon8 hat8 ho8 hbk
    go_wp2_with (fail)
    have hC8 := hbel _ (of_drew b58)
    refine ⟨hC8, ?_⟩
    clear b58 b8
    refine rg_quiet 1 [10,11] hC8 ?_
    simp only [pickD, List.map_cons, List.map_nil, List.getD_cons_zero, List.getD_cons_succ]; repeat (go_big_quiet_step (fail))
    refine wpQuiet_nil ?_
    refine rg_cut 12 ?_
    go_wp2_with (fail)
    refine rg_end0 ?_
    clear hx hne hC hC8 hbel kx k0
    go_wp2_with (fail)
    go_returns
    rw [HINS.out] at O8
    exact add_fin H.out B8.out H8.out O8.out A8.out
  · go_wp2_with (with_reducible refine stop_bs ?_)
    refine Stop.out ?_
    refine wpList_bsS rfl rfl (cs := (ssV (mkS id om im)).toArray) rfl rfl ?_
    have V6 := Lib.hid (Blk.new w5.drew (ssV (mkS id om im)).toArray 68)
    have b56 : Below w5.heap.size w5 (w5.drew.alloc (.cells (ssV (mkS id om im)).toArray 68)) := (Below.refl w5.heap.size w5).drew.alloc (Nat.le_refl _) _
    have z6 : (w5.drew.alloc (.cells (ssV (mkS id om im)).toArray 68)).heap.size = w5.heap.size + 1 := alloc_size' _ _
    generalize (w5.drew.alloc (.cells (ssV (mkS id om im)).toArray 68)) = w6 at V6 b56 z6 ⊢
    have hb6' := b56
    have B56 := Lib.hid b56
    clear b56
    go_wp2_with (fail)
    refine ⟨hbel _ (of_drew hb6'), ?_⟩
    clear hb6'
    refine rg_act 5 ?_
    go_wp2_with (fail)
    refine (clone_any base a n cap L w6 (H5.out.row.below B56.out) (by omega) (by have := H5.out.bs; omega)).mono ?_
    rintro e w7 ⟨a7, c7, rfl, ho7, hb7, hat7⟩
    have BB7 := Lib.hid (below_on B56.out hb7 B56.out.size)
    have B7 := Lib.hid (below_on B5.out BB7.out B5.out.size)
    have O7 := Lib.hid ho7
    have V7 := Lib.hid (V6.out.below hb7)
    have OFF7 : Hid (∀ y, a7 = some y → w5.heap.size ≠ y.block) := Lib.hid (fun y hy e => by have := hat7 y hy; omega)
    have AT57 : Hid (∀ y, a7 = some y → w5.heap.size ≤ y.block) := Lib.hid (fun y hy => by have := hat7 y hy; omega)
    have hb7' := BB7.out
    clear ho7 hb7 hat7
    go_wp2_with (fail)
    refine ⟨hbel _ (of_drew hb7'), ?_⟩
    clear hb7'
    refine rg_act 9 ?_
    go_wp2_with (fail)
    refine (insert_any base a7 n c7 pos w5.heap.size L (mkS id om im) w7 H.out.len O7.out hple V7.out OFF7.out (by omega) (by have := H.out.bs; have := B7.out.size; omega)).mono ?_
    rintro e w8 ⟨a8, c8, rfl, ho8, hon8, hat8⟩
    have b8 : Below w.heap.size w w8 := below_onto B7.out hon8 B7.out.size (fun k hk e => by obtain ⟨y, hy, e⟩ := e; have := AT57.out y hy; have := B5.out.size; omega)
    have b58 : Below w5.heap.size w5 w8 := below_onto BB7.out hon8 BB7.out.size (fun k hk e => by obtain ⟨y, hy, e⟩ := e; have := AT57.out y hy; omega)
    have hbk : Blk w8 s cs 54 := (H.out.blk.below b8)
    have c8' := hbk.cell 70 _ H.out.l
    have f8 := hbk.free 70
    have A8 : Hid (∀ y, a8 = some y → w.heap.size ≤ y.block) := Lib.hid (fun y hy => by
      have s5' := B5.out.size
      have s57 := BB7.out.size
      rcases hat8 y hy with ⟨z, hz, e⟩ | e
      · rw [e]; have := AT57.out z hz; omega
      · omega)
    have B8 := Lib.hid b8
    have H8 := Lib.hid hbk
    have l8 : s < w8.heap.size := H8.out.lt
    have O8 := Lib.hid ho8
    clear hon8 hat8 ho8 hbk
    go_wp2_with (fail)
    have hC8 := hbel _ (of_drew b58)
    refine ⟨hC8, ?_⟩
    clear b58 b8
    refine rg_quiet 1 [10,11] hC8 ?_
    simp only [pickD, List.map_cons, List.map_nil, List.getD_cons_zero, List.getD_cons_succ]; repeat (go_big_quiet_step (fail))
    refine wpQuiet_nil ?_
    refine rg_cut 12 ?_
    go_wp2_with (fail)
    refine rg_end0 ?_
    clear hx hne hC hC8 hbel kx k0
    go_wp2_with (fail)
    go_returns
    rw [HINS.out] at O8
    exact add_fin H.out B8.out H8.out O8.out A8.out
end Go.Proofs.YtgpnfdeneagdbaaGreat
