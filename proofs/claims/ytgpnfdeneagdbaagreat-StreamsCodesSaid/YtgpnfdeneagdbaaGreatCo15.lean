/- A set of streams: what a frame of a stream does to it. -/
import Derived.Test.YtgpnfdeneagdbaaGreatCo14
namespace Go.Proofs.YtgpnfdeneagdbaaGreat
open Go.RowKit
set_option linter.unusedVariables false
/-- The cells of a frame without bytes. -/
structure FrC (fc : List Value) (kd id mx : Nat) : Prop where
  len : fc.length = 30
  one : ∀ v ∈ fc, v.oneCell' = true
  k : fc[0]? = some (.int .u64 kd)
  i : fc[1]? = some (.int .u64 id)
  o : fc[2]? = some (.int .u64 (0 : Nat))
  m : fc[3]? = some (.int .u64 mx)
  f : fc[6]? = some (.bool false)
  d : fc[7]? = some (.slice none 0 0)
theorem arr_get {fc : List Value} {k : Nat} {v : Value} (h : fc[k]? = some v) : fc.toArray[k]? = some v := by simpa using h
def DoesPost (s q : Nat) (cs : Array Value) (x : Strm) (w : World) (e : Ending) (w' : World) : Prop :=
  e = .returned (.int .u64 0) ∧ Only (fun k => k = s ∨ k = q) w w' ∧ Blk w' s cs 54 ∧ ∃ u : Nat, SdAt w' q { x with urg := u }
set_option maxRecDepth 100000 in
set_option maxHeartbeats 4000000 in
theorem does_any (s q : Nat) (cs : Array Value) (sv : Bool) (may cn : Nat → Nat) (fc : List Value) (kd id mx : Nat) (x : Strm) (w : World) (hb : Blk w s cs 54) (hI : StI cs sv may cn) (hx : SdAt w q x) (hsq : s ≠ q) (hf : FrC fc kd id mx) (hk : kd = 8 ∨ kd = 17 ∨ kd = 21) :
    Calls Tryz.prog 36 #[.pointer (some ⟨s, 0, none⟩), .pointer (some ⟨q, 0, none⟩), .agg fc.toArray] w fun e w' => DoesPost s q cs x w e w' := by
  have HB := Lib.hid hb
  have HI := Lib.hid hI
  have HX := Lib.hid hx
  have HF := Lib.hid hf
  clear hb hI hx hf
  have HSQ := Lib.hid hsq
  clear hsq
  rcases hk with rfl | rfl | rfl
  · go_enter Tryz.func36, Tryz.ntmps36
    go_upto_region 2 with (fail)
    have b1 : Below w.heap.size w (w.alloc (.cells fc.toArray 45)) := (Below.refl _ _).alloc (Nat.le_refl _) _
    have x1 := Blk.new w fc.toArray 45
    have z1 : (w.alloc (.cells fc.toArray 45)).heap.size = w.heap.size + 1 := alloc_size' _ _
    generalize (w.alloc (.cells fc.toArray 45)) = w1 at b1 x1 z1 ⊢
    have d0 := x1.cell 0 _ (arr_get HF.out.k)
    have d2 := x1.cell 2 _ (arr_get HF.out.o)
    have d3 := x1.cell 3 _ (arr_get HF.out.m)
    have d6 := x1.cell 6 _ (arr_get HF.out.f)
    have d7 := x1.cell 7 _ (arr_get HF.out.d)
    have HX1 := Lib.hid (show SdAt w1 q x from HX.out.below b1)
    have HB1 := Lib.hid (HB.out.below b1)
    have B1 := Lib.hid b1
    clear b1 x1 z1
    go_wp2_with (fail)
    refine rg_start 15 ?_
    refine rg_same fun p hx hne hC => ?_
    refine rg_quiet 6 [0,1,2,3,4,5,6,7,8] hC ?_
    simp only [pickD, List.map_cons, List.map_nil, List.getD_cons_zero, List.getD_cons_succ]; repeat (go_big_quiet_step (fail))
    refine wpQuiet_nil ?_
    refine rg_cut 9 ?_
    go_wp2_with (fail)
    refine (put_nil q x w1.drew HX1.out).mono ?_
    rintro e w2 ⟨rfl, on1, hx2⟩
    have on1 : Only (· = q) w1 w2 := (Only.refl _ _).drew.trans on1
    have hx2 : ∃ u : Nat, SdAt w2 q { x with urg := u } := ⟨x.urg, hx2⟩
    clear hx hne hC
    go_wp2_with (fail)
    refine rg_same fun p hx hne hC => ?_
    refine rg_quiet 0 [10,11,12,13,14] hC ?_
    simp only [pickD, List.map_cons, List.map_nil, List.getD_cons_zero, List.getD_cons_succ]; repeat (go_big_quiet_step (fail))
    refine wpQuiet_nil ?_
    refine rg_end ?_
    clear hx hne hC
    have on2 : Only (fun k => k = s ∨ k = q) w w2 := (only_of_below B1.out _).trans (on1.mono (fun k _ h => .inr h))
    have hbs : Blk w2 s cs 54 := on1.blk HB1.out HSQ.out
    have z2 := on1.size
    have ON2 := Lib.hid on2
    have BS2 := Lib.hid hbs
    have HX2 := Lib.hid hx2
    clear on1 on2 hbs hx2 d0 d2 d3 d6 d7
    go_wp2_with (fail)
    have b3 : Below w2.heap.size w2 (w2.alloc (.cells #[.int .u64 0] 23)) := (Below.refl _ _).alloc (Nat.le_refl _) _
    have hi : IntsAt .u64 (w2.alloc (.cells #[.int .u64 0] 23)) (some ⟨w2.heap.size, 0, none⟩) [0] := IntsAt.of_map (Blk.new w2 _ _) (by simp [wf0])
    refine (come_nil s cs sv may cn _ _ (BS2.out.below b3) HI.out hi).mono ?_
    rintro e w4 ⟨rfl, hb4, on4⟩
    go_wp2_with (fail)
    go_returns
    obtain ⟨u, hu⟩ := HX2.out
    exact ⟨rfl, (ON2.out.trans (only_of_below b3 _)).trans (on4.mono (fun k _ h => .inl h)), hb4, u, on4.blk (Blk.below hu b3) (fun h => HSQ.out h.symm)⟩
  · go_enter Tryz.func36, Tryz.ntmps36
    go_upto_region 2 with (fail)
    have b1 : Below w.heap.size w (w.alloc (.cells fc.toArray 45)) := (Below.refl _ _).alloc (Nat.le_refl _) _
    have x1 := Blk.new w fc.toArray 45
    have z1 : (w.alloc (.cells fc.toArray 45)).heap.size = w.heap.size + 1 := alloc_size' _ _
    generalize (w.alloc (.cells fc.toArray 45)) = w1 at b1 x1 z1 ⊢
    have d0 := x1.cell 0 _ (arr_get HF.out.k)
    have d2 := x1.cell 2 _ (arr_get HF.out.o)
    have d3 := x1.cell 3 _ (arr_get HF.out.m)
    have d6 := x1.cell 6 _ (arr_get HF.out.f)
    have d7 := x1.cell 7 _ (arr_get HF.out.d)
    have HX1 := Lib.hid (show SdAt w1 q x from HX.out.below b1)
    have HB1 := Lib.hid (HB.out.below b1)
    have B1 := Lib.hid b1
    clear b1 x1 z1
    go_wp2_with (fail)
    refine rg_start 6 ?_
    refine rg_same fun p hx hne hC => ?_
    refine rg_quiet 1 [0,1,2,3,4] hC ?_
    simp only [pickD, List.map_cons, List.map_nil, List.getD_cons_zero, List.getD_cons_succ]; repeat (go_big_quiet_step (fail))
    refine wpQuiet_nil ?_
    refine rg_cut 5 ?_
    go_wp2_with (fail)
    refine (allowO_any q mx x w1.drew HX1.out).mono ?_
    rintro e w2 ⟨rfl, on1, hx2⟩
    have on1 : Only (· = q) w1 w2 := (Only.refl _ _).drew.trans on1
    have hx2 : ∃ u : Nat, SdAt w2 q { x with urg := u } := ⟨_, hx2⟩
    clear hx hne hC
    go_wp2_with (fail)
    refine rg_end0 ?_
    have on2 : Only (fun k => k = s ∨ k = q) w w2 := (only_of_below B1.out _).trans (on1.mono (fun k _ h => .inr h))
    have hbs : Blk w2 s cs 54 := on1.blk HB1.out HSQ.out
    have z2 := on1.size
    have ON2 := Lib.hid on2
    have BS2 := Lib.hid hbs
    have HX2 := Lib.hid hx2
    clear on1 on2 hbs hx2 d0 d2 d3 d6 d7
    go_wp2_with (fail)
    have b3 : Below w2.heap.size w2 (w2.alloc (.cells #[.int .u64 0] 23)) := (Below.refl _ _).alloc (Nat.le_refl _) _
    have hi : IntsAt .u64 (w2.alloc (.cells #[.int .u64 0] 23)) (some ⟨w2.heap.size, 0, none⟩) [0] := IntsAt.of_map (Blk.new w2 _ _) (by simp [wf0])
    refine (come_nil s cs sv may cn _ _ (BS2.out.below b3) HI.out hi).mono ?_
    rintro e w4 ⟨rfl, hb4, on4⟩
    go_wp2_with (fail)
    go_returns
    obtain ⟨u, hu⟩ := HX2.out
    exact ⟨rfl, (ON2.out.trans (only_of_below b3 _)).trans (on4.mono (fun k _ h => .inl h)), hb4, u, on4.blk (Blk.below hu b3) (fun h => HSQ.out h.symm)⟩
  · go_enter Tryz.func36, Tryz.ntmps36
    go_upto_region 2 with (fail)
    have b1 : Below w.heap.size w (w.alloc (.cells fc.toArray 45)) := (Below.refl _ _).alloc (Nat.le_refl _) _
    have x1 := Blk.new w fc.toArray 45
    have z1 : (w.alloc (.cells fc.toArray 45)).heap.size = w.heap.size + 1 := alloc_size' _ _
    generalize (w.alloc (.cells fc.toArray 45)) = w1 at b1 x1 z1 ⊢
    have d0 := x1.cell 0 _ (arr_get HF.out.k)
    have d2 := x1.cell 2 _ (arr_get HF.out.o)
    have d3 := x1.cell 3 _ (arr_get HF.out.m)
    have d6 := x1.cell 6 _ (arr_get HF.out.f)
    have d7 := x1.cell 7 _ (arr_get HF.out.d)
    have HX1 := Lib.hid (show SdAt w1 q x from HX.out.below b1)
    have HB1 := Lib.hid (HB.out.below b1)
    have B1 := Lib.hid b1
    clear b1 x1 z1
    go_wp2_with (fail)
    have on1 : Only (· = q) w1 w1 := Only.refl _ _
    have hx2 : ∃ u : Nat, SdAt w1 q { x with urg := u } := ⟨x.urg, HX1.out⟩
    have on2 : Only (fun k => k = s ∨ k = q) w w1 := (only_of_below B1.out _).trans (on1.mono (fun k _ h => .inr h))
    have hbs : Blk w1 s cs 54 := on1.blk HB1.out HSQ.out
    have z2 := on1.size
    have ON2 := Lib.hid on2
    have BS2 := Lib.hid hbs
    have HX2 := Lib.hid hx2
    clear on1 on2 hbs hx2 d0 d2 d3 d6 d7
    have b3 : Below w1.heap.size w1 (w1.alloc (.cells #[.int .u64 0] 23)) := (Below.refl _ _).alloc (Nat.le_refl _) _
    have hi : IntsAt .u64 (w1.alloc (.cells #[.int .u64 0] 23)) (some ⟨w1.heap.size, 0, none⟩) [0] := IntsAt.of_map (Blk.new w1 _ _) (by simp [wf0])
    refine (come_nil s cs sv may cn _ _ (BS2.out.below b3) HI.out hi).mono ?_
    rintro e w4 ⟨rfl, hb4, on4⟩
    go_wp2_with (fail)
    go_returns
    obtain ⟨u, hu⟩ := HX2.out
    exact ⟨rfl, (ON2.out.trans (only_of_below b3 _)).trans (on4.mono (fun k _ h => .inl h)), hb4, u, on4.blk (Blk.below hu b3) (fun h => HSQ.out h.symm)⟩
end Go.Proofs.YtgpnfdeneagdbaaGreat
