/- Plans in memory: Next, Serve, Ready, Len. -/
import Derived.Test.YtjkihpbpnoelnaaGreatDoorPr5
namespace Go.Proofs.YtjkihpbpnoelnaaGreatDoor
open Go.RowKit
set_option linter.unusedVariables false

/-- The blocks of a plan. -/
def PS (q : Nat) (a : Option Addr) (k : Nat) : Prop := k = q ∨ ∃ x, a = some x ∧ x.block = k
theorem PlanAt.setF {w : World} {base q n cap ck : Nat} {a : Option Addr} {L : List Strm} (h : PlanAt w base q a n cap ck L) {g : Nat} (ha : a = some ⟨g, 0, none⟩) {i : Nat} {x : Strm} (hx : L[i]? = some x) (j : Nat) (hj : j < 5) (v : Value) (f : Strm → Strm) (hf : ∀ x, strmV (f x) = (strmV x).set j v) :
    PlanAt (w.setCell ⟨g, i * 5 + j, none⟩ v) base q a n cap ck (L.set i (f x)) := by
  refine ⟨?_, ?_, by rw [List.length_set]; exact h.len, h.off⟩
  · exact h.blk.setOther _ _ (fun e => h.off _ ha e.symm)
  · rw [← flat_set strmV_len j hj v f hf L i x hx]
    exact h.own.setS5 g ha _ v
theorem PlanAt.clock {w : World} {base q n cap ck : Nat} {a : Option Addr} {L : List Strm} (h : PlanAt w base q a n cap ck L) (c : Nat) : PlanAt (w.setCell ⟨q, 1, none⟩ (.int .u64 c)) base q a n cap c L :=
  ⟨(h.blk.set 1 (.int .u64 c)).congr rfl, h.own.only (Only.setCell (Only.refl (· = q) w) (.inl rfl) _) (fun x hx e => h.off x hx e), h.len, h.off⟩
theorem at_pos {L : List Strm} {id : Nat} (hA : Asc L) (h : hasL id L = true) : ∃ x, L[posL id L]? = some x ∧ x.id = id ∧ L.getD (posL id L) default = x := by
  obtain ⟨h1, h2⟩ := (hasL_iff id hA).1 h
  refine ⟨L[posL id L], by simp, ?_, by simp [h1]⟩
  have e : L.getD (posL id L) default = L[posL id L] := by simp [h1]
  rw [e] at h2; exact h2
theorem pos_of {L : List Strm} (hA : Asc L) {i : Nat} {x : Strm} (hx : L[i]? = some x) : posL x.id L = i ∧ hasL x.id L = true := by
  obtain ⟨hi, he⟩ := List.getElem?_eq_some_iff.1 hx
  have hg : L.getD i default = x := by simp [hi, he]
  refine ⟨(posL_eq x.id hA (by omega) (fun j hj => by have := hA.lt hj hi; rw [hg] at this; exact this) (fun j h1 h2 => by
    rcases Nat.eq_or_lt_of_le h1 with rfl | h3
    · rw [hg]; exact Nat.le_refl _
    · have := hA.lt h3 h2; rw [hg] at this; omega)).symm, List.any_eq_true.2 ⟨x, List.mem_of_getElem? hx, by simp⟩⟩
def TopPost (L : List Strm) (w : World) (e : Ending) (w' : World) : Prop := Below w.heap.size w w' ∧ ∃ best, NxI L L.length best ∧ (best = none → e = .returned (.tuple #[.int .u64 0, .bool false])) ∧ ∀ i x, best = some i → L[i]? = some x → e = .returned (.tuple #[.int .u64 x.id, .bool true])
theorem NxI.lt {L : List Strm} {k i : Nat} (h : NxI L k (some i)) : i < k := h.1
set_option maxRecDepth 100000 in
theorem top_any (base q : Nat) (a : Option Addr) (n cap ck : Nat) (L : List Strm) (w : World) (h : PlanAt w base q a n cap ck L) (hok : PlanOk L ck) :
    Calls Tryz.prog 10 #[.pointer (some ⟨q, 0, none⟩)] w fun e w' => TopPost L w e w' := by
  have c0 := h.blk.cell 0 _ rfl
  have lb := h.blk.lt
  have hl256 : n ≤ 256 := by rw [h.len]; exact hok.len
  have HN := Lib.hid h.len
  have H := Lib.hid h
  have HK := Lib.hid hok
  clear h hok
  go_enter Tryz.func10, Tryz.ntmps10
  go_wp2_with (fail)
  refine (next_any base q a n cap ck L w H.out HK.out).mono ?_
  rintro e w1 ⟨hb, best, hI, rfl⟩
  have HB := Lib.hid hb
  have HI := Lib.hid hI
  clear hb hI
  cases best with
  | none =>
    have hbi : bestI none = -1 := rfl
    rw [hbi]
    go_wp2_with (fail)
    go_returns
    exact ⟨HB.out, none, HI.out, fun _ => rfl, fun i x h => by cases h⟩
  | some i =>
    have hbi : bestI (some i) = (i : Int) := rfl
    rw [hbi]
    have hin : i < n := by have := HI.out.lt; have := HN.out; omega
    obtain ⟨x, hx⟩ : ∃ x, L[i]? = some x := by have := HN.out; exact ⟨L[i], by simp⟩
    obtain ⟨g, ha, hb, hg, ⟨d0, _⟩, _⟩ := (H.out.own.below HB.out).getF hx
    subst ha
    have hc0 : w1.cell? ⟨q, 0, none⟩ = some (.slice (some ⟨g, 0, none⟩) n cap) := (HB.out.cell (p := ⟨q, 0, none⟩) lb).trans c0
    have HX := Lib.hid hx
    clear hx
    have hi0 : ¬ (i : Int) < 0 := by omega
    go_wp2_with (fail)
    go_returns
    refine ⟨HB.out, some i, HI.out, fun h => (by cases h), fun j y h hy => ?_⟩
    cases h
    rw [HX.out] at hy
    cases hy
    rfl
def setReady (b : Bool) (x : Strm) : Strm := { x with ready := b }
/-- Behind Serve. -/
def SrvPost (base q : Nat) (a : Option Addr) (n cap ck : Nat) (L : List Strm) (w : World) (e : Ending) (w' : World) : Prop := Only (PS q a) w w' ∧ ∃ best, NxI L L.length best ∧ (best = none → e = .returned (.tuple #[.int .u64 0, .bool false]) ∧ PlanAt w' base q a n cap ck L) ∧
  ∀ i x, best = some i → L[i]? = some x → e = .returned (.tuple #[.int .u64 x.id, .bool true]) ∧ PlanAt w' base q a n cap (ck + 1) (updL x.id (setServed (ck + 1)) L)
set_option maxRecDepth 100000 in
set_option maxHeartbeats 2000000 in
theorem serve_any (base q : Nat) (a : Option Addr) (n cap ck : Nat) (L : List Strm) (w : World) (h : PlanAt w base q a n cap ck L) (hok : PlanOk L ck) :
    Calls Tryz.prog 11 #[.pointer (some ⟨q, 0, none⟩)] w fun e w' => SrvPost base q a n cap ck L w e w' := by
  have lb := h.blk.lt
  have hck := hok.ck
  have hl256 : n ≤ 256 := by rw [h.len]; exact hok.len
  have HN := Lib.hid h.len
  have H := Lib.hid h
  have HK := Lib.hid hok
  clear h hok
  go_enter Tryz.func11, Tryz.ntmps11
  go_wp2_with (fail)
  refine (top_any base q a n cap ck L w H.out HK.out).mono ?_
  rintro e w1 ⟨hb, best, hI, h1, h2⟩
  have HB := Lib.hid hb
  have HI := Lib.hid hI
  clear hb hI
  cases best with
  | none =>
    obtain rfl := h1 rfl
    clear h1 h2
    go_wp2_with (fail)
    go_returns
    exact ⟨only_of_below HB.out _, none, HI.out, fun _ => ⟨rfl, H.out.below HB.out⟩, fun i x h => by cases h⟩
  | some i =>
    have hin : i < n := by have := HI.out.lt; have := HN.out; omega
    obtain ⟨x, hx⟩ : ∃ x, L[i]? = some x := by have := HN.out; exact ⟨L[i], by simp⟩
    obtain rfl := h2 i x rfl hx
    clear h1 h2
    have hpos := pos_of HK.out.asc hx
    have hgx : L.getD i default = x := by simp [List.getD_eq_getElem?_getD, hx]
    have hf := fun W hW => find_any base q a n cap ck L x.id W hW HK.out
    rw [hpos.1, hpos.2] at hf
    have HF := Lib.hid hf
    have HX := Lib.hid (⟨hx, hgx⟩ : L[i]? = some x ∧ L.getD i default = x)
    obtain ⟨xi, hxi⟩ : ∃ k, x.id = k := ⟨_, rfl⟩
    rw [hxi] at HF
    rw [hxi]
    have HXI := Lib.hid hxi
    clear hf hpos hx hgx hxi
    go_wp2_with (fail)
    refine (HF.out _ (H.out.below HB.out)).mono ?_
    rintro e w2 ⟨hb2, rfl⟩
    have b2 := below_on HB.out hb2 HB.out.size
    have hP := H.out.below b2
    have c0 := hP.blk.cell 0 _ rfl
    have c1 := hP.blk.cell 1 _ rfl
    have f0 := hP.blk.free 0
    have f1 := hP.blk.free 1
    have lb2 := hP.blk.lt
    obtain ⟨g, ha, hbg, hg, _, hfr⟩ := hP.own.getF HX.out.1
    have hfz := hfr 4 (by omega)
    have hgq : g ≠ q := by have := hP.off _ ha; simpa using this
    have B2 := Lib.hid b2
    have HP := Lib.hid hP
    have HA := Lib.hid ha
    rw [ha] at c0
    clear b2 hb2 hP ha hfr
    go_wp2_with (fail)
    refine rg_start 12 ?_
    refine rg_same fun p hx hne hC => ?_
    refine rg_quiet 1 [0,1,2,3,4,5,6,7,8,9,10] hC ?_
    simp only [pickD, List.map_cons, List.map_nil, List.getD_cons_zero, List.getD_cons_succ]; repeat (go_big_quiet_step (fail))
    refine wpQuiet_nil ?_
    refine rg_cut 11 ?_
    go_wp2_with (fail)
    refine rg_end0 ?_
    clear hx hne hC
    go_wp2_with (fail)
    go_returns
    have hP1 := HP.out.clock (ck + 1)
    have hP2 : PlanAt ((w2.setCell ⟨q, 1, none⟩ (.int .u64 ((ck + 1 : Nat) : Int))).drew) base q a n cap (ck + 1) L := ⟨hP1.blk, hP1.own, hP1.len, hP1.off⟩
    have hP3 := hP2.setF HA.out HX.out.1 4 (by omega) (.int .u64 ((ck + 1 : Nat) : Int)) (setServed (ck + 1)) (fun x => rfl)
    have he : L.set i (setServed (ck + 1) x) = updL x.id (setServed (ck + 1)) L := by
      have := updL_set (L := L) (id := x.id) (setServed (ck + 1)) HK.out.asc (i := i) (by have := HN.out; omega) (by rw [HX.out.2])
      rw [HX.out.2] at this; exact this
    rw [he] at hP3
    refine ⟨?_, some i, HI.out, fun h => (by cases h), fun j y h hy => ?_⟩
    · exact ((only_of_below B2.out _).setCell (p := ⟨q, 1, none⟩) (.inl (.inl rfl)) _).drew.setCell (p := ⟨g, i * 5 + 4, none⟩) (.inl (.inr ⟨_, HA.out, rfl⟩)) _
    · cases h
      rw [HX.out.1] at hy
      cases hy
      exact ⟨by rw [HXI.out]; rfl, hP3⟩
/-- Behind Ready. -/
def RdyPost (base q : Nat) (a : Option Addr) (n cap ck : Nat) (L : List Strm) (id : Nat) (b : Bool) (w : World) (e : Ending) (w' : World) : Prop := Only (PS q a) w w' ∧ PlanAt w' base q a n cap ck (updL id (setReady b) L) ∧ (hasL id L = false → e = .returned (.int .i64 4)) ∧ (hasL id L = true → e = .returned (.int .i64 0))
theorem updL_no {L : List Strm} {id : Nat} {f : Strm → Strm} (h : hasL id L = false) : updL id f L = L := by
  unfold updL
  conv => rhs; rw [← List.map_id L]
  refine List.map_congr_left fun x hx => ?_
  have : ¬ x.id = id := fun e => by
    have : hasL id L = true := List.any_eq_true.2 ⟨x, hx, by simpa using e⟩
    rw [h] at this; cases this
  rw [if_neg this]; rfl
set_option maxRecDepth 100000 in
set_option maxHeartbeats 2000000 in
theorem ready_any (base q : Nat) (a : Option Addr) (n cap ck : Nat) (L : List Strm) (id : Nat) (b : Bool) (w : World) (h : PlanAt w base q a n cap ck L) (hok : PlanOk L ck) :
    Calls Tryz.prog 14 #[.pointer (some ⟨q, 0, none⟩), .int .u64 id, .bool b] w fun e w' => RdyPost base q a n cap ck L id b w e w' := by
  have lb := h.blk.lt
  have hl256 : n ≤ 256 := by rw [h.len]; exact hok.len
  have HN := Lib.hid h.len
  have H := Lib.hid h
  have HK := Lib.hid hok
  clear h hok
  have HF := Lib.hid (find_any base q a n cap ck L id w H.out HK.out)
  have HPS : Hid (PlanAt w base q a n cap ck (updL id (setReady b) L) ∨ hasL id L = true) := Lib.hid (by
    cases hh : hasL id L with
    | false => exact .inl (by rw [updL_no hh]; exact H.out)
    | true => exact .inr rfl)
  cases hh : hasL id L with
  | false =>
    rw [hh] at HF
    have HH := Lib.hid hh
    clear hh
    go_enter Tryz.func14, Tryz.ntmps14
    go_wp2_with (fail)
    refine HF.out.mono ?_
    rintro e w1 ⟨hb, rfl⟩
    go_wp2_with (fail)
    go_returns
    refine ⟨only_of_below hb _, ?_, fun _ => rfl, fun h => by rw [HH.out] at h; cases h⟩
    rcases HPS.out with h1 | h1
    · exact h1.below hb
    · rw [HH.out] at h1; cases h1
  | true =>
    rw [hh] at HF
    obtain ⟨x, hx, hxi, hgx⟩ := at_pos HK.out.asc hh
    have hlt := ((hasL_iff id HK.out.asc).1 hh).1
    obtain ⟨i, hi⟩ : ∃ i, posL id L = i := ⟨_, rfl⟩
    rw [hi] at HF hx hgx hlt
    have hin : i < n := by rw [HN.out]; exact hlt
    have HX := Lib.hid (⟨hx, hxi, hgx, hh⟩ : L[i]? = some x ∧ x.id = id ∧ L.getD i default = x ∧ hasL id L = true)
    clear hx hxi hgx hh hi hlt
    go_enter Tryz.func14, Tryz.ntmps14
    go_wp2_with (fail)
    refine HF.out.mono ?_
    rintro e w1 ⟨hb, rfl⟩
    have hP := H.out.below hb
    have c0 := hP.blk.cell 0 _ rfl
    have lb2 := hP.blk.lt
    obtain ⟨g, ha, hbg, hg, _, hfr⟩ := hP.own.getF HX.out.1
    have hfz := hfr 3 (by omega)
    have B2 := Lib.hid hb
    have HP := Lib.hid hP
    have HA := Lib.hid ha
    rw [ha] at c0
    clear hb hP ha hfr
    go_wp2_with (fail)
    go_returns
    have hP3 := HP.out.setF HA.out HX.out.1 3 (by omega) (.bool b) (setReady b) (fun x => rfl)
    have he : L.set i (setReady b x) = updL id (setReady b) L := by
      have := updL_set (L := L) (id := id) (setReady b) HK.out.asc (i := i) (by have := HN.out; omega) (by rw [HX.out.2.2.1]; exact HX.out.2.1)
      rw [HX.out.2.2.1] at this; exact this
    rw [he] at hP3
    refine ⟨?_, hP3, fun h => (by rw [HX.out.2.2.2] at h; cases h), fun _ => rfl⟩
    exact ((only_of_below B2.out _).setCell (p := ⟨g, i * 5 + 3, none⟩) (.inl (.inr ⟨_, HA.out, rfl⟩)) _)
set_option maxRecDepth 100000 in
theorem len_any (base q : Nat) (a : Option Addr) (n cap ck : Nat) (L : List Strm) (w : World) (h : PlanAt w base q a n cap ck L) :
    Calls Tryz.prog 16 #[.pointer (some ⟨q, 0, none⟩)] w fun e w' => w' = w ∧ e = .returned (.int .i64 n) := by
  have c0 := h.blk.cell 0 _ rfl
  clear h
  go_enter Tryz.func16, Tryz.ntmps16
  go_wp2_with (fail)
  go_returns
  exact ⟨rfl, rfl⟩
/-- No plan. -/
theorem none_next (w : World) : Calls Tryz.prog 10 #[.pointer none] w fun e w' => w' = w ∧ e = .returned (.tuple #[.int .u64 0, .bool false]) := by
  go_enter Tryz.func10, Tryz.ntmps10
  go_wp2_with (fail)
  go_returns
  exact ⟨rfl, rfl⟩
theorem none_serve (w : World) : Calls Tryz.prog 11 #[.pointer none] w fun e w' => w' = w ∧ e = .returned (.tuple #[.int .u64 0, .bool false]) := by
  go_enter Tryz.func11, Tryz.ntmps11
  go_wp2_with (fail)
  refine (none_next w).mono ?_
  rintro e w1 ⟨rfl, rfl⟩
  go_wp2_with (fail)
  go_returns
  exact ⟨rfl, rfl⟩
theorem none_ready (id : Int) (b : Bool) (w : World) : Calls Tryz.prog 14 #[.pointer none, .int .u64 id, .bool b] w fun e w' => w' = w ∧ e = .returned (.int .i64 1) := by
  go_enter Tryz.func14, Tryz.ntmps14
  go_wp2_with (fail)
  go_returns
  exact ⟨rfl, rfl⟩
theorem none_len (w : World) : Calls Tryz.prog 16 #[.pointer none] w fun e w' => w' = w ∧ e = .returned (.int .i64 0) := by
  go_enter Tryz.func16, Tryz.ntmps16
  go_wp2_with (fail)
  go_returns
  exact ⟨rfl, rfl⟩
theorem none_drop (v : Value) (w : World) (hv : ∃ a n c, v = .slice a n c) : Calls Tryz.prog 15 #[.pointer none, v] w fun e w' => Below w.heap.size w w' ∧ e = .returned (.int .i64 0) := by
  obtain ⟨a, n, c, rfl⟩ := hv
  go_enter Tryz.func15, Tryz.ntmps15
  go_wp2_with (fail)
  go_returns
  exact ⟨(Below.refl _ _).alloc (Nat.le_refl _) _, rfl⟩
theorem none_set (id u : Int) (b : Bool) (w : World) : Calls Tryz.prog 13 #[.pointer none, .int .u64 id, .agg #[.int .u8 u, .bool b]] w fun e w' => Below w.heap.size w w' ∧ e = .returned (.int .i64 1) := by
  go_enter Tryz.func13, Tryz.ntmps13
  go_wp2_with (fail)
  go_returns
  exact ⟨(Below.refl _ _).alloc (Nat.le_refl _) _, rfl⟩
theorem default_any (w : World) : Calls Tryz.prog 8 #[] w fun e w' => Below w.heap.size w w' ∧ e = .returned (.agg #[.int .u8 3, .bool false]) := by
  go_enter Tryz.func8, Tryz.ntmps8
  go_wp2_with (fail)
  go_returns
  exact ⟨by (first | exact (Below.refl _ _).alloc (Nat.le_refl _) _ | exact ((Below.refl _ _).alloc (Nat.le_refl _) _).setCell (Nat.le_refl _) _), rfl⟩
theorem new_any (w : World) : Calls Tryz.prog 17 #[] w fun e w' => e = .returned (.pointer (some ⟨w.heap.size, 0, none⟩)) ∧ Below w.heap.size w w' ∧ PlanAt w' (w.heap.size + 1) w.heap.size none 0 0 0 [] ∧ w'.heap.size = w.heap.size + 1 := by
  go_enter Tryz.func17, Tryz.ntmps17
  go_wp2_with (fail)
  go_returns
  exact ⟨rfl, (Below.refl _ _).alloc (Nat.le_refl _) _, ⟨Blk.new w _ _, OwnS.nil _ _ _ _, rfl, fun x h => by cases h⟩, by simp⟩
end Go.Proofs.YtjkihpbpnoelnaaGreatDoor
