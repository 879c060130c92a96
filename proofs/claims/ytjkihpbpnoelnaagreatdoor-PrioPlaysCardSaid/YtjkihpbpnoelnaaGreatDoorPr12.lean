/- The iterator of strings.SplitSeq. -/
import Derived.Test.YtjkihpbpnoelnaaGreatDoorRgF
import Derived.Test.YtjkihpbpnoelnaaGreatDoorPr11
import Derived.RangeFuncNested
import Derived.RangeFuncBound
import Derived.RangeFuncCalls
import Derived.RangeFuncLeaves
import Derived.Shelf.Abstract
import Derived.Shelf.RegionOpen
import Derived.OwnWalkIn
import Derived.TacticsInMore
import Derived.LoopNIn
import Derived.LoopIn
namespace Go.Proofs.YtjkihpbpnoelnaaGreatDoor
open Go.RowKit
set_option linter.unusedVariables false
attribute [local go_sem] Oper.semAt_some
/-- Pieces with commas between them. -/
def jn : List (List UInt8) → List UInt8
  | [] => []
  | [p] => p
  | p :: q :: r => p ++ 44 :: jn (q :: r)
def ixJ : List (List UInt8) → Int
  | [] => -1
  | [_] => -1
  | p :: _ :: _ => (p.length : Nat)
/-- What Index finds in what is left. -/
def IxOk (ps : List (List UInt8)) : Prop := ∀ W, Calls Tryz.prog 62 #[.string (tx (jn ps)), .string (tx [44])] W fun e W' => e = .returned (.int .i64 (ixJ ps)) ∧ Below W.heap.size W W'
theorem jn_drop : ∀ (ps : List (List UInt8)) (k : Nat), (jn (ps.drop k)).length ≤ (jn ps).length
  | ps, 0 => by simp
  | [], k + 1 => by simp
  | [p], k + 1 => by simp [jn]
  | p :: q :: r, k + 1 => by
    have := jn_drop (q :: r) k
    rw [List.drop_succ_cons]
    simp only [jn, List.length_append, List.length_cons]
    omega
theorem tx_front (p r : List UInt8) : (tx (p ++ 44 :: r)).extract 0 p.length = tx p := by
  apply ByteArray.ext
  simp [tx]
theorem tx_back (p r : List UInt8) : (tx (p ++ 44 :: r)).extract (p.length + 1) (p ++ 44 :: r).length = tx r := by
  apply ByteArray.ext
  simp [tx]
  rw [List.take_of_length_le (by omega)]
structure ItAt (W : World) (tB sB vB : Nat) (s : List UInt8) : Prop where
  t : Blk W tB #[.string (tx [44])] 9
  s : Blk W sB #[.string (tx s)] 9
  v : Blk W vB #[.int .i64 0] 3
theorem ItAt.same {W W' : World} {tB sB vB : Nat} {s : List UInt8} (h : ItAt W tB sB vB s) (he : ∀ k, (k = tB ∨ k = sB ∨ k = vB) → W'.heap[k]? = W.heap[k]?) : ItAt W' tB sB vB s :=
  ⟨(he tB (.inl rfl)).trans h.t, (he sB (.inr (.inl rfl))).trans h.s, (he vB (.inr (.inr rfl))).trans h.v⟩
theorem ItAt.below {W W' : World} {tB sB vB : Nat} {s : List UInt8} (h : ItAt W tB sB vB s) (hb : Below W.heap.size W W') : ItAt W' tB sB vB s := ⟨h.t.below hb, h.s.below hb, h.v.below hb⟩
def strLen (W : World) (b : Nat) : Nat := match W.cell? ⟨b, 0, none⟩ with
  | some (.string s) => s.size
  | _ => 0
theorem ItAt.len {W : World} {tB sB vB : Nat} {s : List UInt8} (h : ItAt W tB sB vB s) : strLen W sB = s.length := by
  unfold strLen
  rw [h.s.cell 0 _ rfl]
  simp [ByteArray.size]
set_option maxRecDepth 100000 in
set_option maxHeartbeats 4000000 in
theorem split1_in (n : Nat) (hn : 3 ≤ n) (tB sB vB : Nat) (hne : tB ≠ sB ∧ vB ≠ sB) (ps : List (List UInt8)) (hps : 0 < ps.length) (hlen : (jn ps).length ≤ 1000) (hIx : ∀ k, k < ps.length → IxOk (ps.drop k)) :
    SeqM Fence.wide n Tryz.prog 61 #[.pointer (some ⟨tB, 0, none⟩), .pointer (some ⟨sB, 0, none⟩), .pointer (some ⟨vB, 0, none⟩)] (fun x : List UInt8 => #[Value.string (tx x)]) (fun k => k = tB ∨ k = sB ∨ k = vB) ps (fun W => ItAt W tB sB vB (jn ps)) := by
  intro l J Jx W hC hJ hJx hY h0
  have HC := Lib.hid hC
  have HJ := Lib.hid hJ
  have HJx := Lib.hid hJx
  have HIX := Lib.hid hIx
  have HY := Lib.hid hY
  have c1 := hC.t.cell 0 _ rfl
  have h1 : 1 ≤ n := by omega
  clear hC hJ hJx hIx hY
  refine callsIn_of_wp Tryz.func61 rfl trivial ?_ rfl
  simp only [Tryz.ntmps61, List.size_toArray, List.length_cons, List.length_nil, Nat.reduceAdd, Nat.reduceSub, Array.replicate_succ, Array.replicate_zero, List.push_toArray, List.append_toArray, List.nil_append, List.cons_append]
  gi_wp2
  gi_loopw [7, 8] (fun _ _ wr => ∃ k : Nat, k < ps.length ∧ ItAt wr tB sB vB (jn (ps.drop k)) ∧ J (ps.take k) wr) (fun _ _ wr => strLen wr sB)
  case atStart => exact ⟨0, hps, HC.out, h0⟩
  case round =>
    obtain ⟨k, hk, hI, hJk⟩ := hrel
    obtain ⟨R, hR⟩ : ∃ R, ps.drop k = R := ⟨_, rfl⟩
    have hix := HIX.out k hk
    have hjl := Nat.le_trans (jn_drop ps k) hlen
    rw [hR] at hI hix hjl
    have hIL := hI.len
    have HI := Lib.hid hI
    have HIL := Lib.hid hIL
    have d1 := hI.t.cell 0 _ rfl
    have d2 := hI.s.cell 0 _ rfl
    have d3 := hI.v.cell 0 _ rfl
    clear hI hIL
    unfold IxOk at hix
    cases R with
    | nil =>
      have := congrArg List.length hR
      simp at this
      omega
    | cons p R =>
      cases R with
      | nil =>
        have hx1 : ixJ [p] = -1 := rfl
        rw [hx1] at hix
        have HIXK := Lib.hid hix
        clear hix
        have hjp : jn [p] = p := rfl
        rw [hjp] at HIXK d2
        gi_wp2_with (fail)
        refine ⟨trivial, ?_⟩
        refine (callsIn_wide.2 (HIXK.out _)).mono ?_
        rintro e w1 ⟨rfl, hb1⟩
        have hI1 := HI.out.below hb1
        have hJ1 := HJ.out _ _ _ hJk (only_of_below hb1 _)
        have hxs : ps = ps.take k ++ p :: [] := by rw [← hR, List.take_append_drop]
        have hy1 := HY.out (ps.take k) p [] w1 hxs hJ1
        obtain ⟨fn, tmps, assign, body, hy, hRd⟩ := hy1
        have d1 := hI1.t.cell 0 _ rfl
        have d2 := hI1.s.cell 0 _ rfl
        have d3 := hI1.v.cell 0 _ rfl
        rw [hjp] at d2
        have HXS := Lib.hid hxs
        clear hI1 hb1 hxs
        gi_wp2_with (fail)
        refine hRd.mono ?_
        rintro e w2 (⟨rfl, hJ2, hsz2, hkb2⟩ | ⟨rfl, hJx2⟩)
        · clear hkb2
          gi_wp2_with (fail)
          go_end0
          exact ⟨⟨_, rfl⟩, .inl (by rw [HXS.out]; exact hJ2)⟩
        · gi_wp2_with (fail)
          go_end0
          exact ⟨⟨_, rfl⟩, .inr ⟨_, hJx2⟩⟩
      | cons q R =>
        have hx1 : ixJ (p :: q :: R) = (p.length : Int) := rfl
        rw [hx1] at hix
        clear hx1
        obtain ⟨S, hS⟩ : ∃ S, jn (p :: q :: R) = S := ⟨_, rfl⟩
        rw [hS] at hix d2 hjl
        have hSe : S = p ++ 44 :: jn (q :: R) := hS.symm
        have he1 := tx_front p (jn (q :: R))
        have he2 := tx_back p (jn (q :: R))
        rw [← hSe] at he1 he2
        have hsl : p.length + 1 + (jn (q :: R)).length = S.length := by rw [hSe]; simp; omega
        obtain ⟨pl, hpl⟩ : ∃ pl, p.length = pl := ⟨_, rfl⟩
        obtain ⟨sl, hsll⟩ : ∃ sl, S.length = sl := ⟨_, rfl⟩
        rw [hpl] at hix he1 he2 hsl
        rw [hsll] at hjl he2 hsl
        have hps : pl + 1 ≤ sl := by omega
        have HSE := Lib.hid hSe
        have HS := Lib.hid hS
        have HPL := Lib.hid hpl
        clear hSe hpl
        have HIXK := Lib.hid hix
        clear hix
        gi_wp2_with (fail)
        refine ⟨trivial, ?_⟩
        refine (callsIn_wide.2 (HIXK.out _)).mono ?_
        rintro e w1 ⟨rfl, hb1⟩
        have hI1 := HI.out.below hb1
        have hJ1 := HJ.out _ _ _ hJk (only_of_below hb1 _)
        have hxs : ps = ps.take k ++ p :: (q :: R) := by rw [← hR, List.take_append_drop]
        have hy1 := HY.out (ps.take k) p (q :: R) w1 hxs hJ1
        obtain ⟨fn, tmps, assign, body, hy, hRd⟩ := hy1
        have d1 := hI1.t.cell 0 _ rfl
        have d2 := hI1.s.cell 0 _ rfl
        have d3 := hI1.v.cell 0 _ rfl
        rw [hS] at d2
        have HI1 := Lib.hid hI1
        clear hI1 hb1 hxs
        gi_wp2_with (fail)
        refine hRd.mono ?_
        rintro e w2 (⟨rfl, hJ2, hsz2, hkb2⟩ | ⟨rfl, hJx2⟩)
        · have hI2 := HI1.out.same hkb2
          have d1 := hI2.t.cell 0 _ rfl
          have d2 := hI2.s.cell 0 _ rfl
          have f2 := hI2.s.free 0
          have d3 := hI2.v.cell 0 _ rfl
          rw [HS.out] at d2
          have HI2 := Lib.hid hI2
          clear hI2 hkb2
          gi_wp2_with (fail)
          have hds : ps.drop (k + 1) = q :: R := by rw [← List.drop_drop, hR]; rfl
          have hkl : k + 1 < ps.length := by
            have := congrArg List.length hds
            simp at this
            omega
          have htk : ps.take (k + 1) = ps.take k ++ [p] := by
            have : ps[k]? = some p := by
              have := congrArg (fun l => l[0]?) hR
              simpa using this
            rw [List.take_add_one, this]; rfl
          have hI3 : ItAt (w2.setCell ⟨sB, 0, none⟩ (.string (tx (jn (q :: R))))) tB sB vB (jn (q :: R)) :=
            ⟨HI2.out.t.setOther _ _ hne.1, (HI2.out.s.set 0 _).congr rfl, HI2.out.v.setOther _ _ hne.2⟩
          refine ⟨⟨k + 1, hkl, by rw [hds]; exact hI3, by rw [htk]; exact HJ.out _ _ _ hJ2 (Only.setCell (Only.refl _ _) (.inl (.inr (.inl rfl))) _)⟩, ?_⟩
          rw [hI3.len, HIL.out]
          show (jn (q :: R)).length < (jn (p :: q :: R)).length
          simp [jn]; omega
        · gi_wp2_with (fail)
          refine bodyPost_ret (results_none rfl _ _ _) rfl ?_
          exact ⟨⟨_, rfl⟩, .inr ⟨_, hJx2⟩⟩
end Go.Proofs.YtjkihpbpnoelnaaGreatDoor
