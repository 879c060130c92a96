/- The document's Hex. -/
import Derived.Test.YthangjgdjhhfgaaGreatDoorScW9
namespace Go.Proofs.YthangjgdjhhfgaaGreatDoor
open Go.RowKit
set_option linter.unusedVariables false
theorem sc_u8_et : ET Tryz.prog 30 5 1 1 := et_of (by kernel_rfl)
theorem hex_index (i : Nat) (hi : i < 16) (x : UInt8) (hx : hexT.getD i 0 = x) (v : Int) (hv : v = (i : Int)) (w : World) : (Instr.index 9 (.string ⟨#[48, 49, 50, 51, 52, 53, 54, 55, 56, 57, 97, 98, 99, 100, 101, 102]⟩) (.int .u8 v)).run Tryz.prog w = .ok (.int .u8 x.toNat) w := by
  subst hv
  rw [run_index_string _ _ _ _ _ Tryz.underlying9, dif_pos ⟨by omega, by simp [ByteArray.size]; omega⟩]
  have := hexT_at i hi (by simp [ByteArray.size]; omega)
  simp only [Int.toNat_natCast]
  rw [this, hx]
theorem i8_str (l : List UInt8) : strOfNums (i8 l) = tx l := by
  unfold strOfNums tx i8
  congr 1
  rw [List.map_map]
  congr 1
  exact (List.map_congr_left (fun c _ => by simp)).trans (List.map_id l)
/-- What a round of Hex keeps. -/
structure HxI (w0 : World) (L : List UInt8) (a : Option Addr) (n cap k : Nat) (w : World) : Prop where
  below : Below w0.heap.size w0 w
  own : OwnS w w0.heap.size 5 1 a n cap (((L.take k).flatMap hexD).map fun c => Value.int .u8 c.toNat)
  len : n = 2 * k
set_option maxRecDepth 100000 in
set_option maxHeartbeats 8000000 in
theorem rhex_any (l : List UInt8) (a : Option Addr) (n cap : Nat) (w : World) (h : BR w a n l) (hl : l.length ≤ 4000000) :
    Calls Tryz.prog 34 #[.slice a n cap] w fun e w' => e = .returned (.string (tx (hexS l))) ∧ Below w.heap.size w w' := by
  have hn := h.len
  by_cases h0 : n = 0
  · subst h0
    have : l = [] := List.length_eq_zero_iff.1 hn.symm
    subst this
    clear hn
    go_enter Tryz.func34, Tryz.ntmps34
    go_wp2_with (fail)
    go_returns
    exact ⟨rfl, Below.refl _ _⟩
  · have hq0 : ((n : Int) == 0) = false := by simp; omega
    have hnb : n ≤ 4000000 := by omega
    have HN := Lib.hid hn
    have HI := Lib.hid h.ints
    have hne : l ≠ [] := fun e => h0 (by rw [hn, e]; rfl)
    have hxs : l.flatMap hexD = hexS l := by rw [hexS, if_neg hne]
    have HX := Lib.hid hxs
    have HST := Lib.hid (show HxI w l none 0 0 0 w from ⟨Below.refl _ _, OwnS.nil _ _ _ _, rfl⟩)
    clear hn hl h hne hxs
    go_enter Tryz.func34, Tryz.ntmps34
    go_wp2_with (fail)
    go_loopw [4, 5] (fun v i wr => ∃ (b : Option Addr) (m c k : Nat), v = .slice b m c ∧ i = .int .i64 k ∧ k ≤ n ∧ Hid (HxI w l b m c k wr)) (fun _ i _ => n - (intOf i).toNat)
    case atStart => exact ⟨none, 0, 0, 0, rfl, rfl, by omega, HST⟩
    case round =>
      obtain ⟨b, m, cp, k, rfl, rfl, hk, hok⟩ := hrel
      by_cases hlt : k < n
      · have hki : (k : Int) < (n : Int) := by omega
        have hqk : decide (n ≤ k) = false := by simp; omega
        obtain ⟨g, o, rfl, hg, hc, hw⟩ := (HI.out.below hok.out.below) k (by simpa [i8, ← HN.out] using hlt)
        obtain ⟨c, hcl⟩ : ∃ c, l.getD k 0 = c := ⟨_, rfl⟩
        rw [show (i8 l).getD k 0 = (c.toNat : Int) by rw [i8, ← hcl]; have := HN.out; simp [List.getD, (show k < l.length by omega)]] at hc
        clear hw
        have hlt256 := c.toNat_lt
        have HCL := Lib.hid hcl
        clear hcl
        obtain ⟨x1, hx1⟩ : ∃ x, hexT.getD (c.toNat / 16) 0 = x := ⟨_, rfl⟩
        obtain ⟨x2, hx2⟩ : ∃ x, hexT.getD (c.toNat % 16) 0 = x := ⟨_, rfl⟩
        have HXD := Lib.hid (show hexD c = [x1, x2] by rw [hexD, hx1, hx2])
        have hd1 := hex_index (c.toNat / 16) (by omega) x1 hx1 ((c.toNat : Int) / 16) (by omega)
        have hd2 := hex_index (c.toNat % 16) (by omega) x2 hx2 ((c.toNat : Int) % 16) (by omega)
        clear hx1 hx2
        go_wp2_with (fail)
        refine rg_start 18 ?_
        refine rg_below fun p hx hne hC hbel => ?_
        have k0 : ∀ z : Wd p, z.w.cell? ⟨g, o + k, none⟩ = _ := fun z => (hx z _ _ _ hg).trans hc
        clear hx
        refine rg_quiet 3 [0,1,2,3,4,5,6,7,8,9,10,11,12,13,14] hC ?_
        simp only [pickD, List.map_cons, List.map_nil, List.getD_cons_zero, List.getD_cons_succ]; repeat (go_big_quiet_step (fail))
        refine wpQuiet_nil ?_
        refine rg_act 15 ?_
        go_wp2_with (fail)
        refine ⟨hbel _ ((Below.refl _ _).alloc (Nat.le_refl _) _), ?_⟩
        refine rg_cut 16 ?_
        go_wp2_with (at_builtin; refine Stop.mk ?_)
        refine Stop.out ?_
        have hs5 := SrcAt.cells wr #[.int .u8 x1.toNat, .int .u8 x2.toNat] 5 2 1 rfl (by simp [Value.oneCell'])
        have hm2 := hok.out.len
        have hb5 : Below wr.heap.size wr (wr.alloc (.cells #[.int .u8 x1.toNat, .int .u8 x2.toNat] 5)) := (Below.refl _ _).alloc (Nat.le_refl _) _
        refine wpList_app sc_u8_et rfl rfl (base := w.heap.size) rfl rfl (hok.out.own.below hb5.drew) hs5 (by simp only [maxLen]; omega) (by omega) (by have := hok.out.below.size; simp; omega) ?_
        intro a6 c6 w6 ho6 on6 at6
        have b6 : Below w.heap.size w w6 := below_onto (below_on hok.out.below hb5.drew hok.out.below.size) on6 (by have := hok.out.below.size; have := hb5.size; simp only [World.drew] at *; omega) (by rintro z hz ⟨y, hy, rfl⟩; have := (hok.out.own.block hy).1; omega)
        have HLB := HN.out
        have ho7 : OwnS w6 w.heap.size 5 1 a6 (m + 2) c6 (((l.take (k + 1)).flatMap hexD).map fun c => Value.int .u8 c.toNat) := by
          rw [take_one l k c (by omega) HCL.out, List.flatMap_append, List.map_append, List.flatMap_cons, List.flatMap_nil, HXD.out]
          exact ho6
        have FIN := Lib.hid (show HxI w l a6 (m + 2) c6 (k + 1) w6 from ⟨b6, ho7, by omega⟩)
        clear ho6 ho7 on6 at6 b6 hb5 hs5 hm2 HLB
        go_wp2_with (fail)
        refine rg_below fun p hx hne hC hbel => ?_
        refine rg_quiet 0 [17] hC ?_
        simp only [pickD, List.map_cons, List.map_nil, List.getD_cons_zero, List.getD_cons_succ]; repeat (go_big_quiet_step (fail))
        refine wpQuiet_nil ?_
        refine rg_end ?_
        clear hx hne hC hbel
        go_wp2_with (fail)
        trace_state
        exact ⟨⟨a6, m + 2, c6, k + 1, rfl, by go_num, by omega, FIN⟩, by simp [intOf]; omega⟩
      · obtain rfl : k = n := by omega
        have ho := hok.out.own
        rw [List.take_of_length_le (by rw [HN.out]; exact Nat.le_refl _), HX.out, show ((hexS l).map fun c => Value.int .u8 c.toNat) = (i8 (hexS l)).map (Value.int .u8) by rw [i8, List.map_map]; rfl] at ho
        obtain ⟨hml, his⟩ := ho.ints (i8_wf _)
        have hr := run_str (cap := cp) Tryz.underlying30 Tryz.underlying5 Tryz.underlying9 hml wr his
        rw [i8_str] at hr
        clear ho hml his
        go_wp2_with (fail)
        go_returns
        exact ⟨rfl, hok.out.below⟩
end Go.Proofs.YthangjgdjhhfgaaGreatDoor
