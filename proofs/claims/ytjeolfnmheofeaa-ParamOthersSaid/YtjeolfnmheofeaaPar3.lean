/- Layer 4: the document's May. -/
import Derived.Test.YtjeolfnmheofeaaPar2
import Derived.Test.YtjeolfnmheofeaaLoad
namespace Go.Proofs.Ytjeolfnmheofeaa
open Go.RowKit
set_option linter.unusedVariables false
namespace Par

theorem sl_new' (kd : IntKind) (w : World) (T : TypeId) (L : List Int) (cs : Array Value) (h : cs = (L.map (Value.int kd)).toArray) (hw : ∀ n ∈ L, (Lit.int kd n).wf = true) (hl : L.length ≤ maxLen) {g : Nat} (hg : g = w.heap.size) :
    Sl kd (w.alloc (.cells cs T)) (some ⟨g, 0, none⟩) L.length L := by
  subst hg
  exact Var.sl_new kd w T L cs h hw hl
section
variable {P : Program} {ops : Array Oper} {rest : List Oper} {a : Act} {w : World} {Q : Exit → Act → World → Prop}
theorem stop_ldp {d : Option Tmp} {x : Operand} {ty : TypeId} {pos : String} {aft : Array Edge} {g : Option (Nat × Bool)}
    (h : Stop (wpList P ops Q (⟨d, .load 46 x, ty, pos, aft, g⟩ :: rest) a w)) : wpList P ops Q (⟨d, .load 46 x, ty, pos, aft, g⟩ :: rest) a w := h
end
theorem params_size : ((Try.prog).info? 46).map (·.size) = some 28 := by kernel_rfl
def numsL (p : PV) : List Int := [0, p.f2, 0, 0, p.f3, p.f4, p.f5, p.f6, p.f7, p.f8, 0, p.f9, 0, 0, p.f10, 0]
theorem numsL_at (p : PV) (k : Nat) (hk : k < 16) : (numsL p).getD k 0 = idn p k := by
  rcases (by omega : k = 0 ∨ k = 1 ∨ k = 2 ∨ k = 3 ∨ k = 4 ∨ k = 5 ∨ k = 6 ∨ k = 7 ∨ k = 8 ∨ k = 9 ∨ k = 10 ∨ k = 11 ∨ k = 12 ∨ k = 13 ∨ k = 14 ∨ k = 15) with rfl | rfl | rfl | rfl | rfl | rfl | rfl | rfl | rfl | rfl | rfl | rfl | rfl | rfl | rfl | rfl <;> rfl
theorem idn_range {p : PV} {w : World} (h : p.ok w) (k : Int) : 0 ≤ idn p k ∧ idn p k ≤ 18446744073709551615 := by
  unfold idn
  split
  · omega
  · exact h.n _
theorem numsL_wf {p : PV} {w : World} (h : p.ok w) : ∀ n ∈ numsL p, (Lit.int .u64 n).wf = true := by
  intro n hn
  obtain ⟨i, hi, rfl⟩ := List.getElem_of_mem hn
  have := numsL_at p i (by simpa [numsL] using hi)
  rw [List.getD_eq_getElem?_getD, List.getElem?_eq_getElem hi] at this
  simp only [Option.getD_some] at this
  rw [this]
  exact WalkArith.wf_u64 (idn_range h i)

set_option maxHeartbeats 4000000 in
set_option maxRecDepth 100000 in
theorem numbers_any (p : PV) (w : World) (hp : p.ok w) : Calls Try.prog 50 #[.agg p.vals] w fun e w' => ∃ g, e = .returned (.slice (some ⟨g, 0, none⟩) 16 16) ∧ Sl .u64 w' (some ⟨g, 0, none⟩) 16 (numsL p) ∧ Below w.heap.size w w' := by
  have hwf := Lib.hid (numsL_wf hp)
  have HP := Lib.hid hp
  clear hp
  go_enter Try.func50, Try.ntmps50
  have hb0 := Blk.new w p.vals 46
  have h2 := hb0.cell 2 (.int .u64 p.f2) rfl
  have h3 := hb0.cell 3 (.int .u64 p.f3) rfl
  have h4 := hb0.cell 4 (.int .u64 p.f4) rfl
  have h5 := hb0.cell 5 (.int .u64 p.f5) rfl
  have h6 := hb0.cell 6 (.int .u64 p.f6) rfl
  have h7 := hb0.cell 7 (.int .u64 p.f7) rfl
  have h8 := hb0.cell 8 (.int .u64 p.f8) rfl
  have h9 := hb0.cell 9 (.int .u64 p.f9) rfl
  have h10 := hb0.cell 10 (.int .u64 p.f10) rfl
  have kb : Below w.heap.size w (w.alloc (.cells p.vals 46)) := (Below.refl _ _).alloc (Nat.le_refl _) _
  go_wp2_with (fail)
  go_returns
  exact ⟨_, rfl, sl_new' .u64 _ _ (numsL p) _ rfl hwf.out (by simp [numsL, maxLen]) (by simp), kb.alloc (by simp) _⟩

set_option maxHeartbeats 4000000 in
set_option maxRecDepth 100000 in
theorem rmay_any (p : PV) (w : World) (hp : p.ok w) : Calls Try.prog 23 #[.agg p.vals] w fun e w' => e = .returned (.bool (mayF p)) ∧ Below w.heap.size w w' := by
  have hbig1 := hp.o.len
  have hbig2 := hp.c.len
  unfold maxLen at hbig1 hbig2
  have HP := Lib.hid hp
  clear hp
  go_enter Try.func23, Try.ntmps23
  have hb0 := Blk.new w p.vals 46
  have kb : Below w.heap.size w (w.alloc (.cells p.vals 46)) := (Below.refl _ _).alloc (Nat.le_refl _) _
  go_wp2_with (with_reducible refine stop_ldp ?_)
  refine Stop.out ?_
  refine wpList_loadAll Try.underlying46 params_size rfl rfl rfl hb0 rfl ?_
  have HP1 := Lib.hid (HP.out.below kb)
  have HB := Lib.hid hb0
  clear hb0
  generalize w.alloc (.cells p.vals 46) = w1 at *
  go_wp2_with (fail)
  refine (numbers_any p _ HP1.out).mono ?_
  rintro e w2 ⟨g, rfl, hS, kb2⟩
  have HB2 := Lib.hid (HB.out.below kb2)
  have k2 := below_on kb kb2 kb.size
  have HS := Lib.hid hS
  clear hS HB kb2
  go_wp2_with (fail)
  go_loop [4] (fun i => ∃ k : Nat, i = .int .i64 k ∧ k ≤ 16 ∧ Hid (∀ j : Nat, j < k → okId p j = true)) (fun i => 16 - (intOf i).toNat)
  case atStart => exact ⟨0, rfl, by omega, Lib.hid (fun j hj => by omega)⟩
  case round =>
    obtain ⟨k, rfl, hk, hall⟩ := hrel
    by_cases hlt : k < 16
    · obtain ⟨b1, off, h0, hb1, hcell, hwf⟩ := HS.out.ints k hlt
      cases h0
      rw [numsL_at p k hlt, Nat.zero_add] at hcell
      have hr := idn_range HP.out k
      have hok : Hid (okId p k = (decide (idn p k = 0) || mayId k (idn p k))) := Lib.hid rfl
      clear hwf
      generalize idn p k = v at *
      by_cases hv : v = 0
      · subst hv
        go_wp2_with (fail)
        exact ⟨⟨k + 1, by go_num, by omega, Lib.hid (fun j hj => by by_cases h : j = k; (rw [h, hok.out]; rfl); exact hall.out j (by omega))⟩, by simp [intOf]; omega⟩
      · go_wp2_with (fail)
        refine (fits_any k v _ hr.1).mono ?_
        cases hm : mayId k v with
        | true =>
          have hok2 : Hid (okId p k = true) := Lib.hid (by rw [hok.out, hm]; simp)
          rintro e w3 ⟨rfl, rfl⟩
          clear hm
          go_wp2_with (fail)
          exact ⟨⟨k + 1, by go_num, by omega, Lib.hid (fun j hj => by by_cases h : j = k; (rw [h]; exact hok2.out); exact hall.out j (by omega))⟩, by simp [intOf]; omega⟩
        | false =>
          have hbad := Lib.hid (mayF_bad p k hlt (by rw [hok.out, hm]; simp [hv]))
          rintro e w3 ⟨rfl, rfl⟩
          clear hm
          go_wp2_with (fail)
          go_returns
          exact ⟨by rw [hbad.out]; rfl, k2⟩
    · obtain rfl : k = 16 := by omega
      have hgood := Lib.hid (mayF_good p hall.out)
      clear hall
      go_wp2_with (fail)
      go_loop [5, 6] (fun z i => ∃ j : Nat, i = .int .i64 j ∧ j ≤ 16 ∧ z = .bool ((p.tok.take j).all fun x => decide (x = 0))) (fun _ i => 16 - (intOf i).toNat)
      case atStart => exact ⟨0, rfl, by omega, by simp⟩
      case round =>
        obtain ⟨j, rfl, hj, rfl⟩ := hrel
        have htl : p.tok.length = 16 := rfl
        by_cases hlt : j < 16
        · have hcell := HB2.out.cell (12 + j) (.int .u8 (p.tok.getD j 0)) (by have := p.at_tok j hlt; simpa [PV.vals] using this)
          have hst : Hid ((p.tok.take (j + 1)).all (fun x => decide (x = 0)) = ((p.tok.take j).all (fun x => decide (x = 0)) && decide (p.tok.getD j 0 = 0))) := Lib.hid (by
            rw [List.take_succ_eq_append_getElem (by omega), List.all_append]
            simp [List.getD_eq_getElem?_getD, hlt, htl])
          have htb := HP.out.t (p.tok.getD j 0) (by rw [List.getD_eq_getElem?_getD, List.getElem?_eq_getElem (by omega)]; exact List.getElem_mem _)
          unfold Var.Byte at htb
          generalize p.tok.getD j 0 = x at *
          generalize (p.tok.take j).all (fun x => decide (x = 0)) = f at *
          cases f with
          | true =>
            go_wp2_with (fail)
            exact ⟨⟨j + 1, by go_num, by omega, by rw [hst.out]; by_cases h : x = 0 <;> simp [h]⟩, by simp [intOf]; omega⟩
          | false =>
            go_wp2_with (fail)
            exact ⟨⟨j + 1, by go_num, by omega, by rw [hst.out]; rfl⟩, by simp [intOf]; omega⟩
        · obtain rfl : j = 16 := by omega
          have hz : Hid ((p.tok.take 16).all (fun x => decide (x = 0)) = zeroT p) := Lib.hid (by rw [List.take_of_length_le (by omega)]; rfl)
          have h0 := HB2.out.cell 0 (.slice p.oa p.O.length p.oc) rfl
          have h1 := HB2.out.cell 1 (.slice p.ca p.C.length p.cc) rfl
          have h11 := HB2.out.cell 11 (.bool p.has) rfl
          rw [hz.out]
          generalize zeroT p = zz at *
          generalize p.has = hh at *
          by_cases ho : p.O.length ≤ 20
          · by_cases hc : p.C.length ≤ 20
            · cases hh <;> cases zz <;> (go_wp2_with (fail); go_returns; exact ⟨by rw [hgood.out]; simp [ho, hc], k2⟩)
            · go_wp2_with (fail)
              go_returns
              exact ⟨by rw [hgood.out]; simp [hc], k2⟩
          · go_wp2_with (fail)
            go_returns
            exact ⟨by rw [hgood.out]; simp [ho], k2⟩

end Par
end Go.Proofs.Ytjeolfnmheofeaa
