/- Layer 4: may parameters be so? -/
import Derived.Test.YtjeolfnmheofeaaPar
import Derived.Test.YtjeolfnmheofeaaTok
namespace Go.Proofs.Ytjeolfnmheofeaa
open Go.RowKit
set_option linter.unusedVariables false
namespace Par

/-- A parameter's number; 0: it has none, or is not told. -/
def idn (p : PV) (id : Int) : Int := if slotF id = 0 then 0 else p.num (slotF id)
def okId (p : PV) (id : Int) : Bool := decide (idn p id = 0) || mayId id (idn p id)
def zeroT (p : PV) : Bool := p.tok.all fun x => decide (x = 0)
def mayF (p : PV) : Bool := (List.range 16).all (fun k => okId p k) && (decide (p.O.length ≤ 20) && decide (p.C.length ≤ 20) && (p.has || zeroT p))
theorem mayF_bad (p : PV) (k : Nat) (hk : k < 16) (h : okId p k = false) : mayF p = false := by
  unfold mayF
  rw [Bool.and_eq_false_iff]; left
  rw [List.all_eq_false]
  exact ⟨k, by simp [hk], by simp [h]⟩
theorem mayF_good (p : PV) (h : ∀ k : Nat, k < 16 → okId p k = true) : mayF p = (decide (p.O.length ≤ 20) && decide (p.C.length ≤ 20) && (p.has || zeroT p)) := by
  unfold mayF
  have : (List.range 16).all (fun k => okId p k) = true := by
    rw [List.all_eq_true]
    intro k hk
    exact h k (by simpa using hk)
  rw [this, Bool.true_and]

set_option maxHeartbeats 4000000 in
theorem zero_tok (p : PV) : zeroT p = decide (p.tok = List.replicate 16 0) := by
  unfold zeroT
  by_cases h : p.tok = List.replicate 16 0
  · rw [h]; decide
  · rw [decide_eq_false h, List.all_eq_false]
    apply Classical.byContradiction
    intro hn
    apply h
    refine List.eq_replicate_iff.2 ⟨rfl, fun x hx => ?_⟩
    apply Classical.byContradiction
    intro hne
    exact hn ⟨x, hx, by simpa using hne⟩
theorem tok_info : ∃ i, (Try.prog).info? 5 = some i := Option.isSome_iff_exists.1 (by kernel_rfl)
theorem tok_cells : (Try.prog).cellsOf 5 = 1 := by kernel_rfl
theorem tok_plain : (Try.prog).plainKey 5 = true := by kernel_rfl
section
variable {P : Program} {ops : Array Oper} {rest : List Oper} {a : Act} {w : World} {Q : Exit → Act → World → Prop}
theorem stop_tok {d : Option Tmp} {x y : Operand} {t2 ty : TypeId} {pos : String} {aft : Array Edge} {g : Option (Nat × Bool)}
    (h : Stop (wpList P ops Q (⟨d, .binOp .eql 44 x y t2, ty, pos, aft, g⟩ :: rest) a w)) : wpList P ops Q (⟨d, .binOp .eql 44 x y t2, ty, pos, aft, g⟩ :: rest) a w := h
end
set_option maxHeartbeats 4000000 in
set_option maxRecDepth 100000 in
theorem pmay_any (p : PV) (w : World) (hp : p.ok w) : Calls Try.prog 24 #[.agg p.vals] w fun e w' => e = .returned (.bool (mayF p)) ∧ Below w.heap.size w w' := by
  have hbig1 := hp.o.len
  have hbig2 := hp.c.len
  unfold maxLen at hbig1 hbig2
  have HP := Lib.hid hp
  clear hp
  go_enter Try.func24, Try.ntmps24
  go_wp2_with (fail)
  have hb0 := Blk.new w p.vals 46
  have kb : Below w.heap.size w (w.alloc (.cells p.vals 46)) := (Below.refl _ _).alloc (Nat.le_refl _) _
  generalize w.alloc (.cells p.vals 46) = w1 at *
  have HB := Lib.hid hb0
  clear hb0
  go_loop [3, 4] (fun i _ => ∃ k : Nat, i = .int .u64 k ∧ k ≤ 16 ∧ Hid (∀ j : Nat, j < k → okId p j = true)) (fun i _ => 16 - (intOf i).toNat)
  case atStart => exact ⟨0, rfl, by omega, Lib.hid (fun j hj => by omega)⟩
  case round =>
    obtain ⟨k, rfl, hk, hall⟩ := hrel
    by_cases hlt : k < 16
    · have hsl := slot_le k
      by_cases hs : slotF k = 0
      · have hok : Hid (okId p k = true) := Lib.hid (by simp [okId, idn, hs])
        go_wp2_with (fail)
        refine (number_any _ k _).mono ?_
        rw [show ptrAt w.heap.size (slotF k) = none by simp [ptrAt, hs]]
        rintro e w2 ⟨rfl, rfl⟩
        clear hs hsl
        go_wp2_with (fail)
        exact ⟨⟨k + 1, by go_num, by omega, Lib.hid (fun j hj => by by_cases h : j = k; (rw [h]; exact hok.out); exact hall.out j (by omega))⟩, by simp [intOf]; omega⟩
      · have hcell := HB.out.cell (slotF k) (.int .u64 (p.num (slotF k))) (by have := p.at_num (slotF k) (by omega) (by omega); simpa [PV.vals] using this)
        have hfr := HB.out.free (slotF k)
        have hok : Hid (okId p k = (decide (p.num (slotF k) = 0) || mayId k (p.num (slotF k)))) := Lib.hid (by simp [okId, idn, hs])
        have hnb := HP.out.n (slotF k)
        go_wp2_with (fail)
        refine (number_any _ k _).mono ?_
        rw [show ptrAt w.heap.size (slotF k) = some ⟨w.heap.size, slotF k, none⟩ by simp [ptrAt, hs]]
        rintro e w2 ⟨rfl, rfl⟩
        generalize p.num (slotF k) = v at *
        generalize slotF k = sl at *
        by_cases hv : v = 0
        · subst hv
          go_wp2_with (fail)
          exact ⟨⟨k + 1, by go_num, by omega, Lib.hid (fun j hj => by by_cases h : j = k; (rw [h, hok.out]; rfl); exact hall.out j (by omega))⟩, by simp [intOf]; omega⟩
        · go_wp2_with (fail)
          refine (may_any k v _ hnb.1).mono ?_
          cases hm : mayId k v with
          | true =>
            have hok2 : Hid (okId p k = true) := Lib.hid (by rw [hok.out, hm]; simp)
            rintro e w2 ⟨rfl, rfl⟩
            clear hm
            go_wp2_with (fail)
            exact ⟨⟨k + 1, by go_num, by omega, Lib.hid (fun j hj => by by_cases h : j = k; (rw [h]; exact hok2.out); exact hall.out j (by omega))⟩, by simp [intOf]; omega⟩
          | false =>
            have hbad := Lib.hid (mayF_bad p k hlt (by rw [hok.out, hm]; simp [hv]))
            rintro e w2 ⟨rfl, rfl⟩
            clear hm
            go_wp2_with (fail)
            go_returns
            exact ⟨by rw [hbad.out]; rfl, kb⟩
    · obtain rfl : k = 16 := by omega
      have hgood := Lib.hid (mayF_good p hall.out)
      have h0 := HB.out.cell 0 (.slice p.oa p.O.length p.oc) rfl
      have h1 := HB.out.cell 1 (.slice p.ca p.C.length p.cc) rfl
      have h11 := HB.out.cell 11 (.bool p.has) rfl
      have h12 := HB.out.cell 12 (.int .u8 p.t0) rfl
      have h13 := HB.out.cell 13 (.int .u8 p.t1) rfl
      have h14 := HB.out.cell 14 (.int .u8 p.t2) rfl
      have h15 := HB.out.cell 15 (.int .u8 p.t3) rfl
      have h16 := HB.out.cell 16 (.int .u8 p.t4) rfl
      have h17 := HB.out.cell 17 (.int .u8 p.t5) rfl
      have h18 := HB.out.cell 18 (.int .u8 p.t6) rfl
      have h19 := HB.out.cell 19 (.int .u8 p.t7) rfl
      have h20 := HB.out.cell 20 (.int .u8 p.t8) rfl
      have h21 := HB.out.cell 21 (.int .u8 p.t9) rfl
      have h22 := HB.out.cell 22 (.int .u8 p.t10) rfl
      have h23 := HB.out.cell 23 (.int .u8 p.t11) rfl
      have h24 := HB.out.cell 24 (.int .u8 p.t12) rfl
      have h25 := HB.out.cell 25 (.int .u8 p.t13) rfl
      have h26 := HB.out.cell 26 (.int .u8 p.t14) rfl
      have h27 := HB.out.cell 27 (.int .u8 p.t15) rfl
      by_cases ho : p.O.length ≤ 20
      · by_cases hc : p.C.length ≤ 20
        · cases hh : p.has with
          | true =>
            rw [hh] at h11
            have hG : Hid (mayF p = true) := Lib.hid (by rw [hgood.out, hh]; simp [ho, hc])
            clear hgood hh
            go_wp2_with (fail)
            go_returns
            exact ⟨by rw [hG.out]; rfl, kb⟩
          | false =>
            rw [hh] at h11
            have hG : Hid (mayF p = decide (p.tok = List.replicate 16 0)) := Lib.hid (by rw [hgood.out, hh, zero_tok]; simp [ho, hc])
            clear hgood hh
            go_wp2_with (with_reducible refine stop_tok ?_)
            refine Stop.out ?_
            obtain ⟨ti, hti⟩ := tok_info
            refine wpList_eqArr Try.underlying44 hti tok_cells tok_plain Try.underlying5 rfl rfl rfl rfl p.tok (List.replicate 16 0) rfl rfl rfl rfl ?_ ?_
            · first | rfl | go_simp | skip
              trace_state
            · go_wp2_with (fail)
              go_returns
              exact ⟨by rw [hG.out]; rfl, kb⟩
        · have hG : Hid (mayF p = false) := Lib.hid (by rw [hgood.out]; simp [hc])
          clear hgood
          go_wp2_with (fail)
          go_returns
          exact ⟨by rw [hG.out]; rfl, kb⟩
      · have hG : Hid (mayF p = false) := Lib.hid (by rw [hgood.out]; simp [ho])
        clear hgood
        go_wp2_with (fail)
        go_returns
        exact ⟨by rw [hG.out]; rfl, kb⟩

end Par
end Go.Proofs.Ytjeolfnmheofeaa
