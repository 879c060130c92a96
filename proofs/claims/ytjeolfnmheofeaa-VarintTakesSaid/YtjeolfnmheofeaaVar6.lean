/- VarintTakes. -/
import Derived.Test.YtjeolfnmheofeaaVar5
namespace Go.Proofs.Ytjeolfnmheofeaa
open Go.RowKit
set_option linter.unusedVariables false
namespace Var

theorem bytesL_wf {L : List Int} (h : ∀ x ∈ L, Byte x) : ∀ x ∈ bytesL L, (Lit.int .u8 x).wf = true := by
  intro x hx
  refine wf_byte (h x ?_)
  unfold bytesL bytesF at hx
  cases ht : takeF L with
  | none => rw [ht] at hx; simp at hx
  | some v =>
    obtain ⟨m, u⟩ := v
    rw [ht] at hx
    simp only at hx
    split at hx
    · exact List.mem_of_mem_drop (List.mem_of_mem_take hx)
    · simp at hx

set_option maxHeartbeats 4000000 in
theorem takes_law (a : Option Addr) (cap : Nat) (L : List Int) (w : World) (hS : Sl .u8 w a cap L) :
    Calls Try.prog 3 #[.slice a L.length cap] w fun e w' => e = .returned (.bool true) ∧ Below w.heap.size w w' := by
  have hmax := hS.len
  unfold maxLen at hmax
  have hbt := sl_byte hS
  have hT : ∃ (m : Int) (u : Nat) (at_ : Int) (s : Bool), takeN L = m ∧ takeU L = u ∧ (takeF L).isSome = s ∧ ((takeF L).map fun v => (v.2 : Int)).getD (-1) = at_ ∧ ((u = 0 ∧ at_ = -1 ∧ s = false) ∨ (1 ≤ u ∧ u ≤ 8 ∧ at_ = u ∧ s = true)) := by
    unfold takeN takeU
    cases ht : takeF L with
    | none => exact ⟨_, _, _, _, rfl, rfl, rfl, rfl, .inl ⟨rfl, rfl, rfl⟩⟩
    | some v => obtain ⟨m, u⟩ := v; have := take_ok hbt ht; exact ⟨_, _, _, _, rfl, rfl, rfl, rfl, .inr ⟨by simp; omega, by simp; omega, by simp, rfl⟩⟩
  have hF : ∃ (u : Nat) (at_ : Int) (s : Bool), bytesU L = u ∧ (bytesF L).isSome = s ∧ ((bytesF L).map fun v => (v.2 : Int)).getD (-1) = at_ ∧ ((u = 0 ∧ at_ = -1 ∧ s = false) ∨ (u ≤ L.length ∧ at_ = u ∧ s = true)) := by
    unfold bytesU
    cases ht : bytesF L with
    | none => exact ⟨_, _, _, rfl, rfl, rfl, .inl ⟨rfl, rfl, rfl⟩⟩
    | some v =>
      obtain ⟨m, u⟩ := v
      have hu : u ≤ L.length := by
        unfold bytesF at ht
        cases ht2 : takeF L with
        | none => rw [ht2] at ht; cases ht
        | some v =>
          obtain ⟨m2, u2⟩ := v
          have := take_ok hbt ht2
          rw [ht2] at ht
          simp only at ht
          split at ht
          · cases ht; omega
          · cases ht
      exact ⟨_, _, _, rfl, rfl, rfl, .inr ⟨by simpa using hu, by simp, rfl⟩⟩
  obtain ⟨m, u, at_, s, t1, t2, t3, t4, t5⟩ := hT
  obtain ⟨u', at', s', f2, f3, f4, f5⟩ := hF
  have T1 := Lib.hid t1
  have T2 := Lib.hid t2
  have T3 := Lib.hid t3
  have T4 := Lib.hid t4
  have F2 := Lib.hid f2
  have F3 := Lib.hid f3
  have F4 := Lib.hid f4
  have HB := Lib.hid hbt
  have HS := Lib.hid hS
  have T5 := Lib.hid t5
  have F5 := Lib.hid f5
  clear hS hbt t1 t2 t3 t4 t5 f2 f3 f4 f5
  go_enter Try.func3, Try.ntmps3
  go_wp2_with (fail)
  refine (known_any _).mono ?_
  rintro e w1 ⟨rfl, hb1⟩
  by_cases hl : L.length ≤ 3000
  · have H1 := Lib.hid (HS.out.below hb1)
    go_wp2_with (fail)
    refine (take_any a _ cap L _ rfl H1.out).mono ?_
    rw [T1.out, T2.out, T3.out]
    rintro e w2 ⟨rfl, rfl⟩
    go_wp2_with (fail)
    refine (rtake_any a _ cap L _ rfl H1.out).mono ?_
    rw [T1.out, T4.out]
    rintro e w2 ⟨rfl, rfl⟩
    have z1 := hb1.size
    have ho0 := OwnS.new w1 w1.heap.size (Nat.le_refl _) 5 1 0 #[] (by simp) rfl
    rcases T5.out with ⟨rfl, rfl, rfl⟩ | ⟨hu1, hu8, rfl, rfl⟩
    · skip
      go_wp2_with (at_builtin; refine Stop.mk ?_)
      refine Stop.out ?_
      refine wpList_app bytes_et rfl rfl rfl rfl ho0 (H1.out.below ((Below.refl _ _).alloc (Nat.le_refl _) _)).src (by unfold maxLen; omega) (by omega) (by simp) ?_
      intro a3 cap3 w3 ho3 hon3 hat3
      simp only [Nat.zero_add, List.nil_append] at ho3 ⊢
      have k3 : Below w1.heap.size w1 w3 := below_onto ((Below.refl _ _).alloc (Nat.le_refl _) _) hon3 (by simp) (by rintro z hz ⟨y, hy, rfl⟩; cases hy; simp at hz)
      have z3 := k3.size
      have hs3 := (ho3.sl (L := L) (fun x hx => wf_byte (HB.out x hx))).2
      clear ho0 hon3 hat3
      have HO3 := Lib.hid ho3
      have HS3 := Lib.hid hs3
      clear ho3 hs3
      go_wp2_with (fail)
      refine (bytes_any a3 _ cap3 L _ rfl (by omega) HS3.out).mono ?_
      rw [F2.out, F3.out]
      rintro e w4 ⟨a9, cap9, rfl, ho9, hb4⟩
      have HO4 := Lib.hid (HO3.out.below hb4)
      have hs9 := (ho9.sl (L := bytesL L) (fun x hx => by
        obtain ⟨i, hi, rfl⟩ := List.getElem_of_mem hx
        exact bytesL_wf HB.out _ (List.getElem_mem hi))).2
      have hd9 : ∀ x, a9 = some x → ∀ y, a3 = some y → y.block ≠ x.block := fun x hx y hy => by
        have h1 := (ho9.block hx).1
        have h2 := (HO3.out.block hy).2.1
        omega
      have HS9 := Lib.hid hs9
      have HD9 := Lib.hid hd9
      clear ho9 hs9 hd9
      have k4 := k3.trans (hb4.mono z3)
      go_wp2_with (fail)
      go_loopw [10, 55] (fun _ i wr => ∃ (k : Nat) (M : List Int), i = .int .i64 k ∧ k ≤ L.length ∧ M.length = L.length ∧ Hid (OwnS wr w1.heap.size 5 1 a3 L.length cap3 (M.map (Value.int .u8))) ∧ Only (fun b => ∃ y, a3 = some y ∧ y.block = b) w4 wr) (fun _ i _ => L.length - (intOf i).toNat)
      case atStart => exact ⟨0, L, rfl, by omega, rfl, HO4, Only.refl _ _⟩
      case round =>
        obtain ⟨k, M, rfl, hk, hM, ho, hon⟩ := hrel
        by_cases hlt : k < L.length
        · obtain ⟨g, rfl, hg0, hgl, hc0, hf⟩ := ho.out.at_ (i := k) (by simp; omega)
          obtain ⟨x, hc⟩ : ∃ x, wr.cell? ⟨g, k, none⟩ = some (.int .u8 x) := ⟨M[k], by rw [hc0]; simp [List.getElem?_eq_getElem (show k < M.length by omega)]⟩
          clear hc0
          go_wp2_with (fail)
          have ho5 := OwnS.set ho.out g rfl k (.int .u8 (bits .xor .u8 x 255))
          exact ⟨⟨k + 1, M.set k (bits .xor .u8 x 255), by go_num, by omega, by simp; exact hM, Lib.hid (by rw [List.map_set]; exact ho5), hon.setCell (p := ⟨g, k, none⟩) (.inl ⟨_, rfl, rfl⟩) _⟩, by simp [intOf]; omega⟩
        · have k5 : Below w1.heap.size w1 wr := below_onto k4 hon k4.size (by rintro z hz ⟨y, hy, rfl⟩; have := (HO3.out.block hy).1; omega)
          have hs5 := Lib.hid (H1.out.below k5)
          have hs9 := Lib.hid (HS9.out.only hon (by rintro x hx _ ⟨y, hy, he⟩; exact HD9.out x hx y hy he))
          clear ho hon k4
          go_wp2_with (fail)
          refine (rsized_any a _ cap L _ rfl (by omega) hs5.out).mono ?_
          rw [F4.out]
          rintro e w6 ⟨a11, cap11, rfl, ho11, hb6⟩
          have HS11 := Lib.hid (ho11.sl (L := bytesL L) (fun x hx => bytesL_wf HB.out x hx)).2
          have HS9' := Lib.hid (hs9.out.below hb6)
          clear ho11
          go_wp2_with (with_reducible refine stop_bstr ?_)
          refine Stop.out ?_
          refine wpList_str Try.underlying22 Try.underlying5 Try.underlying9 rfl rfl rfl rfl HS9'.out.ints ?_
          go_wp2_with (with_reducible refine stop_bstr ?_)
          refine Stop.out ?_
          refine wpList_str Try.underlying22 Try.underlying5 Try.underlying9 rfl rfl rfl rfl HS11.out.ints ?_
          clear HD9 hs9 HS9 HS9' HS11 hs5 HO4 HO3 HS3
          go_wp2_with (with_reducible refine stop_eql ?_)
          refine Stop.out ?_
          refine wpList_same rfl rfl rfl rfl ?_
          rcases F5.out with ⟨rfl, rfl, rfl⟩ | ⟨hu2, rfl, rfl⟩
          all_goals
            go_wp2_with (with_reducible refine stop_max ?_)
            refine Stop.out ?_
          · refine wpList_max rfl rfl 0 rfl rfl (by omega) ?_
            go_wp2_with (fail)
            go_returns
            exact ⟨rfl, below_on hb1 (k5.trans (hb6.mono k5.size)) z1⟩
          · refine wpList_max rfl rfl u' rfl rfl (by omega) ?_
            go_wp2_with (fail)
            go_returns
            exact ⟨rfl, below_on hb1 (k5.trans (hb6.mono k5.size)) z1⟩
    · have hpos : decide (0 < u) = true := by simp; omega
      go_wp2_with (at_builtin; refine Stop.mk ?_)
      refine Stop.out ?_
      refine wpList_app bytes_et rfl rfl rfl rfl ho0 (H1.out.below ((Below.refl _ _).alloc (Nat.le_refl _) _)).src (by unfold maxLen; omega) (by omega) (by simp) ?_
      intro a3 cap3 w3 ho3 hon3 hat3
      simp only [Nat.zero_add, List.nil_append] at ho3 ⊢
      have k3 : Below w1.heap.size w1 w3 := below_onto ((Below.refl _ _).alloc (Nat.le_refl _) _) hon3 (by simp) (by rintro z hz ⟨y, hy, rfl⟩; cases hy; simp at hz)
      have z3 := k3.size
      have hs3 := (ho3.sl (L := L) (fun x hx => wf_byte (HB.out x hx))).2
      clear ho0 hon3 hat3
      have HO3 := Lib.hid ho3
      have HS3 := Lib.hid hs3
      clear ho3 hs3
      go_wp2_with (fail)
      refine (bytes_any a3 _ cap3 L _ rfl (by omega) HS3.out).mono ?_
      rw [F2.out, F3.out]
      rintro e w4 ⟨a9, cap9, rfl, ho9, hb4⟩
      have HO4 := Lib.hid (HO3.out.below hb4)
      have hs9 := (ho9.sl (L := bytesL L) (fun x hx => by
        obtain ⟨i, hi, rfl⟩ := List.getElem_of_mem hx
        exact bytesL_wf HB.out _ (List.getElem_mem hi))).2
      have hd9 : ∀ x, a9 = some x → ∀ y, a3 = some y → y.block ≠ x.block := fun x hx y hy => by
        have h1 := (ho9.block hx).1
        have h2 := (HO3.out.block hy).2.1
        omega
      have HS9 := Lib.hid hs9
      have HD9 := Lib.hid hd9
      clear ho9 hs9 hd9
      have k4 := k3.trans (hb4.mono z3)
      go_wp2_with (fail)
      go_loopw [10, 55] (fun _ i wr => ∃ (k : Nat) (M : List Int), i = .int .i64 k ∧ k ≤ L.length ∧ M.length = L.length ∧ Hid (OwnS wr w1.heap.size 5 1 a3 L.length cap3 (M.map (Value.int .u8))) ∧ Only (fun b => ∃ y, a3 = some y ∧ y.block = b) w4 wr) (fun _ i _ => L.length - (intOf i).toNat)
      case atStart => exact ⟨0, L, rfl, by omega, rfl, HO4, Only.refl _ _⟩
      case round =>
        obtain ⟨k, M, rfl, hk, hM, ho, hon⟩ := hrel
        by_cases hlt : k < L.length
        · obtain ⟨g, rfl, hg0, hgl, hc0, hf⟩ := ho.out.at_ (i := k) (by simp; omega)
          obtain ⟨x, hc⟩ : ∃ x, wr.cell? ⟨g, k, none⟩ = some (.int .u8 x) := ⟨M[k], by rw [hc0]; simp [List.getElem?_eq_getElem (show k < M.length by omega)]⟩
          clear hc0
          go_wp2_with (fail)
          have ho5 := OwnS.set ho.out g rfl k (.int .u8 (bits .xor .u8 x 255))
          exact ⟨⟨k + 1, M.set k (bits .xor .u8 x 255), by go_num, by omega, by simp; exact hM, Lib.hid (by rw [List.map_set]; exact ho5), hon.setCell (p := ⟨g, k, none⟩) (.inl ⟨_, rfl, rfl⟩) _⟩, by simp [intOf]; omega⟩
        · have k5 : Below w1.heap.size w1 wr := below_onto k4 hon k4.size (by rintro z hz ⟨y, hy, rfl⟩; have := (HO3.out.block hy).1; omega)
          have hs5 := Lib.hid (H1.out.below k5)
          have hs9 := Lib.hid (HS9.out.only hon (by rintro x hx _ ⟨y, hy, he⟩; exact HD9.out x hx y hy he))
          clear ho hon k4
          go_wp2_with (fail)
          refine (rsized_any a _ cap L _ rfl (by omega) hs5.out).mono ?_
          rw [F4.out]
          rintro e w6 ⟨a11, cap11, rfl, ho11, hb6⟩
          have HS11 := Lib.hid (ho11.sl (L := bytesL L) (fun x hx => bytesL_wf HB.out x hx)).2
          have HS9' := Lib.hid (hs9.out.below hb6)
          clear ho11
          go_wp2_with (with_reducible refine stop_bstr ?_)
          refine Stop.out ?_
          refine wpList_str Try.underlying22 Try.underlying5 Try.underlying9 rfl rfl rfl rfl HS9'.out.ints ?_
          go_wp2_with (with_reducible refine stop_bstr ?_)
          refine Stop.out ?_
          refine wpList_str Try.underlying22 Try.underlying5 Try.underlying9 rfl rfl rfl rfl HS11.out.ints ?_
          clear HD9 hs9 HS9 HS9' HS11 hs5 HO4 HO3 HS3
          go_wp2_with (with_reducible refine stop_eql ?_)
          refine Stop.out ?_
          refine wpList_same rfl rfl rfl rfl ?_
          rcases F5.out with ⟨rfl, rfl, rfl⟩ | ⟨hu2, rfl, rfl⟩
          all_goals
            go_wp2_with (with_reducible refine stop_max ?_)
            refine Stop.out ?_
          · refine wpList_max rfl rfl 0 rfl rfl (by omega) ?_
            go_wp2_with (fail)
            go_returns
            exact ⟨rfl, below_on hb1 (k5.trans (hb6.mono k5.size)) z1⟩
          · refine wpList_max rfl rfl u' rfl rfl (by omega) ?_
            go_wp2_with (fail)
            go_returns
            exact ⟨rfl, below_on hb1 (k5.trans (hb6.mono k5.size)) z1⟩
  · go_wp2_with (fail)
    go_returns
    exact ⟨rfl, hb1⟩

end Var
end Go.Proofs.Ytjeolfnmheofeaa
