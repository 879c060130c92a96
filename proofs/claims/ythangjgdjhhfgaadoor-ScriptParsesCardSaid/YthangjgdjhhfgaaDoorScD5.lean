/- The document's Words. -/
import Derived.Test.YthangjgdjhhfgaaDoorScD4
namespace Go.Proofs.YthangjgdjhhfgaaDoor
open Go.RowKit
set_option linter.unusedVariables false
theorem scd_str_et : ET Tryd.prog 47 9 1 16 := et_of (by kernel_rfl)
/-- What is read yet of a line: the words behind, the word begun at `from`. -/
structure WdI (w0 : World) (s : List UInt8) (a : Option Addr) (n cap : Nat) (fr : Int) (k : Nat) (w : World) : Prop where
  below : Below w0.heap.size w0 w
  out : ∃ done acc, OwnS w w0.heap.size 9 1 a n cap (done.map fun p => Value.string (tx p)) ∧ n ≤ k ∧ done ++ wdsA acc ((s.drop k).takeWhile (· ≠ 35)) = textW s ∧ ((fr = -1 ∧ acc = []) ∨ (∃ f : Nat, fr = f ∧ f < k ∧ acc = (s.drop f).take (k - f) ∧ k ≤ s.length))
/-- What Words tells. -/
def WdPost (base : Nat) (s : List UInt8) (e : Ending) (w' : World) : Prop := ∃ a n cap, e = .returned (.slice a n cap) ∧ n = (textW s).length ∧ OwnS w' base 9 1 a n cap ((textW s).map fun p => Value.string (tx p))
theorem take_more5 {s : List UInt8} {a i : Nat} (ha : a ≤ i) (h : i < s.length) : (s.drop a).take (i + 1 - a) = (s.drop a).take (i - a) ++ [s.getD i 0] := by
  rw [show i + 1 - a = (i - a) + 1 by omega, List.take_add_one, List.getElem?_drop, show a + (i - a) = i by omega, List.getElem?_eq_getElem h]
  simp [List.getD, h]
set_option maxRecDepth 100000 in
set_option maxHeartbeats 16000000 in
theorem rwords_any (s : List UInt8) (w : World) (hs : s.length ≤ 500000) :
    Calls Tryd.prog 21 #[.string (tx s)] w fun x w' => WdPost w.heap.size s x w' ∧ Below w.heap.size w w' := by
  obtain ⟨n, hn⟩ : ∃ n, s.length = n := ⟨_, rfl⟩
  have hsz : (tx s).size = n := by rw [tx_size, hn]
  have hnb : n ≤ 500000 := by omega
  have HST := Lib.hid (show WdI w s none 0 0 (-1) 0 w from ⟨Below.refl _ _, [], [], OwnS.nil _ _ _ _, by omega, rfl, .inl ⟨rfl, rfl⟩⟩)
  have HN := Lib.hid hn
  clear hn hs
  go_enter Tryd.func21, Tryd.ntmps21
  go_wp2_with (fail)
  go_loopw [3, 4, 5] (fun v f i wr => ∃ (a : Option Addr) (m cap k : Nat) (fr : Int), v = .slice a m cap ∧ f = .int .i64 fr ∧ i = .int .i64 k ∧ k ≤ n + 1 ∧ -1 ≤ fr ∧ fr ≤ k ∧ Hid (WdI w s a m cap fr k wr)) (fun _ _ i _ => n + 1 - (intOf i).toNat)
  case atStart => exact ⟨none, 0, 0, 0, -1, rfl, rfl, rfl, by omega, by omega, by omega, HST⟩
  case round =>
    obtain ⟨a, q, cap, k, fr, rfl, rfl, rfl, hk, hf0, hf1, hok⟩ := hrel
    by_cases hlt : k < n
    · have hki : (k : Int) < n := by omega
      have hke : (k : Int) ≤ n := by omega
      obtain ⟨c, hc⟩ : ∃ c, s.getD k 0 = c := ⟨_, rfl⟩
      have hdr : s.drop k = c :: s.drop (k + 1) := by rw [drop_at (by rw [HN.out]; exact hlt), hc]
      have HDR := Lib.hid hdr
      obtain ⟨m, hm⟩ : ∃ m, c.toNat = m := ⟨_, rfl⟩
      have hmi : ∀ h, (((tx s)[k]'h).toNat : Int) = m := fun h => by rw [tx_get, hc, hm]
      have HM := Lib.hid hm
      clear hc hdr hm
      by_cases h32 : m = 32
      · skip
        obtain ⟨done, acc, h1, h2, h3, h4⟩ := hok.out.out
        have hc32 : c = 32 := UInt8.toNat_inj.1 (by rw [HM.out, h32]; rfl)
        rw [HDR.out, hc32, List.takeWhile_cons, if_pos (by decide), wdsA, if_pos rfl] at h3
        have e1 : ((m : Int) == 32) = true := by simp; omega
        have e1b : ((m : Int) != 32) = false := by simp; omega
        have e2 : ((m : Int) == 35) = false := by simp; omega
        rcases h4 with ⟨rfl, hacc⟩ | ⟨f, rfl, h6, h7, h8⟩
        · have e4 : ¬ (0 : Int) ≤ -1 := by omega
          have h4 : True := trivial
          rw [if_pos hacc] at h3
          have FIN := Lib.hid (show WdI w s a q cap (-1) (k + 1) wr from ⟨hok.out.below, done, [], h1, by omega, h3, .inl ⟨rfl, rfl⟩⟩)
          clear h1 h2 h3 h4
          go_wp2_with (fail)
          exact ⟨⟨a, q, cap, k + 1, -1, rfl, rfl, by go_num, by omega, by omega, by omega, FIN⟩, by simp [intOf]; omega⟩
        · have hacc : acc ≠ [] := fun e => by
            have := congrArg List.length h7
            rw [e] at this
            simp at this
            omega
          have hcut : (tx s).extract f k = tx acc := by rw [tx_cut, h7]
          have hfk : (f : Int) ≤ (k : Int) := by omega
          have hkn : (k : Int) ≤ (n : Int) := by omega
          have hf0' : ¬ (f : Int) < 0 := by omega
          rw [if_neg hacc] at h3
          have H1 := Lib.hid h1
          have H3 := Lib.hid h3
          have hqb : q ≤ 500001 := by omega
          have H2 := Lib.hid h2
          clear h1 h2 h3 h7 hacc
          go_wp2_with (at_builtin; refine Stop.mk ?_)
          refine Stop.out ?_
          have hb5 : Below wr.heap.size wr (wr.alloc (.cells #[.string (tx acc)] 9)) := (Below.refl _ _).alloc (Nat.le_refl _) _
          refine wpList_app scd_str_et rfl rfl (base := w.heap.size) rfl rfl (H1.out.below hb5) (SrcAt.one _ _ _ rfl) (by simp only [maxLen]; omega) (by omega) (by have := hok.out.below.size; simp; omega) ?_
          intro a6 c6 w6 ho6 on6 at6
          have b6 : Below w.heap.size w w6 := below_onto (below_on hok.out.below hb5 hok.out.below.size) on6 (by have := hok.out.below.size; simp; omega) (by rintro z hz ⟨y, hy, rfl⟩; have := (H1.out.block hy).1; omega)
          have ho7 : OwnS w6 w.heap.size 9 1 a6 (q + 1) c6 ((done ++ [acc]).map fun p => Value.string (tx p)) := by rw [List.map_append]; exact ho6
          have FIN := Lib.hid (show WdI w s a6 (q + 1) c6 (-1) (k + 1) w6 from ⟨b6, done ++ [acc], [], ho7, by have := H2.out; omega, by rw [← H3.out]; simp, .inl ⟨rfl, rfl⟩⟩)
          clear ho6 ho7 on6 at6 b6 hb5
          go_wp2_with (fail)
          exact ⟨⟨a6, q + 1, c6, k + 1, -1, rfl, rfl, by go_num, by omega, by omega, by omega, FIN⟩, by simp [intOf]; omega⟩
      · by_cases h35 : m = 35
        · skip
          obtain ⟨done, acc, h1, h2, h3, h4⟩ := hok.out.out
          have hc35 : c = 35 := UInt8.toNat_inj.1 (by rw [HM.out, h35]; rfl)
          rw [HDR.out, hc35, List.takeWhile_cons, if_neg (by decide), wdsA] at h3
          have e1 : ((m : Int) == 32) = false := by simp; omega
          have e1b : ((m : Int) != 32) = true := by simp; omega
          have e2 : ((m : Int) == 35) = true := by simp; omega
          have e2b : ((m : Int) != 35) = false := by simp; omega
          rcases h4 with ⟨rfl, hacc⟩ | ⟨f, rfl, h6, h7, h8⟩
          · have e4 : ¬ (0 : Int) ≤ -1 := by omega
            have h4 : True := trivial
            rw [if_pos hacc, List.append_nil] at h3
            have HP := Lib.hid (show WdPost w.heap.size s (.returned (.slice a q cap)) wr from ⟨a, q, cap, rfl, by rw [← h3]; have := h1.length; simp at this; omega, by rw [← h3]; exact h1⟩)
            clear h1 h2 h3 h4
            go_wp2_with (fail)
            go_returns
            exact ⟨HP.out, hok.out.below⟩
          · have hacc : acc ≠ [] := fun e => by
              have := congrArg List.length h7
              rw [e] at this
              simp at this
              omega
            have hcut : (tx s).extract f k = tx acc := by rw [tx_cut, h7]
            have hfk : (f : Int) ≤ (k : Int) := by omega
            have hkn : (k : Int) ≤ (n : Int) := by omega
            have hf0' : ¬ (f : Int) < 0 := by omega
            rw [if_neg hacc] at h3
            have H1 := Lib.hid h1
            have H3 := Lib.hid h3
            have hqb : q ≤ 500001 := by omega
            have H2 := Lib.hid h2
            clear h1 h2 h3 h7 hacc
            go_wp2_with (at_builtin; refine Stop.mk ?_)
            refine Stop.out ?_
            have hb5 : Below wr.heap.size wr (wr.alloc (.cells #[.string (tx acc)] 9)) := (Below.refl _ _).alloc (Nat.le_refl _) _
            refine wpList_app scd_str_et rfl rfl (base := w.heap.size) rfl rfl (H1.out.below hb5) (SrcAt.one _ _ _ rfl) (by simp only [maxLen]; omega) (by omega) (by have := hok.out.below.size; simp; omega) ?_
            intro a6 c6 w6 ho6 on6 at6
            have b6 : Below w.heap.size w w6 := below_onto (below_on hok.out.below hb5 hok.out.below.size) on6 (by have := hok.out.below.size; simp; omega) (by rintro z hz ⟨y, hy, rfl⟩; have := (H1.out.block hy).1; omega)
            have ho7 : OwnS w6 w.heap.size 9 1 a6 (q + 1) c6 ((done ++ [acc]).map fun p => Value.string (tx p)) := by rw [List.map_append]; exact ho6
            have HP := Lib.hid (show WdPost w.heap.size s (.returned (.slice a6 (q + 1) c6)) w6 from ⟨a6, q + 1, c6, rfl, by rw [← H3.out]; have := ho7.length; simp at this; simp; omega, by rw [← H3.out]; exact ho7⟩)
            have HB6 := Lib.hid b6
            clear ho6 ho7 on6 at6 b6 hb5
            go_wp2_with (fail)
            go_returns
            exact ⟨HP.out, HB6.out⟩
        · have e1 : ((m : Int) == 32) = false := by simp; omega
          have e2 : ((m : Int) == 35) = false := by simp; omega
          have e1b : ((m : Int) != 32) = true := by simp; omega
          have e2b : ((m : Int) != 35) = true := by simp; omega
          obtain ⟨done, acc, h1, h2, h3, h4⟩ := hok.out.out
          have hc32 : c ≠ 32 := fun h => h32 (by rw [← HM.out, h]; rfl)
          have hc35 : c ≠ 35 := fun h => h35 (by rw [← HM.out, h]; rfl)
          rw [HDR.out, List.takeWhile_cons, if_pos (by simpa using hc35), wdsA, if_neg hc32] at h3
          have hkl : k < s.length := by rw [HN.out]; exact hlt
          have hcg : s.getD k 0 = c := by
            have := HDR.out
            rw [List.drop_eq_getElem_cons hkl] at this
            simp [List.getD, hkl]
            exact (List.cons.inj this).1
          by_cases hfr : fr < 0
          · have e3 : fr < (0 : Int) := hfr
            have FIN := Lib.hid (show WdI w s a q cap k (k + 1) wr from ⟨hok.out.below, done, acc ++ [c], h1, by omega, h3, .inr ⟨k, rfl, by omega, by
              rcases h4 with ⟨_, h5⟩ | ⟨f, h5, _⟩
              · rw [h5, HDR.out, show k + 1 - k = 1 by omega]; rfl
              · omega, by omega⟩⟩)
            clear h1 h2 h3 h4
            go_wp2_with (fail)
            exact ⟨⟨a, q, cap, k + 1, k, rfl, rfl, by go_num, by omega, by omega, by omega, FIN⟩, by simp [intOf]; omega⟩
          · have e3 : ¬ fr < (0 : Int) := hfr
            have FIN := Lib.hid (show WdI w s a q cap fr (k + 1) wr from ⟨hok.out.below, done, acc ++ [c], h1, by omega, h3, by
              rcases h4 with ⟨h5, _⟩ | ⟨f, h5, h6, h7, h8⟩
              · omega
              · refine .inr ⟨f, h5, by omega, ?_, by omega⟩
                rw [h7, take_more5 (by omega) hkl, hcg]⟩)
            clear h1 h2 h3 h4
            go_wp2_with (fail)
            exact ⟨⟨a, q, cap, k + 1, fr, rfl, rfl, by go_num, by omega, by omega, by omega, FIN⟩, by simp [intOf]; omega⟩
    · by_cases hlast : k = n
      · have hkn1 : ¬ (k : Int) < (n : Int) := by omega
        have hkn2 : (k : Int) ≤ (n : Int) := by omega
        clear hlast
        obtain ⟨done, acc, h1, h2, h3, h4⟩ := hok.out.out
        rw [List.drop_of_length_le (by rw [HN.out]; omega), List.takeWhile_nil, wdsA] at h3
        rcases h4 with ⟨rfl, hacc⟩ | ⟨f, rfl, h6, h7, h8⟩
        · have e4 : ¬ (0 : Int) ≤ -1 := by omega
          have h4 : True := trivial
          rw [if_pos hacc, List.append_nil] at h3
          have FIN := Lib.hid (show WdI w s a q cap (-1) (k + 1) wr from ⟨hok.out.below, done, [], h1, by omega, by rw [List.drop_of_length_le (by rw [HN.out]; omega), ← h3]; simp [wdsA], .inl ⟨rfl, rfl⟩⟩)
          clear h1 h2 h3 h4
          go_wp2_with (fail)
          exact ⟨⟨a, q, cap, k + 1, -1, rfl, rfl, by go_num, by omega, by omega, by omega, FIN⟩, by simp [intOf]; omega⟩
        · have hacc : acc ≠ [] := fun e => by
            have := congrArg List.length h7
            rw [e] at this
            simp at this
            omega
          have hcut : (tx s).extract f k = tx acc := by rw [tx_cut, h7]
          have hfk : (f : Int) ≤ (k : Int) := by omega
          have hkn : (k : Int) ≤ (n : Int) := by omega
          have hf0' : ¬ (f : Int) < 0 := by omega
          rw [if_neg hacc] at h3
          have H1 := Lib.hid h1
          have H3 := Lib.hid h3
          have hqb : q ≤ 500001 := by omega
          have H2 := Lib.hid h2
          clear h1 h2 h3 h7 hacc
          go_wp2_with (at_builtin; refine Stop.mk ?_)
          refine Stop.out ?_
          have hb5 : Below wr.heap.size wr (wr.alloc (.cells #[.string (tx acc)] 9)) := (Below.refl _ _).alloc (Nat.le_refl _) _
          refine wpList_app scd_str_et rfl rfl (base := w.heap.size) rfl rfl (H1.out.below hb5) (SrcAt.one _ _ _ rfl) (by simp only [maxLen]; omega) (by omega) (by have := hok.out.below.size; simp; omega) ?_
          intro a6 c6 w6 ho6 on6 at6
          have b6 : Below w.heap.size w w6 := below_onto (below_on hok.out.below hb5 hok.out.below.size) on6 (by have := hok.out.below.size; simp; omega) (by rintro z hz ⟨y, hy, rfl⟩; have := (H1.out.block hy).1; omega)
          have ho7 : OwnS w6 w.heap.size 9 1 a6 (q + 1) c6 ((done ++ [acc]).map fun p => Value.string (tx p)) := by rw [List.map_append]; exact ho6
          have FIN := Lib.hid (show WdI w s a6 (q + 1) c6 (-1) (k + 1) w6 from ⟨b6, done ++ [acc], [], ho7, by have := H2.out; omega, by rw [List.drop_of_length_le (by rw [HN.out]; omega), ← H3.out]; simp [wdsA], .inl ⟨rfl, rfl⟩⟩)
          clear ho6 ho7 on6 at6 b6 hb5
          go_wp2_with (fail)
          exact ⟨⟨a6, q + 1, c6, k + 1, -1, rfl, rfl, by go_num, by omega, by omega, by omega, FIN⟩, by simp [intOf]; omega⟩
      · have hkn : ¬ (k : Int) ≤ (n : Int) := by omega
        obtain ⟨done, acc, h1, h2, h3, h4⟩ := hok.out.out
        rw [List.drop_of_length_le (by rw [HN.out]; omega), List.takeWhile_nil, wdsA, if_pos (by
          rcases h4 with ⟨_, h5⟩ | ⟨f, _, _, _, h8⟩
          · exact h5
          · rw [HN.out] at h8; omega), List.append_nil] at h3
        have HP := Lib.hid (show WdPost w.heap.size s (.returned (.slice a q cap)) wr from ⟨a, q, cap, rfl, by rw [← h3]; have := h1.length; simp at this; omega, by rw [← h3]; exact h1⟩)
        clear h1 h2 h3 h4
        go_wp2_with (fail)
        go_returns
        exact ⟨HP.out, hok.out.below⟩
end Go.Proofs.YthangjgdjhhfgaaDoor
