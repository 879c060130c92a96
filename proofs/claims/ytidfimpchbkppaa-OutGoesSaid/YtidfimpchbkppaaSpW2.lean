/- Walks: the document's put. -/
import Derived.Test.YtidfimpchbkppaaSpM
namespace Go.Proofs.Ytidfimpchbkppaa
open Go.RowKit
set_option linter.unusedVariables false

theorem run_cut_h {P : Program} {t e : TypeId} {size bytes : Nat} (hE : ET P t e size bytes) {av : Option Addr} {n cap : Nat} {kh : IntKind} (m : Nat) (h2 : m ≤ cap) (w : World) :
    (Instr.sliceAt t (.slice av n cap) none (some (.int kh m)) none).run P w = .ok (.slice (if cap = 0 then av else av.map (·.add (0 * size))) m cap) w := by
  obtain ⟨ht, hz⟩ := hE.elem
  rw [run_sliceAt_slice (h := ht), run_slice_h (ht := ht) (h0 := by omega) (h2 := by omega), hz]
  simp [Result.andThen, sliced]
theorem run_cut_l {P : Program} {t e : TypeId} {size bytes : Nat} (hE : ET P t e size bytes) {av : Option Addr} {n cap : Nat} {kl : IntKind} (l : Nat) (h1 : l ≤ n) (h2 : n ≤ cap) (w : World) :
    (Instr.sliceAt t (.slice av n cap) (some (.int kl l)) none none).run P w = .ok (.slice (if cap = l then av else av.map (·.add (l * size))) (n - l) (cap - l)) w := by
  obtain ⟨ht, hz⟩ := hE.elem
  rw [run_sliceAt_slice (h := ht), run_slice_l (ht := ht) (h0 := by omega) (h1 := by omega), hz]
  simp [Result.andThen, sliced]
theorem SrcAt.blk1 {w : World} {q : Nat} {x : Value} {t : TypeId} (h : Blk w q #[x] t) (hx : x.oneCell' = true) : SrcAt w (some ⟨q, 0, none⟩) 1 1 1 [x] :=
  ⟨rfl, by simp, fun y hy j u hj => by
    cases hy
    rw [addr_add, Nat.zero_add]
    exact h.cell j u (by
      match j with
      | 0 => simpa using hj
      | j + 1 => simp at hj), by simpa using hx⟩
theorem u64_et : ET Try.prog 33 28 1 8 := et_of (by kernel_rfl)

set_option maxHeartbeats 2000000 in
theorem put_any (a : Option Addr) (m cap : Nat) (L : List Int) (n : Int) (w : World) (hm : m = L.length) (hn : 0 ≤ n ∧ n ≤ 18446744073709551615) (hbig : L.length ≤ 1000000) (hR : Sl .u64 w a cap L) :
    Calls Try.prog 93 #[.slice a m cap, .int .u64 n] w fun e w' => Below w.heap.size w w' ∧ ∃ a' cap', e = .returned (.slice a' (putP L n).length cap') ∧ Sl .u64 w' a' cap' (putP L n) := by
  subst hm
  have hlen := hR.len
  unfold maxLen at hlen
  have hbd : ∀ x ∈ L, 0 ≤ x ∧ x ≤ 18446744073709551615 := fun x hx => u64_bd (hR.wf x hx)
  have HR := Lib.hid hR
  have HB := Lib.hid hbd
  clear hR hbd
  obtain ⟨N, hN⟩ : ∃ N, putP L n = N := ⟨_, rfl⟩
  have HP := Lib.hid hN
  rw [hN]
  clear hN
  go_enter Try.func93, Try.ntmps93
  go_wp2_with (fail)
  go_loop [5] (fun i => ∃ k : Nat, i = .int .i64 k ∧ k ≤ L.length ∧ Hid (∀ j : Nat, j < k → L.getD j 0 < n)) (fun i => L.length - (intOf i).toNat)
  case atStart => exact ⟨0, rfl, by omega, Lib.hid (fun j h => by omega)⟩
  case round =>
    obtain ⟨k, rfl, hk, hok⟩ := hrel
    by_cases hlt : k < L.length
    · obtain ⟨b, off, ha, hb, c1, _⟩ := HR.out.ints k hlt
      subst ha
      obtain ⟨x, hx⟩ : ∃ x, L.getD k 0 = x := ⟨_, rfl⟩
      rw [hx] at c1
      have hxb : 0 ≤ x ∧ x ≤ 18446744073709551615 := by rw [← hx]; exact HB.out _ (by simp [hlt])
      have HX := Lib.hid hx
      clear hx
      by_cases h1 : x < n
      · go_wp2_with (fail)
        refine ⟨⟨k + 1, by go_num, by omega, Lib.hid ?_⟩, by simp [intOf]; omega⟩
        intro j hj
        rcases Nat.lt_or_ge j k with h | h
        · exact hok.out j h
        · obtain rfl : j = k := by omega
          rw [HX.out]; exact h1
      · have hput := putP_at L n k (by omega) hok.out (fun _ => by rw [HX.out]; exact h1)
        rw [HX.out, HP.out] at hput
        by_cases h2 : x = n
        · rw [if_pos ⟨hlt, h2⟩] at hput
          have HPUT := Lib.hid hput
          clear hput
          go_wp2_with (fail)
          go_returns
          refine ⟨Below.refl _ _, some ⟨b, off, none⟩, cap, ?_, ?_⟩
          · rw [HPUT.out]; rfl
          · rw [HPUT.out]; exact HR.out
        · rw [if_neg (fun h => h2 h.2)] at hput
          have HPUT := Lib.hid hput
          clear hput
          go_wp2_with (fail)
          obtain ⟨a3, ha3⟩ : ∃ a3, (if cap = 0 then (some (⟨b, off, none⟩ : Addr)) else (some (⟨b, off, none⟩ : Addr)).map (·.add (0 * 1))) = a3 := ⟨_, rfl⟩
          obtain ⟨a4, ha4⟩ : ∃ a4, (if cap = k then (some (⟨b, off, none⟩ : Addr)) else (some (⟨b, off, none⟩ : Addr)).map (·.add (k * 1))) = a4 := ⟨_, rfl⟩
          have hc1 := fun w' => run_cut_h (P := Try.prog) u64_et (av := (some (⟨b, off, none⟩ : Addr))) (n := L.length) (cap := cap) (kh := .i64) k (by have := HR.out.le; omega) w'
          have hc2 := fun w' => run_cut_l (P := Try.prog) u64_et (av := (some (⟨b, off, none⟩ : Addr))) (n := L.length) (cap := cap) (kl := .i64) k (by omega) HR.out.le w'
          rw [ha3] at hc1
          rw [ha4] at hc2
          have HA3 := Lib.hid ha3
          have HA4 := Lib.hid ha4
          clear ha3 ha4
          refine rg_start 13 ?_
          refine rg_below fun p hx hne hC hbel => ?_
          refine rg_quiet 6 [1,2,3,5,8,9,10] hC ?_
          simp only [pickD, List.map_cons, List.map_nil, List.getD_cons_zero, List.getD_cons_succ]; repeat (go_big_quiet_step (fail))
          refine wpQuiet_nil ?_
          have HS3 : Hid (Sl .u64 w a3 cap (L.take k)) := Lib.hid (by rw [← HA3.out]; simpa using HR.out.cut 0 k (by omega) (by omega))
          have HS4 : Hid (Sl .u64 w a4 (cap - k) (L.drop k)) := Lib.hid (by
            rw [← HA4.out]
            have h := HR.out.cut k L.length (by omega) (Nat.le_refl _)
            rw [List.take_of_length_le (by simp)] at h
            exact h)
          have HK := Lib.hid hk
          have HBIG := Lib.hid hbig
          clear hc1 hc2 HA3 HA4
          have hbx : ∀ w', Below w.heap.size w w' → Cls p w' := fun w' h => hbel w' ⟨h.os, h.tape, h.output, h.size, h.block⟩
          refine rg_among [0, 6] ?_
          intro q hq
          rcases (show q = 0 ∨ q = 6 by simpa using hq) with rfl | rfl
          · clear hq
            simp only [List.getD_cons_zero, List.getD_cons_succ]
            go_wp2
            have b1 : Below w.heap.size w (w.alloc (.cells #[] 28)).drew := ((Below.refl _ _).alloc (Nat.le_refl _) _).drew
            have o1 : OwnS (w.alloc (.cells #[] 28)).drew w.heap.size 28 1 (some ⟨w.heap.size, 0, none⟩) 0 0 [] := OwnS.new w w.heap.size (Nat.le_refl _) 28 1 0 #[] (by simp [maxLen]) rfl
            refine ⟨hbx _ b1, ?_⟩
            refine rg_among [4, 6] ?_
            intro q hq
            rcases (show q = 4 ∨ q = 6 by simpa using hq) with rfl | rfl
            · clear hq
              simp only [List.getD_cons_zero, List.getD_cons_succ]
              refine wpList_app u64_et rfl rfl (base := w.heap.size) (xs := []) rfl rfl o1 (by have := (HS3.out.below b1).src; rw [List.length_take_of_le HK.out] at this; exact this) (by have := HBIG.out; have := HK.out; simp only [maxLen]; omega) (by have := HBIG.out; have := HK.out; omega) b1.size ?_
              intro a5 c5 w5 ho5 on5 _
              have b5 : Below w.heap.size w w5 := below_onto b1 on5 b1.size (by rintro z hz ⟨y, hy, rfl⟩; have := (OwnS.block o1 hy).1; omega)
              rw [Nat.zero_add, List.nil_append] at ho5
              go_wp2_with (fail)
              refine ⟨hbx _ b5, ?_⟩
              try simp only [Nat.zero_add]
              refine rg_act 6 ?_
              go_wp2
              have b6 : Below w.heap.size w (w5.alloc (.cells #[.int .u64 n] 28)) := b5.alloc b5.size _
              have o6 := ho5.below ((Below.refl w5.heap.size w5).alloc (Nat.le_refl _) (.cells #[.int .u64 n] 28))
              refine ⟨hbx _ b6, ?_⟩
              refine rg_act 7 ?_
              refine wpList_app u64_et rfl rfl (base := w.heap.size) rfl rfl o6 (SrcAt.blk1 (Blk.new w5 #[.int .u64 n] 28) rfl) (by have := HBIG.out; have := HK.out; simp only [maxLen]; omega) (by have := HBIG.out; have := HK.out; omega) b6.size ?_
              intro a7 c7 w7 ho7 on7 _
              have b7 : Below w.heap.size w w7 := below_onto b6 on7 b6.size (by rintro z hz ⟨y, hy, rfl⟩; have := (OwnS.block o6 hy).1; omega)
              go_wp2_with (fail)
              refine ⟨hbx _ b7, ?_⟩
              refine rg_cut 11 ?_
              refine wpList_app u64_et rfl rfl (base := w.heap.size) rfl rfl ho7 (by have := (HS4.out.below b7).src; rw [List.length_drop] at this; exact this) (by have := HBIG.out; have := HK.out; simp only [maxLen]; omega) (by have := HBIG.out; have := HK.out; omega) b7.size ?_
              intro a8 c8 w8 ho8 on8 _
              have b8 : Below w.heap.size w w8 := below_onto b7 on8 b7.size (by rintro z hz ⟨y, hy, rfl⟩; have := (ho7.block hy).1; omega)
              have ho8' : OwnS w8 w.heap.size 28 1 a8 (k + 1 + (L.length - k)) c8 (N.map (Value.int .u64)) := by rw [HPUT.out]; simpa using ho8
              have hs8 := ho8'.sl (L := N) (by rw [← HP.out]; intro x hx; rcases (mem_putP L n x).1 hx with rfl | hx; exact u64_wf hn.1 hn.2; exact u64_wf (HB.out x hx).1 (HB.out x hx).2)
              obtain ⟨he8, hs8⟩ := hs8
              have HE8 := Lib.hid he8
              have HS8 := Lib.hid hs8
              clear ho8 ho8' hs8 he8 on8
              go_wp2_with (fail)
              refine rg_same fun p hx hne hC => ?_
              refine rg_quiet 0 [12] hC ?_
              simp only [pickD, List.map_cons, List.map_nil, List.getD_cons_zero, List.getD_cons_succ]; repeat (go_big_quiet_step (fail))
              refine wpQuiet_nil ?_
              refine rg_end ?_
              go_wp2_with (fail)
              go_returns
              refine ⟨b8, a8, c8, ?_, HS8.out⟩
              rw [← HE8.out]; simp
            · clear hq
              simp only [List.getD_cons_zero, List.getD_cons_succ]
              go_wp2
              have b2 : Below w.heap.size w ((w.alloc (.cells #[] 28)).alloc (.cells #[.int .u64 n] 28)).drew := (((Below.refl _ _).alloc (Nat.le_refl _) _).alloc (by simp) _).drew
              have o2 : OwnS ((w.alloc (.cells #[] 28)).alloc (.cells #[.int .u64 n] 28)).drew w.heap.size 28 1 (some ⟨w.heap.size, 0, none⟩) 0 0 [] := o1.below ((Below.refl _ _).alloc (Nat.le_refl _) _)
              have q2 : Blk ((w.alloc (.cells #[] 28)).alloc (.cells #[.int .u64 n] 28)).drew (w.heap.size + 1) #[.int .u64 n] 28 := by have := Blk.new (w.alloc (.cells #[] 28)) #[.int .u64 n] 28; rw [show (w.alloc (.cells #[] 28)).heap.size = w.heap.size + 1 by simp] at this; exact this
              refine ⟨hbx _ b2, ?_⟩
              refine rg_act 4 ?_
              refine wpList_app u64_et rfl rfl (base := w.heap.size) (xs := []) rfl rfl o2 (by have := (HS3.out.below b2).src; rw [List.length_take_of_le HK.out] at this; exact this) (by have := HBIG.out; have := HK.out; simp only [maxLen]; omega) (by have := HBIG.out; have := HK.out; omega) b2.size ?_
              intro a5 c5 w5 ho5 on5 _
              have b5 : Below w.heap.size w w5 := below_onto b2 on5 b2.size (by rintro z hz ⟨y, hy, rfl⟩; have := (OwnS.block o2 hy).1; omega)
              rw [Nat.zero_add, List.nil_append] at ho5
              have q5 : Blk w5 (w.heap.size + 1) #[.int .u64 n] 28 := on5.blk q2 (by rintro ⟨y, hy, h⟩; cases hy; simp at h)
              go_wp2_with (fail)
              refine ⟨hbx _ b5, ?_⟩
              try simp only [Nat.zero_add]
              refine rg_act 7 ?_
              refine wpList_app u64_et rfl rfl (base := w.heap.size) rfl rfl ho5 (SrcAt.blk1 q5 rfl) (by have := HBIG.out; have := HK.out; simp only [maxLen]; omega) (by have := HBIG.out; have := HK.out; omega) b5.size ?_
              intro a7 c7 w7 ho7 on7 _
              have b7 : Below w.heap.size w w7 := below_onto b5 on7 b5.size (by rintro z hz ⟨y, hy, rfl⟩; have := (OwnS.block ho5 hy).1; omega)
              go_wp2_with (fail)
              refine ⟨hbx _ b7, ?_⟩
              refine rg_cut 11 ?_
              refine wpList_app u64_et rfl rfl (base := w.heap.size) rfl rfl ho7 (by have := (HS4.out.below b7).src; rw [List.length_drop] at this; exact this) (by have := HBIG.out; have := HK.out; simp only [maxLen]; omega) (by have := HBIG.out; have := HK.out; omega) b7.size ?_
              intro a8 c8 w8 ho8 on8 _
              have b8 : Below w.heap.size w w8 := below_onto b7 on8 b7.size (by rintro z hz ⟨y, hy, rfl⟩; have := (ho7.block hy).1; omega)
              have ho8' : OwnS w8 w.heap.size 28 1 a8 (k + 1 + (L.length - k)) c8 (N.map (Value.int .u64)) := by rw [HPUT.out]; simpa using ho8
              have hs8 := ho8'.sl (L := N) (by rw [← HP.out]; intro x hx; rcases (mem_putP L n x).1 hx with rfl | hx; exact u64_wf hn.1 hn.2; exact u64_wf (HB.out x hx).1 (HB.out x hx).2)
              obtain ⟨he8, hs8⟩ := hs8
              have HE8 := Lib.hid he8
              have HS8 := Lib.hid hs8
              clear ho8 ho8' hs8 he8 on8
              go_wp2_with (fail)
              refine rg_same fun p hx hne hC => ?_
              refine rg_quiet 0 [12] hC ?_
              simp only [pickD, List.map_cons, List.map_nil, List.getD_cons_zero, List.getD_cons_succ]; repeat (go_big_quiet_step (fail))
              refine wpQuiet_nil ?_
              refine rg_end ?_
              go_wp2_with (fail)
              go_returns
              refine ⟨b8, a8, c8, ?_, HS8.out⟩
              rw [← HE8.out]; simp
          · clear hq
            simp only [List.getD_cons_zero, List.getD_cons_succ]
            go_wp2
            have b1 : Below w.heap.size w (w.alloc (.cells #[.int .u64 n] 28)).drew := ((Below.refl _ _).alloc (Nat.le_refl _) _).drew
            refine ⟨hbx _ b1, ?_⟩
            refine rg_act 0 ?_
            go_wp2
            have b2 : Below w.heap.size w ((w.alloc (.cells #[.int .u64 n] 28)).alloc (.cells #[] 28)).drew := (((Below.refl _ _).alloc (Nat.le_refl _) _).alloc (by simp) _).drew
            have q2 : Blk ((w.alloc (.cells #[.int .u64 n] 28)).alloc (.cells #[] 28)).drew w.heap.size #[.int .u64 n] 28 := (Blk.new w #[.int .u64 n] 28).alloc _
            have o2 : OwnS ((w.alloc (.cells #[.int .u64 n] 28)).alloc (.cells #[] 28)).drew w.heap.size 28 1 (some ⟨w.heap.size + 1, 0, none⟩) 0 0 [] := by have := OwnS.new (w.alloc (.cells #[.int .u64 n] 28)) w.heap.size (by simp) 28 1 0 #[] (by simp [maxLen]) rfl; rw [show (w.alloc (.cells #[.int .u64 n] 28)).heap.size = w.heap.size + 1 by simp] at this; exact this
            refine ⟨hbx _ b2, ?_⟩
            refine rg_act 4 ?_
            refine wpList_app u64_et rfl rfl (base := w.heap.size) (xs := []) rfl rfl o2 (by have := (HS3.out.below b2).src; rw [List.length_take_of_le HK.out] at this; exact this) (by have := HBIG.out; have := HK.out; simp only [maxLen]; omega) (by have := HBIG.out; have := HK.out; omega) b2.size ?_
            intro a5 c5 w5 ho5 on5 _
            have b5 : Below w.heap.size w w5 := below_onto b2 on5 b2.size (by rintro z hz ⟨y, hy, rfl⟩; have := (OwnS.block o2 hy).1; omega)
            rw [Nat.zero_add, List.nil_append] at ho5
            have q5 : Blk w5 w.heap.size #[.int .u64 n] 28 := on5.blk q2 (by rintro ⟨y, hy, h⟩; cases hy; simp at h)
            go_wp2_with (fail)
            refine ⟨hbx _ b5, ?_⟩
            try simp only [Nat.zero_add]
            refine rg_act 7 ?_
            refine wpList_app u64_et rfl rfl (base := w.heap.size) rfl rfl ho5 (SrcAt.blk1 q5 rfl) (by have := HBIG.out; have := HK.out; simp only [maxLen]; omega) (by have := HBIG.out; have := HK.out; omega) b5.size ?_
            intro a7 c7 w7 ho7 on7 _
            have b7 : Below w.heap.size w w7 := below_onto b5 on7 b5.size (by rintro z hz ⟨y, hy, rfl⟩; have := (OwnS.block ho5 hy).1; omega)
            go_wp2_with (fail)
            refine ⟨hbx _ b7, ?_⟩
            refine rg_cut 11 ?_
            refine wpList_app u64_et rfl rfl (base := w.heap.size) rfl rfl ho7 (by have := (HS4.out.below b7).src; rw [List.length_drop] at this; exact this) (by have := HBIG.out; have := HK.out; simp only [maxLen]; omega) (by have := HBIG.out; have := HK.out; omega) b7.size ?_
            intro a8 c8 w8 ho8 on8 _
            have b8 : Below w.heap.size w w8 := below_onto b7 on8 b7.size (by rintro z hz ⟨y, hy, rfl⟩; have := (ho7.block hy).1; omega)
            have ho8' : OwnS w8 w.heap.size 28 1 a8 (k + 1 + (L.length - k)) c8 (N.map (Value.int .u64)) := by rw [HPUT.out]; simpa using ho8
            have hs8 := ho8'.sl (L := N) (by rw [← HP.out]; intro x hx; rcases (mem_putP L n x).1 hx with rfl | hx; exact u64_wf hn.1 hn.2; exact u64_wf (HB.out x hx).1 (HB.out x hx).2)
            obtain ⟨he8, hs8⟩ := hs8
            have HE8 := Lib.hid he8
            have HS8 := Lib.hid hs8
            clear ho8 ho8' hs8 he8 on8
            go_wp2_with (fail)
            refine rg_same fun p hx hne hC => ?_
            refine rg_quiet 0 [12] hC ?_
            simp only [pickD, List.map_cons, List.map_nil, List.getD_cons_zero, List.getD_cons_succ]; repeat (go_big_quiet_step (fail))
            refine wpQuiet_nil ?_
            refine rg_end ?_
            go_wp2_with (fail)
            go_returns
            refine ⟨b8, a8, c8, ?_, HS8.out⟩
            rw [← HE8.out]; simp
    · have hput := putP_at L n k hk hok.out (fun h => absurd h hlt)
      rw [if_neg (fun h => hlt h.1), HP.out] at hput
      have HPUT := Lib.hid hput
      clear hput
      go_wp2_with (fail)
      obtain ⟨a3, ha3⟩ : ∃ a3, (if cap = 0 then a else a.map (·.add (0 * 1))) = a3 := ⟨_, rfl⟩
      obtain ⟨a4, ha4⟩ : ∃ a4, (if cap = k then a else a.map (·.add (k * 1))) = a4 := ⟨_, rfl⟩
      have hc1 := fun w' => run_cut_h (P := Try.prog) u64_et (av := a) (n := L.length) (cap := cap) (kh := .i64) k (by have := HR.out.le; omega) w'
      have hc2 := fun w' => run_cut_l (P := Try.prog) u64_et (av := a) (n := L.length) (cap := cap) (kl := .i64) k (by omega) HR.out.le w'
      rw [ha3] at hc1
      rw [ha4] at hc2
      have HA3 := Lib.hid ha3
      have HA4 := Lib.hid ha4
      clear ha3 ha4
      refine rg_start 13 ?_
      refine rg_below fun p hx hne hC hbel => ?_
      refine rg_quiet 6 [1,2,3,5,8,9,10] hC ?_
      simp only [pickD, List.map_cons, List.map_nil, List.getD_cons_zero, List.getD_cons_succ]; repeat (go_big_quiet_step (fail))
      refine wpQuiet_nil ?_
      have HS3 : Hid (Sl .u64 w a3 cap (L.take k)) := Lib.hid (by rw [← HA3.out]; simpa using HR.out.cut 0 k (by omega) (by omega))
      have HS4 : Hid (Sl .u64 w a4 (cap - k) (L.drop k)) := Lib.hid (by
        rw [← HA4.out]
        have h := HR.out.cut k L.length (by omega) (Nat.le_refl _)
        rw [List.take_of_length_le (by simp)] at h
        exact h)
      have HK := Lib.hid hk
      have HBIG := Lib.hid hbig
      clear hc1 hc2 HA3 HA4
      have hbx : ∀ w', Below w.heap.size w w' → Cls p w' := fun w' h => hbel w' ⟨h.os, h.tape, h.output, h.size, h.block⟩
      refine rg_among [0, 6] ?_
      intro q hq
      rcases (show q = 0 ∨ q = 6 by simpa using hq) with rfl | rfl
      · clear hq
        simp only [List.getD_cons_zero, List.getD_cons_succ]
        go_wp2
        have b1 : Below w.heap.size w (w.alloc (.cells #[] 28)).drew := ((Below.refl _ _).alloc (Nat.le_refl _) _).drew
        have o1 : OwnS (w.alloc (.cells #[] 28)).drew w.heap.size 28 1 (some ⟨w.heap.size, 0, none⟩) 0 0 [] := OwnS.new w w.heap.size (Nat.le_refl _) 28 1 0 #[] (by simp [maxLen]) rfl
        refine ⟨hbx _ b1, ?_⟩
        refine rg_among [4, 6] ?_
        intro q hq
        rcases (show q = 4 ∨ q = 6 by simpa using hq) with rfl | rfl
        · clear hq
          simp only [List.getD_cons_zero, List.getD_cons_succ]
          refine wpList_app u64_et rfl rfl (base := w.heap.size) (xs := []) rfl rfl o1 (by have := (HS3.out.below b1).src; rw [List.length_take_of_le HK.out] at this; exact this) (by have := HBIG.out; have := HK.out; simp only [maxLen]; omega) (by have := HBIG.out; have := HK.out; omega) b1.size ?_
          intro a5 c5 w5 ho5 on5 _
          have b5 : Below w.heap.size w w5 := below_onto b1 on5 b1.size (by rintro z hz ⟨y, hy, rfl⟩; have := (OwnS.block o1 hy).1; omega)
          rw [Nat.zero_add, List.nil_append] at ho5
          go_wp2_with (fail)
          refine ⟨hbx _ b5, ?_⟩
          try simp only [Nat.zero_add]
          refine rg_act 6 ?_
          go_wp2
          have b6 : Below w.heap.size w (w5.alloc (.cells #[.int .u64 n] 28)) := b5.alloc b5.size _
          have o6 := ho5.below ((Below.refl w5.heap.size w5).alloc (Nat.le_refl _) (.cells #[.int .u64 n] 28))
          refine ⟨hbx _ b6, ?_⟩
          refine rg_act 7 ?_
          refine wpList_app u64_et rfl rfl (base := w.heap.size) rfl rfl o6 (SrcAt.blk1 (Blk.new w5 #[.int .u64 n] 28) rfl) (by have := HBIG.out; have := HK.out; simp only [maxLen]; omega) (by have := HBIG.out; have := HK.out; omega) b6.size ?_
          intro a7 c7 w7 ho7 on7 _
          have b7 : Below w.heap.size w w7 := below_onto b6 on7 b6.size (by rintro z hz ⟨y, hy, rfl⟩; have := (OwnS.block o6 hy).1; omega)
          go_wp2_with (fail)
          refine ⟨hbx _ b7, ?_⟩
          refine rg_cut 11 ?_
          refine wpList_app u64_et rfl rfl (base := w.heap.size) rfl rfl ho7 (by have := (HS4.out.below b7).src; rw [List.length_drop] at this; exact this) (by have := HBIG.out; have := HK.out; simp only [maxLen]; omega) (by have := HBIG.out; have := HK.out; omega) b7.size ?_
          intro a8 c8 w8 ho8 on8 _
          have b8 : Below w.heap.size w w8 := below_onto b7 on8 b7.size (by rintro z hz ⟨y, hy, rfl⟩; have := (ho7.block hy).1; omega)
          have ho8' : OwnS w8 w.heap.size 28 1 a8 (k + 1 + (L.length - k)) c8 (N.map (Value.int .u64)) := by rw [HPUT.out]; simpa using ho8
          have hs8 := ho8'.sl (L := N) (by rw [← HP.out]; intro x hx; rcases (mem_putP L n x).1 hx with rfl | hx; exact u64_wf hn.1 hn.2; exact u64_wf (HB.out x hx).1 (HB.out x hx).2)
          obtain ⟨he8, hs8⟩ := hs8
          have HE8 := Lib.hid he8
          have HS8 := Lib.hid hs8
          clear ho8 ho8' hs8 he8 on8
          go_wp2_with (fail)
          refine rg_same fun p hx hne hC => ?_
          refine rg_quiet 0 [12] hC ?_
          simp only [pickD, List.map_cons, List.map_nil, List.getD_cons_zero, List.getD_cons_succ]; repeat (go_big_quiet_step (fail))
          refine wpQuiet_nil ?_
          refine rg_end ?_
          go_wp2_with (fail)
          go_returns
          refine ⟨b8, a8, c8, ?_, HS8.out⟩
          rw [← HE8.out]; simp
        · clear hq
          simp only [List.getD_cons_zero, List.getD_cons_succ]
          go_wp2
          have b2 : Below w.heap.size w ((w.alloc (.cells #[] 28)).alloc (.cells #[.int .u64 n] 28)).drew := (((Below.refl _ _).alloc (Nat.le_refl _) _).alloc (by simp) _).drew
          have o2 : OwnS ((w.alloc (.cells #[] 28)).alloc (.cells #[.int .u64 n] 28)).drew w.heap.size 28 1 (some ⟨w.heap.size, 0, none⟩) 0 0 [] := o1.below ((Below.refl _ _).alloc (Nat.le_refl _) _)
          have q2 : Blk ((w.alloc (.cells #[] 28)).alloc (.cells #[.int .u64 n] 28)).drew (w.heap.size + 1) #[.int .u64 n] 28 := by have := Blk.new (w.alloc (.cells #[] 28)) #[.int .u64 n] 28; rw [show (w.alloc (.cells #[] 28)).heap.size = w.heap.size + 1 by simp] at this; exact this
          refine ⟨hbx _ b2, ?_⟩
          refine rg_act 4 ?_
          refine wpList_app u64_et rfl rfl (base := w.heap.size) (xs := []) rfl rfl o2 (by have := (HS3.out.below b2).src; rw [List.length_take_of_le HK.out] at this; exact this) (by have := HBIG.out; have := HK.out; simp only [maxLen]; omega) (by have := HBIG.out; have := HK.out; omega) b2.size ?_
          intro a5 c5 w5 ho5 on5 _
          have b5 : Below w.heap.size w w5 := below_onto b2 on5 b2.size (by rintro z hz ⟨y, hy, rfl⟩; have := (OwnS.block o2 hy).1; omega)
          rw [Nat.zero_add, List.nil_append] at ho5
          have q5 : Blk w5 (w.heap.size + 1) #[.int .u64 n] 28 := on5.blk q2 (by rintro ⟨y, hy, h⟩; cases hy; simp at h)
          go_wp2_with (fail)
          refine ⟨hbx _ b5, ?_⟩
          try simp only [Nat.zero_add]
          refine rg_act 7 ?_
          refine wpList_app u64_et rfl rfl (base := w.heap.size) rfl rfl ho5 (SrcAt.blk1 q5 rfl) (by have := HBIG.out; have := HK.out; simp only [maxLen]; omega) (by have := HBIG.out; have := HK.out; omega) b5.size ?_
          intro a7 c7 w7 ho7 on7 _
          have b7 : Below w.heap.size w w7 := below_onto b5 on7 b5.size (by rintro z hz ⟨y, hy, rfl⟩; have := (OwnS.block ho5 hy).1; omega)
          go_wp2_with (fail)
          refine ⟨hbx _ b7, ?_⟩
          refine rg_cut 11 ?_
          refine wpList_app u64_et rfl rfl (base := w.heap.size) rfl rfl ho7 (by have := (HS4.out.below b7).src; rw [List.length_drop] at this; exact this) (by have := HBIG.out; have := HK.out; simp only [maxLen]; omega) (by have := HBIG.out; have := HK.out; omega) b7.size ?_
          intro a8 c8 w8 ho8 on8 _
          have b8 : Below w.heap.size w w8 := below_onto b7 on8 b7.size (by rintro z hz ⟨y, hy, rfl⟩; have := (ho7.block hy).1; omega)
          have ho8' : OwnS w8 w.heap.size 28 1 a8 (k + 1 + (L.length - k)) c8 (N.map (Value.int .u64)) := by rw [HPUT.out]; simpa using ho8
          have hs8 := ho8'.sl (L := N) (by rw [← HP.out]; intro x hx; rcases (mem_putP L n x).1 hx with rfl | hx; exact u64_wf hn.1 hn.2; exact u64_wf (HB.out x hx).1 (HB.out x hx).2)
          obtain ⟨he8, hs8⟩ := hs8
          have HE8 := Lib.hid he8
          have HS8 := Lib.hid hs8
          clear ho8 ho8' hs8 he8 on8
          go_wp2_with (fail)
          refine rg_same fun p hx hne hC => ?_
          refine rg_quiet 0 [12] hC ?_
          simp only [pickD, List.map_cons, List.map_nil, List.getD_cons_zero, List.getD_cons_succ]; repeat (go_big_quiet_step (fail))
          refine wpQuiet_nil ?_
          refine rg_end ?_
          go_wp2_with (fail)
          go_returns
          refine ⟨b8, a8, c8, ?_, HS8.out⟩
          rw [← HE8.out]; simp
      · clear hq
        simp only [List.getD_cons_zero, List.getD_cons_succ]
        go_wp2
        have b1 : Below w.heap.size w (w.alloc (.cells #[.int .u64 n] 28)).drew := ((Below.refl _ _).alloc (Nat.le_refl _) _).drew
        refine ⟨hbx _ b1, ?_⟩
        refine rg_act 0 ?_
        go_wp2
        have b2 : Below w.heap.size w ((w.alloc (.cells #[.int .u64 n] 28)).alloc (.cells #[] 28)).drew := (((Below.refl _ _).alloc (Nat.le_refl _) _).alloc (by simp) _).drew
        have q2 : Blk ((w.alloc (.cells #[.int .u64 n] 28)).alloc (.cells #[] 28)).drew w.heap.size #[.int .u64 n] 28 := (Blk.new w #[.int .u64 n] 28).alloc _
        have o2 : OwnS ((w.alloc (.cells #[.int .u64 n] 28)).alloc (.cells #[] 28)).drew w.heap.size 28 1 (some ⟨w.heap.size + 1, 0, none⟩) 0 0 [] := by have := OwnS.new (w.alloc (.cells #[.int .u64 n] 28)) w.heap.size (by simp) 28 1 0 #[] (by simp [maxLen]) rfl; rw [show (w.alloc (.cells #[.int .u64 n] 28)).heap.size = w.heap.size + 1 by simp] at this; exact this
        refine ⟨hbx _ b2, ?_⟩
        refine rg_act 4 ?_
        refine wpList_app u64_et rfl rfl (base := w.heap.size) (xs := []) rfl rfl o2 (by have := (HS3.out.below b2).src; rw [List.length_take_of_le HK.out] at this; exact this) (by have := HBIG.out; have := HK.out; simp only [maxLen]; omega) (by have := HBIG.out; have := HK.out; omega) b2.size ?_
        intro a5 c5 w5 ho5 on5 _
        have b5 : Below w.heap.size w w5 := below_onto b2 on5 b2.size (by rintro z hz ⟨y, hy, rfl⟩; have := (OwnS.block o2 hy).1; omega)
        rw [Nat.zero_add, List.nil_append] at ho5
        have q5 : Blk w5 w.heap.size #[.int .u64 n] 28 := on5.blk q2 (by rintro ⟨y, hy, h⟩; cases hy; simp at h)
        go_wp2_with (fail)
        refine ⟨hbx _ b5, ?_⟩
        try simp only [Nat.zero_add]
        refine rg_act 7 ?_
        refine wpList_app u64_et rfl rfl (base := w.heap.size) rfl rfl ho5 (SrcAt.blk1 q5 rfl) (by have := HBIG.out; have := HK.out; simp only [maxLen]; omega) (by have := HBIG.out; have := HK.out; omega) b5.size ?_
        intro a7 c7 w7 ho7 on7 _
        have b7 : Below w.heap.size w w7 := below_onto b5 on7 b5.size (by rintro z hz ⟨y, hy, rfl⟩; have := (OwnS.block ho5 hy).1; omega)
        go_wp2_with (fail)
        refine ⟨hbx _ b7, ?_⟩
        refine rg_cut 11 ?_
        refine wpList_app u64_et rfl rfl (base := w.heap.size) rfl rfl ho7 (by have := (HS4.out.below b7).src; rw [List.length_drop] at this; exact this) (by have := HBIG.out; have := HK.out; simp only [maxLen]; omega) (by have := HBIG.out; have := HK.out; omega) b7.size ?_
        intro a8 c8 w8 ho8 on8 _
        have b8 : Below w.heap.size w w8 := below_onto b7 on8 b7.size (by rintro z hz ⟨y, hy, rfl⟩; have := (ho7.block hy).1; omega)
        have ho8' : OwnS w8 w.heap.size 28 1 a8 (k + 1 + (L.length - k)) c8 (N.map (Value.int .u64)) := by rw [HPUT.out]; simpa using ho8
        have hs8 := ho8'.sl (L := N) (by rw [← HP.out]; intro x hx; rcases (mem_putP L n x).1 hx with rfl | hx; exact u64_wf hn.1 hn.2; exact u64_wf (HB.out x hx).1 (HB.out x hx).2)
        obtain ⟨he8, hs8⟩ := hs8
        have HE8 := Lib.hid he8
        have HS8 := Lib.hid hs8
        clear ho8 ho8' hs8 he8 on8
        go_wp2_with (fail)
        refine rg_same fun p hx hne hC => ?_
        refine rg_quiet 0 [12] hC ?_
        simp only [pickD, List.map_cons, List.map_nil, List.getD_cons_zero, List.getD_cons_succ]; repeat (go_big_quiet_step (fail))
        refine wpQuiet_nil ?_
        refine rg_end ?_
        go_wp2_with (fail)
        go_returns
        refine ⟨b8, a8, c8, ?_, HS8.out⟩
        rw [← HE8.out]; simp
end Go.Proofs.Ytidfimpchbkppaa
