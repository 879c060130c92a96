/- The document's Bytes. -/
import Derived.Test.YtcpjehgoeibbeaaFrE7
namespace Go.Proofs.Ytcpjehgoeibbeaa
open Go.RowKit
set_option linter.unusedVariables false
namespace Frm
open Var
def letB (f : Fr) (c : UInt8) : List Int :=
  if c = 105 then enc f.id else if c = 111 then enc f.off else if c = 109 then enc f.max else if c = 99 then enc f.code else if c = 100 then sizedB f.data else if c = 68 then f.data else if c = 67 then [(f.cid.length : Int)] ++ f.cid ++ f.tok else []
def genK (k : Int) : Prop := k = 1 ∨ k = 4 ∨ k = 5 ∨ k = 6 ∨ k = 7 ∨ k = 16 ∨ k = 17 ∨ k = 18 ∨ k = 19 ∨ k = 20 ∨ k = 21 ∨ k = 22 ∨ k = 23 ∨ k = 24 ∨ k = 25 ∨ k = 26 ∨ k = 27 ∨ k = 28 ∨ k = 29 ∨ k = 30
def lets : List UInt8 := [105, 111, 109, 99, 100, 68, 67]
theorem gen_form {k : Int} (h : genK k) : (formS k).length ≤ 3 ∧ (∀ c ∈ formS k, c ∈ lets) ∧ (formS k == [80]) = false ∧ (formS k == [83]) = false ∧ (formS k == [65]) = false ∧ (formS k == [69]) = false := by
  rcases h with rfl | rfl | rfl | rfl | rfl | rfl | rfl | rfl | rfl | rfl | rfl | rfl | rfl | rfl | rfl | rfl | rfl | rfl | rfl | rfl <;> decide
theorem putF_gen (f : Fr) (h : genK f.kind) : putF f = enc f.kind ++ (formS f.kind).flatMap (letB f) := by
  obtain ⟨kind, id, off, max, code, n, fin, data, cid, tok, acks, delay, e0, e1, e2⟩ := f
  dsimp only at h
  rcases h with rfl | rfl | rfl | rfl | rfl | rfl | rfl | rfl | rfl | rfl | rfl | rfl | rfl | rfl | rfl | rfl | rfl | rfl | rfl | rfl <;> simp [putF, formS, letB]
theorem rstream_put (f : Fr) (h : f.kind = 8) : putF f = rstreamB f := by
  unfold putF rstreamB
  rw [h]
  simp
theorem gaps_len : ∀ (l : List Rg) (above : Int), (∀ r ∈ l, r.1 < r.2) → (∀ (i : Nat) (r : Rg), l[i]? = some r → r.2 < (if i = 0 then above else (l.getD (i - 1) default).1)) → (gapsB above l).length ≤ 16 * l.length
  | [], _, _, _ => by simp [gapsB]
  | (a, b) :: r, above, h1, h2 => by
    have ha := h1 (a, b) (by simp)
    have hb := h2 0 (a, b) rfl
    simp only [if_true] at hb
    have ih := gaps_len r a (fun r hr => h1 r (by simp [hr])) (fun i x hx => by
      have := h2 (i + 1) x (by simpa using hx)
      rcases Nat.eq_zero_or_pos i with rfl | hp
      · simpa using this
      · obtain ⟨j, rfl⟩ : ∃ j, i = j + 1 := ⟨i - 1, by omega⟩
        simpa using this)
    have e1 := enc_length (above - b - 1) (by omega)
    have e2 := enc_length (b - a - 1) (by omega)
    have s1 := size_le (above - b - 1)
    have s2 := size_le (b - a - 1)
    simp only [gapsB, List.length_append, List.length_cons]
    omega
theorem racks_len (f : Fr) (k : Nat) (hk : f.acks.length = k + 1) (hf : FrOk f) (hok : acksOk f.acks = true) : (racksB f).length ≤ 100 + 16 * k := by
  have h := ((acksOk_iff _).1 hok).2
  have hko := h k (by omega)
  have hb := hf.acks (f.acks.getD k default) (by rw [List.getD_eq_getElem?_getD, List.getElem?_eq_getElem (by omega)]; simp)
  have hg := gaps_len (f.acks.take k).reverse (f.acks.getD k default).1 (fun r hr => by
    rw [List.mem_reverse] at hr
    obtain ⟨i, hi, rfl⟩ := List.getElem_of_mem hr
    rw [List.length_take] at hi
    have := (h i (by omega)).1
    rw [List.getD_eq_getElem?_getD, List.getElem?_eq_getElem (by omega)] at this
    simpa using this) (fun i r hr => by
    have hi : i < k := by have := (List.getElem?_eq_some_iff.1 hr).1; simp at this; omega
    have e : ∀ j, j < k → (f.acks.take k).reverse[j]? = some (f.acks.getD (k - 1 - j) default) := fun j hj => by
      rw [List.getElem?_reverse (by simp; omega), List.length_take, Nat.min_eq_left (by omega), List.getElem?_take, if_pos (by omega), List.getD_eq_getElem?_getD, List.getElem?_eq_getElem (by omega)]
      rfl
    rw [e i hi, Option.some.injEq] at hr
    subst hr
    have := (h (k - 1 - i + 1) (by omega)).2.2 (by omega)
    rw [Nat.add_sub_cancel] at this
    split
    · rename_i h0
      rw [h0] at this
      rw [show k - 1 - i = k - 1 by omega]
      rw [show k - 1 - 0 + 1 = k by omega, show k - 1 - 0 = k - 1 by omega] at this
      exact this
    · rw [show (f.acks.take k).reverse.getD (i - 1) default = f.acks.getD (k - 1 - (i - 1)) default by rw [List.getD_eq_getElem?_getD, e (i - 1) (by omega)]; rfl]
      rw [show k - 1 - (i - 1) = k - 1 - i + 1 by omega]
      exact this)
  rw [List.length_reverse, List.length_take, Nat.min_eq_left (by omega)] at hg
  have hx0 := hko.1
  have e1 := enc_length ((f.acks.getD k default).2 - 1) (by have := hb.1.1; omega)
  have e2 := enc_length f.delay hf.delay.1
  have e3 := enc_length (k : Int) (by omega)
  have e4 := enc_length ((f.acks.getD k default).2 - 1 - (f.acks.getD k default).1) (by omega)
  have e5 := enc_length f.e0 hf.e0.1
  have e6 := enc_length f.e1 hf.e1.1
  have e7 := enc_length f.e2 hf.e2.1
  have s1 := size_le ((f.acks.getD k default).2 - 1)
  have s2 := size_le f.delay
  have s3 := size_le (k : Int)
  have s4 := size_le ((f.acks.getD k default).2 - 1 - (f.acks.getD k default).1)
  have s5 := size_le f.e0
  have s6 := size_le f.e1
  have s7 := size_le f.e2
  unfold racksB
  rw [acksB_at f k hk]
  simp only [List.length_append]
  split
  · simp only [List.length_append]; omega
  · simp only [List.length_nil]; omega
theorem racks_put (f : Fr) (h : f.kind = 2 ∨ f.kind = 3) : putF f = enc f.kind ++ racksB f := by
  unfold putF racksB
  rcases h with h | h <;> rw [h] <;> simp
set_option maxHeartbeats 4000000 in
set_option maxRecDepth 100000 in
theorem rfb_0 (p : FM) (w : World) (hp : p.ok w) (hk : p.f.kind = 0) (h1 : 1 ≤ p.f.n) (h2 : p.f.n ≤ 65536) :
    Calls Try.prog 17 #[.agg p.vals] w fun e w' => ∃ a n cap, e = .returned (.slice a n cap) ∧ n = (putF p.f).length ∧ OwB w' w.heap.size a cap (putF p.f) ∧ Below w.heap.size w w' := by
  have hboxn := Blk.new w p.vals 36
  have hw1 := (Below.refl w.heap.size w).alloc (Nat.le_refl _) (.cells p.vals 36)
  have HP := Lib.hid hp
  have H16 := Lib.hid hp.fr.tok16
  obtain ⟨W, hW⟩ : ∃ W : Nat, p.f.n = W := ⟨p.f.n.toNat, by omega⟩
  have HPUT : Hid (putF p.f = List.replicate W 0) := Lib.hid (by unfold putF; rw [if_pos hk, hW]; rfl)
  have HKK := Lib.hid hk
  clear hp hk
  go_enter Try.func17, Try.ntmps17
  go_upto_region 1 with (fail)
  have hsz1 : w.heap.size + 1 ≤ (w.alloc (.cells p.vals 36)).heap.size := by simp
  generalize w.alloc (.cells p.vals 36) = w1 at *
  have FB1 := Lib.hid hboxn
  have K1 := Lib.hid hw1
  have HK1 := Lib.hid (Below.refl w1.heap.size w1)
  have fc := FB.fc hboxn H16.out
  have c0 := fc.c0
  have c5 := fc.c5
  have flt := fc.lt
  clear fc hboxn hw1
  go_wp2_with (fail)
  refine (form_any p.f.kind _).mono ?_
  rintro e w2 ⟨rfl, rfl⟩
  rw [show isFr p.f.kind = true by rw [HKK.out]; rfl]
  rw [show formS p.f.kind = [80] by rw [HKK.out]; rfl]
  go_wp2_with (with_reducible refine stop_eql ?_)
  refine Stop.out ?_
  refine wpList_eqv rfl rfl true rfl rfl rfl ?_
  go_wp2_with (at_make; refine Stop.mk ?_)
  refine Stop.out ?_
  obtain ⟨i, z, q1, q2, q3, q4, q5, q6, q7⟩ := bytes_et
  refine wpList_make_full _ rfl _ _ 23 rfl w1.heap.size 5 i z 1 q1 q2 q3 q4 .u64 .u64 _ _ W rfl rfl rfl rfl (by rw [q5]; omega) (by unfold maxLen; omega) (Nat.le_refl _) ?_
  have hz : z = .int .u8 0 := by have := u8_zero; rw [q2] at this; simp only [Option.bind_some, q3, Option.some.injEq] at this; exact this
  subst hz
  intro w3 hr hg
  have ho1 : OwnS w3 w1.heap.size 5 1 (some ⟨w1.heap.size, 0, none⟩) W W ((List.replicate W (0 : Int)).map (Value.int .u8)) := by
    have e : (madeCells (Value.int .u8 0).cells (W * 1)).toList = (List.replicate W (0 : Int)).map (Value.int .u8) := by
      rw [Nat.mul_one, show (Value.int IntKind.u8 0).cells = #[Value.int IntKind.u8 0] from rfl, toList_madeCells_one, List.map_replicate]
    rw [← e]; exact hr
  have hb1 : Below w1.heap.size w1 w3 := ⟨hg.os, hg.tape, hg.output, hg.size, fun k hk => hg.block k hk (by simp)⟩
  have HO := Lib.hid ho1
  have HBB := Lib.hid hb1
  clear ho1 hb1 hr hg q1 q2 q3 q4 q5 q6 q7
  go_wp2_with (fail)
  go_returns
  rw [HPUT.out]
  refine ⟨_, W, _, rfl, by rw [List.length_replicate], ⟨?_, fun x hx => by rw [(List.mem_replicate.1 hx).2]; exact ⟨by decide, by decide⟩⟩, below_on K1.out HBB.out K1.out.size⟩
  rw [List.length_replicate]
  exact HO.out.base_le (by omega)
set_option maxHeartbeats 4000000 in
set_option maxRecDepth 100000 in
theorem rfb_8 (p : FM) (w : World) (hp : p.ok w) (hd : p.f.data.length ≤ 1000000000) (hk : p.f.kind = 8) :
    Calls Try.prog 17 #[.agg p.vals] w fun e w' => ∃ a n cap, e = .returned (.slice a n cap) ∧ n = (putF p.f).length ∧ OwB w' w.heap.size a cap (putF p.f) ∧ Below w.heap.size w w' := by
  have hboxn := Blk.new w p.vals 36
  have hw1 := (Below.refl w.heap.size w).alloc (Nat.le_refl _) (.cells p.vals 36)
  have HP := Lib.hid hp
  have H16 := Lib.hid hp.fr.tok16
  have HPUT := Lib.hid (rstream_put p.f hk)
  have HKK := Lib.hid hk
  clear hp hk
  go_enter Try.func17, Try.ntmps17
  go_upto_region 1 with (fail)
  have hsz1 : w.heap.size + 1 ≤ (w.alloc (.cells p.vals 36)).heap.size := by simp
  generalize w.alloc (.cells p.vals 36) = w1 at *
  have FB1 := Lib.hid hboxn
  have K1 := Lib.hid hw1
  have HK1 := Lib.hid (Below.refl w1.heap.size w1)
  have fc := FB.fc hboxn H16.out
  have c0 := fc.c0
  have flt := fc.lt
  clear fc hboxn hw1
  go_wp2_with (fail)
  refine (form_any p.f.kind _).mono ?_
  rintro e w2 ⟨rfl, rfl⟩
  rw [show isFr p.f.kind = true by rw [HKK.out]; rfl]
  rw [show formS p.f.kind = [83] by rw [HKK.out]; rfl]
  go_wp2_with (with_reducible refine stop_eql ?_)
  refine Stop.out ?_
  refine wpList_eqv rfl rfl false rfl rfl rfl ?_
  go_wp2_with (with_reducible refine stop_eql ?_)
  refine Stop.out ?_
  refine wpList_eqv rfl rfl true rfl rfl rfl ?_
  go_wp2_with (with_reducible refine stop_ldf ?_)
  refine Stop.out ?_
  refine wpList_loadF rfl rfl p H16.out rfl FB1.out ?_
  go_wp2_with (fail)
  refine (rstream_any p w1 (HP.out.below K1.out) hd).mono ?_
  rintro e w3 ⟨a, n, cp, rfl, hn, ho, hb⟩
  have HN := Lib.hid hn
  have HO := Lib.hid ho
  have HBB := Lib.hid hb
  clear hn ho hb
  go_wp2_with (fail)
  go_returns
  rw [HPUT.out]
  exact ⟨_, _, _, rfl, HN.out, ⟨HO.out.1.base_le (by omega), HO.out.2⟩, below_on K1.out HBB.out K1.out.size⟩
set_option maxHeartbeats 4000000 in
set_option maxRecDepth 100000 in
theorem rfb_2 (p : FM) (w : World) (hp : p.ok w) (hk : p.f.kind = 2) (hok : acksOk p.f.acks = true) (hl : p.f.acks.length ≤ 1000000) :
    Calls Try.prog 17 #[.agg p.vals] w fun e w' => ∃ a n cap, e = .returned (.slice a n cap) ∧ n = (putF p.f).length ∧ OwB w' w.heap.size a cap (putF p.f) ∧ Below w.heap.size w w' := by
  have hboxn := Blk.new w p.vals 36
  have hw1 := (Below.refl w.heap.size w).alloc (Nat.le_refl _) (.cells p.vals 36)
  have HP := Lib.hid hp
  have H16 := Lib.hid hp.fr.tok16
  have HPUT := Lib.hid (racks_put p.f (by omega))
  have hl0 := ((acksOk_iff _).1 hok).1
  have HOKK := Lib.hid hok
  obtain ⟨kk, hkk⟩ : ∃ k, p.f.acks.length = k + 1 := ⟨p.f.acks.length - 1, by omega⟩
  have HKL := Lib.hid hkk
  have HLEN := Lib.hid (racks_len p.f kk hkk hp.fr hok)
  rw [hkk] at hl hl0
  clear hok hkk
  have HKK := Lib.hid hk
  clear hp hk
  go_enter Try.func17, Try.ntmps17
  go_upto_region 1 with (fail)
  have hsz1 : w.heap.size + 1 ≤ (w.alloc (.cells p.vals 36)).heap.size := by simp
  generalize w.alloc (.cells p.vals 36) = w1 at *
  have FB1 := Lib.hid hboxn
  have K1 := Lib.hid hw1
  have HK1 := Lib.hid (Below.refl w1.heap.size w1)
  have fc := FB.fc hboxn H16.out
  have c0 := fc.c0
  have flt := fc.lt
  clear fc hboxn hw1
  go_wp2_with (fail)
  refine (form_any p.f.kind _).mono ?_
  rintro e w2 ⟨rfl, rfl⟩
  rw [show isFr p.f.kind = true by rw [HKK.out]; rfl]
  rw [show formS p.f.kind = [65] by rw [HKK.out]; rfl]
  go_wp2_with (with_reducible refine stop_eql ?_)
  refine Stop.out ?_
  refine wpList_eqv rfl rfl false rfl rfl rfl ?_
  go_wp2_with (with_reducible refine stop_eql ?_)
  refine Stop.out ?_
  refine wpList_eqv rfl rfl false rfl rfl rfl ?_
  go_wp2_with (with_reducible refine stop_eql ?_)
  refine Stop.out ?_
  refine wpList_eqv rfl rfl true rfl rfl rfl ?_
  go_upto_region 9 with (fail)
  refine rg_start 7 ?_
  refine rg_belowB fun K hB' hx hne hC hbel => ?_
  have k0 := fun z : Wd K => (hx z _ 0 none (by show _ < w1.heap.size; exact flt)).trans c0
  clear hx
  refine rg_quiet 4 [0,1,3] hC ?_
  simp only [pickD, List.map_cons, List.map_nil, List.getD_cons_zero, List.getD_cons_succ]
  iterate 2 (go_big_quiet_step (fail))
  refine wpQuiet_loadAll Try.underlying36 fr_size rfl rfl rfl (fun w' hc => Blk.below (Blk.drew FB1.out) (hB' w' hc)) (p.size H16.out) ?_
  refine wpQuiet_nil ?_
  refine rg_act 2 ?_
  go_wp2_with (fail)
  refine (u_any (p.f.kind) _ (by rw [HKK.out]; unfold U64; omega)).mono ?_
  rintro e w11 ⟨a11, n11, cp11, rfl, hn11, h811, ho11, hb11⟩
  have HO11 := Lib.hid (show OwB w11 w1.heap.size a11 cp11 (enc (p.f.kind)) from ⟨ho11.1.base_le (by simp), ho11.2⟩)
  have HN11 := Lib.hid hn11
  have HK11 := Lib.hid (below_on HK1.out.drew hb11 (by have := HK1.out.size; exact this))
  have HB11 := Lib.hid hb11
  clear hb11 ho11 hn11
  go_wp2_with (fail)
  refine ⟨hbel _ HB11.out, ?_⟩
  refine rg_cut 4 ?_
  go_wp2_with (fail)
  refine (racks_any p _ (HP.out.below (below_on K1.out HK11.out K1.out.size)) HOKK.out kk HKL.out (by omega)).mono ?_
  rintro e w12 ⟨a12, n12, cp12, rfl, hn12, ho12, hb12⟩
  have HO12 := Lib.hid ho12
  have HN12 := Lib.hid hn12
  have HP12 := Lib.hid (HO11.out.below hb12)
  have HK12 := Lib.hid (below_on HK11.out hb12 HK11.out.size)
  have h812 : n12 ≤ 100 + 16 * kk := by rw [hn12]; exact HLEN.out
  clear hb12 ho12 hn12
  go_wp2_with (fail)
  refine rg_do 5 ?_
  go_wp2_with (at_builtin; refine Stop.mk ?_)
  refine Stop.out ?_
  refine wpList_appB rfl rfl rfl rfl HN11.out HN12.out HP12.out (HO12.out.sl) (by omega) HK12.out.size ?_
  intro a13 cp13 w13 ho13 hb13
  have HO13 := Lib.hid ho13
  have HK13 := Lib.hid (HK12.out.trans hb13)
  have HN13 := Lib.hid (show n11 + n12 = (enc (p.f.kind) ++ racksB p.f).length by rw [List.length_append, ← HN11.out, ← HN12.out])
  clear ho13 hb13
  obtain ⟨n13, hn13⟩ : ∃ n', n11 + n12 = n' := ⟨_, rfl⟩
  have h813 : n13 ≤ 8 + (100 + 16 * kk) := by omega
  rw [hn13] at HN13 ⊢
  clear hn13
  go_wp2_with (fail)
  refine rg_below fun K hx hne hC hbel => ?_
  refine rg_quiet 0 [6] hC ?_
  simp only [pickD, List.map_cons, List.map_nil, List.getD_cons_zero, List.getD_cons_succ]; repeat (go_big_quiet_step (fail))
  refine wpQuiet_nil ?_
  refine rg_end ?_
  clear k0 c0 flt
  go_wp2_with (fail)
  go_returns
  rw [HPUT.out]
  exact ⟨_, _, _, rfl, HN13.out, ⟨HO13.out.1.base_le (by omega), HO13.out.2⟩, below_on K1.out HK13.out K1.out.size⟩
set_option maxHeartbeats 4000000 in
set_option maxRecDepth 100000 in
theorem rfb_3 (p : FM) (w : World) (hp : p.ok w) (hk : p.f.kind = 3) (hok : acksOk p.f.acks = true) (hl : p.f.acks.length ≤ 1000000) :
    Calls Try.prog 17 #[.agg p.vals] w fun e w' => ∃ a n cap, e = .returned (.slice a n cap) ∧ n = (putF p.f).length ∧ OwB w' w.heap.size a cap (putF p.f) ∧ Below w.heap.size w w' := by
  have hboxn := Blk.new w p.vals 36
  have hw1 := (Below.refl w.heap.size w).alloc (Nat.le_refl _) (.cells p.vals 36)
  have HP := Lib.hid hp
  have H16 := Lib.hid hp.fr.tok16
  have HPUT := Lib.hid (racks_put p.f (by omega))
  have hl0 := ((acksOk_iff _).1 hok).1
  have HOKK := Lib.hid hok
  obtain ⟨kk, hkk⟩ : ∃ k, p.f.acks.length = k + 1 := ⟨p.f.acks.length - 1, by omega⟩
  have HKL := Lib.hid hkk
  have HLEN := Lib.hid (racks_len p.f kk hkk hp.fr hok)
  rw [hkk] at hl hl0
  clear hok hkk
  have HKK := Lib.hid hk
  clear hp hk
  go_enter Try.func17, Try.ntmps17
  go_upto_region 1 with (fail)
  have hsz1 : w.heap.size + 1 ≤ (w.alloc (.cells p.vals 36)).heap.size := by simp
  generalize w.alloc (.cells p.vals 36) = w1 at *
  have FB1 := Lib.hid hboxn
  have K1 := Lib.hid hw1
  have HK1 := Lib.hid (Below.refl w1.heap.size w1)
  have fc := FB.fc hboxn H16.out
  have c0 := fc.c0
  have flt := fc.lt
  clear fc hboxn hw1
  go_wp2_with (fail)
  refine (form_any p.f.kind _).mono ?_
  rintro e w2 ⟨rfl, rfl⟩
  rw [show isFr p.f.kind = true by rw [HKK.out]; rfl]
  rw [show formS p.f.kind = [69] by rw [HKK.out]; rfl]
  go_wp2_with (with_reducible refine stop_eql ?_)
  refine Stop.out ?_
  refine wpList_eqv rfl rfl false rfl rfl rfl ?_
  go_wp2_with (with_reducible refine stop_eql ?_)
  refine Stop.out ?_
  refine wpList_eqv rfl rfl false rfl rfl rfl ?_
  go_wp2_with (with_reducible refine stop_eql ?_)
  refine Stop.out ?_
  refine wpList_eqv rfl rfl false rfl rfl rfl ?_
  go_wp2_with (with_reducible refine stop_eql ?_)
  refine Stop.out ?_
  refine wpList_eqv rfl rfl true rfl rfl rfl ?_
  go_upto_region 9 with (fail)
  refine rg_start 7 ?_
  refine rg_belowB fun K hB' hx hne hC hbel => ?_
  have k0 := fun z : Wd K => (hx z _ 0 none (by show _ < w1.heap.size; exact flt)).trans c0
  clear hx
  refine rg_quiet 4 [0,1,3] hC ?_
  simp only [pickD, List.map_cons, List.map_nil, List.getD_cons_zero, List.getD_cons_succ]
  iterate 2 (go_big_quiet_step (fail))
  refine wpQuiet_loadAll Try.underlying36 fr_size rfl rfl rfl (fun w' hc => Blk.below (Blk.drew FB1.out) (hB' w' hc)) (p.size H16.out) ?_
  refine wpQuiet_nil ?_
  refine rg_act 2 ?_
  go_wp2_with (fail)
  refine (u_any (p.f.kind) _ (by rw [HKK.out]; unfold U64; omega)).mono ?_
  rintro e w11 ⟨a11, n11, cp11, rfl, hn11, h811, ho11, hb11⟩
  have HO11 := Lib.hid (show OwB w11 w1.heap.size a11 cp11 (enc (p.f.kind)) from ⟨ho11.1.base_le (by simp), ho11.2⟩)
  have HN11 := Lib.hid hn11
  have HK11 := Lib.hid (below_on HK1.out.drew hb11 (by have := HK1.out.size; exact this))
  have HB11 := Lib.hid hb11
  clear hb11 ho11 hn11
  go_wp2_with (fail)
  refine ⟨hbel _ HB11.out, ?_⟩
  refine rg_cut 4 ?_
  go_wp2_with (fail)
  refine (racks_any p _ (HP.out.below (below_on K1.out HK11.out K1.out.size)) HOKK.out kk HKL.out (by omega)).mono ?_
  rintro e w12 ⟨a12, n12, cp12, rfl, hn12, ho12, hb12⟩
  have HO12 := Lib.hid ho12
  have HN12 := Lib.hid hn12
  have HP12 := Lib.hid (HO11.out.below hb12)
  have HK12 := Lib.hid (below_on HK11.out hb12 HK11.out.size)
  have h812 : n12 ≤ 100 + 16 * kk := by rw [hn12]; exact HLEN.out
  clear hb12 ho12 hn12
  go_wp2_with (fail)
  refine rg_do 5 ?_
  go_wp2_with (at_builtin; refine Stop.mk ?_)
  refine Stop.out ?_
  refine wpList_appB rfl rfl rfl rfl HN11.out HN12.out HP12.out (HO12.out.sl) (by omega) HK12.out.size ?_
  intro a13 cp13 w13 ho13 hb13
  have HO13 := Lib.hid ho13
  have HK13 := Lib.hid (HK12.out.trans hb13)
  have HN13 := Lib.hid (show n11 + n12 = (enc (p.f.kind) ++ racksB p.f).length by rw [List.length_append, ← HN11.out, ← HN12.out])
  clear ho13 hb13
  obtain ⟨n13, hn13⟩ : ∃ n', n11 + n12 = n' := ⟨_, rfl⟩
  have h813 : n13 ≤ 8 + (100 + 16 * kk) := by omega
  rw [hn13] at HN13 ⊢
  clear hn13
  go_wp2_with (fail)
  refine rg_below fun K hx hne hC hbel => ?_
  refine rg_quiet 0 [6] hC ?_
  simp only [pickD, List.map_cons, List.map_nil, List.getD_cons_zero, List.getD_cons_succ]; repeat (go_big_quiet_step (fail))
  refine wpQuiet_nil ?_
  refine rg_end ?_
  clear k0 c0 flt
  go_wp2_with (fail)
  go_returns
  rw [HPUT.out]
  exact ⟨_, _, _, rfl, HN13.out, ⟨HO13.out.1.base_le (by omega), HO13.out.2⟩, below_on K1.out HK13.out K1.out.size⟩
theorem letB_len (f : Fr) (c : UInt8) (h : FrOk f) (hd : f.data.length ≤ 1000000000) (hc : f.cid.length ≤ 20) : (letB f c).length ≤ 2000000000 := by
  have e1 := enc_length f.id h.id.1
  have e2 := enc_length f.off h.off.1
  have e3 := enc_length f.max h.max.1
  have e4 := enc_length f.code h.code.1
  have e5 := enc_length (f.data.length : Int) (by omega)
  have s1 := size_le f.id
  have s2 := size_le f.off
  have s3 := size_le f.max
  have s4 := size_le f.code
  have s5 := size_le (f.data.length : Int)
  have h16 := h.tok16
  unfold letB sizedB
  repeat' split
  all_goals (try simp only [List.length_append, List.length_cons, List.length_nil])
  all_goals omega
set_option maxHeartbeats 4000000 in
set_option maxRecDepth 100000 in
theorem rfb_gen (p : FM) (w : World) (hp : p.ok w) (hd : p.f.data.length ≤ 1000000000) (hc : p.f.cid.length ≤ 20) (hk : genK p.f.kind) :
    Calls Try.prog 17 #[.agg p.vals] w fun e w' => ∃ a n cap, e = .returned (.slice a n cap) ∧ n = (putF p.f).length ∧ OwB w' w.heap.size a cap (putF p.f) ∧ Below w.heap.size w w' := by
  have hboxn := Blk.new w p.vals 36
  have hw1 := (Below.refl w.heap.size w).alloc (Nat.le_refl _) (.cells p.vals 36)
  have HP := Lib.hid hp
  have H16 := Lib.hid hp.fr.tok16
  have HPUT := Lib.hid (putF_gen p.f hk)
  have HIS : Hid (isFr p.f.kind = true) := Lib.hid (by rcases hk with h | h | h | h | h | h | h | h | h | h | h | h | h | h | h | h | h | h | h | h <;> rw [h] <;> rfl)
  have HFO := Lib.hid (gen_form hk)
  obtain ⟨m, hm⟩ : ∃ m, p.f.data.length = m := ⟨_, rfl⟩
  obtain ⟨mc, hmc⟩ : ∃ m, p.f.cid.length = m := ⟨_, rfl⟩
  have HM := Lib.hid hm
  have HMC := Lib.hid hmc
  have HKU := Lib.hid hp.fr.kind
  have HID := Lib.hid hp.fr.id
  have HOF := Lib.hid hp.fr.off
  have HMX := Lib.hid hp.fr.max
  have HCO := Lib.hid hp.fr.code
  have HTB := Lib.hid hp.fr.tok
  have HLB := Lib.hid (fun c => letB_len p.f c hp.fr hd hc)
  rw [hm] at hd
  rw [hmc] at hc
  clear hp hk
  go_enter Try.func17, Try.ntmps17
  go_upto_region 1 with (fail)
  have hsz1 : w.heap.size + 1 ≤ (w.alloc (.cells p.vals 36)).heap.size := by simp
  generalize w.alloc (.cells p.vals 36) = w1 at *
  have FB1 := Lib.hid hboxn
  have K1 := Lib.hid hw1
  have HK1 := Lib.hid (Below.refl w1.heap.size w1)
  have HC : Hid (∀ W : World, Below w1.heap.size w1 W → W.cell? ⟨w.heap.size, 1, none⟩ = some (.int .u64 p.f.id) ∧ W.cell? ⟨w.heap.size, 2, none⟩ = some (.int .u64 p.f.off) ∧ W.cell? ⟨w.heap.size, 3, none⟩ = some (.int .u64 p.f.max) ∧ W.cell? ⟨w.heap.size, 4, none⟩ = some (.int .u64 p.f.code)
      ∧ W.cell? ⟨w.heap.size, 7, none⟩ = some (.slice p.da m p.dc) ∧ W.cell? ⟨w.heap.size, 8, none⟩ = some (.slice p.ca mc p.cc) ∧ w.heap.size < W.heap.size) := Lib.hid (by
    intro W hW
    have f := FB.fc (FB1.out.below hW) H16.out
    have h7 := f.c7
    have h8 := f.c8
    rw [hm] at h7
    rw [hmc] at h8
    exact ⟨f.c1, f.c2, f.c3, f.c4, h7, h8, f.lt⟩)
  have HS : Hid (∀ W : World, Below w1.heap.size w1 W → Sl .u8 W p.da p.dc p.f.data) := Lib.hid (fun W hW => HP.out.d.below (below_on K1.out hW K1.out.size))
  have HSC : Hid (∀ W : World, Below w1.heap.size w1 W → Sl .u8 W p.ca p.cc p.f.cid) := Lib.hid (fun W hW => HP.out.c.below (below_on K1.out hW K1.out.size))
  have fc := FB.fc hboxn H16.out
  have c0 := fc.c0
  have flt := fc.lt
  clear fc hboxn hw1 hm hmc
  go_wp2_with (fail)
  refine (form_any p.f.kind _).mono ?_
  rintro e w2 ⟨rfl, rfl⟩
  rw [HIS.out]
  obtain ⟨s, hs⟩ : ∃ s, formS p.f.kind = s := ⟨_, rfl⟩
  rw [hs] at HFO HPUT ⊢
  clear hs
  go_wp2_with (with_reducible refine stop_eql ?_)
  refine Stop.out ?_
  refine wpList_eqv rfl rfl false rfl rfl HFO.out.2.2.1 ?_
  go_wp2_with (with_reducible refine stop_eql ?_)
  refine Stop.out ?_
  refine wpList_eqv rfl rfl false rfl rfl HFO.out.2.2.2.1 ?_
  go_wp2_with (with_reducible refine stop_eql ?_)
  refine Stop.out ?_
  refine wpList_eqv rfl rfl false rfl rfl HFO.out.2.2.2.2.1 ?_
  go_wp2_with (with_reducible refine stop_eql ?_)
  refine Stop.out ?_
  refine wpList_eqv rfl rfl false rfl rfl HFO.out.2.2.2.2.2 ?_
  go_wp2_with (fail)
  refine (u_any (p.f.kind) _ HKU.out).mono ?_
  rintro e w11 ⟨a11, n11, cp11, rfl, hn11, h811, ho11, hb11⟩
  have HO11 := Lib.hid ho11
  have HN11 := Lib.hid hn11
  have HK11 := Lib.hid (below_on HK1.out hb11 HK1.out.size)
  clear hb11 ho11 hn11
  have hl3 := HFO.out.1
  go_upto_region 11 with (fail)
  go_wp2_with (fail)
  go_loopw [5, 6, 7] (fun o i j wr => ∃ (k : Nat) (a : Option Addr) (n cp : Nat) (D : List Int), i = .int .i64 k ∧ k ≤ s.length ∧ o = .slice a n cp ∧ n ≤ 8 + 2000000000 * k ∧ Hid (n = D.length) ∧ Hid (OwB wr w1.heap.size a cp D) ∧ Hid (D = enc p.f.kind ++ (s.take k).flatMap (letB p.f)) ∧ Hid (Below w1.heap.size w1 wr)) (fun _ i _ _ => s.length - (intOf i).toNat)
  case atStart => exact ⟨0, a11, n11, cp11, _, rfl, by omega, rfl, by omega, HN11, HO11, Lib.hid (by simp), HK11⟩
  case round =>
    obtain ⟨k, a, n, cp, D, rfl, hk, rfl, hn8, HND, HOD, HD, HKD⟩ := hrel
    by_cases hlt : k < s.length
    · have hks : k < (⟨s.toArray⟩ : ByteArray).size := by show k < s.toArray.size; simpa using hlt
      obtain ⟨c, hc⟩ : ∃ c, s[k] = c := ⟨_, rfl⟩
      have hbx : (⟨s.toArray⟩ : ByteArray)[k]'hks = c := by show s.toArray[k]'(by simpa using hlt) = c; simpa using hc
      have HST : Hid (enc p.f.kind ++ (s.take (k + 1)).flatMap (letB p.f) = D ++ letB p.f c) := Lib.hid (by
        rw [HD.out, List.take_add_one, List.getElem?_eq_getElem hlt, hc, List.flatMap_append]
        simp)
      have hmem := HFO.out.2.1 c (by rw [← hc]; exact List.getElem_mem hlt)
      have HCC := Lib.hid hc
      clear hc
      obtain ⟨c1, c2, c3, c4, c7, c8, flt⟩ := HC.out wr HKD.out
      simp only [lets, List.mem_cons, List.not_mem_nil, or_false] at hmem
      rcases hmem with hcc | hcc | hcc | hcc | hcc | hcc | hcc
      · have hcn : (c.toNat : Int) = 105 := by rw [hcc]; rfl
        have HCN := Lib.hid hcc
        clear hcc
        go_wp2_with (fail)
        refine (u_any (p.f.id) _ HID.out).mono ?_
        rintro e w31 ⟨a31, n31, cp31, rfl, hn31, h831, ho31, hb31⟩
        have HO31 := Lib.hid ho31
        have HN31 := Lib.hid hn31
        have HK31 := Lib.hid (below_on HKD.out hb31 HKD.out.size)
        have HP31 := Lib.hid (HOD.out.below hb31)
        clear hb31 ho31 hn31
        go_wp2_with (at_builtin; refine Stop.mk ?_)
        refine Stop.out ?_
        refine wpList_appB rfl rfl rfl rfl HND.out HN31.out HP31.out (HO31.out.sl) (by omega) HK31.out.size ?_
        intro a32 cp32 w32 ho32 hb32
        have HO32 := Lib.hid ho32
        have HK32 := Lib.hid (HK31.out.trans hb32)
        have HN32 := Lib.hid (show n + n31 = (D ++ enc (p.f.id)).length by rw [List.length_append, ← HND.out, ← HN31.out])
        clear ho32 hb32
        obtain ⟨n32, hn32⟩ : ∃ n', n + n31 = n' := ⟨_, rfl⟩
        have h832 : n32 ≤ 8 + 2000000000 * k + 8 := by omega
        rw [hn32] at HN32 ⊢
        clear hn32
        clear c1 c2 c3 c4 c7 c8 flt
        go_wp2_with (fail)
        refine ⟨⟨k + 1, a32, n32, cp32, _, by go_num, by omega, rfl, by omega, HN32, HO32, Lib.hid ?_, HK32⟩, by simp [intOf]; omega⟩
        rw [HST.out, HCN.out]
        simp [letB]
      · have hcn : (c.toNat : Int) = 111 := by rw [hcc]; rfl
        have HCN := Lib.hid hcc
        clear hcc
        go_wp2_with (fail)
        refine (u_any (p.f.off) _ HOF.out).mono ?_
        rintro e w31 ⟨a31, n31, cp31, rfl, hn31, h831, ho31, hb31⟩
        have HO31 := Lib.hid ho31
        have HN31 := Lib.hid hn31
        have HK31 := Lib.hid (below_on HKD.out hb31 HKD.out.size)
        have HP31 := Lib.hid (HOD.out.below hb31)
        clear hb31 ho31 hn31
        go_wp2_with (at_builtin; refine Stop.mk ?_)
        refine Stop.out ?_
        refine wpList_appB rfl rfl rfl rfl HND.out HN31.out HP31.out (HO31.out.sl) (by omega) HK31.out.size ?_
        intro a32 cp32 w32 ho32 hb32
        have HO32 := Lib.hid ho32
        have HK32 := Lib.hid (HK31.out.trans hb32)
        have HN32 := Lib.hid (show n + n31 = (D ++ enc (p.f.off)).length by rw [List.length_append, ← HND.out, ← HN31.out])
        clear ho32 hb32
        obtain ⟨n32, hn32⟩ : ∃ n', n + n31 = n' := ⟨_, rfl⟩
        have h832 : n32 ≤ 8 + 2000000000 * k + 8 := by omega
        rw [hn32] at HN32 ⊢
        clear hn32
        clear c1 c2 c3 c4 c7 c8 flt
        go_wp2_with (fail)
        refine ⟨⟨k + 1, a32, n32, cp32, _, by go_num, by omega, rfl, by omega, HN32, HO32, Lib.hid ?_, HK32⟩, by simp [intOf]; omega⟩
        rw [HST.out, HCN.out]
        simp [letB]
      · have hcn : (c.toNat : Int) = 109 := by rw [hcc]; rfl
        have HCN := Lib.hid hcc
        clear hcc
        go_wp2_with (fail)
        refine (u_any (p.f.max) _ HMX.out).mono ?_
        rintro e w31 ⟨a31, n31, cp31, rfl, hn31, h831, ho31, hb31⟩
        have HO31 := Lib.hid ho31
        have HN31 := Lib.hid hn31
        have HK31 := Lib.hid (below_on HKD.out hb31 HKD.out.size)
        have HP31 := Lib.hid (HOD.out.below hb31)
        clear hb31 ho31 hn31
        go_wp2_with (at_builtin; refine Stop.mk ?_)
        refine Stop.out ?_
        refine wpList_appB rfl rfl rfl rfl HND.out HN31.out HP31.out (HO31.out.sl) (by omega) HK31.out.size ?_
        intro a32 cp32 w32 ho32 hb32
        have HO32 := Lib.hid ho32
        have HK32 := Lib.hid (HK31.out.trans hb32)
        have HN32 := Lib.hid (show n + n31 = (D ++ enc (p.f.max)).length by rw [List.length_append, ← HND.out, ← HN31.out])
        clear ho32 hb32
        obtain ⟨n32, hn32⟩ : ∃ n', n + n31 = n' := ⟨_, rfl⟩
        have h832 : n32 ≤ 8 + 2000000000 * k + 8 := by omega
        rw [hn32] at HN32 ⊢
        clear hn32
        clear c1 c2 c3 c4 c7 c8 flt
        go_wp2_with (fail)
        refine ⟨⟨k + 1, a32, n32, cp32, _, by go_num, by omega, rfl, by omega, HN32, HO32, Lib.hid ?_, HK32⟩, by simp [intOf]; omega⟩
        rw [HST.out, HCN.out]
        simp [letB]
      · have hcn : (c.toNat : Int) = 99 := by rw [hcc]; rfl
        have HCN := Lib.hid hcc
        clear hcc
        go_wp2_with (fail)
        refine (u_any (p.f.code) _ HCO.out).mono ?_
        rintro e w31 ⟨a31, n31, cp31, rfl, hn31, h831, ho31, hb31⟩
        have HO31 := Lib.hid ho31
        have HN31 := Lib.hid hn31
        have HK31 := Lib.hid (below_on HKD.out hb31 HKD.out.size)
        have HP31 := Lib.hid (HOD.out.below hb31)
        clear hb31 ho31 hn31
        go_wp2_with (at_builtin; refine Stop.mk ?_)
        refine Stop.out ?_
        refine wpList_appB rfl rfl rfl rfl HND.out HN31.out HP31.out (HO31.out.sl) (by omega) HK31.out.size ?_
        intro a32 cp32 w32 ho32 hb32
        have HO32 := Lib.hid ho32
        have HK32 := Lib.hid (HK31.out.trans hb32)
        have HN32 := Lib.hid (show n + n31 = (D ++ enc (p.f.code)).length by rw [List.length_append, ← HND.out, ← HN31.out])
        clear ho32 hb32
        obtain ⟨n32, hn32⟩ : ∃ n', n + n31 = n' := ⟨_, rfl⟩
        have h832 : n32 ≤ 8 + 2000000000 * k + 8 := by omega
        rw [hn32] at HN32 ⊢
        clear hn32
        clear c1 c2 c3 c4 c7 c8 flt
        go_wp2_with (fail)
        refine ⟨⟨k + 1, a32, n32, cp32, _, by go_num, by omega, rfl, by omega, HN32, HO32, Lib.hid ?_, HK32⟩, by simp [intOf]; omega⟩
        rw [HST.out, HCN.out]
        simp [letB]
      · have hcn : (c.toNat : Int) = 100 := by rw [hcc]; rfl
        have HCN := Lib.hid hcc
        clear hcc
        go_upto_region 24 with (fail)
        refine rg_start 11 ?_
        refine rg_besides (fun j => w1.heap.size ≤ j) fun K hx hne hC hbel => ?_
        have k7 := fun z : Wd K => (hx z w.heap.size 7 none flt (by omega)).trans c7
        clear hx
        have HBEL : Hid (∀ W, Below w1.heap.size w1 W → Cls K W) := Lib.hid (fun W hW => hbel W (fun j hj hs => by
          have h1 := hW.block j (by omega)
          have h2 := HKD.out.block j (by omega)
          show W.heap[j]? = wr.heap[j]?
          rw [h1, h2]))
        clear hbel
        refine rg_quiet 4 [0,1,2,3,4,7,8] hC ?_
        simp only [pickD, List.map_cons, List.map_nil, List.getD_cons_zero, List.getD_cons_succ]; repeat (go_big_quiet_step (fail))
        refine wpQuiet_nil ?_
        refine rg_act 5 ?_
        go_wp2_with (fail)
        refine (u_any ((m : Int)) _ (by unfold U64; omega)).mono ?_
        rintro e w31 ⟨a31, n31, cp31, rfl, hn31, h831, ho31, hb31⟩
        have HO31 := Lib.hid ho31
        have HN31 := Lib.hid hn31
        have HK31 := Lib.hid (below_on HKD.out.drew hb31 (by have := HKD.out.size; exact this))
        have HP31 := Lib.hid (HOD.out.below (below_on ((Below.refl wr.heap.size wr).drew) hb31 (by simp)))
        clear hb31 ho31 hn31
        go_wp2_with (fail)
        refine ⟨HBEL.out _ HK31.out, ?_⟩
        refine rg_act 6 ?_
        go_wp2_with (at_builtin; refine Stop.mk ?_)
        refine Stop.out ?_
        refine wpList_appB rfl rfl rfl rfl HND.out HN31.out HP31.out (HO31.out.sl) (by omega) HK31.out.size ?_
        intro a32 cp32 w32 ho32 hb32
        have HO32 := Lib.hid ho32
        have HK32 := Lib.hid (HK31.out.trans hb32)
        have HN32 := Lib.hid (show n + n31 = (D ++ enc ((m : Int))).length by rw [List.length_append, ← HND.out, ← HN31.out])
        clear ho32 hb32
        obtain ⟨n32, hn32⟩ : ∃ n', n + n31 = n' := ⟨_, rfl⟩
        have h832 : n32 ≤ 8 + 2000000000 * k + 8 := by omega
        rw [hn32] at HN32 ⊢
        clear hn32
        go_wp2_with (fail)
        refine ⟨HBEL.out _ HK32.out, ?_⟩
        refine rg_cut 9 ?_
        go_wp2_with (at_builtin; refine Stop.mk ?_)
        refine Stop.out ?_
        refine wpList_appB rfl rfl rfl rfl HN32.out HM.out.symm HO32.out (HS.out _ HK32.out) (by omega) HK32.out.size ?_
        intro a33 cp33 w33 ho33 hb33
        have HO33 := Lib.hid ho33
        have HK33 := Lib.hid (HK32.out.trans hb33)
        have HN33 := Lib.hid (show n32 + m = (D ++ enc ((m : Int)) ++ p.f.data).length by rw [List.length_append, ← HN32.out, HM.out])
        clear ho33 hb33
        obtain ⟨n33, hn33⟩ : ∃ n', n32 + m = n' := ⟨_, rfl⟩
        have h833 : n33 ≤ 8 + 2000000000 * k + 8 + m := by omega
        rw [hn33] at HN33 ⊢
        clear hn33
        go_wp2_with (fail)
        refine rg_below fun K hx hne hC hbel => ?_
        refine rg_quiet 0 [10] hC ?_
        simp only [pickD, List.map_cons, List.map_nil, List.getD_cons_zero, List.getD_cons_succ]; repeat (go_big_quiet_step (fail))
        refine wpQuiet_nil ?_
        refine rg_end ?_
        clear k7
        clear c1 c2 c3 c4 c7 c8 flt
        go_wp2_with (fail)
        refine ⟨⟨k + 1, a33, n33, cp33, _, by go_num, by omega, rfl, by omega, HN33, HO33, Lib.hid ?_, HK33⟩, by simp [intOf]; omega⟩
        rw [HST.out, HCN.out]
        simp [letB, sizedB, HM.out, List.append_assoc]
      · have hcn : (c.toNat : Int) = 68 := by rw [hcc]; rfl
        have HCN := Lib.hid hcc
        clear hcc
        go_wp2_with (at_builtin; refine Stop.mk ?_)
        refine Stop.out ?_
        refine wpList_appB rfl rfl rfl rfl HND.out HM.out.symm HOD.out (HS.out _ HKD.out) (by omega) HKD.out.size ?_
        intro a31 cp31 w31 ho31 hb31
        have HO31 := Lib.hid ho31
        have HK31 := Lib.hid (HKD.out.trans hb31)
        have HN31 := Lib.hid (show n + m = (D ++ p.f.data).length by rw [List.length_append, ← HND.out, HM.out])
        clear ho31 hb31
        obtain ⟨n31, hn31⟩ : ∃ n', n + m = n' := ⟨_, rfl⟩
        have h831 : n31 ≤ 8 + 2000000000 * k + m := by omega
        rw [hn31] at HN31 ⊢
        clear hn31
        clear c1 c2 c3 c4 c7 c8 flt
        go_wp2_with (fail)
        refine ⟨⟨k + 1, a31, n31, cp31, _, by go_num, by omega, rfl, by omega, HN31, HO31, Lib.hid ?_, HK31⟩, by simp [intOf]; omega⟩
        rw [HST.out, HCN.out]
        simp [letB]
      · have hcn : (c.toNat : Int) = 67 := by rw [hcc]; rfl
        have HCN := Lib.hid hcc
        clear hcc
        go_upto_region 28 with (fail)
        refine rg_start 11 ?_
        refine rg_besides (fun j => w1.heap.size ≤ j) fun K hx hne hC hbel => ?_
        have k8 := fun z : Wd K => (hx z w.heap.size 8 none flt (by omega)).trans c8
        clear hx
        have HBEL : Hid (∀ W, Below w1.heap.size w1 W → Cls K W) := Lib.hid (fun W hW => hbel W (fun j hj hs => by
          have h1 := hW.block j (by omega)
          have h2 := HKD.out.block j (by omega)
          show W.heap[j]? = wr.heap[j]?
          rw [h1, h2]))
        clear hbel
        refine rg_quiet 4 [0,1,2,3,4,7,8] hC ?_
        simp only [pickD, List.map_cons, List.map_nil, List.getD_cons_zero, List.getD_cons_succ]; repeat (go_big_quiet_step (fail))
        refine wpQuiet_nil ?_
        refine rg_act 5 ?_
        go_wp2_with (fail)
        have hwf : (Lit.int .u8 (mc : Int)).wf = true := wf_byte ⟨by omega, by omega⟩
        have hb20 : Below wr.drew.heap.size wr.drew (wr.alloc (.cells #[.int .u8 (mc : Int)] 5)).drew := (Below.refl _ wr.drew).alloc (Nat.le_refl _) _
        have hs20 : Sl .u8 (wr.alloc (.cells #[.int .u8 (mc : Int)] 5)).drew (some ⟨wr.heap.size, 0, none⟩) 1 [(mc : Int)] := (sl_new .u8 wr 5 [(mc : Int)] _ rfl (by simp; exact hwf) (by simp [maxLen])).below ((Below.refl _ _).drew)
        have HS20 := Lib.hid hs20
        have HK20 := Lib.hid (below_on HKD.out.drew hb20 (by have := HKD.out.size; simpa using this))
        have HP20 := Lib.hid (HOD.out.below (below_on ((Below.refl wr.heap.size wr).drew) hb20 (by simp)))
        clear hs20 hb20
        generalize (wr.alloc (.cells #[.int .u8 (mc : Int)] 5)).drew = w20 at *
        refine ⟨HBEL.out _ HK20.out, ?_⟩
        refine rg_act 6 ?_
        go_wp2_with (at_builtin; refine Stop.mk ?_)
        refine Stop.out ?_
        refine wpList_appB rfl rfl rfl rfl HND.out rfl HP20.out (HS20.out) (by omega) HK20.out.size ?_
        intro a41 cp41 w41 ho41 hb41
        have HO41 := Lib.hid ho41
        have HK41 := Lib.hid (HK20.out.trans hb41)
        have HN41 := Lib.hid (show n + 1 = (D ++ [(mc : Int)]).length by rw [List.length_append, ← HND.out]; rfl)
        clear ho41 hb41
        obtain ⟨n41, hn41⟩ : ∃ n', n + 1 = n' := ⟨_, rfl⟩
        have h841 : n41 ≤ 8 + 2000000000 * k + 1 := by omega
        rw [hn41] at HN41 ⊢
        clear hn41
        go_wp2_with (fail)
        refine ⟨HBEL.out _ HK41.out, ?_⟩
        refine rg_cut 9 ?_
        go_wp2_with (at_builtin; refine Stop.mk ?_)
        refine Stop.out ?_
        refine wpList_appB rfl rfl rfl rfl HN41.out HMC.out.symm HO41.out (HSC.out _ HK41.out) (by omega) HK41.out.size ?_
        intro a42 cp42 w42 ho42 hb42
        have HO42 := Lib.hid ho42
        have HK42 := Lib.hid (HK41.out.trans hb42)
        have HN42 := Lib.hid (show n41 + mc = (D ++ [(mc : Int)] ++ p.f.cid).length by rw [List.length_append, ← HN41.out, HMC.out])
        clear ho42 hb42
        obtain ⟨n42, hn42⟩ : ∃ n', n41 + mc = n' := ⟨_, rfl⟩
        have h842 : n42 ≤ 8 + 2000000000 * k + 1 + mc := by omega
        rw [hn42] at HN42 ⊢
        clear hn42
        go_wp2_with (fail)
        refine rg_below fun K hx hne hC hbel => ?_
        refine rg_quiet 0 [10] hC ?_
        simp only [pickD, List.map_cons, List.map_nil, List.getD_cons_zero, List.getD_cons_succ]; repeat (go_big_quiet_step (fail))
        refine wpQuiet_nil ?_
        refine rg_end ?_
        clear k8 c1 c2 c3 c4 c7 c8 flt
        go_wp2_with (fail)
        go_loopw [5, 7] (fun o j wr => ∃ (q : Nat) (a : Option Addr) (n cp : Nat) (D' : List Int), j = .int .i64 q ∧ q ≤ 16 ∧ o = .slice a n cp ∧ n ≤ 100 + 2000000000 * k + q ∧ Hid (n = D'.length) ∧ Hid (OwB wr w1.heap.size a cp D') ∧ Hid (D' = D ++ [(mc : Int)] ++ p.f.cid ++ p.f.tok.take q) ∧ Hid (Below w1.heap.size w1 wr)) (fun _ j _ => 16 - (intOf j).toNat)
        case atStart => exact ⟨0, a42, n42, cp42, _, rfl, by omega, rfl, by omega, HN42, HO42, Lib.hid (by simp), HK42⟩
        case round =>
          obtain ⟨q, a, n, cp, D2, rfl, hq, rfl, hn8, HND2, HOD2, HD2, HKD2⟩ := hrel
          by_cases hqt : q < 16
          · obtain ⟨c1, c2, c3, c4, c7, c8, flt⟩ := HC.out wr HKD2.out
            have ct := Blk.cell (FB1.out.below HKD2.out) (9 + q) _ (by rw [FM.vals, List.getElem?_toArray, p.at_tok H16.out q hqt])
            have hbt := HTB.out (p.f.tok.getD q 0) (by rw [List.getD_eq_getElem?_getD, List.getElem?_eq_getElem (by rw [H16.out]; exact hqt)]; simp)
            have HTK : Hid (p.f.tok.take (q + 1) = p.f.tok.take q ++ [p.f.tok.getD q 0]) := Lib.hid (by rw [List.take_add_one, List.getD_eq_getElem?_getD, List.getElem?_eq_getElem (by rw [H16.out]; exact hqt)]; rfl)
            generalize p.f.tok.getD q 0 = x at *
            have hwf2 := wf_byte hbt
            go_wp2_with (at_builtin; refine Stop.mk ?_)
            refine Stop.out ?_
            have hb50 : Below wr.heap.size wr (wr.alloc (.cells #[.int .u8 x] 5)) := (Below.refl _ wr).alloc (Nat.le_refl _) _
            have hs50 : Sl .u8 (wr.alloc (.cells #[.int .u8 x] 5)) (some ⟨wr.heap.size, 0, none⟩) 1 [x] := sl_new .u8 wr 5 [x] _ rfl (by simp; exact hwf2) (by simp [maxLen])
            have HS50 := Lib.hid hs50
            have HK50 := Lib.hid (below_on HKD2.out hb50 HKD2.out.size)
            have HP50 := Lib.hid (HOD2.out.below hb50)
            clear hs50 hb50
            generalize wr.alloc (.cells #[.int .u8 x] 5) = w50 at *
            refine wpList_appB rfl rfl rfl rfl HND2.out rfl HP50.out (HS50.out) (by omega) HK50.out.size ?_
            intro a51 cp51 w51 ho51 hb51
            have HO51 := Lib.hid ho51
            have HK51 := Lib.hid (HK50.out.trans hb51)
            have HN51 := Lib.hid (show n + 1 = (D2 ++ [x]).length by rw [List.length_append, ← HND2.out]; rfl)
            clear ho51 hb51
            obtain ⟨n51, hn51⟩ : ∃ n', n + 1 = n' := ⟨_, rfl⟩
            have h851 : n51 ≤ 100 + 2000000000 * k + q + 1 := by omega
            rw [hn51] at HN51 ⊢
            clear hn51
            clear c1 c2 c3 c4 c7 c8 flt ct
            go_wp2_with (fail)
            refine ⟨⟨q + 1, a51, n51, cp51, _, by go_num, by omega, rfl, by omega, HN51, HO51, Lib.hid ?_, HK51⟩, by simp [intOf]; omega⟩
            rw [HTK.out, HD2.out, List.append_assoc]
          · obtain rfl : q = 16 := by omega
            have hD2 : D2 = D ++ letB p.f c := by
              rw [HD2.out, HCN.out, List.take_of_length_le (by rw [H16.out]; exact Nat.le_refl _)]
              simp [letB, HMC.out, List.append_assoc]
            rw [hD2] at HND2 HOD2
            clear hD2
            go_wp2_with (fail)
            refine ⟨⟨k + 1, a, n, cp, _, by go_num, by omega, rfl, by omega, HND2, HOD2, Lib.hid ?_, HKD2⟩, by simp [intOf]; omega⟩
            rw [HST.out]
    · obtain rfl : k = s.length := by omega
      have hD : putF p.f = D := by rw [HPUT.out, HD.out, List.take_length]
      go_wp2_with (fail)
      go_returns
      rw [hD]
      exact ⟨a, n, cp, rfl, HND.out, ⟨HOD.out.1.base_le (by omega), HOD.out.2⟩, below_on K1.out HKD.out K1.out.size⟩
theorem kinds_of {k : Int} (h : isFr k = true) : k = 0 ∨ k = 8 ∨ k = 2 ∨ k = 3 ∨ genK k := by
  have := fr_cases h
  unfold genK
  omega
theorem rfbytes_any (p : FM) (w : World) (hp : p.ok w) (hm : mayF p.f = true) (hd : p.f.data.length ≤ 1000000000) (hl : p.f.acks.length ≤ 1000000) :
    Calls Try.prog 17 #[.agg p.vals] w fun e w' => ∃ a n cap, e = .returned (.slice a n cap) ∧ n = (putF p.f).length ∧ OwB w' w.heap.size a cap (putF p.f) ∧ Below w.heap.size w w' := by
  obtain ⟨hi, hn, _, hko⟩ := may_parts hm
  rcases kinds_of hi with h | h | h | h | h
  · have hko' : (decide (1 ≤ p.f.n) && decide (p.f.n ≤ 65536)) = true := by
      unfold kindOk at hko
      rwa [if_pos h] at hko
    simp only [Bool.and_eq_true, decide_eq_true_eq] at hko'
    exact rfb_0 p w hp h hko'.1 hko'.2
  · exact rfb_8 p w hp hd h
  · have hko' : acksOk p.f.acks = true := by
      unfold kindOk at hko
      rwa [if_neg (by omega), if_pos (by omega)] at hko
    exact rfb_2 p w hp h hko' hl
  · have hko' : acksOk p.f.acks = true := by
      unfold kindOk at hko
      rwa [if_neg (by omega), if_pos (by omega)] at hko
    exact rfb_3 p w hp h hko' hl
  · refine rfb_gen p w hp hd ?_ h
    by_cases h24 : p.f.kind = 24
    · unfold kindOk at hko
      rw [if_neg (by omega), if_neg (by omega), if_neg (by omega), if_neg (by omega), if_pos h24] at hko
      simp at hko
      omega
    · have hc : hCid p.f.kind = false := by simp [hCid, h24]
      have e : (bareF p.f).cid = p.f.cid := by simp [bareF, hc]
      simp only [nothing, Bool.and_eq_true, decide_eq_true_eq] at hn
      have := hn.2
      rw [e] at this
      omega
end Frm
end Go.Proofs.Ytcpjehgoeibbeaa
