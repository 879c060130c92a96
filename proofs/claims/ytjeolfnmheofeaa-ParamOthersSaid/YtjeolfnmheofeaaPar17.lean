/- ParamOthers: the walk. -/
import Derived.Test.YtjeolfnmheofeaaPar15
import Derived.Test.YtjeolfnmheofeaaPar18
import Derived.Test.YtjeolfnmheofeaaPar16
namespace Go.Proofs.Ytjeolfnmheofeaa
open Go.RowKit
set_option linter.unusedVariables false
namespace Par
open Var (Byte bytes_et wf_byte)
theorem ok_app {q : PV} {w w' : World} {av : Option Addr} (h : q.ok w) (ho : Only (fun k => ∃ y, av = some y ∧ y.block = k) w w') (hf : ∀ y, av = some y → Far q y.block) : q.ok w' :=
  ⟨h.o.only ho (fun x hx h0 ⟨y, hy, e⟩ => (hf y hy).1 x hx h0 e.symm), h.c.only ho (fun x hx h0 ⟨y, hy, e⟩ => (hf y hy).2 x hx h0 e.symm), h.n, h.t⟩
theorem stop_append {P : Program} {ops : Array Oper} {rest : List Oper} {a : Act} {w : World} {Q : Exit → Act → World → Prop} {d : Option Tmp} {x : Array Operand} {t : Array TypeId} {ty : TypeId} {pos : String} {aft : Array Edge} {g : Option (Nat × Bool)}
    (h : Stop (wpList P ops Q (⟨d, .call { callee := .builtin .append, args := x, argTypes := t }, ty, pos, aft, g⟩ :: rest) a w)) : wpList P ops Q (⟨d, .call { callee := .builtin .append, args := x, argTypes := t }, ty, pos, aft, g⟩ :: rest) a w := h
set_option maxHeartbeats 16000000 in
set_option maxRecDepth 100000 in
theorem pothers_law (p : PV) (id : Int) (a : Option Addr) (cap : Nat) (V : List Int) (ahead : Bool) (w : World) (hp : p.ok w) (hid : (Lit.int .u64 id).wf = true) (hS : Sl .u8 w a cap V) (hm1 : V.length ≤ 140737488355328) (hm2 : p.O.length ≤ 140737488355328) (hm3 : p.C.length ≤ 140737488355328) :
    Calls Try.prog 8 #[.agg p.vals, .int .u64 id, .slice a V.length cap, .bool ahead] w fun e w' => e = .returned (.bool true) ∧ Below w.heap.size w w' := by
  have HLB := Lib.hid (Var.sl_byte hS)
  have HS := Lib.hid hS
  have HP := Lib.hid hp
  have HN : Hid (∀ k, 0 ≤ p.num k) := Lib.hid fun k => (hp.n k).1
  clear hS hp
  go_enter Try.func8, Try.ntmps8
  have hb0 := Blk.new w p.vals 46
  have kb : Below w.heap.size w (w.alloc (.cells p.vals 46)) := (Below.refl _ _).alloc (Nat.le_refl _) _
  go_wp2_with (fail)
  refine (known_any _).mono ?_
  rintro e w1 ⟨rfl, hb1⟩
  have k1 := below_on kb hb1 kb.size
  have HB1 := Lib.hid (hb0.below hb1)
  have HP1 := Lib.hid (HP.out.below k1)
  have HS1 := Lib.hid (HS.out.below k1)
  have z1 := k1.size
  clear hb0 kb hb1
  go_wp2_with (with_reducible refine stop_ldp ?_)
  refine Stop.out ?_
  refine wpList_loadAll Try.underlying46 params_size rfl rfl rfl HB1.out rfl ?_
  go_wp2_with (fail)
  refine (pappend_any none 0 0 [] p _ rfl (by simp) (Sl.nil _ _) HP1.out).mono ?_
  rintro e w2 ⟨hb2, hyes, hno⟩
  have k2 := below_on k1 hb2 z1
  have z2 := k2.size
  have HS2 := Lib.hid (HS1.out.below hb2)
  have HB2 := Lib.hid (HB1.out.below hb2)
  have hc0 := HB2.out.cell 0 (.slice p.oa p.O.length p.oc) rfl
  have hc1 := HB2.out.cell 1 (.slice p.ca p.C.length p.cc) rfl
  cases hm : mayF p with
  | false =>
    obtain rfl := hno hm
    clear hyes hno hm HB1 HP1 HS1 hb2
    go_wp2_with (fail)
    all_goals go_returns
    all_goals exact ⟨rfl, k2⟩
  | true =>
    obtain ⟨a2, c2, rfl, ho2⟩ := hyes hm
    rw [List.nil_append] at ho2 ⊢
    have HM := Lib.hid hm
    have HBY0 : Hid (∀ y ∈ paramB p, Byte y) := Lib.hid (paramB_bytes HP1.out)
    have hpl : (paramB p).length ≤ 640 := itemsTo_len HP1.out hm 16
    have HT2 := Lib.hid (ho2.sl (L := paramB p) (fun y hy => wf_byte (HBY0.out y hy))).2
    have HPB := Lib.hid (HP1.out.below hb2)
    clear hyes hno hm HB1 HP1 HS1 hb2 ho2
    by_cases hg : p.O.length + p.C.length ≤ 2000 ∧ V.length ≤ 60 ∧ 16 ≤ id ∧ id ≤ 60
    · obtain ⟨hg1, hg2, hg3, hg4⟩ := hg
      go_wp2_with (with_reducible refine stop_append ?_)
                  -- FROM17
      refine Stop.out ?_
      refine wpList_app bytes_et rfl rfl rfl rfl (OwnS.new w2 w.heap.size z2 5 1 2 #[.int .u8 id, .int .u8 V.length] (by unfold maxLen; omega) rfl) (HS2.out.below ((Below.refl _ _).alloc (Nat.le_refl _) _)).src (by unfold maxLen; omega) (by omega) (by simp; omega) ?_
      intro a3 c3 w3 ho3 hon3 hat3
      have k3 : Below w.heap.size w w3 := below_onto (k2.alloc z2 _) hon3 (by simp; omega) (by rintro z hz ⟨y, hy, rfl⟩; cases hy; simp at hz; omega)
      have i3 : Below w2.heap.size w2 w3 := below_onto ((Below.refl _ _).alloc (Nat.le_refl _) _) hon3 (by simp) (by rintro z hz ⟨y, hy, rfl⟩; cases hy; simp at hz)
      have z3 := k3.size
      have HB3 := Lib.hid (HB2.out.below i3)
      have HP3 := Lib.hid (HPB.out.below i3)
      have HT3 := Lib.hid (HT2.out.below i3)
      have HMB : Hid (∀ y ∈ ([id, (V.length : Int)] ++ V), Byte y) := Lib.hid (fun y hy => by
        rcases List.mem_append.1 hy with h | h
        · rcases List.mem_cons.1 h with rfl | h
          · exact ⟨by omega, by omega⟩
          · rw [List.mem_singleton.1 h]; exact ⟨by omega, by omega⟩
        · exact HLB.out y h)
      have ho3' : OwnS w3 w.heap.size 5 1 a3 (2 + V.length) c3 (([id, (V.length : Int)] ++ V).map (Value.int .u8)) := ho3
      have HM3 := Lib.hid (ho3'.sl (L := ([id, (V.length : Int)] ++ V)) (fun y hy => wf_byte (HMB.out y hy))).2
      have jw3 : Below w3.heap.size w3 w3 := Below.refl _ _
      have hMl : ([id, (V.length : Int)] ++ V).length = 2 + V.length := by simp only [List.length_append, List.length_cons, List.length_nil] <;> omega
      have srcM : ∀ w', Sl .u8 w' a3 c3 ([id, (V.length : Int)] ++ V) → SrcAt w' a3 (2 + V.length) c3 1 (([id, (V.length : Int)] ++ V).map (Value.int .u8)) := fun w' h => by
        have h := h.src
        rw [hMl] at h
        exact h
      clear ho3 ho3' hon3 hat3 i3
      have hownw4 := OwnS.new w3 w3.heap.size jw3.size 5 1 0 #[] (by simp) rfl
      go_wp2_with (with_reducible refine stop_append ?_)
      refine Stop.out ?_
      refine wpList_app bytes_et rfl rfl rfl rfl hownw4 (HT3.out.below ((Below.refl _ _).alloc (Nat.le_refl _) _)).src (by unfold maxLen; omega) (by omega) (by have := jw3.size; simp <;> omega) ?_
      intro a4 ca4 w4 how4 honw4 hatw4
      simp only [Nat.zero_add, List.nil_append] at how4 ⊢
      have iw4 : Below w3.heap.size w3 w4 := below_onto ((Below.refl _ _).alloc (Nat.le_refl _) _) honw4 (by simp) (by rintro z hz ⟨y, hy, rfl⟩; cases hy; simp at hz)
      have jw4 := below_on jw3 iw4 jw3.size
      have S2w4 := Lib.hid (HM3.out.below iw4)
      go_wp2_with (with_reducible refine stop_append ?_)
      refine Stop.out ?_
      refine wpList_app bytes_et rfl rfl rfl rfl how4 (srcM _ S2w4.out) (by unfold maxLen; omega) (by omega) jw4.size ?_
      intro a5 ca5 w5 how5 honw5 hatw5
      have jw5 : Below w3.heap.size w3 w5 := below_onto jw4 honw5 jw4.size (by rintro z hz ⟨y, hy, rfl⟩; have := (how4.block hy).1; omega)
      rw [← List.map_append] at how5
      have HALLw5 := Lib.hid how5
      have Tw5 := Lib.hid (HT3.out.below jw5)
      have Mw5 := Lib.hid (HM3.out.below jw5)
      clear hownw4 how4 honw4 hatw4 iw4 how5 honw5 hatw5 S2w4
      cases ahead with
      | false =>
        have HO := Lib.hid (others_behind HM.out HN.out hg3 hg4 hg2)
        have HXB : Hid (∀ y ∈ (paramB p ++ ([id, (V.length : Int)] ++ V)), Byte y) := Lib.hid (fun y hy => by rcases List.mem_append.1 hy with h | h <;> first | exact HBY0.out y h | exact HMB.out y h)
        have HXM : Hid (∀ y ∈ (paramB p ++ ([id, (V.length : Int)] ++ V)) ++ ([id, (V.length : Int)] ++ V), Byte y) := Lib.hid (fun y hy => by rcases List.mem_append.1 hy with h | h; exact HXB.out y h; exact HMB.out y h)
        have HX := Lib.hid (HALLw5.out.sl (L := (paramB p ++ ([id, (V.length : Int)] ++ V))) (fun y hy => wf_byte (HXB.out y hy))).2
        have hXl : ((paramB p ++ ([id, (V.length : Int)] ++ V))).length ≤ 702 := by simp only [List.length_append, List.length_cons, List.length_nil]; omega
        go_wp2_with (fail)
        refine (ptake_far a5 _ ca5 (paramB p ++ ([id, (V.length : Int)] ++ V)) _ (by simp only [List.length_append, List.length_cons, List.length_nil] <;> omega) (by omega) HX.out).mono ?_
        rintro e v1 ⟨hv1, q, hqok, hqf, hyes, _⟩
        obtain ⟨rfl, hal⟩ := hyes (bare p) HO.out.1
        have j1 := below_on jw5 hv1 jw5.size
        have u1 := hv1.size
        have HQ1 := Lib.hid hqok
        have HQF := Lib.hid hqf
        have HAL := Lib.hid hal
        have HA1 := Lib.hid (HALLw5.out.below hv1)
        clear hqok hqf hyes hal hv1
        go_wp2_with (with_reducible refine stop_storep ?_)
        refine Stop.out ?_
        refine wpList_storep rfl rfl rfl rfl (Blk.new v1 p0.vals 46) params_size ?_
        intro v2 hq2 o2
        have i2 : Below v1.heap.size v1 v2 := below_onto ((Below.refl _ _).alloc (Nat.le_refl _) _) o2 (by simp) (by intro z hz h; omega)
        have j2 := below_on j1 i2 j1.size
        have HQ2 := Lib.hid (HQ1.out.below i2)
        have HA2 := Lib.hid (HA1.out.below i2)
        have HM2 := Lib.hid (HM3.out.below j2)
        have HD2 := Lib.hid hq2
        clear hq2 o2 i2
        go_wp2_with (with_reducible refine stop_append ?_)
        refine Stop.out ?_
        refine wpList_app bytes_et rfl rfl rfl rfl HA2.out (srcM _ HM2.out) (by unfold maxLen; omega) (by omega) j2.size ?_
        intro a8 c8 v3 ho8 hon8 hat8
        have j3 : Below w3.heap.size w3 v3 := below_onto j2 hon8 j2.size (by rintro z hz ⟨y, hy, rfl⟩; have := (HA2.out.block hy).1; omega)
        have HQ3 := Lib.hid (ok_app HQ2.out hon8 (fun y hy => HQF.out _ ((HALLw5.out.block hy).2.1)))
        have HD3 := Lib.hid (hon8.blk HD2.out (by rintro ⟨y, hy, e⟩; have := (HALLw5.out.block hy).2.1; omega))
        rw [← List.map_append] at ho8
        have HX3 := Lib.hid (ho8.sl (L := (paramB p ++ ([id, (V.length : Int)] ++ V)) ++ ([id, (V.length : Int)] ++ V)) (fun y hy => wf_byte (HXM.out y hy))).2
        clear ho8 hon8 hat8
        go_wp2_with (fail)
        refine (ptake_any a8 _ c8 ((paramB p ++ ([id, (V.length : Int)] ++ V)) ++ ([id, (V.length : Int)] ++ V)) _ (by simp only [List.length_append, List.length_cons, List.length_nil] <;> omega) (by simp only [List.length_append, List.length_cons, List.length_nil]; omega) HX3.out).mono ?_
        rintro e v4 ⟨hv4, q4, hqok4, _, hno4⟩
        obtain ⟨rfl, rfl⟩ := hno4 HO.out.2
        have j4 := below_on j3 hv4 j3.size
        have HQ4 := Lib.hid (HQ3.out.below hv4)
        have HD4 := Lib.hid (HD3.out.below hv4)
        clear hqok4 hno4 hv4
        go_wp2_with (with_reducible refine stop_storep ?_)
        refine Stop.out ?_
        refine wpList_storep rfl rfl rfl rfl (Blk.new v4 p0.vals 46) params_size ?_
        intro v5 hq5 o5
        have i5 : Below v4.heap.size v4 v5 := below_onto ((Below.refl _ _).alloc (Nat.le_refl _) _) o5 (by simp) (by intro z hz h; omega)
        have j5 := below_on j4 i5 j4.size
        have HQ5 := Lib.hid (HQ4.out.below i5)
        have HD5 := Lib.hid (HD4.out.below i5)
        have HB5 := Lib.hid (HB3.out.below j5)
        have HP5 := Lib.hid (HP3.out.below j5)
        clear hq5 o5 i5
        go_wp2_with (with_reducible refine stop_ldp ?_)
        refine Stop.out ?_
        refine wpList_loadAll Try.underlying46 params_size rfl rfl rfl HB5.out rfl ?_
        go_wp2_with (with_reducible refine stop_ldp ?_)
        refine Stop.out ?_
        refine wpList_loadAll Try.underlying46 params_size rfl rfl rfl HD5.out rfl ?_
        go_wp2_with (fail)
        refine (same_any p q _ HP5.out HQ5.out (alike_trans (alike_symm (bare_alike p)) HAL.out)).mono ?_
        rintro e v6 ⟨rfl, hv6⟩
        have j6 := below_on j5 hv6 j5.size
        go_wp2_with (fail)
        go_returns
        exact ⟨rfl, below_on k3 j6 z3⟩
      | true =>
        have hownw6 := OwnS.new w5 w3.heap.size jw5.size 5 1 0 #[] (by simp) rfl
        go_wp2_with (with_reducible refine stop_append ?_)
        refine Stop.out ?_
        refine wpList_app bytes_et rfl rfl rfl rfl hownw6 (srcM _ (Mw5.out.below ((Below.refl _ _).alloc (Nat.le_refl _) _))) (by unfold maxLen; omega) (by omega) (by have := jw5.size; simp <;> omega) ?_
        intro a6 ca6 w6 how6 honw6 hatw6
        simp only [Nat.zero_add, List.nil_append] at how6 ⊢
        have iw6 : Below w5.heap.size w5 w6 := below_onto ((Below.refl _ _).alloc (Nat.le_refl _) _) honw6 (by simp) (by rintro z hz ⟨y, hy, rfl⟩; cases hy; simp at hz)
        have jw6 := below_on jw5 iw6 jw5.size
        have S2w6 := Lib.hid (Tw5.out.below iw6)
        go_wp2_with (with_reducible refine stop_append ?_)
        refine Stop.out ?_
        refine wpList_app bytes_et rfl rfl rfl rfl how6 S2w6.out.src (by unfold maxLen; omega) (by omega) jw6.size ?_
        intro a7 ca7 w7 how7 honw7 hatw7
        have jw7 : Below w3.heap.size w3 w7 := below_onto jw6 honw7 jw6.size (by rintro z hz ⟨y, hy, rfl⟩; have := (how6.block hy).1; omega)
        rw [← List.map_append] at how7
        have HALLw7 := Lib.hid how7
        have Tw7 := Lib.hid (HT3.out.below jw7)
        have Mw7 := Lib.hid (HM3.out.below jw7)
        clear hownw6 how6 honw6 hatw6 iw6 how7 honw7 hatw7 S2w6
        have HO := Lib.hid (others_ahead HM.out HN.out hg3 hg4 hg2)
        have HXB : Hid (∀ y ∈ (([id, (V.length : Int)] ++ V) ++ paramB p), Byte y) := Lib.hid (fun y hy => by rcases List.mem_append.1 hy with h | h <;> first | exact HBY0.out y h | exact HMB.out y h)
        have HXM : Hid (∀ y ∈ (([id, (V.length : Int)] ++ V) ++ paramB p) ++ ([id, (V.length : Int)] ++ V), Byte y) := Lib.hid (fun y hy => by rcases List.mem_append.1 hy with h | h; exact HXB.out y h; exact HMB.out y h)
        have HX := Lib.hid (HALLw7.out.sl (L := (([id, (V.length : Int)] ++ V) ++ paramB p)) (fun y hy => wf_byte (HXB.out y hy))).2
        have hXl : ((([id, (V.length : Int)] ++ V) ++ paramB p)).length ≤ 702 := by simp only [List.length_append, List.length_cons, List.length_nil]; omega
        go_wp2_with (fail)
        refine (ptake_far a7 _ ca7 (([id, (V.length : Int)] ++ V) ++ paramB p) _ (by simp only [List.length_append, List.length_cons, List.length_nil] <;> omega) (by omega) HX.out).mono ?_
        rintro e v1 ⟨hv1, q, hqok, hqf, hyes, _⟩
        obtain ⟨rfl, hal⟩ := hyes (bare p) HO.out.1
        have j1 := below_on jw7 hv1 jw7.size
        have u1 := hv1.size
        have HQ1 := Lib.hid hqok
        have HQF := Lib.hid hqf
        have HAL := Lib.hid hal
        have HA1 := Lib.hid (HALLw7.out.below hv1)
        clear hqok hqf hyes hal hv1
        go_wp2_with (with_reducible refine stop_storep ?_)
        refine Stop.out ?_
        refine wpList_storep rfl rfl rfl rfl (Blk.new v1 p0.vals 46) params_size ?_
        intro v2 hq2 o2
        have i2 : Below v1.heap.size v1 v2 := below_onto ((Below.refl _ _).alloc (Nat.le_refl _) _) o2 (by simp) (by intro z hz h; omega)
        have j2 := below_on j1 i2 j1.size
        have HQ2 := Lib.hid (HQ1.out.below i2)
        have HA2 := Lib.hid (HA1.out.below i2)
        have HM2 := Lib.hid (HM3.out.below j2)
        have HD2 := Lib.hid hq2
        clear hq2 o2 i2
        go_wp2_with (with_reducible refine stop_append ?_)
        refine Stop.out ?_
        refine wpList_app bytes_et rfl rfl rfl rfl HA2.out (srcM _ HM2.out) (by unfold maxLen; omega) (by omega) j2.size ?_
        intro a8 c8 v3 ho8 hon8 hat8
        have j3 : Below w3.heap.size w3 v3 := below_onto j2 hon8 j2.size (by rintro z hz ⟨y, hy, rfl⟩; have := (HA2.out.block hy).1; omega)
        have HQ3 := Lib.hid (ok_app HQ2.out hon8 (fun y hy => HQF.out _ ((HALLw7.out.block hy).2.1)))
        have HD3 := Lib.hid (hon8.blk HD2.out (by rintro ⟨y, hy, e⟩; have := (HALLw7.out.block hy).2.1; omega))
        rw [← List.map_append] at ho8
        have HX3 := Lib.hid (ho8.sl (L := (([id, (V.length : Int)] ++ V) ++ paramB p) ++ ([id, (V.length : Int)] ++ V)) (fun y hy => wf_byte (HXM.out y hy))).2
        clear ho8 hon8 hat8
        go_wp2_with (fail)
        refine (ptake_any a8 _ c8 ((([id, (V.length : Int)] ++ V) ++ paramB p) ++ ([id, (V.length : Int)] ++ V)) _ (by simp only [List.length_append, List.length_cons, List.length_nil] <;> omega) (by simp only [List.length_append, List.length_cons, List.length_nil]; omega) HX3.out).mono ?_
        rintro e v4 ⟨hv4, q4, hqok4, _, hno4⟩
        obtain ⟨rfl, rfl⟩ := hno4 HO.out.2
        have j4 := below_on j3 hv4 j3.size
        have HQ4 := Lib.hid (HQ3.out.below hv4)
        have HD4 := Lib.hid (HD3.out.below hv4)
        clear hqok4 hno4 hv4
        go_wp2_with (with_reducible refine stop_storep ?_)
        refine Stop.out ?_
        refine wpList_storep rfl rfl rfl rfl (Blk.new v4 p0.vals 46) params_size ?_
        intro v5 hq5 o5
        have i5 : Below v4.heap.size v4 v5 := below_onto ((Below.refl _ _).alloc (Nat.le_refl _) _) o5 (by simp) (by intro z hz h; omega)
        have j5 := below_on j4 i5 j4.size
        have HQ5 := Lib.hid (HQ4.out.below i5)
        have HD5 := Lib.hid (HD4.out.below i5)
        have HB5 := Lib.hid (HB3.out.below j5)
        have HP5 := Lib.hid (HP3.out.below j5)
        clear hq5 o5 i5
        go_wp2_with (with_reducible refine stop_ldp ?_)
        refine Stop.out ?_
        refine wpList_loadAll Try.underlying46 params_size rfl rfl rfl HB5.out rfl ?_
        go_wp2_with (with_reducible refine stop_ldp ?_)
        refine Stop.out ?_
        refine wpList_loadAll Try.underlying46 params_size rfl rfl rfl HD5.out rfl ?_
        go_wp2_with (fail)
        refine (same_any p q _ HP5.out HQ5.out (alike_trans (alike_symm (bare_alike p)) HAL.out)).mono ?_
        rintro e v6 ⟨rfl, hv6⟩
        have j6 := below_on j5 hv6 j5.size
        go_wp2_with (fail)
        go_returns
        exact ⟨rfl, below_on k3 j6 z3⟩
    · go_wp2_with (with_reducible refine stop_append ?_)
-- END17
      all_goals first | (exact absurd (by omega) hg) | (go_returns; exact ⟨rfl, k2⟩)
set_option maxRecDepth 100000 in
theorem walk_ParamOthers (H : Type) (enc : TypeId × Value → H) (w : World) (base : Nat) (v0 : Value) (d0 : DataW H) (p0 : List MemPlace) (v1 : Value) (d1 : DataW H) (p1 : List MemPlace) (v2 : Value) (d2 : DataW H) (p2 : List MemPlace) (v3 : Value) (d3 : DataW H) (p3 : List MemPlace)
    (o0 : Value.okWide Try.prog w .any base 46 v0) (h0 : DataW.Trod enc Try.prog w 0 (fun _ => true) true 46 v0 d0 p0)
    (o1 : Value.okWide Try.prog w .any base 24 v1) (h1 : DataW.Trod enc Try.prog w 0 (fun _ => true) true 24 v1 d1 p1)
    (o2 : Value.okWide Try.prog w .any base 22 v2) (h2 : DataW.Trod enc Try.prog w 0 (fun _ => true) true 22 v2 d2 p2)
    (o3 : Value.okWide Try.prog w .any base 4 v3) (h3 : DataW.Trod enc Try.prog w 0 (fun _ => true) true 4 v3 d3 p3)
    (z0 : Sized Try.prog 46 d0) (z1 : Sized Try.prog 24 d1) (z2 : Sized Try.prog 22 d2) (z3 : Sized Try.prog 4 d3) :
    Calls Try.prog 8 #[v0, v1, v2, v3] w fun e w' => e = .returned (.bool true) ∧ Below w.heap.size w w' := by
  obtain ⟨id, rfl, rfl, rfl, hid⟩ := ChangeShapes.open_int Try.underlying24 o1 h1
  obtain ⟨ahead, rfl, _⟩ := open_bool Try.underlying4 o3 h3
  obtain ⟨a, L, cap, rfl, hS⟩ := open_sl Try.underlying22 Try.underlying5 (by kernel_rfl) o2 h2
  obtain ⟨fuel, hf⟩ := h2
  obtain ⟨a', L', cap', e', p', q', r', u', v'⟩ := open_ints_z Try.underlying22 Try.underlying5 (by kernel_rfl) hf z2
  have hl : L.length = L'.length := by simp only [Value.slice.injEq] at e'; exact e'.2.1
  rw [b5] at r'
  obtain ⟨p, rfl, hp, hO, hC⟩ := open_params o0 h0 z0
  exact pothers_law p id a cap L ahead w hp hid hS (by unfold reachBytes at r'; omega) (by omega) (by omega)
end Par
end Go.Proofs.Ytjeolfnmheofeaa
