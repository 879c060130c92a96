/- Layer 4: Take. -/
import Derived.Test.YtjeolfnmheofeaaPar8
namespace Go.Proofs.Ytjeolfnmheofeaa
open Go.RowKit
set_option linter.unusedVariables false
namespace Par
open Var (Byte takeF takeN takeU take_any wf_byte take_ok bytesF bytesL bytesU bytes_any bytes_et)

def p0 : PV := ⟨none, 0, [], none, 0, [], 0, 0, 0, 0, 0, 0, 0, 0, 0, false, 0, 0, 0, 0, 0, 0, 0, 0, 0, 0, 0, 0, 0, 0, 0, 0⟩
def updC (p : PV) (id : Int) (V : List Int) : PV := updV p id none 0 V
/-- One parameter off the bytes. -/
def stepF (T L : List Int) : Option (Int × List Int × List Int) :=
  match takeF L with
  | none => none
  | some (id, u) => match bytesF (L.drop u) with
    | none => none
    | some (V, more) => if id ∈ T then none else if okV id V = true then some (id, V, L.drop (u + more)) else none
def takeFuel : Nat → PV → List Int → List Int → Option PV
  | 0, p, _, L => if L = [] then some p else none
  | n + 1, p, T, L => if L = [] then some p else match stepF T L with
    | none => none
    | some (id, V, L') => takeFuel n (updC p id V) (id :: T) L'
def takeP (L : List Int) : Option PV := takeFuel L.length p0 [] L
theorem takeFuel_nil (n : Nat) (p : PV) (T : List Int) : takeFuel n p T [] = some p := by cases n <;> rfl
theorem takeFuel_none (n : Nat) (p : PV) (T L : List Int) (hL : L ≠ []) (h : stepF T L = none) : takeFuel n p T L = none := by
  cases n with
  | zero => simp [takeFuel, hL]
  | succ n => simp [takeFuel, hL, h]
theorem takeFuel_some (n : Nat) (p : PV) (T L : List Int) (hL : L ≠ []) {id : Int} {V L' : List Int} (h : stepF T L = some (id, V, L')) : takeFuel (n + 1) p T L = takeFuel n (updC p id V) (id :: T) L' := by
  simp [takeFuel, hL, h]

theorem alike_refl (p : PV) : Alike p p := rfl
theorem alike_upd {pc p : PV} (h : Alike pc p) (id : Int) (a : Option Addr) (cap : Nat) (V : List Int) : Alike (updC pc id V) (updV p id a cap V) := by
  unfold Alike at h
  rw [h]
  unfold updC updV
  by_cases hs : slotF id ≠ 0
  · simp only [if_pos hs]
    have := slot_le id
    generalize slotF id = k at *
    rcases (by omega : k = 2 ∨ k = 3 ∨ k = 4 ∨ k = 5 ∨ k = 6 ∨ k = 7 ∨ k = 8 ∨ k = 9 ∨ k = 10) with rfl | rfl | rfl | rfl | rfl | rfl | rfl | rfl | rfl <;> rfl
  · simp only [if_neg hs]
    by_cases h0 : id = 0
    · simp only [if_pos h0]; rfl
    · simp only [if_neg h0]
      by_cases h15 : id = 15
      · simp only [if_pos h15]; rfl
      · simp only [if_neg h15]
        by_cases h2 : id = 2
        · simp only [if_pos h2]; rfl
        · simp only [if_neg h2]; rfl
theorem upd_ok {p : PV} {w : World} (h : p.ok w) (id : Int) {a : Option Addr} {cap : Nat} {V : List Int} (hV : Sl .u8 w a cap V) : (updV p id a cap V).ok w := by
  have hb := Var.sl_byte hV
  unfold updV
  split
  · rename_i hs
    have hsl := slot_le id
    obtain ⟨e1, e2, e3, e4, e5, e6, e7, e8⟩ := setNum_rest p (slotF id) (takeN V)
    refine ⟨by rw [e1, e3, e4]; exact h.o, by rw [e2, e5, e6]; exact h.c, fun k => ?_, by rw [e7]; exact h.t⟩
    rw [setNum_num _ _ _ _ (by omega) (by omega)]
    split
    · have := takeN_range hb; omega
    · exact h.n k
  · split
    · exact ⟨hV, h.c, h.n, h.t⟩
    · split
      · exact ⟨h.o, hV, h.n, h.t⟩
      · split
        · refine ⟨h.o, h.c, h.n, ?_⟩
          rw [withTok_tok _ _ (by have : p.tok.length = 16 := rfl; simp; omega)]
          intro x hx
          rcases List.mem_append.1 hx with hx | hx
          · exact hb x (List.mem_of_mem_take hx)
          · exact h.t x (List.mem_of_mem_drop hx)
        · exact h
/-- The ids lie elsewhere. -/
def Far (p : PV) (b : Nat) : Prop := (∀ y, p.oa = some y → 0 < p.O.length → y.block ≠ b) ∧ (∀ y, p.ca = some y → 0 < p.C.length → y.block ≠ b)
theorem upd_far {p : PV} {b : Nat} (h : Far p b) (id : Int) {a : Option Addr} {cap : Nat} {V : List Int} (hV : ∀ y, a = some y → 0 < V.length → y.block ≠ b) : Far (updV p id a cap V) b := by
  unfold updV
  split
  · obtain ⟨e1, e2, e3, e4, e5, e6, e7, e8⟩ := setNum_rest p (slotF id) (takeN V)
    unfold Far
    rw [e1, e2, e3, e5]
    exact h
  · split
    · exact ⟨hV, h.2⟩
    · split
      · exact ⟨h.1, hV⟩
      · split
        · exact h
        · exact h
theorem ok_only {p : PV} {w w' : World} {b : Nat} (h : p.ok w) (hb : Only (· = b) w w') (hf : Far p b) : p.ok w' :=
  ⟨h.o.only hb (fun y hy h0 => hf.1 y hy h0), h.c.only hb (fun y hy h0 => hf.2 y hy h0), h.n, h.t⟩
theorem p0_ok (w : World) : p0.ok w := by
  refine ⟨Sl.nil _ _, Sl.nil _ _, fun k => ?_, ?_⟩
  · have : p0.num k = 0 := by unfold PV.num; split <;> rfl
    rw [this]; omega
  · intro x hx
    simp [PV.tok, p0] at hx
    subst hx; exact ⟨by omega, by omega⟩
theorem p0_far (b : Nat) : Far p0 b := ⟨fun y h => (by cases h), fun y h => (by cases h)⟩

def lenV : Value → Nat
  | .slice _ n _ => n
  | _ => 0
theorem vals_one (p : PV) : p.vals.all (·.oneCell') = true := by simp [PV.vals, PV.list, Value.oneCell']
section
variable {P : Program} {ops : Array Oper} {rest : List Oper} {o : Oper} {a : Act} {w : World} {Q : Exit → Act → World → Prop}
theorem stop_storep {d : Option Tmp} {x y : Operand} {ty : TypeId} {pos : String} {aft : Array Edge} {g : Option (Nat × Bool)}
    (h : Stop (wpList P ops Q (⟨d, .store 46 x y, ty, pos, aft, g⟩ :: rest) a w)) : wpList P ops Q (⟨d, .store 46 x y, ty, pos, aft, g⟩ :: rest) a w := h
theorem wpList_storep (hgd : o.guard = none) {x y : Operand} (ho : o.op = .store 46 x y) {b : Nat} {p q : PV} (hx : a.eval x = .pointer (some ⟨b, 0, none⟩)) (hy : a.eval y = .agg p.vals) (hb : Blk w b q.vals 46)
    (hi : (P.info? 46).map (·.size) = some 28)
    (h : ∀ w', Blk w' b p.vals 46 → Only (· = b) w w' → wpList P ops Q rest (a.put o.dst undef) w') : wpList P ops Q (o :: rest) a w :=
  wpList_store_row hgd _ x y ho b p.vals hx hy _ q.vals hb hi rfl (vals_one p) (h _ (setRow_heap w b _ _ _ _ hb) ⟨rfl, rfl, rfl, by simp [World.setRow], fun k hk hs => setRow_other _ _ _ _ hs⟩)
end
theorem results_ct {P : Program} {fn : Func} {t u : Tmp} {T : TypeId} (h : fn.results = #[.cell t T, .tmp u]) (tmps : Array Value) (w : World) {b : Nat} {cs : Array Value} (ht : tmps.getD t undef = .pointer (some ⟨b, 0, none⟩)) (hl : (loadVar T ⟨b, 0, none⟩).run P w = .ok (.agg cs) w) :
    (results fn tmps).run P w = .ok (.tuple #[.agg cs, tmps.getD u undef]) w := by
  have ht' : tmps[t]?.getD undef = .pointer (some ⟨b, 0, none⟩) := by simpa using ht
  simp [results, h, ht', asAddr, Sem.run_bind, Sem.run_pure, Result.andThen, hl]
section
variable {P : Program} {ops : Array Oper} {rest : List Oper} {a : Act} {w : World} {Q : Exit → Act → World → Prop}
theorem stop_look {d : Option Tmp} {t : TypeId} {m x : Operand} {b : Bool} {ty : TypeId} {pos : String} {aft : Array Edge} {g : Option (Nat × Bool)}
    (h : Stop (wpList P ops Q (⟨d, .lookup t m x b, ty, pos, aft, g⟩ :: rest) a w)) : wpList P ops Q (⟨d, .lookup t m x b, ty, pos, aft, g⟩ :: rest) a w := h
theorem stop_tell {d : Option Tmp} {t : TypeId} {m x v : Operand} {ty : TypeId} {pos : String} {aft : Array Edge} {g : Option (Nat × Bool)}
    (h : Stop (wpList P ops Q (⟨d, .mapUpdate t m x v, ty, pos, aft, g⟩ :: rest) a w)) : wpList P ops Q (⟨d, .mapUpdate t m x v, ty, pos, aft, g⟩ :: rest) a w := h
end
/-- What the loop of Take keeps. -/
structure Keep (w0 wr : World) (b1 b2 bm : Nat) (L0 : List Int) (a : Option Addr) (n cap : Nat) (L : List Int) : Prop where
  len : n = L.length
  sl : Sl .u8 wr a cap L
  src : ∀ y, a = some y → 0 < L.length → y.block < w0.heap.size
  b1k : Blk wr b1 p0.vals 46
  below : Below w0.heap.size w0 wr
  low : w0.heap.size ≤ b1 ∧ w0.heap.size ≤ b2 ∧ w0.heap.size ≤ bm ∧ b1 ≠ b2 ∧ b1 ≠ bm ∧ b2 ≠ bm
  ex : ∃ (p pc : PV) (T : List Int) (k : Nat), Blk wr b2 p.vals 46 ∧ p.ok wr ∧ Far p b2 ∧ Far p bm ∧ Far p b1 ∧ Told wr bm T ∧ Alike pc p ∧ takeFuel k pc T L = takeP L0 ∧ L.length ≤ k ∧ T.length + L.length ≤ L0.length

set_option maxHeartbeats 8000000 in
set_option maxRecDepth 100000 in
theorem ptake_any (a : Option Addr) (n cap : Nat) (L : List Int) (w : World) (hn : n = L.length) (hsz : L.length ≤ 1073741824) (hS : Sl .u8 w a cap L) :
    Calls Try.prog 26 #[.slice a n cap] w fun e w' => Below w.heap.size w w' ∧ ∃ q : PV, q.ok w' ∧ (∀ pc, takeP L = some pc → e = .returned (.tuple #[.agg q.vals, .int .i64 0]) ∧ Alike pc q) ∧ (takeP L = none → e = .returned (.tuple #[.agg q.vals, .int .i64 2]) ∧ q = p0) := by
  subst hn
  have hlt0 : ∀ y, a = some y → 0 < L.length → y.block < w.heap.size := fun y hy h0 => hS.ints.lt y hy h0
  have HS := Lib.hid hS
  have HLT := Lib.hid hlt0
  clear hS hlt0
  have hmm := @run_makeMap Try.prog
  go_enter Try.func26, Try.ntmps26
  go_wp2_with (fail)
  have hB1 : Blk (((w.alloc (.cells p0.vals 46)).alloc (.cells p0.vals 46)).alloc (.map #[] 0)) w.heap.size p0.vals 46 := ((Blk.new w p0.vals 46).alloc _).alloc _
  have hB2 : Blk (((w.alloc (.cells p0.vals 46)).alloc (.cells p0.vals 46)).alloc (.map #[] 0)) (w.heap.size + 1) p0.vals 46 := by
    have := (Blk.new (w.alloc (.cells p0.vals 46)) p0.vals 46).alloc (.map #[] 0)
    simpa using this
  have hM : Told (((w.alloc (.cells p0.vals 46)).alloc (.cells p0.vals 46)).alloc (.map #[] 0)) (w.heap.size + 1 + 1) [] := by
    have := Told.made ((w.alloc (.cells p0.vals 46)).alloc (.cells p0.vals 46))
    simpa using this
  have kb : Below w.heap.size w (((w.alloc (.cells p0.vals 46)).alloc (.cells p0.vals 46)).alloc (.map #[] 0)) := (((Below.refl _ _).alloc (Nat.le_refl _) _).alloc (by simp) _).alloc (by simp; omega) _
  have hv : p0.vals = #[.slice none 0 0, .slice none 0 0, .int .u64 0, .int .u64 0, .int .u64 0, .int .u64 0, .int .u64 0, .int .u64 0, .int .u64 0, .int .u64 0, .int .u64 0, .bool false, .int .u8 0, .int .u8 0, .int .u8 0, .int .u8 0, .int .u8 0, .int .u8 0, .int .u8 0, .int .u8 0, .int .u8 0, .int .u8 0, .int .u8 0, .int .u8 0, .int .u8 0, .int .u8 0, .int .u8 0, .int .u8 0] := rfl
  have hw4 : ∃ w4, ((w.alloc (.cells p0.vals 46)).alloc (.cells p0.vals 46)).alloc (.map #[] 0) = w4 := ⟨_, rfl⟩
  obtain ⟨w4, hw4⟩ := hw4
  rw [hw4] at hB1 hB2 hM kb
  rw [hv] at hw4
  rw [hw4]
  have KB1 := Lib.hid hB1
  have KB2 := Lib.hid hB2
  have KM := Lib.hid hM
  clear hB1 hB2 hM hw4 hv
  go_loopw [0, 6, 7, 8, 9, 10, 11, 12] (fun b _ _ _ _ _ _ _ wr => ∃ (a' : Option Addr) (n' cap' : Nat) (L' : List Int), b = .slice a' n' cap' ∧ Hid (Keep w wr w.heap.size (w.heap.size + 1) (w.heap.size + 1 + 1) L a' n' cap' L')) (fun b _ _ _ _ _ _ _ _ => lenV b)
  case atStart => exact ⟨a, L.length, cap, L, rfl, Lib.hid ⟨rfl, HS.out.below kb, HLT.out, KB1.out, kb, by omega, p0, p0, [], L.length, KB2.out, p0_ok _, p0_far _, p0_far _, p0_far _, KM.out, alike_refl _, rfl, Nat.le_refl _, by simp⟩⟩
  case round =>
    obtain ⟨a', n', cap', L', rfl, hk⟩ := hrel
    obtain ⟨hlen, hsl, hsrc, hb1, kr, hlow, p, pc, T, k, hb2, hpok, hf2, hfm, hf1, htold, hal, htf, hle, htl⟩ := hk.out
    have HLEN := Lib.hid hlen
    have HSL := Lib.hid hsl
    have HSRC := Lib.hid hsrc
    have HB1 := Lib.hid hb1
    have HB2 := Lib.hid hb2
    have HOK := Lib.hid hpok
    have HF2 := Lib.hid hf2
    have HFM := Lib.hid hfm
    have HF1 := Lib.hid hf1
    have HTOLD := Lib.hid htold
    have HAL := Lib.hid hal
    have HTF := Lib.hid htf
    have zr := kr.size
    have hn' : n' ≤ 1073741824 := by omega
    clear hsl hsrc hb1 hb2 hpok hf2 hfm hf1 htold hal htf hk
    by_cases hL : L' = []
    · have hn0 : n' = 0 := by rw [hlen, hL]; rfl
      have HRES := Lib.hid (show takeP L = some pc by rw [← HTF.out, hL, takeFuel_nil])
      subst hn0
      clear hlen hL
      go_wp2_with (with_reducible refine stop_ldp ?_)
      refine Stop.out ?_
      refine wpList_loadAll Try.underlying46 params_size rfl rfl rfl HB2.out rfl ?_
      go_wp2_with (with_reducible refine stop_storep ?_)
      refine Stop.out ?_
      refine wpList_storep rfl rfl rfl rfl HB1.out params_size ?_
      intro w6 hb6 o6
      have k6 := below_onto kr o6 zr (by intro z hz h; omega)
      have hok6 := Lib.hid (ok_only HOK.out o6 HF1.out)
      have HB6 := Lib.hid hb6
      clear hb6
      go_wp2_with (fail)
      refine bodyPost_ret (results_ct rfl _ _ rfl (run_loadVar_row (P := Try.prog) _ w.heap.size 46 46 p.vals (0, 0) _ HB6.out Try.underlying46 rfl params_size)) rfl ?_
      exact ⟨k6, p, hok6.out, fun pc' h => (by rw [HRES.out] at h; cases h; exact ⟨rfl, HAL.out⟩), fun h => (by rw [HRES.out] at h; cases h)⟩
    · have hpos : 0 < n' := by rw [hlen]; exact List.length_pos_iff.2 hL
      clear hlen
      go_wp2_with (fail)
      refine (take_any a' n' cap' L' _ HLEN.out HSL.out).mono ?_
      have hbt := Var.sl_byte HSL.out
      unfold takeN takeU
      cases ht : takeF L' with
      | none =>
        simp only [Option.map_none, Option.getD_none, Option.isSome_none]
        rintro e w5 ⟨rfl, rfl⟩
        have HN := Lib.hid (show takeP L = none by rw [← HTF.out]; exact takeFuel_none _ _ _ _ hL (by unfold stepF; rw [ht]))
        clear ht
        go_wp2_with (with_reducible refine stop_storep ?_)
        refine Stop.out ?_
        refine wpList_storep (p := p0) rfl rfl rfl rfl HB1.out params_size ?_
        intro w6 hb6 o6
        have k6 := below_onto kr o6 zr (by intro z hz h; omega)
        have HB6 := Lib.hid hb6
        clear hb6
        go_wp2_with (fail)
        refine bodyPost_ret (results_ct rfl _ _ rfl (run_loadVar_row (P := Try.prog) _ w.heap.size 46 46 p0.vals (0, 0) _ HB6.out Try.underlying46 rfl params_size)) rfl ?_
        exact ⟨k6, p0, p0_ok _, fun pc' h => (by rw [HN.out] at h; cases h), fun h => ⟨rfl, rfl⟩⟩
      | some v =>
        obtain ⟨id, u⟩ := v
        have hk := take_ok hbt ht
        simp only [Option.map_some, Option.getD_some, Option.isSome_some]
        have hLl : n' = L'.length := HLEN.out
        have hul : u ≤ L'.length := hk.1
        have HLL := Lib.hid hLl
        have HT := Lib.hid ht
        have hid := hk.2.1
        have hu1 := hk.2.2.2.2.1
        have hidm := hk.2.2.1
        have hwid := Lib.hid (WalkArith.wf_u64 (n := id) (by omega))
        have hbM : Hid (∀ x ∈ L'.drop u, Byte x) := Lib.hid (fun x hx => hbt x (List.mem_of_mem_drop hx))
        have hMl : (L'.drop u).length ≤ 1073741824 := by simp; omega
        have hun : u ≤ n' := by omega
        clear hLl ht hbt hk
        rintro e w5 ⟨rfl, rfl⟩
        go_wp2_with (with_reducible refine stop_cut ?_)
        refine Stop.out ?_
        refine wpList_cut_l bytes_et rfl rfl rfl rfl HLL.out HSL.out u rfl hul ?_
        intro a5 hs5 hbl5
        obtain ⟨M, hM⟩ : ∃ M, L'.drop u = M := ⟨_, rfl⟩
        have hLM : M.length = L'.length - u := by rw [← hM, List.length_drop]
        rw [hM] at hs5 hMl hbM ⊢
        have HM := Lib.hid hM
        have HLM := Lib.hid hLM
        clear hM hLM
        have HS5 := Lib.hid hs5
        clear hs5 hbl5
        go_wp2_with (fail)
        refine (bytes_any a5 _ _ M _ rfl (by omega) HS5.out).mono ?_
        rintro e w6 ⟨a6, cap6, rfl, ho6, hb6⟩
        have k6 := below_on kr hb6 zr
        have z6 := hb6.size
        have HB1' := Lib.hid (HB1.out.below hb6)
        have HB2' := Lib.hid (HB2.out.below hb6)
        have HTOLD' := Lib.hid (HTOLD.out.below hb6)
        have HOK' := Lib.hid (HOK.out.below hb6)
        have HSL' := Lib.hid (HSL.out.below hb6)
        have hlt1 := HTOLD.out.lt
        have hlt2 := HB2.out.lt
        have hlt3 := HB1.out.lt
        cases hbf : bytesF M with
        | none =>
          have HN := Lib.hid (show takeP L = none by rw [← HTF.out]; exact takeFuel_none _ _ _ _ hL (by unfold stepF; rw [HT.out]; simp only; rw [HM.out, hbf]))
          have hes : bytesL M = [] ∧ bytesU M = 0 := by unfold bytesL bytesU; rw [hbf]; exact ⟨rfl, rfl⟩
          rw [hes.1, hes.2]
          simp only [Option.isSome_none, List.length_nil]
          clear hbf hes ho6
          go_wp2_with (with_reducible refine stop_look ?_)
          refine Stop.out ?_
          refine wpList_told rfl rfl HTOLD'.out rfl rfl hwid.out ?_
          generalize decide (id ∈ T) = tw
          have k7 := k6.alloc k6.size (.cells #[] 95)
          have HB1a := Lib.hid (HB1'.out.alloc (.cells #[] 95))
          go_wp2_with (with_reducible refine stop_storep ?_)
          refine Stop.out ?_
          refine wpList_storep (p := p0) rfl rfl rfl rfl HB1a.out params_size ?_
          intro w9 hb9 o9
          have k9 := below_onto k7 o9 k7.size (by intro z hz h; omega)
          have HB9 := Lib.hid hb9
          clear hb9
          go_wp2_with (fail)
          refine bodyPost_ret (results_ct rfl _ _ rfl (run_loadVar_row (P := Try.prog) _ w.heap.size 46 46 p0.vals (0, 0) _ HB9.out Try.underlying46 rfl params_size)) rfl ?_
          exact ⟨k9, p0, p0_ok _, fun pc' h => (by rw [HN.out] at h; cases h), fun h => ⟨rfl, rfl⟩⟩
        | some v =>
          obtain ⟨V, more⟩ := v
          have hes : bytesL M = V ∧ bytesU M = more := by unfold bytesL bytesU; rw [hbf]; exact ⟨rfl, rfl⟩
          rw [hes.1, hes.2]
          rw [hes.1] at ho6
          simp only [Option.isSome_some]
          have HBF := Lib.hid hbf
          have hmore : more ≤ M.length ∧ ∀ x ∈ V, Byte x := by
            unfold bytesF at hbf
            cases h2 : takeF M with
            | none => rw [h2] at hbf; cases hbf
            | some v2 =>
              obtain ⟨m2, u2⟩ := v2
              have := take_ok hbM.out h2
              rw [h2] at hbf
              simp only at hbf
              split at hbf
              · cases hbf
                exact ⟨by omega, fun x hx => hbM.out x (List.mem_of_mem_drop (List.mem_of_mem_take hx))⟩
              · cases hbf
          have hml := hmore.1
          rw [HLM.out] at hml
          have HS6 := Lib.hid (ho6.sl (L := V) (fun x hx => wf_byte (hmore.2 x hx))).2
          have HBK6 := Lib.hid (fun y (hy : a6 = some y) => (ho6.block hy).1)
          clear hbf hes ho6 hmore
          go_wp2_with (with_reducible refine stop_look ?_)
          refine Stop.out ?_
          refine wpList_told rfl rfl HTOLD'.out rfl rfl hwid.out ?_
          have k7 := k6.alloc k6.size (.cells #[] 95)
          have HB1a := Lib.hid (HB1'.out.alloc (.cells #[] 95))
          by_cases hin : id ∈ T
          · have HN := Lib.hid (show takeP L = none by rw [← HTF.out]; exact takeFuel_none _ _ _ _ hL (by unfold stepF; rw [HT.out]; simp only; rw [HM.out, HBF.out]; simp only; rw [if_pos hin]))
            rw [decide_eq_true hin]
            clear hin
            go_wp2_with (with_reducible refine stop_storep ?_)
            refine Stop.out ?_
            refine wpList_storep (p := p0) rfl rfl rfl rfl HB1a.out params_size ?_
            intro w9 hb9 o9
            have k9 := below_onto k7 o9 k7.size (by intro z hz h; omega)
            have HB9 := Lib.hid hb9
            clear hb9
            go_wp2_with (fail)
            refine bodyPost_ret (results_ct rfl _ _ rfl (run_loadVar_row (P := Try.prog) _ w.heap.size 46 46 p0.vals (0, 0) _ HB9.out Try.underlying46 rfl params_size)) rfl ?_
            exact ⟨k9, p0, p0_ok _, fun pc' h => (by rw [HN.out] at h; cases h), fun h => ⟨rfl, rfl⟩⟩
          · rw [decide_eq_false hin]
            have HIN := Lib.hid hin
            have HB2a := Lib.hid (HB2'.out.alloc (.cells #[] 95))
            have ba : Below w6.heap.size w6 (w6.alloc (.cells #[] 95)) := (Below.refl _ _).alloc (Nat.le_refl _) _
            have HTa := Lib.hid (HTOLD'.out.below ba)
            have HOKa := Lib.hid (HOK'.out.below ba)
            have HSLa := Lib.hid (HSL'.out.below ba)
            have HS6a := Lib.hid (HS6.out.below ba)
            clear hin
            go_wp2_with (fail)
            generalize w6.alloc (.cells #[] 95) = w7 at *
            refine (value_any p (w.heap.size + 1) id a6 _ cap6 V _ rfl HB2a.out HS6a.out (fun y hy _ h => by have := HBK6.out y hy; omega)).mono ?_
            rintro e w8 ⟨rfl, hb8, o8⟩
            have k8 := below_onto k7 o8 k7.size (by intro z hz h; omega)
            have HB1b := Lib.hid (o8.blk HB1a.out (by omega))
            cases hok : okV id V with
            | false =>
              have HN := Lib.hid (show takeP L = none by rw [← HTF.out]; exact takeFuel_none _ _ _ _ hL (by unfold stepF; rw [HT.out]; simp only; rw [HM.out, HBF.out]; simp only; rw [if_neg HIN.out, hok]; rfl))
              clear hok hb8
              go_wp2_with (with_reducible refine stop_storep ?_)
              refine Stop.out ?_
              refine wpList_storep (p := p0) rfl rfl rfl rfl HB1b.out params_size ?_
              intro w9 hb9 o9
              have k9 := below_onto k8 o9 k8.size (by intro z hz h; omega)
              have HB9 := Lib.hid hb9
              clear hb9
              go_wp2_with (fail)
              refine bodyPost_ret (results_ct rfl _ _ rfl (run_loadVar_row (P := Try.prog) _ w.heap.size 46 46 p0.vals (0, 0) _ HB9.out Try.underlying46 rfl params_size)) rfl ?_
              exact ⟨k9, p0, p0_ok _, fun pc' h => (by rw [HN.out] at h; cases h), fun h => ⟨rfl, rfl⟩⟩
            | true =>
              have HST := Lib.hid (show stepF T L' = some (id, V, L'.drop (u + more)) by unfold stepF; rw [HT.out]; simp only; rw [HM.out, HBF.out]; simp only; rw [if_neg HIN.out, if_pos hok])
              have HTb := Lib.hid (HTa.out.only o8 (by omega))
              have HOKb := Lib.hid (ok_only HOKa.out o8 HF2.out)
              have HSLb := Lib.hid (HSLa.out.only o8 (fun y hy h0 h => by have := HSRC.out y hy h0; omega))
              have HS6b := Lib.hid (HS6a.out.only o8 (fun y hy h0 h => by have := HBK6.out y hy; omega))
              have HB2b := Lib.hid hb8
              clear hok hb8
              go_wp2_with (with_reducible refine stop_tell ?_)
              refine Stop.out ?_
              refine wpList_tell rfl rfl HTb.out (by unfold maxLen; omega) rfl rfl rfl hwid.out ?_
              intro w10 htl10 o10
              have k10 := below_onto k8 o10 k8.size (by intro z hz h; omega)
              have HT10 := Lib.hid htl10
              have HSL10 := Lib.hid (HSLb.out.only o10 (fun y hy h0 h => by have := HSRC.out y hy h0; omega))
              have hS6c := HS6b.out.only o10 (fun y hy h0 h => by have := HBK6.out y hy; omega)
              have hokc := ok_only HOKb.out o10 HFM.out
              have hB1c := o10.blk HB1b.out (by omega)
              have hB2c := o10.blk HB2b.out (by omega)
              have HK : Hid (∀ a9, Sl .u8 w10 a9 (cap' - (u + more)) (L'.drop (u + more)) → (∀ y, a9 = some y → ∃ z, a' = some z ∧ y.block = z.block) → Keep w w10 w.heap.size (w.heap.size + 1) (w.heap.size + 1 + 1) L a9 (L'.drop (u + more)).length (cap' - (u + more)) (L'.drop (u + more))) := Lib.hid (by
                intro a9 hs9 hbl9
                have hpos' : 0 < L'.length := List.length_pos_iff.2 hL
                have hk1 : 1 ≤ k := by omega
                obtain ⟨k', rfl⟩ : ∃ k', k = k' + 1 := ⟨k - 1, by omega⟩
                have htf := HTF.out
                rw [takeFuel_some k' pc T L' hL HST.out] at htf
                have hu1 : 1 ≤ u := hu1
                have hV : ∀ (b : Nat), b < wr.heap.size → ∀ y, a6 = some y → 0 < V.length → y.block ≠ b := fun b hb y hy _ h => by have := HBK6.out y hy; omega
                refine ⟨rfl, hs9, fun y hy h0 => ?_, hB1c, k10, by omega, updV p id a6 cap6 V, updC pc id V, id :: T, k', hB2c, upd_ok hokc id hS6c, upd_far HF2.out id (hV _ hlt2), upd_far HFM.out id (hV _ hlt1), upd_far HF1.out id (hV _ hlt3), HT10.out, alike_upd HAL.out id a6 cap6 V, htf, by simp; omega, by simp; omega⟩
                obtain ⟨z, hz, hyz⟩ := hbl9 y hy
                rw [hyz]; exact HSRC.out z hz (by simp at h0; omega))
              clear htl10 hS6c hokc hB1c hB2c
              go_wp2_with (with_reducible refine stop_cut ?_)
              refine Stop.out ?_
              refine wpList_cut_l bytes_et rfl rfl rfl rfl HLL.out HSL10.out (u + more) (by simp) (by omega) ?_
              intro a9 hs9 hbl9
              have hk9 := HK.out a9 hs9 hbl9
              rw [List.length_drop] at hk9
              have HK9 := Lib.hid hk9
              have hl9 : (L'.drop (u + more)).length < n' := by rw [HLL.out]; simp; omega
              clear hs9 hbl9 hk9
              go_wp2_with (fail)
              exact ⟨⟨a9, _, _, _, rfl, HK9⟩, by simpa [lenV] using hl9⟩

end Par
end Go.Proofs.Ytjeolfnmheofeaa
