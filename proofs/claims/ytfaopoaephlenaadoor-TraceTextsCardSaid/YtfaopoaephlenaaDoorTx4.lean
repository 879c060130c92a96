/- A line's event: plain Lean; trace.event. -/
import Derived.Test.YtfaopoaephlenaaDoorTx3
namespace Go.Proofs.YtfaopoaephlenaaDoor
open Go.RowKit
set_option linter.unusedVariables false

def kindN (s : List UInt8) : Nat :=
  if s = [112, 104, 97, 115, 101] then 1 else if s = [110, 117, 109, 98, 101, 114] then 2 else if s = [104, 101, 97, 114, 100] then 3 else if s = [103, 111, 110, 101] then 4 else if s = [111, 112, 101, 110] then 5 else
  if s = [119, 114, 111, 116, 101] then 6 else if s = [114, 101, 97, 100] then 7 else if s = [115, 104, 117, 116] then 8 else if s = [119, 105, 110, 100, 111, 119] then 9 else if s = [112, 116, 111] then 10 else 0
theorem kindN_le (s : List UInt8) : kindN s ≤ 10 := by unfold kindN; repeat' split
                                                       all_goals omega
theorem kindN_get (s : List UInt8) (h : kindN s ≠ 0) : kw.getD (kindN s) [] = s := by
  unfold kindN at h ⊢
  repeat' split
  all_goals first | (subst_vars; rfl) | (rename_i h; simp_all)
theorem kindN_of (k : Nat) (h1 : 1 ≤ k) (h2 : k ≤ 10) : kindN (kw.getD k []) = k := by
  have : ∀ k, k < 11 → 1 ≤ k → kindN (kw.getD k []) = k := by decide
  exact this k (by omega) h1
theorem kindN_iff (k : Nat) (h1 : 1 ≤ k) (h2 : k ≤ 10) (s : List UInt8) : kw.getD k [] = s ↔ kindN s = k := by
  constructor
  · rintro rfl; exact kindN_of k h1 h2
  · intro h; rw [← h]; exact kindN_get s (by omega)
theorem idx_kind (s : List UInt8) (h : s ≠ [45]) : Lib.idxOfS (kw.map tx) (tx s) = if kindN s = 0 then -1 else (kindN s : Int) := by
  have hl : (kw.map tx).length = 11 := rfl
  have hg : ∀ j, j < 11 → (kw.map tx).getD j ByteArray.empty = tx (kw.getD j []) := by
    have : ∀ j, j < 11 → ((kw.map tx).getD j ByteArray.empty).data = (tx (kw.getD j [])).data := by decide
    exact fun j hj => ByteArray.ext (this j hj)
  have ht : (kw.map tx).take 11 = kw.map tx := rfl
  have hno : ∀ j, j < 11 → (kw.getD j [] = s → 1 ≤ j) := by
    intro j hj he
    rcases Nat.eq_zero_or_pos j with rfl | h0
    · exact absurd he.symm h
    · exact h0
  split
  · rename_i h0
    have := Lib.idxOfS_miss (kw.map tx) 11 (tx s) (fun j hj he => by
      rw [hg j hj, tx_inj] at he
      have h1 := hno j hj he
      have := (kindN_iff j h1 (by omega) s).1 he
      omega)
    rw [ht] at this; exact this
  · rename_i h0
    have h10 := kindN_le s
    have := Lib.idxOfS_hit (kw.map tx) 11 (kindN s) (tx s) (by omega) (by omega) (by rw [hg _ (by omega), kindN_get s h0]) (fun j hj he => by
      rw [hg j (by omega), tx_inj] at he
      have h1 := hno j (by omega) he
      have := (kindN_iff j h1 (by omega) s).1 he
      omega)
    rw [ht] at this; exact this
def evO (l : List UInt8) : Option Ev :=
  if (pcs 32 l).length = 4 ∧ kindN ((pcs 32 l).getD 1 []) ≠ 0 then
    match refNum ((pcs 32 l).getD 0 []), refNum ((pcs 32 l).getD 2 []), refNum ((pcs 32 l).getD 3 []) with
    | some a, some b, some c => some ⟨a, b, c, kindN ((pcs 32 l).getD 1 [])⟩
    | _, _, _ => none
  else none
theorem refNum_le {l : List UInt8} {n : Nat} (h : refNum l = some n) : n ≤ 18446744073709551615 := by
  have := ((num_iff l n).1 h).1
  exact ((parseB_iff l n).1 this).2.2.2
theorem evO_ok {l : List UInt8} {e : Ev} (h : evO l = some e) : EvOk e := by
  unfold evO at h
  split at h
  · split at h
    · rename_i a b c h1 h2 h3
      cases h
      exact ⟨refNum_le h1, refNum_le h2, refNum_le h3, by have := kindN_le ((pcs 32 l).getD 1 []); simp only; omega⟩
    · cases h
  · cases h
/-- What event tells. -/
def EvPost (l : List UInt8) (x : Ending) : Prop := ∃ (a b c k : Nat) (ok : Bool), x = .returned (.tuple #[.agg #[.int .u64 a, .int .u64 b, .int .u64 c, .int .u8 k], .bool ok]) ∧ (ok = true → evO l = some ⟨a, b, c, k⟩) ∧ (ok = false → evO l = none)
theorem index_any (b n c : Nat) (w : World) (s : List UInt8) (hn : n = 11) (hb : Blk w b (strCs kw) 9) (h : s ≠ [45]) :
    Calls Tryd.prog 38 #[.slice (some ⟨b, 0, none⟩) n c, .string (tx s)] w fun e w' => e = .returned (.int .i64 (if kindN s = 0 then -1 else (kindN s : Int))) ∧ w' = w := by
  subst hn
  refine (Any.slices_Index_string L.lays109 b 0 11 c (kw.map tx) (tx s) w (Nat.le_refl _) (by omega) (fun j hj => ?_)).mono ?_
  · have hj' : j < 11 := hj
    rw [Nat.zero_add]
    refine hb.cell j _ ?_
    rw [strCs_get _ _ hj']
    have hg : ∀ j, j < 11 → ((kw.map tx).getD j ByteArray.empty).data = (tx (kw.getD j [])).data := by decide
    exact congrArg (fun x => some (Value.string x)) (ByteArray.ext (hg j hj')).symm
  · rintro e w' ⟨rfl, rfl⟩
    refine ⟨?_, rfl⟩
    rw [show (kw.map tx).take 11 = kw.map tx from rfl, idx_kind s h]
theorem event_size : (Tryd.prog.info? 26).map (·.size) = some 4 := by kernel_rfl
section
variable {P : Program} {ops : Array Oper} {rest : List Oper} {o : Oper} {a : Act} {w : World} {Q : Exit → Act → World → Prop}
theorem stop_storee {d : Option Tmp} {x y : Operand} {ty : TypeId} {pos : String} {aft : Array Edge} {g : Option (Nat × Bool)}
    (h : Stop (wpList P ops Q (⟨d, .store 26 x y, ty, pos, aft, g⟩ :: rest) a w)) : wpList P ops Q (⟨d, .store 26 x y, ty, pos, aft, g⟩ :: rest) a w := h
theorem wpList_storee (hgd : o.guard = none) {x y : Operand} (ho : o.op = .store 26 x y) {b : Nat} {cs cs' : Array Value} (h1 : cs.size = 4) (h2 : cs'.size = 4) (h3 : cs.all Value.oneCell' = true) (hx : a.eval x = .pointer (some ⟨b, 0, none⟩)) (hy : a.eval y = .agg cs) (hb : Blk w b cs' 26)
    (hi : (P.info? 26).map (·.size) = some 4)
    (h : ∀ w', Blk w' b cs 26 → Only (· = b) w w' → wpList P ops Q rest (a.put o.dst undef) w') : wpList P ops Q (o :: rest) a w :=
  wpList_store_row hgd _ x y ho b _ hx hy _ _ hb (by rw [h1]; exact hi) (by rw [h1, h2]) h3 (h _ (setRow_heap w b _ _ _ _ hb) ⟨rfl, rfl, rfl, by simp [World.setRow], fun k hk hs => setRow_other _ _ _ _ hs⟩)
end
theorem results_e {P : Program} {fn : Func} {t s : Tmp} {T : TypeId} (h : fn.results = #[.cell t T, .tmp s]) (tmps : Array Value) (w : World) {b : Nat} {cs : Array Value} {v : Value} (ht : tmps.getD t undef = .pointer (some ⟨b, 0, none⟩)) (hs : tmps.getD s undef = v) (hl : (loadVar T ⟨b, 0, none⟩).run P w = .ok (.agg cs) w) :
    (results fn tmps).run P w = .ok (.tuple #[.agg cs, v]) w := by
  have ht' : tmps[t]?.getD undef = .pointer (some ⟨b, 0, none⟩) := by simpa using ht
  have hs' : tmps[s]?.getD undef = v := by simpa using hs
  simp [results, h, ht', hs', asAddr, Result.andThen, hl]
theorem ret_e (w : World) (b : Nat) (cs : Array Value) (h : cs.size = 4) (hb : Blk w b cs 26) : (loadVar 26 ⟨b, 0, none⟩).run Tryd.prog w = .ok (.agg cs) w :=
  run_loadVar_row (P := Tryd.prog) _ b 26 26 cs (0, 0) _ hb Tryd.underlying26 rfl (by rw [h]; exact event_size)
def qOf (p : List (List UInt8)) : List (List UInt8) := [p.getD 0 [], p.getD 2 [], p.getD 3 []]
theorem pcs_len (c : UInt8) : ∀ (l acc : List UInt8) (p : List UInt8), p ∈ pcsA c acc l → p.length ≤ acc.length + l.length
  | [], acc, p, h => by simp [pcsA] at h; subst h; simp
  | x :: l, acc, p, h => by
    rw [pcsA] at h
    split at h
    · rcases List.mem_cons.1 h with rfl | h
      · simp
      · have := pcs_len c l [] p h
        simp at this ⊢; omega
    · have := pcs_len c l _ p h
      simp at this ⊢; omega
theorem evO_bad {l p0 p1 p2 p3 : List UInt8} (h : pcs 32 l = [p0, p1, p2, p3]) {k : Nat} (hk : k < 3) {s : List UInt8} (hs : (qOf [p0, p1, p2, p3]).getD k [] = s) (hn : refNum s = none) : evO l = none := by
  unfold evO
  rw [h]
  split
  · split
    · rename_i a b c h1 h2 h3
      exfalso
      have : k = 0 ∨ k = 1 ∨ k = 2 := by omega
      rcases this with rfl | rfl | rfl
      · have : p0 = s := hs
        subst this; rw [show ([p0, p1, p2, p3] : List (List UInt8)).getD 0 [] = p0 from rfl, hn] at h1; cases h1
      · have : p2 = s := hs
        subst this; rw [show ([p0, p1, p2, p3] : List (List UInt8)).getD 2 [] = p2 from rfl, hn] at h2; cases h2
      · have : p3 = s := hs
        subst this; rw [show ([p0, p1, p2, p3] : List (List UInt8)).getD 3 [] = p3 from rfl, hn] at h3; cases h3
    · rfl
  · rfl
theorem evO_good {l p0 p1 p2 p3 : List UInt8} (h : pcs 32 l = [p0, p1, p2, p3]) {v : List Nat} (hv : ∀ j, j < 3 → refNum ((qOf [p0, p1, p2, p3]).getD j []) = some (v.getD j 0)) :
    evO l = if kindN p1 = 0 then none else some ⟨v.getD 0 0, v.getD 1 0, v.getD 2 0, kindN p1⟩ := by
  have h0 : refNum p0 = some (v.getD 0 0) := hv 0 (by omega)
  have h1 : refNum p2 = some (v.getD 1 0) := hv 1 (by omega)
  have h2 : refNum p3 = some (v.getD 2 0) := hv 2 (by omega)
  unfold evO
  rw [h]
  show (if (4 = 4 ∧ kindN p1 ≠ 0) then (match refNum p0, refNum p2, refNum p3 with | some a, some b, some c => some (⟨a, b, c, kindN p1⟩ : Ev) | _, _, _ => none) else none) = _
  rw [h0, h1, h2]
  by_cases hk : kindN p1 = 0 <;> simp [hk]
def u64Cs (v : List Nat) : Array Value := (v.map fun (n : Nat) => Value.int .u64 n).toArray
theorem u64Cs_get {v : List Nat} {k : Nat} (h : k < v.length) : (u64Cs v)[k]? = some (.int .u64 (v.getD k 0)) := by simp [u64Cs, h]
theorem u64Cs_set (v : List Nat) (k x : Nat) : (u64Cs v).setIfInBounds k (.int .u64 x) = u64Cs (v.set k x) := by simp [u64Cs, List.map_set]
/-- What a round of event keeps. -/
structure EvI (w0 : World) (A : Nat) (q : List (List UInt8)) (v : List Nat) (k : Nat) (w : World) : Prop where
  below : Below w0.heap.size w0 w
  res : Blk w w0.heap.size #[.int .u64 0, .int .u64 0, .int .u64 0, .int .u8 0] 26
  cur : Blk w A (u64Cs v) 129
  strs : Blk w (A + 1) (strCs q) 9
  len : v.length = 3
  nums : ∀ j, j < k → refNum (q.getD j []) = some (v.getD j 0)
theorem EvI.on {w0 w w' : World} {A k : Nat} {q : List (List UInt8)} {v : List Nat} (h : EvI w0 A q v k w) (hb : Below w.heap.size w w') : EvI w0 A q v k w' :=
  ⟨below_on h.below hb h.below.size, h.res.below hb, h.cur.below hb, h.strs.below hb, h.len, h.nums⟩
theorem EvI.step {w0 w : World} {A k x : Nat} {q : List (List UInt8)} {v : List Nat} {s : List UInt8} (h : EvI w0 A q v k w) (hA : w0.heap.size + 2 ≤ A) (hk : k < 3) (hs : q.getD k [] = s) (hx : refNum s = some x) : EvI w0 A q (v.set k x) (k + 1) (w.setCell ⟨A, k, none⟩ (.int .u64 x)) :=
  ⟨h.below.setCell (by show _ ≤ A; omega) _, h.res.setOther _ _ (by show _ ≠ A; omega), (h.cur.set k _).congr (u64Cs_set v k x), h.strs.setOther _ _ (by show _ ≠ A; omega), by simp [h.len], fun j hj => by
    by_cases e : j = k
    · subst e
      rw [hs, hx]
      simp [h.len, hk]
    · rw [h.nums j (by omega)]
      simp [List.getElem?_set_ne (Ne.symm e)]⟩
set_option maxRecDepth 100000 in
set_option maxHeartbeats 8000000 in
theorem event_any (l : List UInt8) (w : World) (hs : l.length < 4294967281) (hp : Pow10 w) (hm : MaxLenAt w) (he : ErrAt w) (hg1 : 1 < w.heap.size) (hg2 : 0 < w.heap.size) (hg3 : 2 < w.heap.size ∧ 3 < w.heap.size) :
    Calls Tryd.prog 21 #[.string (tx l)] w fun x w' => EvPost l x ∧ Below w.heap.size w w' := by
  have HS := Lib.hid hs
  have HP := Lib.hid hp
  have HM := Lib.hid hm
  have HE := Lib.hid he
  have HG1 := Lib.hid hg1
  have HG2 := Lib.hid hg2
  have HG3 := Lib.hid hg3
  clear hs hp hm he hg1 hg2 hg3
  have b0 : Below w.heap.size w (w.alloc (.cells #[.int .u64 0, .int .u64 0, .int .u64 0, .int .u8 0] 26)) := (Below.refl _ _).alloc (Nat.le_refl _) _
  have B0 := Lib.hid b0
  have r0 := Blk.new w #[.int .u64 0, .int .u64 0, .int .u64 0, .int .u8 0] 26
  have hs0 : (w.alloc (.cells #[.int .u64 0, .int .u64 0, .int .u64 0, .int .u8 0] 26)).heap.size = w.heap.size + 1 := by simp
  have hpl : (pcs 32 l).length ≤ l.length + 1 := by
    have : ∀ (l acc : List UInt8), (pcsA 32 acc l).length ≤ l.length + 1 := by
      intro l
      induction l with
      | nil => intro acc; simp [pcsA]
      | cons x l ih =>
        intro acc
        rw [pcsA]
        split
        · have := ih []; simp; omega
        · have := ih (acc ++ [x]); simp; omega
    exact this l []
  go_enter Tryd.func21, Tryd.ntmps21
  go_wp2_with (fail)
  obtain ⟨w0, hw0⟩ : ∃ w0, w.alloc (.cells #[.int .u64 0, .int .u64 0, .int .u64 0, .int .u8 0] 26) = w0 := ⟨_, rfl⟩
  rw [hw0] at b0 B0 r0 hs0 ⊢
  have HS0 := Lib.hid hs0
  have R0 := Lib.hid r0
  clear b0 hw0 hs0 r0
  refine (split_any l 32 w0 HS.out (HM.out.below HG2.out B0.out)).mono ?_
  rintro e w1 ⟨rfl, rfl⟩
  obtain ⟨n, hn⟩ : ∃ n, (pcs 32 l).length = n := ⟨_, rfl⟩
  rw [hn] at hpl ⊢
  by_cases h4 : n = 4
  · subst h4
    obtain ⟨p0, p1, p2, p3, hpp⟩ : ∃ p0 p1 p2 p3, pcs 32 l = [p0, p1, p2, p3] := by
      match hq : pcs 32 l, hn with
      | [a, b, c, d], _ => exact ⟨a, b, c, d, rfl⟩
    rw [hpp]
    simp only [List.map_cons, List.map_nil]
    have r1 := R0.out.alloc (.cells #[.string (tx p0), .string (tx p1), .string (tx p2), .string (tx p3)] 9)
    have hb1 : Below w.heap.size w (w0.alloc (.cells #[.string (tx p0), .string (tx p1), .string (tx p2), .string (tx p3)] 9)) := B0.out.alloc B0.out.size _
    have s1 := Blk.new w0 #[.string (tx p0), .string (tx p1), .string (tx p2), .string (tx p3)] 9
    have hs1 : (w0.alloc (.cells #[.string (tx p0), .string (tx p1), .string (tx p2), .string (tx p3)] 9)).heap.size = w.heap.size + 2 := by simp [HS0.out]
    obtain ⟨w1, hw1⟩ : ∃ w1, w0.alloc (.cells #[.string (tx p0), .string (tx p1), .string (tx p2), .string (tx p3)] 9) = w1 := ⟨_, rfl⟩
    rw [HS0.out] at s1 ⊢
    rw [hw1] at r1 hb1 s1 hs1 ⊢
    clear hw1
    have q0 := s1.cell 0 _ rfl
    have q1 := s1.cell 1 _ rfl
    have q2 := s1.cell 2 _ rfl
    have q3 := s1.cell 3 _ rfl
    have HPP := Lib.hid hpp
    have HB1 := Lib.hid hb1
    have HS1 := Lib.hid hs1
    have R1 := Lib.hid r1
    have S1 := Lib.hid s1
    clear hpp hb1 hs1 r1 s1 hn
    by_cases h45 : p1 = [45]
    · subst h45
      have hno : evO l = none := by
        unfold evO
        rw [if_neg (by rw [HPP.out]; rintro ⟨_, h⟩; exact h rfl)]
      have HNO := Lib.hid hno
      clear hno
      go_wp2_with (with_reducible refine stop_storee ?_)
      refine Stop.out ?_
      refine wpList_storee rfl rfl (cs := #[.int .u64 0, .int .u64 0, .int .u64 0, .int .u8 0]) rfl rfl (by simp [Value.oneCell']) rfl rfl R1.out event_size ?_
      intro w2 hb2 on2
      have b2 : Below w.heap.size w w2 := below_onto HB1.out on2 HB1.out.size (by intro z hz h9; omega)
      have H2 := Lib.hid hb2
      have B2 := Lib.hid b2
      clear hb2 on2 b2
      go_wp2_with (fail)
      refine bodyPost_ret (results_e rfl _ _ rfl rfl (ret_e _ _ _ rfl H2.out)) rfl ?_
      exact ⟨⟨0, 0, 0, 0, false, rfl, fun h => (by cases h), fun _ => HNO.out⟩, B2.out⟩
    · have hq : (p1 == [45]) = false := by simpa using h45
      have H45 := Lib.hid h45
      clear h45
      go_wp2_with (fail)
      refine rg_start 6 ?_
      refine rg_below fun p hx hne hC hbel => ?_
      have k0 : ∀ z : Wd p, z.w.cell? ⟨w.heap.size + 1, 1, none⟩ = some (.string (tx p1)) := fun z => (hx z _ _ _ (by show _ < w1.heap.size; rw [HS1.out]; omega)).trans (by rw [World.cell?_drew]; exact q1)
      clear hx
      refine rg_quiet 3 [1,2,3] hC ?_
      simp only [pickD, List.map_cons, List.map_nil, List.getD_cons_zero, List.getD_cons_succ]; repeat (go_big_quiet_step (fail))
      refine wpQuiet_nil ?_
      refine rg_act 0 ?_
      go_wp2_with (fail)
      have HB1d := Lib.hid HB1.out.drew
      refine (split_any wordsL 32 _ (by decide) (HM.out.below HG2.out HB1d.out)).mono ?_
      rintro e w3 ⟨rfl, rfl⟩
      rw [words_pcs, show kw.length = 11 from rfl]
      have hlit : ((kw.map fun p => Value.string (tx p)).toArray) = strCs kw := rfl
      rw [hlit]
      have n3 := Blk.new w1.drew (strCs kw) 9
      have b3 : Below w1.drew.heap.size w1.drew (w1.drew.alloc (.cells (strCs kw) 9)) := (Below.refl _ _).alloc (Nat.le_refl _) _
      have N3 := Lib.hid n3
      have B3 := Lib.hid b3
      obtain ⟨w3, hw3⟩ : ∃ w3, w1.drew.alloc (.cells (strCs kw) 9) = w3 := ⟨_, rfl⟩
      rw [hw3] at N3 B3 ⊢
      clear n3 b3 hlit hw3
      go_wp2_with (fail)
      have hC3 := hbel _ B3.out
      refine ⟨hC3, ?_⟩
      refine rg_cut 4 ?_
      go_wp2_with (fail)
      refine (index_any _ 11 11 _ p1 rfl N3.out H45.out).mono ?_
      rintro e w4 ⟨rfl, rfl⟩
      obtain ⟨kz, hkz⟩ : ∃ z : Int, (if kindN p1 = 0 then -1 else (kindN p1 : Int)) = z := ⟨_, rfl⟩
      rw [hkz]
      have HKZ := Lib.hid hkz
      have hkb : kz ≤ 10 ∧ -1 ≤ kz := by have := kindN_le p1; rw [← hkz]; split <;> omega
      clear hkz
      go_wp2_with (fail)
      refine rg_below fun p hx hne hC hbel => ?_
      refine rg_quiet 0 [5] hC ?_
      simp only [pickD, List.map_cons, List.map_nil, List.getD_cons_zero, List.getD_cons_succ]; repeat (go_big_quiet_step (fail))
      refine wpQuiet_nil ?_
      refine rg_end ?_
      clear hx hbel hC hne p
      have B4 := Lib.hid (below_on HB1d.out B3.out HB1d.out.size)
      have R4 := Lib.hid (R1.out.drew.below B3.out)
      have S4 := Lib.hid (S1.out.drew.below B3.out)
      have hs4 : w.heap.size + 2 ≤ w4.heap.size := by have : w1.heap.size ≤ w4.heap.size := B3.out.size; rw [HS1.out] at this; exact this
      clear k0 q0 q1 q2 q3 hq
      clear hC3 HB1d HB1 R1 S1 B3 N3 HS1
      have HS4 := Lib.hid hs4
      clear hs4
      go_wp2_with (fail)
      have l0 : (u64Cs [0, 0, 0]) = #[.int .u64 0, .int .u64 0, .int .u64 0] := rfl
      rw [← l0]
      have c5 := Blk.new w4 (u64Cs [0, 0, 0]) 129
      have b5 : Below w4.heap.size w4 (w4.alloc (.cells (u64Cs [0, 0, 0]) 129)) := (Below.refl _ _).alloc (Nat.le_refl _) _
      have s5 : (w4.alloc (.cells (u64Cs [0, 0, 0]) 129)).heap.size = w4.heap.size + 1 := by simp
      obtain ⟨w5, hw5⟩ : ∃ w5, w4.alloc (.cells (u64Cs [0, 0, 0]) 129) = w5 := ⟨_, rfl⟩
      rw [hw5] at c5 b5 s5 ⊢
      have C5 := Lib.hid c5
      have B5 := Lib.hid (below_on B4.out b5 B4.out.size)
      have R5 := Lib.hid (R4.out.below b5)
      have S5 := Lib.hid (S4.out.below b5)
      have SS5 := Lib.hid s5
      clear c5 b5 s5 hw5 l0 B4 R4 S4
      go_wp2_with (fail)
      refine rg_start 12 ?_
      refine rg_below fun p hx hne hC hbel => ?_
      have k0 : ∀ z : Wd p, z.w.cell? ⟨w.heap.size + 1, 0, none⟩ = some (.string (tx p0)) := fun z => (hx z _ _ _ (by show _ < w5.heap.size; have := SS5.out; have := HS4.out; omega)).trans (by rw [World.cell?_drew]; exact S5.out.cell 0 _ rfl)
      have k1 : ∀ z : Wd p, z.w.cell? ⟨w.heap.size + 1, 2, none⟩ = some (.string (tx p2)) := fun z => (hx z _ _ _ (by show _ < w5.heap.size; have := SS5.out; have := HS4.out; omega)).trans (by rw [World.cell?_drew]; exact S5.out.cell 2 _ rfl)
      have k2 : ∀ z : Wd p, z.w.cell? ⟨w.heap.size + 1, 3, none⟩ = some (.string (tx p3)) := fun z => (hx z _ _ _ (by show _ < w5.heap.size; have := SS5.out; have := HS4.out; omega)).trans (by rw [World.cell?_drew]; exact S5.out.cell 3 _ rfl)
      clear hx
      refine rg_quiet 2 [0,1,2,3,4,5,6,7,8,11] hC ?_
      simp only [pickD, List.map_cons, List.map_nil, List.getD_cons_zero, List.getD_cons_succ]; repeat (go_big_quiet_step (fail))
      refine wpQuiet_nil ?_
      refine rg_act 9 ?_
      go_wp2_with (fail)
      have b6 : Below w5.drew.heap.size w5.drew (w5.drew.alloc (.cells (strCs (qOf [p0, p1, p2, p3])) 9)) := (Below.refl _ _).alloc (Nat.le_refl _) _
      have hlit : strCs (qOf [p0, p1, p2, p3]) = #[.string (tx p0), .string (tx p2), .string (tx p3)] := rfl
      have n6 := Blk.new w5.drew (strCs (qOf [p0, p1, p2, p3])) 9
      rw [hlit] at b6
      refine ⟨hbel _ b6, ?_⟩
      refine rg_quiet 0 [10] (hbel _ b6) ?_
      simp only [pickD, List.map_cons, List.map_nil, List.getD_cons_zero, List.getD_cons_succ]; repeat (go_big_quiet_step (fail))
      refine wpQuiet_nil ?_
      refine rg_end ?_
      rw [← hlit] at b6 ⊢
      have s6 : (w5.drew.alloc (.cells (strCs (qOf [p0, p1, p2, p3])) 9)).heap.size = w4.heap.size + 2 := by simp; have := SS5.out; omega
      have e5 : w5.drew.heap.size = w4.heap.size + 1 := SS5.out
      have e6 : w5.heap.size = w4.heap.size + 1 := SS5.out
      rw [e5] at n6
      rw [e6]
      have hst : EvI w w4.heap.size (qOf [p0, p1, p2, p3]) [0, 0, 0] 0 (w5.alloc (.cells (strCs (qOf [p0, p1, p2, p3])) 9)).drew :=
        ⟨below_on B5.out.drew b6 (Nat.le_of_lt_succ (by show _ < w5.heap.size + 1; have := SS5.out; have := HS4.out; omega)), R5.out.drew.below b6, C5.out.drew.below b6, n6, rfl, fun j hj => absurd hj (Nat.not_lt_zero _)⟩
      clear hbel hC hne p k0 k1 k2 b6 hlit n6 e5 e6 s6
      obtain ⟨w6, hw6⟩ : ∃ w6, (w5.alloc (.cells (strCs (qOf [p0, p1, p2, p3])) 9)).drew = w6 := ⟨_, rfl⟩
      rw [hw6] at hst ⊢
      have HST := Lib.hid hst
      clear hst hw6 C5 B5 R5 S5 SS5
      obtain ⟨A, hA⟩ : ∃ A, w4.heap.size = A := ⟨_, rfl⟩
      rw [hA] at HST ⊢
      have hwA : w.heap.size + 2 ≤ A := by rw [← hA]; exact HS4.out
      have HWA := Lib.hid hwA
      clear hA HS4 hwA
      have hql : ∀ j, ((qOf [p0, p1, p2, p3]).getD j []).length ≤ l.length := by
        have hm : ∀ x ∈ [p0, p1, p2, p3], x.length ≤ l.length := fun x hx => by
          have := pcs_len 32 l [] x (by rw [show pcsA 32 [] l = pcs 32 l from rfl, HPP.out]; exact hx)
          simpa using this
        intro j
        match j with
        | 0 => exact hm p0 (by simp)
        | 1 => exact hm p2 (by simp)
        | 2 => exact hm p3 (by simp)
        | j + 3 => simp [qOf]
      have HQL := Lib.hid hql
      clear hql
      obtain ⟨q, hq⟩ : ∃ q, qOf [p0, p1, p2, p3] = q := ⟨_, rfl⟩
      have hqs : q.length = 3 := by rw [← hq]; rfl
      have hbad : ∀ k, k < 3 → ∀ s, q.getD k [] = s → refNum s = none → evO l = none := fun k hk s h1 h2 => evO_bad HPP.out hk (by rw [hq]; exact h1) h2
      have hgood : ∀ v : List Nat, (∀ j, j < 3 → refNum (q.getD j []) = some (v.getD j 0)) → evO l = if kindN p1 = 0 then none else some ⟨v.getD 0 0, v.getD 1 0, v.getD 2 0, kindN p1⟩ := fun v h => evO_good HPP.out (by rw [hq]; exact h)
      rw [hq] at HST HQL
      have HBAD := Lib.hid hbad
      have HGOOD := Lib.hid hgood
      have HQS := Lib.hid hqs
      clear hq hqs hbad hgood HPP
      go_wp2_with (fail)
      go_loopw [7, 8, 9, 10, 39] (fun _ _ _ _ i wr => ∃ (k : Nat) (v : List Nat), i = .int .i64 k ∧ k ≤ 3 ∧ Hid (EvI w A q v k wr)) (fun _ _ _ _ i _ => 3 - (intOf i).toNat)
      case atStart => exact ⟨0, [0, 0, 0], rfl, by omega, HST⟩
      case round =>
        obtain ⟨k, v, rfl, hk, hok⟩ := hrel
        by_cases hlt : k < 3
        · have hki : (k : Int) < 3 := by omega
          obtain ⟨s, hs⟩ : ∃ s, q.getD k [] = s := ⟨_, rfl⟩
          have hsl : s.length < 4294967281 := by have := HQL.out k; rw [hs] at this; have := HS.out; omega
          have cs : wr.cell? ⟨A + 1, k, none⟩ = some (.string (tx s)) := hok.out.strs.cell k _ (by rw [strCs_get _ _ (by rw [HQS.out]; omega), hs])
          have HSS := Lib.hid hs
          have HSL := Lib.hid hsl
          clear hs hsl
          have HE2 := Lib.hid (HE.out.below HG3.out hok.out.below)
          go_wp2_with (fail)
          by_cases hpn : ∃ u, Lib.parseUintB 64 s = .ok u
          · obtain ⟨u, hpu⟩ := hpn
            have hu : u ≤ 18446744073709551615 := ((parseB_iff s u).1 hpu).2.2.2
            refine (puint_ok s u wr HSL.out hpu).mono ?_
            rintro e w7 ⟨rfl, hb7⟩
            have K7 := Lib.hid (hok.out.on hb7)
            have HPU := Lib.hid hpu
            clear hb7 hpu cs
            go_wp2_with (fail)
            refine (num_any u _ hu (HP.out.below HG1.out K7.out.below)).mono ?_
            rintro e w8 ⟨rfl, hb8⟩
            have K8 := Lib.hid (K7.out.on hb8)
            clear hb8
            obtain ⟨x, hx⟩ : ∃ x, dig u = x := ⟨_, rfl⟩
            rw [hx]
            by_cases hxs : x = s
            · have hrn : refNum s = some u := (num_iff s u).2 ⟨HPU.out, by rw [hx]; exact hxs⟩
              have hq1 : (x == s) = true := by simpa using hxs
              have hq2 : (s == x) = true := by simpa using hxs.symm
              have HRN := Lib.hid hrn
              clear hx hxs hrn
              have hf8 := K8.out.cur.free k
              have cf8 := K8.out.cur.cell k _ (u64Cs_get (by rw [K8.out.len]; exact hlt))
              go_wp2_with (fail)
              exact ⟨⟨k + 1, v.set k u, by go_num, by omega, Lib.hid (K8.out.step HWA.out hlt HSS.out HRN.out)⟩, by simp [intOf]; omega⟩
            · have hno : evO l = none := HBAD.out k hlt s HSS.out (by
                cases h : refNum s with
                | none => rfl
                | some n =>
                  exfalso
                  have h2 := (num_iff s n).1 h
                  have h3 := HPU.out
                  rw [h2.1] at h3
                  cases h3
                  exact hxs (by rw [← hx]; exact h2.2))
              have hq1 : (x == s) = false := by simpa using hxs
              have hq2 : (s == x) = false := by simpa using fun h => hxs h.symm
              have HNO := Lib.hid hno
              clear hx hxs hno
              go_wp2_with (with_reducible refine stop_storee ?_)
              refine Stop.out ?_
              refine wpList_storee rfl rfl (cs := #[.int .u64 0, .int .u64 0, .int .u64 0, .int .u8 0]) rfl rfl (by simp [Value.oneCell']) rfl rfl K8.out.res event_size ?_
              intro w2 hb2 on2
              have b2 : Below w.heap.size w w2 := below_onto K8.out.below on2 K8.out.below.size (by intro z hz h9; omega)
              have H2 := Lib.hid hb2
              have B2 := Lib.hid b2
              clear hb2 on2 b2
              go_wp2_with (fail)
              refine bodyPost_ret (results_e rfl _ _ rfl rfl (ret_e _ _ _ rfl H2.out)) rfl ?_
              exact ⟨⟨0, 0, 0, 0, false, rfl, fun h => (by cases h), fun _ => HNO.out⟩, B2.out⟩
          · have hno : evO l = none := HBAD.out k hlt s HSS.out (by
              cases h : refNum s with
              | none => rfl
              | some n => exact absurd ⟨n, ((num_iff s n).1 h).1⟩ hpn)
            have HNO := Lib.hid hno
            clear hno
            refine (puint_no s wr HSL.out HE2.out (fun u hu => hpn ⟨u, hu⟩)).mono ?_
            rintro e w7 ⟨n7, p7, t7, rfl, hb7⟩
            have K7 := Lib.hid (hok.out.on hb7)
            clear hb7 cs hpn
            go_wp2_with (with_reducible refine stop_storee ?_)
            refine Stop.out ?_
            refine wpList_storee rfl rfl (cs := #[.int .u64 0, .int .u64 0, .int .u64 0, .int .u8 0]) rfl rfl (by simp [Value.oneCell']) rfl rfl K7.out.res event_size ?_
            intro w2 hb2 on2
            have b2 : Below w.heap.size w w2 := below_onto K7.out.below on2 K7.out.below.size (by intro z hz h9; omega)
            have H2 := Lib.hid hb2
            have B2 := Lib.hid b2
            clear hb2 on2 b2
            go_wp2_with (fail)
            refine bodyPost_ret (results_e rfl _ _ rfl rfl (ret_e _ _ _ rfl H2.out)) rfl ?_
            exact ⟨⟨0, 0, 0, 0, false, rfl, fun h => (by cases h), fun _ => HNO.out⟩, B2.out⟩
        · obtain rfl : k = 3 := by omega
          have hge := HGOOD.out v hok.out.nums
          have c0 := hok.out.cur.cell 0 _ (u64Cs_get (by rw [hok.out.len]; omega))
          have c1 := hok.out.cur.cell 1 _ (u64Cs_get (by rw [hok.out.len]; omega))
          have c2 := hok.out.cur.cell 2 _ (u64Cs_get (by rw [hok.out.len]; omega))
          obtain ⟨v0, hv0⟩ : ∃ x, v.getD 0 0 = x := ⟨_, rfl⟩
          obtain ⟨v1, hv1⟩ : ∃ x, v.getD 1 0 = x := ⟨_, rfl⟩
          obtain ⟨v2, hv2⟩ : ∃ x, v.getD 2 0 = x := ⟨_, rfl⟩
          rw [hv0, hv1, hv2] at hge
          rw [hv0] at c0
          rw [hv1] at c1
          rw [hv2] at c2
          clear hv0 hv1 hv2
          obtain ⟨kk, hkk⟩ : ∃ k, kindN p1 = k := ⟨_, rfl⟩
          have hkl := kindN_le p1
          have HKZ2 := HKZ.out
          rw [hkk] at hge hkl HKZ2
          clear hkk
          by_cases hk0 : kk = 0
          · rw [if_pos hk0] at hge HKZ2
            subst hk0
            subst HKZ2
            have HGE := Lib.hid hge
            clear hge
            go_wp2_with (with_reducible refine stop_storee ?_)
            refine Stop.out ?_
            refine wpList_storee rfl rfl (cs := #[.int .u64 v0, .int .u64 v1, .int .u64 v2, .int .u8 0]) rfl rfl (by simp [Value.oneCell']) rfl rfl hok.out.res event_size ?_
            intro w9 hb9 on9
            have b9 : Below w.heap.size w w9 := below_onto hok.out.below on9 hok.out.below.size (by intro z hz h9; omega)
            have H9 := Lib.hid hb9
            have B9 := Lib.hid b9
            clear hb9 on9 b9
            go_wp2_with (fail)
            refine bodyPost_ret (results_e rfl _ _ rfl rfl (ret_e _ _ _ rfl H9.out)) rfl ?_
            exact ⟨⟨v0, v1, v2, 0, false, rfl, fun h => (by cases h), fun _ => HGE.out⟩, B9.out⟩
          · rw [if_neg hk0] at hge HKZ2
            subst HKZ2
            have hkp : ((kk : Int) > 0) := by omega
            have hmx : max (kk : Int) 0 = (kk : Int) := by omega
            have hk256 : (kk : Int) < 256 := by omega
            have HGE := Lib.hid hge
            clear hge
            go_wp2_with (with_reducible refine stop_storee ?_)
            refine Stop.out ?_
            refine wpList_storee rfl rfl (cs := #[.int .u64 v0, .int .u64 v1, .int .u64 v2, .int .u8 kk]) rfl rfl (by simp [Value.oneCell']) rfl rfl hok.out.res event_size ?_
            intro w9 hb9 on9
            have b9 : Below w.heap.size w w9 := below_onto hok.out.below on9 hok.out.below.size (by intro z hz h9; omega)
            have H9 := Lib.hid hb9
            have B9 := Lib.hid b9
            clear hb9 on9 b9
            go_wp2_with (fail)
            refine bodyPost_ret (results_e rfl _ _ rfl rfl (ret_e _ _ _ rfl H9.out)) rfl ?_
            exact ⟨⟨v0, v1, v2, kk, decide (0 < kk), rfl, fun _ => HGE.out, fun h => absurd (of_decide_eq_false h) (by omega)⟩, B9.out⟩
  · obtain ⟨arr, harr⟩ : ∃ arr, (List.map (fun p => Value.string (tx p)) (pcs 32 l)).toArray = arr := ⟨_, rfl⟩
    rw [harr]
    have hno : evO l = none := by unfold evO; rw [hn, if_neg (fun h => h4 h.1)]
    have HNO := Lib.hid hno
    have R1 := Lib.hid (R0.out.alloc (.cells arr 9))
    have B1 := Lib.hid (B0.out.alloc B0.out.size (.cells arr 9))
    have hn4 : ¬ (n : Int) = 4 := by omega
    clear hno harr hn
    go_wp2_with (with_reducible refine stop_storee ?_)
    refine Stop.out ?_
    refine wpList_storee rfl rfl (cs := #[.int .u64 0, .int .u64 0, .int .u64 0, .int .u8 0]) rfl rfl (by simp [Value.oneCell']) rfl rfl R1.out event_size ?_
    intro w2 hb2 on2
    have b2 : Below w.heap.size w w2 := below_onto B1.out on2 B1.out.size (by intro z hz h9; omega)
    have H2 := Lib.hid hb2
    have B2 := Lib.hid b2
    clear hb2 on2 b2
    go_wp2_with (fail)
    refine bodyPost_ret (results_e rfl _ _ rfl rfl (ret_e _ _ _ rfl H2.out)) rfl ?_
    exact ⟨⟨0, 0, 0, 0, false, rfl, fun h => (by cases h), fun _ => HNO.out⟩, B2.out⟩
end Go.Proofs.YtfaopoaephlenaaDoor
