import Derived.Test.YtcpjehgoeibbeaaFrPl
import Derived.Test.YtcpjehgoeibbeaaFrV
import Derived.Test.YtcpjehgoeibbeaaSpM
import Derived.Test.YtcpjehgoeibbeaaQuie
import Derived.Test.YtcpjehgoeibbeaaTok
import Derived.Test.YtcpjehgoeibbeaaLoad
import Derived.Recover
import Derived.Laws.CopyRow
import Derived.Shelf.Bytes.SlJoin
/- Frames in memory; the small calls. -/
namespace Go.Proofs.Ytcpjehgoeibbeaa
open Go.RowKit
set_option linter.unusedVariables false
namespace Frm
open Var

/-- How a call ends where there is nothing right. -/
def failE : Ending := .panicked [{ v := .iface 77 (.agg #[]), recovered := false }]
theorem must_true (w : World) : Calls Try.prog 24 #[.bool true] w fun e w' => e = .returned (.tuple #[]) ∧ w = w' := by
  go_enter Try.func24, Try.ntmps24
  go_wp2_with (fail)
  go_end0
  exact ⟨rfl, rfl⟩
theorem must_false (w : World) : Calls Try.prog 24 #[.bool false] w fun e w' => e = failE ∧ w = w' := by
  go_enter Try.func24, Try.ntmps24
  go_wp2_with (fail)
  exact ⟨rfl, rfl, rfl⟩
def stK (k : Int) : Bool := decide (k = 18) || decide (k = 19) || decide (k = 22) || decide (k = 23)
theorem streams_any (k : Int) (w : World) : Calls Try.prog 28 #[.int .u64 k] w fun e w' => e = .returned (.bool (stK k)) ∧ w = w' := by
  by_cases h1 : k = 18
  · subst h1
    go_enter Try.func28, Try.ntmps28
    go_wp2_with (fail)
    go_returns
    exact ⟨rfl, rfl⟩
  by_cases h2 : k = 19
  · subst h2
    go_enter Try.func28, Try.ntmps28
    go_wp2_with (fail)
    go_returns
    exact ⟨rfl, rfl⟩
  by_cases h3 : k = 22
  · subst h3
    go_enter Try.func28, Try.ntmps28
    go_wp2_with (fail)
    go_returns
    exact ⟨rfl, rfl⟩
  · go_enter Try.func28, Try.ntmps28
    go_wp2_with (fail)
    go_returns
    exact ⟨rfl, rfl⟩

/-! ### Frames in memory -/
structure FM where
  f : Fr
  da : Option Addr
  dc : Nat
  ca : Option Addr
  cc : Nat
  aa : Option Addr
  ac : Nat
def FM.pre (p : FM) : List Value := [.int .u64 p.f.kind, .int .u64 p.f.id, .int .u64 p.f.off, .int .u64 p.f.max, .int .u64 p.f.code, .int .u64 p.f.n, .bool p.f.fin, .slice p.da p.f.data.length p.dc, .slice p.ca p.f.cid.length p.cc]
def FM.post (p : FM) : List Value := [.slice p.aa p.f.acks.length p.ac, .int .u64 p.f.delay, .int .u64 p.f.e0, .int .u64 p.f.e1, .int .u64 p.f.e2]
def FM.list (p : FM) : List Value := p.pre ++ (p.f.tok.map (Value.int .u8) ++ p.post)
def FM.vals (p : FM) : Array Value := p.list.toArray
structure FM.ok (p : FM) (w : World) : Prop where
  fr : FrOk p.f
  d : Sl .u8 w p.da p.dc p.f.data
  c : Sl .u8 w p.ca p.cc p.f.cid
  a : Rs w p.aa p.ac p.f.acks
theorem FM.ok.below {p : FM} {w w' : World} (h : p.ok w) (hb : Below w.heap.size w w') : p.ok w' := ⟨h.fr, h.d.below hb, h.c.below hb, h.a.below hb⟩
theorem FM.length (p : FM) (h : p.f.tok.length = 16) : p.list.length = 30 := by simp [FM.list, FM.pre, FM.post, h]
theorem FM.size (p : FM) (h : p.f.tok.length = 16) : p.vals.size = 30 := by simp [FM.vals, p.length h]
theorem FM.one (p : FM) : ∀ u ∈ p.list, u.oneCell' = true := by
  intro u hu
  simp only [FM.list, FM.pre, FM.post, List.mem_append, List.mem_cons, List.not_mem_nil, or_false, List.mem_map] at hu
  rcases hu with (rfl | rfl | rfl | rfl | rfl | rfl | rfl | rfl | rfl) | ⟨x, _, rfl⟩ | (rfl | rfl | rfl | rfl | rfl) <;> rfl
theorem FM.at_post (p : FM) (h : p.f.tok.length = 16) (i : Nat) : p.list[25 + i]? = p.post[i]? := by
  unfold FM.list
  rw [List.getElem?_append_right (by simp [FM.pre]; omega), List.getElem?_append_right (by simp [FM.pre, h]; omega)]
  congr 1
  simp [FM.pre, h]; omega
theorem FM.at_tok (p : FM) (h : p.f.tok.length = 16) (i : Nat) (hi : i < 16) : p.list[9 + i]? = some (.int .u8 (p.f.tok.getD i 0)) := by
  unfold FM.list
  rw [List.getElem?_append_right (by simp [FM.pre]), List.getElem?_append_left (by simp [FM.pre, h]; omega)]
  simp [FM.pre, List.getD_eq_getElem?_getD, h, hi]
theorem FM.set_post (p : FM) (h : p.f.tok.length = 16) (i : Nat) (v : Value) : p.list.set (25 + i) v = p.pre ++ (p.f.tok.map (Value.int .u8) ++ p.post.set i v) := by
  unfold FM.list
  rw [List.set_append_right _ _ (by simp [FM.pre]; omega), List.set_append_right _ _ (by simp [FM.pre, h]; omega)]
  congr 3
  simp [FM.pre, h]; omega
/-- A block that is a frame. -/
def FB (w : World) (b : Nat) (p : FM) : Prop := Blk w b p.vals 36
structure FC (w : World) (b : Nat) (p : FM) : Prop where
  c0 : w.cell? ⟨b, 0, none⟩ = some (.int .u64 p.f.kind)
  c1 : w.cell? ⟨b, 1, none⟩ = some (.int .u64 p.f.id)
  c2 : w.cell? ⟨b, 2, none⟩ = some (.int .u64 p.f.off)
  c3 : w.cell? ⟨b, 3, none⟩ = some (.int .u64 p.f.max)
  c4 : w.cell? ⟨b, 4, none⟩ = some (.int .u64 p.f.code)
  c5 : w.cell? ⟨b, 5, none⟩ = some (.int .u64 p.f.n)
  c6 : w.cell? ⟨b, 6, none⟩ = some (.bool p.f.fin)
  c7 : w.cell? ⟨b, 7, none⟩ = some (.slice p.da p.f.data.length p.dc)
  c8 : w.cell? ⟨b, 8, none⟩ = some (.slice p.ca p.f.cid.length p.cc)
  c25 : w.cell? ⟨b, 25, none⟩ = some (.slice p.aa p.f.acks.length p.ac)
  c26 : w.cell? ⟨b, 26, none⟩ = some (.int .u64 p.f.delay)
  c27 : w.cell? ⟨b, 27, none⟩ = some (.int .u64 p.f.e0)
  c28 : w.cell? ⟨b, 28, none⟩ = some (.int .u64 p.f.e1)
  c29 : w.cell? ⟨b, 29, none⟩ = some (.int .u64 p.f.e2)
  free : ∀ i, w.frozen? ⟨b, i, none⟩ = false
  lt : b < w.heap.size
theorem FB.fc {w : World} {b : Nat} {p : FM} (h : FB w b p) (h16 : p.f.tok.length = 16) : FC w b p := by
  have hp : ∀ i v, p.post[i]? = some v → w.cell? ⟨b, 25 + i, none⟩ = some v := fun i v hv => Blk.cell h (25 + i) v (by rw [FM.vals, List.getElem?_toArray, p.at_post h16]; exact hv)
  exact ⟨Blk.cell h 0 _ rfl, Blk.cell h 1 _ rfl, Blk.cell h 2 _ rfl, Blk.cell h 3 _ rfl, Blk.cell h 4 _ rfl, Blk.cell h 5 _ rfl, Blk.cell h 6 _ rfl, Blk.cell h 7 _ rfl, Blk.cell h 8 _ rfl,
    hp 0 _ rfl, hp 1 _ rfl, hp 2 _ rfl, hp 3 _ rfl, hp 4 _ rfl, fun i => Blk.free h i, Blk.lt h⟩
theorem FB.below {w w' : World} {b : Nat} {p : FM} (h : FB w b p) (hb : Below w.heap.size w w') : FB w' b p := Blk.below h hb
theorem FB.only {S : Nat → Prop} {w w' : World} {b : Nat} {p : FM} (h : FB w b p) (hb : Only S w w') (hs : ¬ S b) : FB w' b p := hb.blk h hs
theorem fr_size : (Try.prog.info? 36).map (·.size) = some 30 := by kernel_rfl
theorem fr_et : ET Try.prog 22 36 30 176 := et_of (by kernel_rfl)
end Frm
end Go.Proofs.Ytcpjehgoeibbeaa

/- May ranges be an ACK's: the program's walk and the document's. -/
namespace Go.Proofs.Ytcpjehgoeibbeaa
open Go.RowKit
set_option linter.unusedVariables false
namespace Frm
open Var

def okG (L : List Rg) (i : Nat) : Prop := (L.getD i default).1 < (L.getD i default).2 ∧ (L.getD i default).2 ≤ 4611686018427387904 ∧ (0 < i → (L.getD (i - 1) default).2 < (L.getD i default).1)
theorem acksOkG_iff : ∀ (L : List Rg) (p : Option Int), acksOkG p L = true ↔ (∀ q, p = some q → ∀ r, L.head? = some r → q < r.1) ∧ ∀ i, i < L.length → okG L i
  | [], p => by simp [acksOkG]
  | (a, b) :: l, p => by
    have ih := acksOkG_iff l (some b)
    obtain ⟨t, ht, hp⟩ : ∃ t, acksOkG p ((a, b) :: l) = (decide (a < b) && decide (b ≤ M62 + 1) && t && acksOkG (some b) l) ∧ (t = true ↔ ∀ q, p = some q → q < a) := by
      cases p with
      | none => exact ⟨true, rfl, by simp⟩
      | some q => exact ⟨decide (q < a), rfl, by simp⟩
    rw [ht, Bool.and_eq_true, Bool.and_eq_true, Bool.and_eq_true, ih, hp]
    simp only [decide_eq_true_eq, List.head?_cons, Option.some.injEq]
    rw [show M62 + 1 = 4611686018427387904 from rfl]
    constructor
    · rintro ⟨⟨⟨h1, h2⟩, h3⟩, h4, h5⟩
      refine ⟨fun q hq r hr => by subst hr; exact h3 q hq, fun i hi => ?_⟩
      rcases Nat.eq_zero_or_pos i with rfl | h0
      · exact ⟨h1, h2, fun h => by omega⟩
      · obtain ⟨m, rfl⟩ : ∃ m, i = m + 1 := ⟨i - 1, by omega⟩
        have := h5 m (by simpa using hi)
        refine ⟨by simpa using this.1, by simpa using this.2.1, fun _ => ?_⟩
        rcases Nat.eq_zero_or_pos m with rfl | h1
        · cases l with
          | nil => simp at hi
          | cons r l => simpa using h4 b rfl r rfl
        · obtain ⟨m', rfl⟩ : ∃ m', m = m' + 1 := ⟨m - 1, by omega⟩
          simpa using this.2.2 (by omega)
    · rintro ⟨h1, h2⟩
      have h0 := h2 0 (by simp)
      refine ⟨⟨⟨by simpa [okG] using h0.1, by simpa using h0.2.1⟩, fun q hq => h1 q hq _ rfl⟩, fun q hq r hr => ?_, fun i hi => ?_⟩
      · cases hq
        cases l with
        | nil => simp at hr
        | cons s l =>
          cases hr
          simpa using (h2 1 (by simp)).2.2 (by omega)
      · have := h2 (i + 1) (by simpa using hi)
        refine ⟨by simpa using this.1, by simpa using this.2.1, fun h => ?_⟩
        obtain ⟨m, rfl⟩ : ∃ m, i = m + 1 := ⟨i - 1, by omega⟩
        simpa using this.2.2 (by omega)
theorem acksOk_iff (L : List Rg) : acksOk L = true ↔ 0 < L.length ∧ ∀ i, i < L.length → okG L i := by
  unfold acksOk
  rw [Bool.and_eq_true, acksOkG_iff]
  simp [and_comm]
theorem acksOk_bad {L : List Rg} {k : Nat} (hk : k < L.length) (h : ¬ okG L k) : acksOk L = false := by
  rw [Bool.eq_false_iff]; intro h2; exact h ((acksOk_iff L).1 h2 |>.2 k hk)

set_option maxHeartbeats 1000000 in
theorem acks_any (a : Option Addr) (cap : Nat) (L : List Rg) (w : World) (hR : Rs w a cap L) :
    Calls Try.prog 27 #[.slice a L.length cap] w fun e w' => e = .returned (.bool (acksOk L)) ∧ Below w.heap.size w w' := by
  have hlen := hR.len
  unfold maxLen at hlen
  have hb := hR.bnd
  have HR := Lib.hid hR
  have HN := Lib.hid (acksOk_iff L)
  have HB := Lib.hid hb
  clear hR hb
  have HX : Hid (∀ k, k < L.length → ¬ okG L k → acksOk L = false) := Lib.hid (fun k h h2 => acksOk_bad h h2)
  generalize hv : acksOk L = v at *
  clear hv
  go_enter Try.func27, Try.ntmps27
  go_wp2_with (fail)
  go_loopw [3, 4, 7] (fun _ _ i wr => ∃ k : Nat, i = .int .i64 k ∧ k ≤ L.length ∧ Below w.heap.size w wr ∧ Hid (∀ j : Nat, j < k → okG L j)) (fun _ _ i _ => L.length - (intOf i).toNat)
  case atStart => exact ⟨0, rfl, by omega, Below.refl _ _, Lib.hid (fun j h => by omega)⟩
  case round =>
    obtain ⟨k, rfl, hk, bw, hok⟩ := hrel
    by_cases hlt : k < L.length
    · obtain ⟨b, off, ha, hb, c1, c2⟩ := (HR.out.below bw).at_ hlt
      subst ha
      have hbd := HB.out.getD hlt
      have hko : okG L k ↔ (L.getD k default).1 < (L.getD k default).2 ∧ (L.getD k default).2 ≤ 4611686018427387904 ∧ (0 < k → (L.getD (k - 1) default).2 < (L.getD k default).1) := Iff.rfl
      generalize (L.getD k default).1 = x at *
      generalize (L.getD k default).2 = y at *
      have HKO := Lib.hid hko
      clear hko
      by_cases h1 : x < y
      · have g1 : decide (y ≤ x) = false := by simp; omega
        by_cases h3 : y ≤ 4611686018427387904
        · have g3 : decide (4611686018427387904 < y) = false := by simp; omega
          rcases Nat.eq_zero_or_pos k with hk0 | hk0
          · have g2 : decide (0 < k) = false := by simp; omega
            have HK0 := Lib.hid hk0
            clear hk0
            go_wp2_with (fail)
            refine rg_start 25 ?_
            refine rg_same fun p hx hne hC => ?_
            refine rg_quiet 0 [0,1,2,3,4,5,6,7,8,9,10,11,12,13,14,15,16,17,18,19,20,21,22,23,24] hC ?_
            simp only [pickD, List.map_cons, List.map_nil, List.getD_cons_zero, List.getD_cons_succ]; repeat (go_big_quiet_step (fail))
            refine wpQuiet_nil ?_
            refine rg_end ?_
            go_wp2_with (fail)
            have hk0 := HK0.out
            refine ⟨⟨k + 1, by go_num, by omega, ?_, Lib.hid ?_⟩, by simp [intOf]; omega⟩
            · exact (bw.alloc bw.size _).drew
            · intro j hj
              rcases Nat.lt_or_ge j k with h | h
              · exact hok.out j h
              · obtain rfl : j = k := by omega
                exact HKO.out.2 ⟨h1, h3, fun h => by omega⟩
          · obtain ⟨m, rfl⟩ : ∃ m, k = m + 1 := ⟨k - 1, by omega⟩
            have g2 : decide (0 < m + 1) = true := by simp
            obtain ⟨b', off', ha', hb', c3, c4⟩ := (HR.out.below bw).at_ (i := m) (by omega)
            cases ha'
            have hbd' := HB.out.getD (i := m) (by omega)
            have hko : okG L (m + 1) ↔ x < y ∧ y ≤ 4611686018427387904 ∧ (L.getD m default).2 < x := HKO.out.trans (by simp)
            clear HKO
            have HKO := Lib.hid hko
            clear hko
            generalize (L.getD m default).1 = x' at *
            generalize (L.getD m default).2 = y' at *
            by_cases h2 : y' < x
            · go_wp2_with (fail)
              refine rg_start 25 ?_
              refine rg_same fun p hx hne hC => ?_
              refine rg_quiet 0 [0,1,2,3,4,5,6,7,8,9,10,11,12,13,14,15,16,17,18,19,20,21,22,23,24] hC ?_
              simp only [pickD, List.map_cons, List.map_nil, List.getD_cons_zero, List.getD_cons_succ]; repeat (go_big_quiet_step (fail))
              refine wpQuiet_nil ?_
              refine rg_end ?_
              go_wp2_with (fail)
              refine ⟨⟨m + 1 + 1, by go_num, by omega, ?_, Lib.hid ?_⟩, by simp [intOf]; omega⟩
              · exact (bw.alloc bw.size _).drew
              · intro j hj
                rcases Nat.lt_or_ge j (m + 1) with h | h
                · exact hok.out j h
                · obtain rfl : j = m + 1 := by omega
                  exact HKO.out.2 ⟨h1, h3, h2⟩
            · go_wp2_with (fail)
              refine rg_start 25 ?_
              refine rg_same fun p hx hne hC => ?_
              refine rg_quiet 0 [0,1,2,3,4,5,6,7,8,9,10,11,12,13,14,15,16,17,18,19,20,21,22,23,24] hC ?_
              simp only [pickD, List.map_cons, List.map_nil, List.getD_cons_zero, List.getD_cons_succ]; repeat (go_big_quiet_step (fail))
              refine wpQuiet_nil ?_
              refine rg_end ?_
              go_wp2_with (fail)
              go_returns
              refine ⟨?_, (bw.alloc bw.size _).drew⟩
              rw [HX.out _ hlt (fun h => by have := (HKO.out.1 h).2.2; omega)]; rfl
        · have g3 : decide (4611686018427387904 < y) = true := by simp; omega
          go_wp2_with (fail)
          refine rg_start 25 ?_
          refine rg_same fun p hx hne hC => ?_
          refine rg_quiet 0 [0,1,2,3,4,5,6,7,8,9,10,11,12,13,14,15,16,17,18,19,20,21,22,23,24] hC ?_
          simp only [pickD, List.map_cons, List.map_nil, List.getD_cons_zero, List.getD_cons_succ]; repeat (go_big_quiet_step (fail))
          refine wpQuiet_nil ?_
          refine rg_end ?_
          go_wp2_with (fail)
          go_returns
          refine ⟨?_, (bw.alloc bw.size _).drew⟩
          rw [HX.out _ hlt (fun h => by have := (HKO.out.1 h).2.1; omega)]; rfl
      · have g1 : decide (y ≤ x) = true := by simp; omega
        go_wp2_with (fail)
        refine rg_start 25 ?_
        refine rg_same fun p hx hne hC => ?_
        refine rg_quiet 0 [0,1,2,3,4,5,6,7,8,9,10,11,12,13,14,15,16,17,18,19,20,21,22,23,24] hC ?_
        simp only [pickD, List.map_cons, List.map_nil, List.getD_cons_zero, List.getD_cons_succ]; repeat (go_big_quiet_step (fail))
        refine wpQuiet_nil ?_
        refine rg_end ?_
        go_wp2_with (fail)
        go_returns
        refine ⟨?_, (bw.alloc bw.size _).drew⟩
        rw [HX.out _ hlt (fun h => by have := (HKO.out.1 h).1; omega)]; rfl
    · obtain rfl : k = L.length := by omega
      rcases Nat.eq_zero_or_pos L.length with h0 | h0
      · have hv : v = false := by
          cases hv : v with
          | false => rfl
          | true => have := (HN.out.1 hv).1; omega
        subst hv
        have g : decide (0 < L.length) = false := by simp only [decide_eq_false_iff_not]; omega
        have H0 := Lib.hid h0
        clear h0
        go_wp2_with (fail)
        go_returns
        exact ⟨rfl, bw⟩
      · have hv : v = true := HN.out.2 ⟨h0, hok.out⟩
        subst hv
        have g : decide (0 < L.length) = true := by simp; omega
        go_wp2_with (fail)
        go_returns
        exact ⟨rfl, bw⟩
end Frm
end Go.Proofs.Ytcpjehgoeibbeaa

/- Parts of a block stored and loaded; frames stored and loaded whole. -/
namespace Go.Proofs.Ytcpjehgoeibbeaa
open Go.RowKit
set_option linter.unusedVariables false
namespace Frm
open Var
section
variable {P : Program} {ops : Array Oper} {rest : List Oper} {o : Oper} {a : Act} {w : World} {Q : Exit → Act → World → Prop}
theorem run_loadPart {t : TypeId} {d : TypeDesc} {b q : Nat} {cs : List Value} (hu : P.underlying t = some d) (hd : (match d with | .struct _ | .array _ _ => true | _ => false) = true) (hi : (P.info? t).map (·.size) = some cs.length)
    (hc : ∀ j v, cs[j]? = some v → w.cell? ⟨b, q + j, none⟩ = some v) : (loadVar t ⟨b, q, none⟩).run P w = .ok (.agg cs.toArray) w := by
  have hl := run_loadCells_list (P := P) w ⟨b, q, none⟩ cs (fun j v hv => by rw [addr_add]; exact hc j v hv)
  cases hq : P.info? t with
  | none => simp [hq] at hi
  | some i =>
    have hs : i.size = cs.length := by simpa [hq] using hi
    have hagg : (isAgg t).run P w = .ok true w := by
      unfold isAgg
      rw [Sem.run_bind, run_underlying hu w]
      cases d <;> simp_all
    simp [loadVar, Sem.run_bind, hagg, sizeOf, typeInfo, hq, hs, hl]
theorem wpList_loadPart {t : TypeId} {d : TypeDesc} (cs : List Value) (hu : P.underlying t = some d) (hd : (match d with | .struct _ | .array _ _ => true | _ => false) = true) (hi : (P.info? t).map (·.size) = some cs.length)
    (hgd : Region.wanted o (yielded ops a.tmps) = true) {x : Operand} (ho : o.op = .load t x)
    {b q : Nat} (hx : a.eval x = .pointer (some ⟨b, q, none⟩)) (hc : ∀ j v, cs[j]? = some v → w.cell? ⟨b, q + j, none⟩ = some v)
    (h : wpList P ops Q rest (a.put o.dst (.agg cs.toArray)) w) : wpList P ops Q (o :: rest) a w := by
  refine BigFrame.wpList_want hgd fun K hK' => ?_
  unfold Oper.wp execOp
  simp only [ho, hx, Instr.loadAt, Instr.sureAddr, Sem.run_bind, Sem.run_pure, Result.andThen_ok, run_loadPart hu hd hi hc]
  exact hK' _ _ h
theorem wpQuiet_loadPart {C : World → Prop} {Q : Act → Prop} {t : TypeId} {d : TypeDesc} (cs : List Value) (hu : P.underlying t = some d) (hd : (match d with | .struct _ | .array _ _ => true | _ => false) = true) (hi : (P.info? t).map (·.size) = some cs.length)
    (hgd : Region.wanted o (yielded ops a.tmps) = true) {x : Operand} (ho : o.op = .load t x)
    {b q : Nat} (hx : a.eval x = .pointer (some ⟨b, q, none⟩)) (hc : ∀ w, C w → ∀ j v, cs[j]? = some v → w.cell? ⟨b, q + j, none⟩ = some v)
    (h : wpQuiet P ops C Q rest (a.put o.dst (.agg cs.toArray))) : wpQuiet P ops C Q (o :: rest) a :=
  wpQuiet_val hgd _ (fun w hw => by
    have hr := run_loadPart (P := P) hu hd hi (hc w hw)
    unfold execOp
    simp only [ho, hx, Instr.loadAt, Instr.sureAddr, Sem.run_bind, Sem.run_pure, Result.andThen_ok, hr]) h
theorem wpList_storePart (hgd : o.guard = none) {t : TypeId} {x y : Operand} (ho : o.op = .store t x y) {b q : Nat} {T : TypeId} (old cs : List Value) (hx : a.eval x = .pointer (some ⟨b, q, none⟩)) (hy : a.eval y = .agg cs.toArray)
    (hb : Blk w b old.toArray T) (hi : (P.info? t).map (·.size) = some cs.length) (hfit : q + cs.length ≤ old.length) (h1 : ∀ v ∈ cs, v.oneCell' = true)
    (h : ∀ w', Blk w' b (old.take q ++ cs ++ old.drop (q + cs.length)).toArray T → Only (· = b) w w' → wpList P ops Q rest (a.put o.dst undef) w') : wpList P ops Q (o :: rest) a w := by
  refine wpList_plain hgd fun K hK => ?_
  have hst := run_storeCells_at P b q T cs 0 old.toArray w hb (by simpa using hfit) h1
  cases hq : P.info? t with
  | none => simp [hq] at hi
  | some i =>
    have hs : cs.length = i.size := by simp [hq] at hi; omega
    have hr : (storeVar t ⟨b, q, none⟩ (.agg cs.toArray)).run P w = .ok () (w.setRow b (old.take q ++ cs ++ old.drop (q + cs.length)).toArray) := by
      simpa [storeVar, sizeOf, typeInfo, hq, Value.cells, hs] using hst
    unfold Oper.wp execOp
    simp only [ho, hx, hy, Instr.storeAt, Instr.sureAddr, Sem.run_bind, Sem.run_pure, Result.andThen_ok, hr]
    exact hK _ _ (h _ (setRow_heap w b _ _ _ _ hb) ⟨rfl, rfl, rfl, by simp [World.setRow], fun k hk hs => setRow_other _ _ _ _ hs⟩)
theorem stop_ldf {d : Option Tmp} {x : Operand} {ty : TypeId} {pos : String} {aft : Array Edge} {g : Option (Nat × Bool)}
    (h : Stop (wpList P ops Q (⟨d, .load 36 x, ty, pos, aft, g⟩ :: rest) a w)) : wpList P ops Q (⟨d, .load 36 x, ty, pos, aft, g⟩ :: rest) a w := h
theorem stop_stf {d : Option Tmp} {x y : Operand} {ty : TypeId} {pos : String} {aft : Array Edge} {g : Option (Nat × Bool)}
    (h : Stop (wpList P ops Q (⟨d, .store 36 x y, ty, pos, aft, g⟩ :: rest) a w)) : wpList P ops Q (⟨d, .store 36 x y, ty, pos, aft, g⟩ :: rest) a w := h
theorem stop_stt {d : Option Tmp} {x y : Operand} {ty : TypeId} {pos : String} {aft : Array Edge} {g : Option (Nat × Bool)}
    (h : Stop (wpList P ops Q (⟨d, .store 32 x y, ty, pos, aft, g⟩ :: rest) a w)) : wpList P ops Q (⟨d, .store 32 x y, ty, pos, aft, g⟩ :: rest) a w := h
end
section
variable {ops : Array Oper} {rest : List Oper} {o : Oper} {a : Act} {w : World} {Q : Exit → Act → World → Prop}
def fm0 (k : Int) : FM := ⟨fr0 k, none, 0, none, 0, none, 0⟩
theorem fm0_new (w : World) : FB (w.alloc (.cells (fm0 0).vals 36)) w.heap.size (fm0 0) := Blk.new w _ _
theorem wpList_storeF (hgd : o.guard = none) {x y : Operand} (ho : o.op = .store 36 x y) {b : Nat} (p q : FM) (hp : p.f.tok.length = 16) (hq : q.f.tok.length = 16) (hx : a.eval x = .pointer (some ⟨b, 0, none⟩)) (hy : a.eval y = .agg p.vals)
    (hb : FB w b q) (h : ∀ w', FB w' b p → Only (· = b) w w' → wpList Try.prog ops Q rest (a.put o.dst undef) w') : wpList Try.prog ops Q (o :: rest) a w :=
  wpList_store_row hgd _ x y ho b _ hx hy _ _ hb (by rw [p.size hp]; exact fr_size) (by rw [p.size hp, q.size hq]) (Array.all_eq_true_iff_forall_mem.2 (fun u hu => p.one u (by simpa [FM.vals] using hu)))
    (h _ (setRow_heap w b _ _ _ _ hb) ⟨rfl, rfl, rfl, by simp [World.setRow], fun k hk hs => setRow_other _ _ _ _ hs⟩)
theorem wpList_loadF (hgd : Region.wanted o (yielded ops a.tmps) = true) {x : Operand} (ho : o.op = .load 36 x) {b : Nat} (p : FM) (hp : p.f.tok.length = 16) (hx : a.eval x = .pointer (some ⟨b, 0, none⟩)) (hb : FB w b p)
    (h : wpList Try.prog ops Q rest (a.put o.dst (.agg p.vals)) w) : wpList Try.prog ops Q (o :: rest) a w :=
  wpList_loadAll Try.underlying36 fr_size hgd ho hx hb (p.size hp) h
end
/-- A cell of a frame is set. -/
theorem FB.setF {w : World} {b : Nat} {p q : FM} (h : FB w b p) (i : Nat) (v : Value) (hq : p.list.set i v = q.list) : FB (w.setCell ⟨b, i, none⟩ v) b q := by
  have := Blk.set h i v
  unfold FM.vals at this
  rw [List.setIfInBounds_toArray, hq] at this
  exact this
def FM.setId (p : FM) (x : Int) : FM := { p with f := { p.f with id := x } }
def FM.setOff (p : FM) (x : Int) : FM := { p with f := { p.f with off := x } }
def FM.setMax (p : FM) (x : Int) : FM := { p with f := { p.f with max := x } }
def FM.setCode (p : FM) (x : Int) : FM := { p with f := { p.f with code := x } }
def FM.setN (p : FM) (x : Int) : FM := { p with f := { p.f with n := x } }
def FM.setKind (p : FM) (x : Int) : FM := { p with f := { p.f with kind := x } }
def FM.setFin (p : FM) (x : Bool) : FM := { p with f := { p.f with fin := x } }
def FM.setData (p : FM) (a : Option Addr) (c : Nat) (L : List Int) : FM := { p with f := { p.f with data := L }, da := a, dc := c }
def FM.setCid (p : FM) (a : Option Addr) (c : Nat) (L : List Int) : FM := { p with f := { p.f with cid := L }, ca := a, cc := c }
def FM.setAcks (p : FM) (a : Option Addr) (c : Nat) (L : List Rg) : FM := { p with f := { p.f with acks := L }, aa := a, ac := c }
def FM.setDelay (p : FM) (x : Int) : FM := { p with f := { p.f with delay := x } }
def FM.setEcn (p : FM) (x y z : Int) : FM := { p with f := { p.f with e0 := x, e1 := y, e2 := z } }
def FM.setTok (p : FM) (t : List Int) : FM := { p with f := { p.f with tok := t } }
section
variable {w : World} {b : Nat} {p : FM} (h : FB w b p)
include h
theorem FB.kind (x : Int) : FB (w.setCell ⟨b, 0, none⟩ (.int .u64 x)) b (p.setKind x) := h.setF _ _ rfl
theorem FB.id (x : Int) : FB (w.setCell ⟨b, 1, none⟩ (.int .u64 x)) b (p.setId x) := h.setF _ _ rfl
theorem FB.off (x : Int) : FB (w.setCell ⟨b, 2, none⟩ (.int .u64 x)) b (p.setOff x) := h.setF _ _ rfl
theorem FB.max (x : Int) : FB (w.setCell ⟨b, 3, none⟩ (.int .u64 x)) b (p.setMax x) := h.setF _ _ rfl
theorem FB.code (x : Int) : FB (w.setCell ⟨b, 4, none⟩ (.int .u64 x)) b (p.setCode x) := h.setF _ _ rfl
theorem FB.n (x : Int) : FB (w.setCell ⟨b, 5, none⟩ (.int .u64 x)) b (p.setN x) := h.setF _ _ rfl
theorem FB.fin (x : Bool) : FB (w.setCell ⟨b, 6, none⟩ (.bool x)) b (p.setFin x) := h.setF _ _ rfl
theorem FB.data (a : Option Addr) (c : Nat) (L : List Int) : FB (w.setCell ⟨b, 7, none⟩ (.slice a L.length c)) b (p.setData a c L) := h.setF _ _ rfl
theorem FB.cid (a : Option Addr) (c : Nat) (L : List Int) : FB (w.setCell ⟨b, 8, none⟩ (.slice a L.length c)) b (p.setCid a c L) := h.setF _ _ rfl
theorem FB.acks (h16 : p.f.tok.length = 16) (a : Option Addr) (c : Nat) (L : List Rg) : FB (w.setCell ⟨b, 25, none⟩ (.slice a L.length c)) b (p.setAcks a c L) := h.setF _ _ (by rw [show 25 = 25 + 0 from rfl, p.set_post h16]; rfl)
theorem FB.delay (h16 : p.f.tok.length = 16) (x : Int) : FB (w.setCell ⟨b, 26, none⟩ (.int .u64 x)) b (p.setDelay x) := h.setF _ _ (by rw [show 26 = 25 + 1 from rfl, p.set_post h16]; rfl)
end
theorem FM.put_tok (p : FM) (h16 : p.f.tok.length = 16) (t : List Int) (ht : t.length = 16) : p.list.take 9 ++ t.map (Value.int .u8) ++ p.list.drop (9 + 16) = (p.setTok t).list := by
  have e1 : p.list.take 9 = p.pre := rfl
  have e2 : p.list.drop (9 + 16) = p.post := by
    have hl : (p.pre ++ p.f.tok.map (Value.int .u8)).length = 9 + 16 := by simp [FM.pre, h16]
    unfold FM.list
    rw [← List.append_assoc, ← hl, List.drop_left]
  rw [e1, e2, List.append_assoc]
  rfl
theorem FM.put_ecn (p : FM) (h16 : p.f.tok.length = 16) (x y z : Int) : p.list.take 27 ++ [.int .u64 x, .int .u64 y, .int .u64 z] ++ p.list.drop (27 + 3) = (p.setEcn x y z).list := by
  have e2 : p.list.drop (27 + 3) = [] := List.drop_eq_nil_of_le (by rw [p.length h16]; decide)
  have e1 : p.list.take 27 = p.pre ++ (p.f.tok.map (Value.int .u8) ++ [.slice p.aa p.f.acks.length p.ac, .int .u64 p.f.delay]) := by
    unfold FM.list
    rw [List.take_append, List.take_append, List.take_of_length_le (by simp [FM.pre]), List.take_of_length_le (by simp [FM.pre, h16])]
    simp [FM.pre, FM.post, h16]
  rw [e1, e2]
  simp only [List.append_assoc, List.append_nil]
  rfl
theorem FB.stTok {b : Nat} {p : FM} (h16 : p.f.tok.length = 16) (t : List Int) (ht : t.length = 16) {w' : World} (h : Blk w' b (p.list.take 9 ++ t.map (Value.int .u8) ++ p.list.drop (9 + (t.map (Value.int .u8)).length)).toArray 36) : FB w' b (p.setTok t) := by
  rw [List.length_map, ht, p.put_tok h16 t ht] at h; exact h
theorem FB.stEcn {b : Nat} {p : FM} (h16 : p.f.tok.length = 16) (x y z : Int) {w' : World} (h : Blk w' b (p.list.take 27 ++ [Value.int .u64 x, .int .u64 y, .int .u64 z] ++ p.list.drop (27 + [Value.int .u64 x, .int .u64 y, .int .u64 z].length)).toArray 36) : FB w' b (p.setEcn x y z) := by
  rw [show [Value.int .u64 x, .int .u64 y, .int .u64 z].length = 3 from rfl, p.put_ecn h16] at h; exact h
end Frm
end Go.Proofs.Ytcpjehgoeibbeaa

/- What a kind has not: bare's closures. -/
namespace Go.Proofs.Ytcpjehgoeibbeaa
open Go.RowKit
set_option linter.unusedVariables false
namespace Frm
open Var
theorem bare1 (b : Nat) (p : FM) (w : World) (hb : FB w b p) : Calls Try.prog 48 #[.pointer (some ⟨b, 0, none⟩)] w fun e w' => e = .returned (.tuple #[]) ∧ FB w' b (p.setId 0) ∧ Only (· = b) w w' := by
  have c := Blk.cell hb 1 _ rfl
  have f := Blk.free hb 1
  have HB := Lib.hid hb
  clear hb
  go_enter Try.func48, Try.ntmps48
  go_wp2_with (fail)
  go_end0
  exact ⟨rfl, HB.out.id 0, (Only.refl _ _).set _ _⟩
theorem bare2 (b : Nat) (p : FM) (w : World) (hb : FB w b p) : Calls Try.prog 49 #[.pointer (some ⟨b, 0, none⟩)] w fun e w' => e = .returned (.tuple #[]) ∧ FB w' b (p.setMax 0) ∧ Only (· = b) w w' := by
  have c := Blk.cell hb 3 _ rfl
  have f := Blk.free hb 3
  have HB := Lib.hid hb
  clear hb
  go_enter Try.func49, Try.ntmps49
  go_wp2_with (fail)
  go_end0
  exact ⟨rfl, HB.out.max 0, (Only.refl _ _).set _ _⟩
theorem bare3 (b : Nat) (p : FM) (w : World) (hb : FB w b p) : Calls Try.prog 50 #[.pointer (some ⟨b, 0, none⟩)] w fun e w' => e = .returned (.tuple #[]) ∧ FB w' b (p.setCode 0) ∧ Only (· = b) w w' := by
  have c := Blk.cell hb 4 _ rfl
  have f := Blk.free hb 4
  have HB := Lib.hid hb
  clear hb
  go_enter Try.func50, Try.ntmps50
  go_wp2_with (fail)
  go_end0
  exact ⟨rfl, HB.out.code 0, (Only.refl _ _).set _ _⟩
theorem bare4 (b : Nat) (p : FM) (w : World) (hb : FB w b p) : Calls Try.prog 51 #[.pointer (some ⟨b, 0, none⟩)] w fun e w' => e = .returned (.tuple #[]) ∧ FB w' b (p.setData none 0 []) ∧ Only (· = b) w w' := by
  have c := Blk.cell hb 7 _ rfl
  have f := Blk.free hb 7
  have HB := Lib.hid hb
  clear hb
  go_enter Try.func51, Try.ntmps51
  go_wp2_with (fail)
  go_end0
  exact ⟨rfl, HB.out.data none 0 [], (Only.refl _ _).set _ _⟩
/-- The closures by number, and what they do. -/
inductive Clo where
  | id | most | code | data
def Clo.val (b : Nat) : Clo → Value
  | .id => .func (.func 48) #[] #[.pointer (some ⟨b, 0, none⟩)]
  | .most => .func (.func 49) #[] #[.pointer (some ⟨b, 0, none⟩)]
  | .code => .func (.func 50) #[] #[.pointer (some ⟨b, 0, none⟩)]
  | .data => .func (.func 51) #[] #[.pointer (some ⟨b, 0, none⟩)]
def Clo.eff (p : FM) : Clo → FM
  | .id => p.setId 0
  | .most => p.setMax 0
  | .code => p.setCode 0
  | .data => p.setData none 0 []
def effs (p : FM) (l : List Clo) : FM := l.foldl Clo.eff p
theorem effs_take (p : FM) (l : List Clo) (k : Nat) (c : Clo) (h : l[k]? = some c) : effs p (l.take (k + 1)) = Clo.eff (effs p (l.take k)) c := by
  unfold effs
  rw [List.take_add_one, h, List.foldl_append]; rfl
set_option maxHeartbeats 1000000 in
theorem drop_any (g b : Nat) (l : List Clo) (p : FM) (w : World) (T : TypeId) (hl : l.length ≤ 3) (hg : Blk w g (l.map (Clo.val b)).toArray T) (hb : FB w b p) (hne : g ≠ b) :
    Calls Try.prog 52 #[.slice (some ⟨g, 0, none⟩) l.length l.length] w fun e w' => e = .returned (.tuple #[]) ∧ FB w' b (effs p l) ∧ Only (· = b) w w' := by
  have HG := Lib.hid hg
  have HB := Lib.hid hb
  clear hg hb
  go_enter Try.func52, Try.ntmps52
  go_wp2_with (fail)
  go_loopw [3, 6] (fun _ i wr => ∃ k : Nat, i = .int .i64 k ∧ k ≤ l.length ∧ Hid (FB wr b (effs p (l.take k))) ∧ Only (· = b) w wr) (fun _ i _ => l.length - (intOf i).toNat)
  case atStart => exact ⟨0, rfl, by omega, HB, Only.refl _ _⟩
  case round =>
    obtain ⟨k, rfl, hk, hf, ho⟩ := hrel
    by_cases hlt : k < l.length
    · obtain ⟨c, hc⟩ : ∃ c, l[k]? = some c := ⟨l[k], by simp [hlt]⟩
      have hcell := Blk.cell (ho.blk HG.out (fun h => hne h)) k (c.val b) (by simp [hc])
      have he := Lib.hid (effs_take p l k c hc)
      generalize effs p (l.take (k + 1)) = p' at *
      have HE := Lib.hid hc
      clear hc
      cases c with
      | id =>
        simp only [Clo.val] at hcell
        go_wp2_with (fail)
        refine (bare1 b _ _ hf.out).mono ?_
        rintro e w2 ⟨rfl, hb2, o2⟩
        go_wp2_with (fail)
        exact ⟨⟨k + 1, by go_num, by omega, Lib.hid (by rw [effs_take p l k _ HE.out]; exact hb2), ho.trans o2⟩, by simp [intOf]; omega⟩
      | most =>
        simp only [Clo.val] at hcell
        go_wp2_with (fail)
        refine (bare2 b _ _ hf.out).mono ?_
        rintro e w2 ⟨rfl, hb2, o2⟩
        go_wp2_with (fail)
        exact ⟨⟨k + 1, by go_num, by omega, Lib.hid (by rw [effs_take p l k _ HE.out]; exact hb2), ho.trans o2⟩, by simp [intOf]; omega⟩
      | code =>
        simp only [Clo.val] at hcell
        go_wp2_with (fail)
        refine (bare3 b _ _ hf.out).mono ?_
        rintro e w2 ⟨rfl, hb2, o2⟩
        go_wp2_with (fail)
        exact ⟨⟨k + 1, by go_num, by omega, Lib.hid (by rw [effs_take p l k _ HE.out]; exact hb2), ho.trans o2⟩, by simp [intOf]; omega⟩
      | data =>
        simp only [Clo.val] at hcell
        go_wp2_with (fail)
        refine (bare4 b _ _ hf.out).mono ?_
        rintro e w2 ⟨rfl, hb2, o2⟩
        go_wp2_with (fail)
        exact ⟨⟨k + 1, by go_num, by omega, Lib.hid (by rw [effs_take p l k _ HE.out]; exact hb2), ho.trans o2⟩, by simp [intOf]; omega⟩
    · obtain rfl : k = l.length := by omega
      go_wp2_with (fail)
      go_end0
      exact ⟨rfl, by have := hf.out; rwa [List.take_length] at this, ho⟩
end Frm
end Go.Proofs.Ytcpjehgoeibbeaa

/- bytes.Join of two parts or more, without a separator. -/
namespace Go.Proofs.Ytcpjehgoeibbeaa
open Go.RowKit
set_option linter.unusedVariables false
namespace Frm
open Var
def LJ_ren : Go.Shelf.Ren := ⟨fun | 14 => 39 | 15 => 57 | n => n, fun | 0 => 0 | 3 => 3 | 4 => 4 | 9 => 9 | 20 => 20 | 22 => 23 | 26 => 57 | 5 => 5 | n => n, fun | n => n⟩
theorem LJ : Go.Proofs.SlLaysJ.n14 Try.prog LJ_ren := {
  mixed := by kernel_rfl
  f14 := Try.func39.trans (congrArg some (by kernel_rfl))
  f15 := Try.func57.trans (congrArg some (by kernel_rfl))
  t0 := Try.underlying0
  a0 := Try.isAgg0
  z0 := Try.sizeOf0
  v0 := Try.zeroValue0
  t3 := Try.underlying3
  a3 := Try.isAgg3
  z3 := Try.sizeOf3
  v3 := Try.zeroValue3
  t4 := Try.underlying4
  a4 := Try.isAgg4
  z4 := Try.sizeOf4
  v4 := Try.zeroValue4
  t9 := Try.underlying9
  a9 := Try.isAgg9
  z9 := Try.sizeOf9
  v9 := Try.zeroValue9
  t20 := Try.underlying20
  a20 := Try.isAgg20
  z20 := Try.sizeOf20
  v20 := Try.zeroValue20
  t22 := Try.underlying23
  a22 := Try.isAgg23
  z22 := Try.sizeOf23
  v22 := Try.zeroValue23
  t26 := Try.underlying57
  a26 := Try.isAgg57
  z26 := Try.sizeOf57
  v26 := Try.zeroValue57
  t5 := Try.underlying5
  z5 := Try.sizeOf5
  i5 := by kernel_rfl }
theorem sl_byte {a : Option Addr} {cap : Nat} {L : List Int} {w : World} (hS : Sl .u8 w a cap L) : ∀ y ∈ L, Byte y := fun y hy => by have := bounds_u8 (hS.wf y hy); exact this
structure Part where
  a : Option Addr
  cap : Nat
  L : List Int
def Part.val (p : Part) : Value := .slice p.a p.L.length p.cap
def catB (ps : List Part) : List Int := (ps.map Part.L).flatten
theorem join_flat : ∀ ls : List (List UInt8), Lib.join ls [] = ls.flatten
  | [] => rfl
  | x :: r => by
    rw [Lib.join_cons, Lib.joinTail]
    simp
theorem bytesOf_flat (ps : List Part) : (ps.map fun p => Lib.bytesOf p.L).flatten = Lib.bytesOf (catB ps) := by
  unfold catB Lib.bytesOf
  rw [List.map_flatten, List.map_map]
  rfl
theorem bytesOf_len (L : List Int) : (Lib.bytesOf L).length = L.length := by simp [Lib.bytesOf]
theorem byte_back {x : Int} (h : Byte x) : ((UInt8.ofNat x.toNat).toNat : Int) = x := by
  obtain ⟨h0, h1⟩ := h
  simp []
  omega
theorem bytesOf_inj : ∀ {A B : List Int}, (∀ x ∈ A, Byte x) → (∀ x ∈ B, Byte x) → Lib.bytesOf A = Lib.bytesOf B → A = B
  | [], [], _, _, _ => rfl
  | [], _ :: _, _, _, h => by simp [Lib.bytesOf] at h
  | _ :: _, [], _, _, h => by simp [Lib.bytesOf] at h
  | a :: A, b :: B, ha, hb, h => by
    simp only [Lib.bytesOf, List.map_cons, List.cons.injEq] at h
    have h1 := byte_back (ha a (by simp))
    have h2 := byte_back (hb b (by simp))
    rw [h.1, h2] at h1
    rw [h1, bytesOf_inj (fun x hx => ha x (by simp [hx])) (fun x hx => hb x (by simp [hx])) h.2]
theorem holds_sl {w : World} {p : Part} (h : Sl .u8 w p.a p.cap p.L) : Lib.HoldsBytes w p.val (Lib.bytesOf p.L) := by
  refine ⟨p.a, p.cap, by rw [bytesOf_len]; rfl, fun hn => ?_, fun a ha i x hx => ?_⟩
  · have h0 : p.L.length = 0 := by
      rcases Nat.eq_zero_or_pos p.L.length with h0 | h0
      · exact h0
      · obtain ⟨b, off, e, _⟩ := h.ints 0 h0
        rw [hn] at e; cases e
    rw [List.length_eq_zero_iff.1 h0]; rfl
  · have hi : i < p.L.length := by
      rw [← bytesOf_len p.L]
      exact (List.getElem?_eq_some_iff.1 hx).1
    obtain ⟨b, off, e, _, hc, hw⟩ := h.ints i hi
    rw [ha] at e
    cases e
    rw [addr_add, hc]
    simp only [Lib.bytesOf, List.getElem?_map, List.getElem?_eq_getElem hi, Option.map_some, Option.some.injEq] at hx
    rw [← hx, byte_back, List.getD_eq_getElem?_getD, List.getElem?_eq_getElem hi]
    · rfl
    · exact sl_byte h _ (by simp)
theorem sl_fresh {B : Nat} {w : World} {v : Value} {L : List Int} (hb : ∀ x ∈ L, Byte x) (h : Lib.FreshBytes B w v (Lib.bytesOf L)) : ∃ g cap, v = .slice (some ⟨g, 0, none⟩) L.length cap ∧ B ≤ g ∧ Sl .u8 w (some ⟨g, 0, none⟩) cap L := by
  obtain ⟨g, cap, zs, rfl, h1, h2, h3, h4, h5, h6, h7, h8⟩ := h
  rw [bytesOf_len] at h2 h6 ⊢
  have e : zs.take L.length = L := bytesOf_inj (fun x hx => ⟨(h5 x (List.mem_of_mem_take hx)).1, by have := (h5 x (List.mem_of_mem_take hx)).2; omega⟩) hb h6
  refine ⟨g, cap, rfl, h1, fun i hi => ?_, (fun h => nomatch h), h2, h3⟩
  have hz : zs.getD i 0 = L.getD i 0 := by
    rw [← e, List.getD_eq_getElem?_getD, List.getD_eq_getElem?_getD, List.getElem?_take, if_pos hi]
  have hc := h7 i (by omega)
  rw [hz] at hc
  refine ⟨g, 0, rfl, ?_, by rw [Nat.zero_add]; exact hc, wf_byte (hb _ (by simp [hi]))⟩
  exact World.block_lt_of_cell? _ _ hc
theorem catB_byte {w : World} (ps : List Part) (hps : ∀ p ∈ ps, Sl .u8 w p.a p.cap p.L) : ∀ x ∈ catB ps, Byte x := by
  intro x hx
  unfold catB at hx
  obtain ⟨l, hl, hx⟩ := List.mem_flatten.1 hx
  obtain ⟨p, hp, rfl⟩ := List.mem_map.1 hl
  exact sl_byte (hps p hp) x hx
theorem lens_cat (ps : List Part) : Lib.lens (ps.map fun p => Lib.bytesOf p.L) = (catB ps).length := by
  unfold Lib.lens catB
  rw [List.length_flatten, List.map_map, List.map_map]
  congr 2
  funext p
  simp [bytesOf_len]
theorem bjoin_any (g n : Nat) (ps : List Part) (w : World) (T : TypeId) (hn : n = ps.length) (h2 : 2 ≤ n) (h4 : n ≤ 10) (hg : Blk w g (ps.map Part.val).toArray T) (hps : ∀ p ∈ ps, Sl .u8 w p.a p.cap p.L) (hsz : (catB ps).length ≤ 70368744177664) :
    Calls Try.prog 39 #[.slice (some ⟨g, 0, none⟩) n n, .slice none 0 0] w fun e w' => ∃ g' cap', e = .returned (.slice (some ⟨g', 0, none⟩) (catB ps).length cap') ∧ w.heap.size ≤ g' ∧ Sl .u8 w' (some ⟨g', 0, none⟩) cap' (catB ps) ∧ Below w.heap.size w w' := by
  refine (Any.bytes_Join_many LJ g 0 n n (ps.map Part.val) (ps.map fun p => Lib.bytesOf p.L) (.slice none 0 0) [] w (by simp [hn]) h2 ⟨by simp, fun i v hv => ?_, fun i v l hv hl => ?_⟩ (Nat.le_refl _) ⟨none, 0, rfl, fun _ => rfl, fun a ha => nomatch ha⟩ (by omega) (by rw [lens_cat]; simp; omega)).mono ?_
  · rw [addr_add, Nat.zero_add]
    exact Blk.cell hg i v (by simpa using hv)
  · simp only [List.getElem?_map, Option.map_eq_some_iff] at hv hl
    obtain ⟨p, hp, rfl⟩ := hv
    obtain ⟨q, hq, rfl⟩ := hl
    rw [hp] at hq
    cases hq
    exact holds_sl (hps p (List.mem_of_getElem? hp))
  · rintro e w' ⟨v, rfl, hf, hb⟩
    rw [join_flat, bytesOf_flat] at hf
    obtain ⟨g', cap', rfl, h1, h3⟩ := sl_fresh (catB_byte ps hps) hf
    exact ⟨g', cap', rfl, h1, h3, hb⟩
end Frm
end Go.Proofs.Ytcpjehgoeibbeaa

/- The closures of put. -/
namespace Go.Proofs.Ytcpjehgoeibbeaa
open Go.RowKit
set_option linter.unusedVariables false
namespace Frm
open Var
/-- Bytes of the call's own. -/
def OwB (w : World) (base : Nat) (a : Option Addr) (cap : Nat) (L : List Int) : Prop := OwnS w base 5 1 a L.length cap (L.map (Value.int .u8)) ∧ ∀ x ∈ L, Byte x
theorem OwB.sl {w : World} {base : Nat} {a : Option Addr} {cap : Nat} {L : List Int} (h : OwB w base a cap L) : Sl .u8 w a cap L := (h.1.sl (fun x hx => wf_byte (h.2 x hx))).2
theorem OwB.below {w w' : World} {base : Nat} {a : Option Addr} {cap : Nat} {L : List Int} (h : OwB w base a cap L) (hb : Below w.heap.size w w') : OwB w' base a cap L := ⟨h.1.below hb, h.2⟩
theorem encs_byte {N : List Int} (h : ∀ x ∈ N, 0 ≤ x) : ∀ y ∈ encs N, Byte y := by
  intro y hy
  obtain ⟨x, hx, hy⟩ := List.mem_flatMap.1 hy
  exact enc_bytes x (h x hx) y hy
theorem encs_len : ∀ {N : List Int}, (∀ x ∈ N, 0 ≤ x) → (encs N).length ≤ 8 * N.length
  | [], _ => by simp [encs]
  | x :: N, h => by
    have := encs_len (N := N) (fun y hy => h y (by simp [hy]))
    have h1 := enc_length x (h x (by simp))
    have h2 := size_le x
    have e : encs (x :: N) = enc x ++ encs N := rfl
    rw [e, List.length_append, List.length_cons]
    omega
set_option maxHeartbeats 1000000 in
theorem n_any (a : Option Addr) (n cap : Nat) (N : List Int) (w : World) (hn : n = N.length) (hN : Sl .u64 w a cap N) (hf : Fits N) (h0 : ∀ x ∈ N, 0 ≤ x) (hl : N.length ≤ 1000000000) :
    Calls Try.prog 35 #[.slice a n cap] w fun e w' => ∃ a' cap', e = .returned (.slice a' (encs N).length cap') ∧ OwB w' w.heap.size a' cap' (encs N) ∧ Below w.heap.size w w' := by
  have HN := Lib.hid hN
  have HQ := Lib.hid hn
  have HF := Lib.hid hf
  have H0 := Lib.hid h0
  have HL := Lib.hid hl
  clear hN hn hf h0 hl
  go_enter Try.func35, Try.ntmps35
  go_wp2_with (fail)
  refine (append_any none 0 0 [] a n cap N _ rfl HQ.out (by simp; have := HL.out; omega) (Sl.nil _ _) HN.out).mono ?_
  rintro e w2 ⟨hb2, hyes, _⟩
  obtain ⟨a2, c2, rfl, ho2⟩ := hyes HF.out
  rw [List.nil_append] at ho2 ⊢
  obtain ⟨m, hm⟩ : ∃ m, (encs N).length = m := ⟨_, rfl⟩
  have HO := Lib.hid (show OwB w2 w.heap.size a2 c2 (encs N) from ⟨ho2, encs_byte H0.out⟩)
  have HM := Lib.hid hm
  clear hyes ho2
  rw [hm]
  clear hm
  go_wp2_with (fail)
  go_returns
  exact ⟨a2, c2, by rw [HM.out]; rfl, HO.out, hb2⟩
set_option maxHeartbeats 1000000 in
theorem cat_any (g n : Nat) (ps : List Part) (w : World) (T : TypeId) (hn : n = ps.length) (h2 : 2 ≤ n) (h4 : n ≤ 10) (hg : Blk w g (ps.map Part.val).toArray T) (hps : ∀ p ∈ ps, Sl .u8 w p.a p.cap p.L) (hsz : (catB ps).length ≤ 70368744177664) :
    Calls Try.prog 38 #[.slice (some ⟨g, 0, none⟩) n n] w fun e w' => ∃ g' cap', e = .returned (.slice (some ⟨g', 0, none⟩) (catB ps).length cap') ∧ w.heap.size ≤ g' ∧ Sl .u8 w' (some ⟨g', 0, none⟩) cap' (catB ps) ∧ Below w.heap.size w w' := by
  have HJ := Lib.hid (bjoin_any g n ps w T hn h2 h4 hg hps hsz)
  clear hg hps hsz hn h2 h4
  generalize catB ps = L at *
  obtain ⟨m, hm⟩ : ∃ m, L.length = m := ⟨_, rfl⟩
  rw [hm] at HJ ⊢
  clear hm
  go_enter Try.func38, Try.ntmps38
  go_wp2_with (fail)
  refine HJ.out.mono ?_
  rintro e w2 ⟨g', cap', rfl, h1, h2, h3⟩
  have H2 := Lib.hid h2
  clear h2
  go_wp2_with (fail)
  go_returns
  exact ⟨g', cap', rfl, h1, H2.out, h3⟩
/-- The cell of the closure 'n', which is called through it. -/
def NC (w : World) (b : Nat) : Prop := Blk w b #[.func (.func 35) #[] #[]] 72
set_option maxHeartbeats 1000000 in
theorem sized_any (bn bf : Nat) (p : FM) (w : World) (hn : NC w bn) (hf : FB w bf p) (hd : Sl .u8 w p.da p.dc p.f.data) (hsz : p.f.data.length ≤ 1000000000) :
    Calls Try.prog 37 #[.pointer (some ⟨bn, 0, none⟩), .pointer (some ⟨bf, 0, none⟩)] w fun e w' => ∃ a' cap', e = .returned (.slice a' (sizedB p.f.data).length cap') ∧ OwB w' w.heap.size a' cap' (sizedB p.f.data) ∧ Below w.heap.size w w' := by
  have c0 := Blk.cell hn 0 _ rfl
  have c7 := Blk.cell hf 7 (.slice p.da p.f.data.length p.dc) rfl
  have l0 := Blk.lt hn
  have l7 := Blk.lt hf
  have HN := Lib.hid hn
  have HF := Lib.hid hf
  have HD := Lib.hid hd
  clear hn hf hd
  obtain ⟨m, hm⟩ : ∃ m, p.f.data.length = m := ⟨_, rfl⟩
  have HM := Lib.hid hm
  have hfits : Fits [(m : Int)] := by intro x hx; simp at hx; omega
  rw [hm] at c7 hsz
  go_enter Try.func37, Try.ntmps37
  go_wp2_with (fail)
  refine rg_start 11 ?_
  refine rg_below fun K hx hne hC hbel => ?_
  have k0 := fun z : Wd K => (hx z _ 0 _ l0).trans c0
  have k7 := fun z : Wd K => (hx z _ 7 _ l7).trans c7
  clear hx
  refine rg_quiet 4 [0,1,2,3,4,7,8] hC ?_
  simp only [pickD, List.map_cons, List.map_nil, List.getD_cons_zero, List.getD_cons_succ]; repeat (go_big_quiet_step (fail))
  refine wpQuiet_nil ?_
  refine rg_act 5 ?_
  go_wp2_with (fail)
  have b1 : Below w.drew.heap.size w.drew (w.alloc (.cells #[.int .u64 (m : Int)] 30)).drew := (Below.refl _ w.drew).alloc (Nat.le_refl _) _
  refine ⟨hbel _ b1, ?_⟩
  refine rg_act 6 ?_
  go_wp2_with (fail)
  refine (n_any _ 1 1 [(m : Int)] _ rfl ((sl_new .u64 w 30 [(m : Int)] _ rfl (by simp; exact u64_wf (by omega) (by omega)) (by simp [maxLen])).below ((Below.refl _ _).drew)) hfits (by simp) (by simp)).mono ?_
  rintro e w2 ⟨a2, c2, rfl, ho2, hb2⟩
  have b2 : Below w.drew.heap.size w.drew w2 := below_on b1 hb2 b1.size
  have ho2 : OwB w2 w.heap.size a2 c2 (encs [(m : Int)]) := ⟨ho2.1.base_le (by simp), ho2.2⟩
  rw [show encs [(m : Int)] = enc m from List.append_nil _] at ho2 ⊢
  have hl2 : (enc (m : Int)).length ≤ 8 := by rw [enc_length _ (by omega)]; exact size_le _
  obtain ⟨q, hq⟩ : ∃ q, (enc (m : Int)).length = q := ⟨_, rfl⟩
  have HQ := Lib.hid hq
  have HO := Lib.hid ho2
  have HB := Lib.hid b2
  have HW := Lib.hid (show Below w.heap.size w w2 from below_on ((Below.refl w.heap.size w).drew) b2 (by simp))
  rw [hq] at hl2 ⊢
  clear hq ho2 hb2 b1 b2
  go_wp2_with (fail)
  refine ⟨hbel _ HB.out, ?_⟩
  refine rg_cut 9 ?_
  go_wp2_with (at_builtin; refine Stop.mk ?_)
  refine Stop.out ?_
  have hs7 := HD.out.below HW.out
  refine wpList_app bytes_et rfl rfl rfl rfl (HQ.out ▸ HO.out.1) (by have := hs7.src; rw [HM.out] at this; exact this) (by unfold maxLen; omega) (by omega) HW.out.size ?_
  intro a3 c3 w3 ho3 on3 at3
  have k3 : Below w.heap.size w w3 := below_onto HW.out on3 HW.out.size (by rintro z hz ⟨y, hy, rfl⟩; have := (HO.out.1.block hy).1; omega)
  have hl3 : q + m = (sizedB p.f.data).length := by unfold sizedB; rw [List.length_append, HM.out, ← HQ.out]
  have hy3 : ∀ x ∈ sizedB p.f.data, Byte x := by
    intro x hx
    unfold sizedB at hx
    rcases List.mem_append.1 hx with h | h
    · exact HO.out.2 x (by rw [HM.out] at h; exact h)
    · exact sl_byte HD.out x h
  have e3 : List.map (Value.int .u8) (enc (m : Int)) ++ List.map (Value.int .u8) p.f.data = (sizedB p.f.data).map (Value.int .u8) := by unfold sizedB; rw [List.map_append, HM.out]
  rw [e3] at ho3
  rw [hl3] at ho3 ⊢
  have HO3 := Lib.hid (show OwB w3 w.heap.size a3 c3 (sizedB p.f.data) from ⟨ho3, hy3⟩)
  have HK3 := Lib.hid k3
  clear ho3 hy3 e3 hl3 on3 at3 hs7 k3
  obtain ⟨r, hr⟩ : ∃ r, (sizedB p.f.data).length = r := ⟨_, rfl⟩
  have HR := Lib.hid hr
  rw [hr]
  clear hr
  go_wp2_with (fail)
  refine rg_below fun K hx hne hC hbel => ?_
  refine rg_quiet 0 [10] hC ?_
  simp only [pickD, List.map_cons, List.map_nil, List.getD_cons_zero, List.getD_cons_succ]; repeat (go_big_quiet_step (fail))
  refine wpQuiet_nil ?_
  refine rg_end ?_
  go_wp2_with (fail)
  go_returns
  exact ⟨a3, c3, by rw [HR.out]; rfl, HO3.out, HK3.out⟩
end Frm
end Go.Proofs.Ytcpjehgoeibbeaa
