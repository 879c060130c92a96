import Derived.Test.YtcpjehgoeibbeaaFrMf
import Derived.Test.YtcpjehgoeibbeaaFrMh
import Derived.Defers
import Derived.Recover
import Derived.Tactics2
import Derived.Laws.Pointers
/- A fail that is recovered: read. -/
namespace Go.Proofs.Ytcpjehgoeibbeaa
open Go.RowKit
set_option linter.unusedVariables false
namespace Frm
open Var
theorem catch_fail (b : Nat) (x : Int) (w : World) (T : TypeId) (hb : Blk w b #[.int .i64 x] T) :
    CallsD Try.prog 41 #[.pointer (some ⟨b, 0, none⟩)] (.panicking [{ v := .iface 77 (.agg #[]), recovered := false }]) w fun e u' w' =>
      e = .returned (.tuple #[]) ∧ u' = .panicking [{ v := .iface 77 (.agg #[]), recovered := true }] ∧ Only (· = b) w w' ∧ Blk w' b #[.int .i64 2] T := by
  have hc : w.cell? ⟨b, 0, none⟩ = some (.int .i64 x) := Blk.cell hb 0 _ rfl
  have hz := Blk.free hb 0
  have hl : b < w.heap.size := Blk.lt hb
  have HB := Lib.hid hb
  clear hb
  have hta : ∀ w : World, (Instr.typeAssert (.iface 77 (.agg #[])) 20 77 true).run Try.prog w = .ok (.tuple #[.agg #[], .bool true]) w := fun _ => by kernel_rfl
  refine callsD_of_wpS Try.func41 rfl fun c₀ cs hu => ?_
  apply wpS_seq
  apply wpS_region
  simp [wpOpsS, go_sem, recoverD, hu, Try.ntmps41, Exit.thenS]
  refine wpS_of_wp ?_
  go_wp2_with (fail)
  have ho := ((Only.refl (· = b) w).set 0 (.int .i64 2)).alloc (.cells #[] 77)
  have hcell : Blk ((w.setCell ⟨b, 0, none⟩ (.int .i64 2)).alloc (.cells #[] 77)) b #[.int .i64 2] T := Blk.alloc ((Blk.set HB.out 0 _).congr rfl) _
  simp only [bodyPostS, results, Try.results41]
  exact ⟨trivial, _, rfl, .tuple #[], by simp, rfl, rfl, ho, hcell⟩
theorem catch_idle (p : Addr) (w : World) :
    CallsD Try.prog 41 #[.pointer (some p)] .returning w fun e u' w' => e = .returned (.tuple #[]) ∧ u' = .returning ∧ w' = w := by
  refine callsD_of_wpS Try.func41 rfl fun c₀ cs hu => ?_
  apply wpS_seq
  apply wpS_region
  simp [wpOpsS, go_sem, recoverD, hu, Try.ntmps41, Exit.thenS]
  refine wpS_of_wp ?_
  go_wp2_with (fail)
  cases c₀
  simp_all [bodyPostS, results, Try.results41]
set_option maxHeartbeats 1000000 in
theorem read_list (cap : Array Value) (w : World) (R N : World → Prop)
    (hf : Calls Try.prog 23 cap (w.alloc (.cells #[.int .i64 0] 26)) fun e w' => (e = .returned (.tuple #[]) ∧ R w') ∨ (e = failE ∧ N w'))
    (hR : ∀ w', R w' → Blk w' w.heap.size #[.int .i64 0] 26) (hN : ∀ w', N w' → Blk w' w.heap.size #[.int .i64 0] 26) :
    Calls Try.prog 22 #[.func (.func 23) #[] cap] w fun e w' => (e = .returned (.int .i64 0) ∧ ∃ w1, R w1 ∧ Only (· = w.heap.size) w1 w') ∨ (e = .returned (.int .i64 2) ∧ ∃ w1, N w1 ∧ Only (· = w.heap.size) w1 w') := by
  have hmf : ∀ (fn : Fn) (first cap : Array Value) (w : World), (Instr.makeFunc fn first cap).run Try.prog w = .ok (.func fn first cap) w := fun _ _ _ _ => rfl
  have HF := Lib.hid hf
  have HR := Lib.hid hR
  have HN := Lib.hid hN
  clear hf hR hN
  go_enter_defers Try.func22, Try.ntmps22
  go_wp2_with (fail)
  refine HF.out.mono ?_
  rintro e w1 (⟨rfl, hr⟩ | ⟨he, hn⟩)
  · have hb1 := HR.out w1 hr
    have hc := Blk.cell hb1 0 _ rfl
    have hz := Blk.free hb1 0
    have HB1 := Lib.hid hb1
    clear hb1
    go_wp2_with (fail)
    have hb2 := (Blk.set HB1.out 0 (.int .i64 0)).congr rfl
    have ho := (Only.refl (· = w.heap.size) w1).set 0 (.int .i64 0)
    have hc2 := Blk.cell hb2 0 _ rfl
    refine leaves_cons (f := 41) (args := #[.pointer (some ⟨w.heap.size, 0, none⟩)]) (by simp) (by simp [go_sem]) ?_
    refine (catch_idle _ _).mono ?_
    rintro e u' w'' ⟨rfl, rfl, rfl⟩
    simp only [Leaves, settle]
    refine ⟨.int .i64 0, ?_, Or.inl ⟨rfl, w1, hr, ho⟩⟩
    have hc3 : (w1.setCell ⟨w.heap.size, 0, none⟩ (.int .i64 0)).cell? ⟨w.heap.size, 0, none⟩ = some (.int .i64 0) := hc2
    simp [results, Try.results22, go_sem, hc3]
  · rw [failE] at he
    subst he
    have hb1 := HN.out w1 hn
    have HB1 := Lib.hid hb1
    clear hb1
    go_wp2_with (fail)
    refine leaves_cons (f := 41) (args := #[.pointer (some ⟨w.heap.size, 0, none⟩)]) (by simp) (by simp [go_sem]) ?_
    refine (catch_fail _ _ _ _ HB1.out).mono ?_
    rintro e u' w'' ⟨rfl, rfl, ho, hb2⟩
    have hc2 : w''.cell? ⟨w.heap.size, 0, none⟩ = some (.int .i64 2) := Blk.cell hb2 0 _ rfl
    simp only [settle]
    refine ⟨.int .i64 2, ?_, Or.inr ⟨rfl, w1, hn, ho⟩⟩
    simp [results, Try.results22, go_sem, hc2]
end Frm
end Go.Proofs.Ytcpjehgoeibbeaa

/- Take. -/
namespace Go.Proofs.Ytcpjehgoeibbeaa
open Go.RowKit
set_option linter.unusedVariables false
namespace Frm
open Var
/-- What Take's closure leaves. -/
structure TkR (w0 w' : World) (rb fc rp : Nat) (B : Nat) (x : Fr × List Int) : Prop where
  ex : ∃ q : FM, q.f = x.1 ∧ FB w' fc q ∧ q.ok w' ∧ q.fresh B ∧ q.sm
  rd : RdB w' rb x.2
  rp : Blk w' rp #[.pointer (some ⟨rb, 0, none⟩)] 58
  on : Only (fun z => z = rb ∨ z = fc) w0 w'
section
variable {P : Program} {ops : Array Oper} {rest : List Oper} {a : Act} {w : World} {Q : Exit → Act → World → Prop}
end
end Frm
end Go.Proofs.Ytcpjehgoeibbeaa

/- List. -/
namespace Go.Proofs.Ytcpjehgoeibbeaa
open Go.RowKit
set_option linter.unusedVariables false
namespace Frm
open Var
def lenOf : Option Value → Nat
  | some (.slice _ n _) => n
  | _ => 0
/-- What List's closure leaves. -/
structure LsR (w0 w' : World) (rb oc : Nat) (B : Nat) (l : List Fr) : Prop where
  ex : ∃ (ps : List FM) (oa : Option Addr) (m c : Nat), ps.map FM.f = l ∧ Blk w' oc #[.slice oa m c] 22 ∧ m = ps.length ∧ OwnS w' B 36 30 oa m c (cellsF ps) ∧ ∀ p ∈ ps, p.ok w' ∧ p.fresh B ∧ p.sm
  on : Only (fun z => z = rb ∨ z = oc) w0 w'
/-- No slice of a frame lies in that block. -/
def FM.apart (p : FM) (oa : Option Addr) : Prop := ∀ y, oa = some y → (∀ x, p.da = some x → 0 < p.f.data.length → x.block ≠ y.block) ∧ (∀ x, p.ca = some x → 0 < p.f.cid.length → x.block ≠ y.block) ∧ (∀ x, p.aa = some x → 0 < p.f.acks.length → x.block ≠ y.block)
theorem sl_lt {w : World} {a : Option Addr} {cap : Nat} {L : List Int} (h : Sl .u8 w a cap L) : ∀ x, a = some x → 0 < L.length → x.block < w.heap.size := fun x hx h0 => by
  obtain ⟨b, off, e, hlt, _⟩ := h.ints 0 h0
  rw [hx] at e; cases e; exact hlt
theorem FM.ok.app {p : FM} {w w' : World} {oa : Option Addr} (h : p.ok w) (ha : p.apart oa) (o : Only (fun k => ∃ y, oa = some y ∧ y.block = k) w w') : p.ok w' :=
  ⟨h.fr, h.d.only o (fun x hx h0 ⟨y, hy, e⟩ => (ha y hy).1 x hx h0 e.symm), h.c.only o (fun x hx h0 ⟨y, hy, e⟩ => (ha y hy).2.1 x hx h0 e.symm), h.a.only o (fun x hx h0 ⟨y, hy, e⟩ => (ha y hy).2.2 x hx h0 e.symm)⟩
theorem FM.apart.grow {p : FM} {w : World} {oa ob : Option Addr} (h : p.ok w) (ha : p.apart oa) (hb : ∀ y, ob = some y → (∃ z, oa = some z ∧ y.block = z.block) ∨ y.block = w.heap.size) : p.apart ob := by
  intro y hy
  rcases hb y hy with ⟨z, hz, e⟩ | e
  · rw [e]; exact ha z hz
  · rw [e]
    exact ⟨fun x hx h0 => Nat.ne_of_lt (sl_lt h.d x hx h0), fun x hx h0 => Nat.ne_of_lt (sl_lt h.c x hx h0), fun x hx h0 => Nat.ne_of_lt (h.a.lt x hx h0)⟩
theorem readF_lt {b : List Int} {x : Fr × List Int} (hb : ∀ y ∈ b, Byte y) (h : readF b = some x) : x.2.length + 1 ≤ b.length := by
  unfold readF at h
  cases hk : tk b with
  | none => rw [hk] at h; cases h
  | some y =>
    rw [hk] at h
    dsimp only at h
    split at h
    · have h1 := tk_lt hb hk
      cases hr : readK y.1 y.2 with
      | none => rw [hr] at h; cases h
      | some z =>
        rw [hr] at h
        dsimp only at h
        split at h
        · obtain ⟨l, hl⟩ := readK_tail y.1 y.2 z.1 z.2 hr
          simp only [Option.some.injEq] at h
          rw [← h]
          rw [hl] at h1
          simp at h1
          omega
        · cases h
    · cases h
theorem listG_none {n : Nat} {x : Int} {b : List Int} {acc : List Fr} (h : readF (x :: b) = none) : listG (n + 1) (x :: b) acc = none := by unfold listG; rw [h]
theorem listG_some {n : Nat} {x : Int} {b : List Int} {acc : List Fr} {y : Fr × List Int} (h : readF (x :: b) = some y) : listG (n + 1) (x :: b) acc = listG n y.2 (acc ++ [y.1]) := by
  rw [show listG (n + 1) (x :: b) acc = (match readF (x :: b) with | none => none | some y => listG n y.2 (acc ++ [y.1])) from rfl, h]
theorem listG_end (n : Nat) (acc : List Fr) : listG n [] acc = some acc := by unfold listG; rfl
set_option maxHeartbeats 4000000 in
set_option maxRecDepth 100000 in
theorem list1_any (bb oc rp rb : Nat) (A : Option Addr) (n cap : Nat) (L : List Int) (w : World) (hn : n = L.length) (hbb : Blk w bb #[.slice A n cap] 23) (hoc : Blk w oc #[.slice none 0 0] 22) (hrp : Blk w rp #[.pointer (some ⟨rb, 0, none⟩)] 58) (hrd : RdB w rb L) (h1 : oc + 1 = rb) (h2 : bb + 1 = oc) (h3 : rp = rb + 1) (hl : L.length ≤ 1000000) :
    Calls Try.prog 23 #[.pointer (some ⟨bb, 0, none⟩), .pointer (some ⟨rp, 0, none⟩), .pointer (some ⟨oc, 0, none⟩)] w fun e w' => (∀ l, listF L = some l → e = .returned (.tuple #[]) ∧ Hid (LsR w w' rb oc w.heap.size l)) ∧ (listF L = none → e = failE ∧ Hid (Only (fun z => z = rb ∨ z = oc) w w')) := by
  have cb : w.cell? ⟨bb, 0, none⟩ = some (.slice A n cap) := Blk.cell hbb 0 _ rfl
  have lrp : rp < w.heap.size := Blk.lt hrp
  have HRP := Lib.hid hrp
  have HOC := Lib.hid hoc
  have HRD := Lib.hid hrd
  have HN := Lib.hid hn
  have HL := Lib.hid hl
  have H1 := Lib.hid h1
  have i1 : oc < rb := by omega
  have i2 : bb < oc := by omega
  have i3 : rb < rp := by omega
  clear h1 h2 h3
  obtain ⟨RS, hRS⟩ : ∃ RS, listF L = RS := ⟨_, rfl⟩
  have HRS := Lib.hid hRS
  rw [hRS]
  clear hrp hoc hrd hRS hbb
  rcases Nat.eq_zero_or_pos n with h0 | h0
  · have HT := Lib.hid (show RS = none by
      rw [← HRS.out]
      have : L = [] := List.length_eq_zero_iff.1 (by omega)
      unfold listF; rw [if_pos this])
    have hd : decide (0 < n) = false := by simp; omega
    clear hn h0 hl
    go_enter Try.func23, Try.ntmps23
    go_wp2_with (fail)
    refine (must_false _).mono ?_
    rintro e w2 ⟨he, rfl⟩
    rw [failE] at he
    subst he
    go_wp2_with (fail)
    exact ⟨rfl, (fun l hl => by rw [HT.out] at hl; cases hl), fun _ => ⟨rfl, Lib.hid (Only.refl _ _)⟩⟩
  · have HT := Lib.hid (show RS = listG L.length L [] by
      rw [← HRS.out]
      have : ¬ L = [] := fun h => by rw [h] at hn; simp at hn; omega
      unfold listF; rw [if_neg this])
    have hd : decide (0 < n) = true := by simp; omega
    clear hn h0 hl
    go_enter Try.func23, Try.ntmps23
    go_wp2_with (fail)
    refine (must_true _).mono ?_
    rintro e w2 ⟨rfl, rfl⟩
    go_wp2_with (fail)
    go_loopw [12] (fun _ wr => ∃ (fuel : Nat) (LL : List Int) (ps : List FM) (oa : Option Addr) (m c : Nat), Hid (RS = listG fuel LL (ps.map FM.f)) ∧ Hid (LL.length ≤ fuel) ∧ Hid (ps.length + LL.length ≤ L.length) ∧ Hid (Blk wr oc #[.slice oa m c] 22) ∧ Hid (m = ps.length) ∧ Hid (OwnS wr w.heap.size 36 30 oa m c (cellsF ps)) ∧ Hid (∀ p ∈ ps, p.ok wr ∧ p.fresh w.heap.size ∧ p.sm ∧ p.apart oa) ∧ Hid (RdB wr rb LL) ∧ Hid (Only (fun z => z = rb ∨ z = oc) w wr)) (fun _ wr => lenOf (wr.cell? ⟨rb, 0, none⟩))
    case atStart => exact ⟨L.length, L, [], none, 0, 0, HT, Lib.hid (Nat.le_refl _), Lib.hid (by simp), HOC, Lib.hid rfl, Lib.hid (OwnS.nil _ _ _ _), Lib.hid (fun p hp => by cases hp), HRD, Lib.hid (Only.refl _ _)⟩
    case round =>
      obtain ⟨fuel, LL, ps, oa, m, c, hsp, hfu, hlen, hob, hm, hos, hok, hrd, hon⟩ := hrel
      obtain ⟨A3, cap3, m3, rb3, rm3, rs3, rx3⟩ := hrd.out
      have r3 : wr.cell? ⟨rb, 0, none⟩ = some (.slice A3 m3 cap3) := Blk.cell rb3 0 _ rfl
      have RM := Lib.hid rm3
      have p3 : wr.cell? ⟨rp, 0, none⟩ = some (.pointer (some ⟨rb, 0, none⟩)) := Blk.cell (hon.out.blk HRP.out (by omega)) 0 _ rfl
      have o3 : wr.cell? ⟨oc, 0, none⟩ = some (.slice oa m c) := Blk.cell hob.out 0 _ rfl
      have zw := hon.out.size
      have hm3 : m3 ≤ 1000000 := by have := HL.out; have := hlen.out; omega
      have hmb : m ≤ 1000000 := by have := HL.out; have := hlen.out; have := hm.out; omega
      clear rb3 rm3 rs3 rx3
      rcases Nat.eq_zero_or_pos m3 with h0 | h0
      · have hd3 : decide (0 < m3) = false := by simp; omega
        have hLL : LL = [] := List.length_eq_zero_iff.1 (by have := RM.out; omega)
        have HT2 := Lib.hid (show RS = some (ps.map FM.f) by rw [hsp.out, hLL, listG_end])
        clear h0 hLL
        go_wp2_with (fail)
        go_end0
        refine ⟨?_, (fun h => by rw [HT2.out] at h; cases h)⟩
        rw [HT2.out]
        intro l hl
        cases hl
        exact ⟨rfl, Lib.hid ⟨⟨ps, oa, m, c, rfl, hob.out, hm.out, hos.out, fun p hp => ⟨(hok.out p hp).1, (hok.out p hp).2.1, (hok.out p hp).2.2.1⟩⟩, hon.out⟩⟩
      · have hd3 : decide (0 < m3) = true := by simp; omega
        obtain ⟨x, r, hLL⟩ : ∃ x r, LL = x :: r := by
          cases LL with
          | nil => have := RM.out; simp at this; omega
          | cons x r => exact ⟨x, r, rfl⟩
        obtain ⟨fu, hfu2⟩ : ∃ fu, fuel = fu + 1 := ⟨fuel - 1, by have := hfu.out; have := RM.out; omega⟩
        have HLL := Lib.hid hLL
        have HFU := Lib.hid hfu2
        have hby := hrd.out.byte
        have HBY := Lib.hid hby
        have hor : Hid (readF LL = none) ∨ ∃ x, Hid (readF LL = some x) := by
          cases readF LL with
          | none => exact .inl (Lib.hid rfl)
          | some x => exact .inr ⟨x, Lib.hid rfl⟩
        have hl3 : LL.length ≤ 1000000 := by have := RM.out; omega
        have HL3 := Lib.hid hl3
        clear h0 hLL hfu2 hby hl3
        go_wp2_with (fail)
        refine rg_start 6 ?_
        refine rg_besides (fun b => b = rb) fun K hx hne hC hbes => ?_
        have kp := fun z : Wd K => (hx z _ 0 none (by show rp < wr.heap.size; omega) (by omega)).trans p3
        have ko := fun z : Wd K => (hx z _ 0 none (by show oc < wr.heap.size; omega) (by omega)).trans o3
        clear hx
        refine rg_quiet 4 [0,1] hC ?_
        simp only [pickD, List.map_cons, List.map_nil, List.getD_cons_zero, List.getD_cons_succ]; repeat (go_big_quiet_step (fail))
        refine wpQuiet_nil ?_
        refine rg_act 2 ?_
        go_wp2_with (fail)
        refine (rframe_any rb LL _ (hrd.out.below (Below.refl _ _).drew) HL3.out).mono ?_
        rcases hor with HX | ⟨y, HX⟩
        · rintro e w2 ⟨o2, hy2, hn2⟩
          have he := hn2 HX.out
          rw [failE] at he
          subst he
          have HT2 := Lib.hid (show RS = none by rw [hsp.out, HFU.out, HLL.out]; exact listG_none (by rw [← HLL.out]; exact HX.out))
          have OO := Lib.hid (show Only (fun z => z = rb ∨ z = oc) w w2 from (hon.out.drew).trans (o2.mono (fun z _ h => Or.inl h)))
          clear hy2 hn2 o2 hbes hC kp ko hne
          go_wp2_with (fail)
          exact ⟨rfl, (fun l hl => by rw [HT2.out] at hl; cases hl), fun _ => ⟨rfl, OO⟩⟩
        · rintro e w2 ⟨o2, hy2, hn2⟩
          obtain ⟨q, hqf, rfl, hqo, hqr, hqs, hrd2⟩ := (hy2 y HX.out).out
          have hc2 := hbes w2 (fun k hk hs => o2.block k hk hs)
          have z2 : wr.heap.size ≤ w2.heap.size := o2.size
          have k3 := (Below.refl w2.heap.size w2).alloc (Nat.le_refl _) (.cells q.vals 36)
          have hc3 := hbes (w2.alloc (.cells q.vals 36)) (fun k hk hs => (k3.block k (Nat.lt_of_lt_of_le hk z2)).trans (o2.block k hk hs))
          have Q16 := Lib.hid hqo.fr.tok16
          have HBW := Lib.hid (show Blk w2 oc #[.slice oa m c] 22 from o2.blk (Blk.drew hob.out) (by omega))
          have HOW := Lib.hid (show OwnS w2 w.heap.size 36 30 oa m c (cellsF ps) from (hos.out.below (Below.refl _ _).drew).only o2 (fun x hx => by have := (hos.out.block hx).1; omega))
          have HOKW := Lib.hid (show ∀ p ∈ ps, p.ok w2 ∧ p.fresh w.heap.size ∧ p.sm ∧ p.apart oa from fun p hp => by
            obtain ⟨g1, g2, g3, g4⟩ := hok.out p hp
            have g1 := g1.below (Below.refl _ _).drew
            exact ⟨⟨g1.fr, g1.d.only o2 (fun x hx _ h => by have := g2.1 x hx; omega), g1.c.only o2 (fun x hx _ h => by have := g2.2.1 x hx; omega), g1.a.only o2 (fun x hx _ h => by have := g2.2.2 x hx; omega)⟩, g2, g3, g4⟩)
          have HQW := Lib.hid (show q.ok w2 ∧ q.fresh w.heap.size ∧ q.sm ∧ q.apart oa from ⟨hqo, ⟨fun x hx => Nat.le_trans zw (hqr.1 x hx), fun x hx => Nat.le_trans zw (hqr.2.1 x hx), fun x hx => Nat.le_trans zw (hqr.2.2 x hx)⟩, hqs, fun y hy => by
            have hlt := (hos.out.block hy).2.1
            have hd : wr.drew.heap.size = wr.heap.size := rfl
            exact ⟨fun x hx _ => by have := hqr.1 x hx; omega, fun x hx _ => by have := hqr.2.1 x hx; omega, fun x hx _ => by have := hqr.2.2 x hx; omega⟩⟩)
          have HRW := Lib.hid hrd2
          have OW := Lib.hid (show Only (fun z => z = rb ∨ z = oc) w w2 from (hon.out.drew).trans (o2.mono (fun z _ h => Or.inl h)))
          have QF := Lib.hid hqf
          have hy1 := readF_lt HBY.out HX.out
          have HY1 := Lib.hid hy1
          have HC3 := Lib.hid hc3
          clear hy2 hn2 hqo hqr hqs hrd2 hqf hy1 hc3 o2
          go_wp2_with (fail)
          refine ⟨hc2, ?_⟩
          refine rg_act 3 ?_
          go_wp2_with (with_reducible refine stop_bsf ?_)
          refine Stop.out ?_
          refine wpList_bsf rfl rfl rfl (q.size Q16.out) (by kernel_rfl) ?_
          have hsrc := src_frame w2 q Q16.out
          have hs3 : (w2.alloc (.cells q.vals 36)).heap.size = w2.heap.size + 1 := by simp
          obtain ⟨w3, hw3⟩ : ∃ w3, w2.alloc (.cells q.vals 36) = w3 := ⟨_, rfl⟩
          rw [hw3] at hsrc HC3 k3 hs3 ⊢
          have HSRC := Lib.hid hsrc
          have K3 := Lib.hid k3
          clear hw3 hsrc hc2 k3
          go_wp2_with (fail)
          refine ⟨HC3.out, ?_⟩
          clear hbes hC kp ko hne
          refine rg_cut 4 ?_
          go_wp2_with (at_builtin; refine Stop.mk ?_)
          refine Stop.out ?_
          refine wpList_app fr_et rfl rfl rfl rfl (HOW.out.below K3.out) HSRC.out (by unfold maxLen; omega) (by omega) (by omega) ?_
          intro a5 c5 w5 ho5 on5 at5
          have hnS : ∀ z, z < w.heap.size → ¬ (∃ y, oa = some y ∧ y.block = z) := by rintro z hz ⟨y, hy, rfl⟩; have := (HOW.out.block hy).1; omega
          have e5 : cellsF ps ++ q.list = cellsF (ps ++ [q]) := by rw [cellsF_append, cellsF_one]
          rw [e5] at ho5
          have oS : ∀ z, z < w.heap.size → ¬ (∃ y, oa = some y ∧ y.block = z) := hnS
          have KO := Lib.hid (show Only (fun k => ∃ y, oa = some y ∧ y.block = k) w2 w5 from (only_of_below K3.out _).trans on5)
          have hob5 : Blk w5 oc #[.slice oa m c] 22 := KO.out.blk HBW.out (oS oc (by omega))
          have co5 : w5.cell? ⟨oc, 0, none⟩ = some (.slice oa m c) := Blk.cell hob5 0 _ rfl
          have fo5 := Blk.free hob5 0
          have HO5 := Lib.hid ho5
          have HB5 := Lib.hid hob5
          have HR5 := Lib.hid (show RdB w5 rb y.2 from HRW.out.only KO.out (fun z hz => oS z (by omega)))
          have HOK5 := Lib.hid (show ∀ p ∈ ps ++ [q], p.ok w5 ∧ p.fresh w.heap.size ∧ p.sm ∧ p.apart a5 from fun p hp => by
            have hp2 : p.ok w2 ∧ p.fresh w.heap.size ∧ p.sm ∧ p.apart oa := by
              rcases List.mem_append.1 hp with h | h
              · exact HOKW.out p h
              · rw [List.mem_singleton] at h; subst h; exact HQW.out
            have ho3 := hp2.1.below K3.out
            exact ⟨ho3.app hp2.2.2.2 on5, hp2.2.1, hp2.2.2.1, hp2.2.2.2.grow ho3 at5⟩)
          have HON5 := Lib.hid (show Only (fun z => z = rb ∨ z = oc) w w5 from OW.out.trans' KO.out (fun z hz hs => absurd hs (oS z hz)))
          have z5 := on5.size
          clear ho5 at5 e5 hob5 hnS on5
          go_wp2_with (fail)
          refine rg_do 5 ?_
          go_wp2_with (fail)
          refine rg_end0 ?_
          have ho6 := (Only.refl (· = oc) w5).set 0 (.slice a5 (m + 1) c5)
          have HB6 := Lib.hid (show Blk (w5.setCell ⟨oc, 0, none⟩ (.slice a5 (m + 1) c5)) oc #[.slice a5 (m + 1) c5] 22 from (Blk.set HB5.out 0 _).congr rfl)
          have HO6 := Lib.hid (HO5.out.only ho6 (fun x hx h => by have := (HO5.out.block hx).1; omega))
          have HK6 := Lib.hid (show ∀ p ∈ ps ++ [q], p.ok (w5.setCell ⟨oc, 0, none⟩ (.slice a5 (m + 1) c5)) ∧ p.fresh w.heap.size ∧ p.sm ∧ p.apart a5 from fun p hp => by
            obtain ⟨g1, g2, g3, g4⟩ := HOK5.out p hp
            exact ⟨⟨g1.fr, g1.d.only ho6 (fun x hx _ h => by have := g2.1 x hx; omega), g1.c.only ho6 (fun x hx _ h => by have := g2.2.1 x hx; omega), g1.a.only ho6 (fun x hx _ h => by have := g2.2.2 x hx; omega)⟩, g2, g3, g4⟩)
          have HR6 := Lib.hid (show RdB (w5.setCell ⟨oc, 0, none⟩ (.slice a5 (m + 1) c5)) rb y.2 from HR5.out.only' ho6 (by omega) (fun k hk => by have := H1.out; omega))
          have HON6 := Lib.hid (show Only (fun z => z = rb ∨ z = oc) w _ from HON5.out.trans (ho6.mono (fun z _ h => Or.inr h)))
          have HM6 := Lib.hid (show m + 1 = (ps ++ [q]).length by rw [List.length_append, ← hm.out]; rfl)
          have HSP6 := Lib.hid (show RS = listG fu y.2 ((ps ++ [q]).map FM.f) by
            rw [hsp.out, HFU.out, HLL.out, listG_some (by rw [← HLL.out]; exact HX.out), List.map_append, ← QF.out]; rfl)
          have HFU6 := Lib.hid (show y.2.length ≤ fu by have := HY1.out; have := hfu.out; have := HFU.out; omega)
          have HLN6 := Lib.hid (show (ps ++ [q]).length + y.2.length ≤ L.length by rw [List.length_append]; have := HY1.out; have := hlen.out; simp; omega)
          have hmeas : lenOf ((w5.setCell ⟨oc, 0, none⟩ (.slice a5 (m + 1) c5)).cell? ⟨rb, 0, none⟩) < lenOf (wr.cell? ⟨rb, 0, none⟩) := by
            obtain ⟨A6, cap6, m6, rb6, rm6, _, _⟩ := HR6.out
            have r6 := Blk.cell rb6 0 _ rfl
            rw [r6, r3]
            show m6 < m3
            have := HY1.out
            have := RM.out
            omega
          clear ho6 fo5 co5 oS
          go_wp2_with (fail)
          exact ⟨⟨fu, y.2, ps ++ [q], a5, m + 1, c5, HSP6, HFU6, HLN6, HB6, HM6, HO6, HK6, HR6, HON6⟩, hmeas⟩
end Frm
end Go.Proofs.Ytcpjehgoeibbeaa

/- List: the call. -/
namespace Go.Proofs.Ytcpjehgoeibbeaa
open Go.RowKit
set_option linter.unusedVariables false
namespace Frm
open Var
set_option maxHeartbeats 2000000 in
set_option maxRecDepth 100000 in
theorem list_frame (b : Option Addr) (n cap : Nat) (L : List Int) (w : World) (hn : n = L.length) (hS : Sl .u8 w b cap L) (hl : L.length ≤ 1000000) :
    Calls Try.prog 10 #[.slice b n cap] w fun e w' => Below w.heap.size w w' ∧ (∀ l, listF L = some l → ∃ (ps : List FM) (a' : Option Addr) (c' m : Nat), e = .returned (.tuple #[.slice a' m c', .int .i64 0]) ∧ Hid (ps.map FM.f = l) ∧ Hid (m = ps.length) ∧ Hid (Fs w' a' c' ps) ∧ Hid (∀ p ∈ ps, p.sm)) ∧ (listF L = none → e = .returned (.tuple #[.slice none 0 0, .int .i64 2])) := by
  have HS := Lib.hid hS
  have HN := Lib.hid hn
  have hnb : n ≤ 1000000 := by omega
  have HL := Lib.hid hl
  clear hS hn hl
  obtain ⟨RS, hRS⟩ : ∃ RS, listF L = RS := ⟨_, rfl⟩
  have HRS := Lib.hid hRS
  rw [hRS]
  clear hRS
  have hb0 := Blk.new w #[.slice b n cap] 23
  have k1 := (Below.refl w.heap.size w).alloc (Nat.le_refl _) (.cells #[.slice b n cap] 23)
  have z1 : (w.alloc (.cells #[.slice b n cap] 23)).heap.size = w.heap.size + 1 := by simp
  go_enter Try.func10, Try.ntmps10
  go_upto_region 1 with (fail)
  generalize w.alloc (.cells #[.slice b n cap] 23) = w1 at *
  go_upto_region 2 with (fail)
  have hb1 := Blk.alloc hb0 (.cells #[.slice none 0 0] 22)
  have ho1 := Blk.new w1 #[.slice none 0 0] 22
  have k2 := k1.alloc (by omega) (.cells #[.slice none 0 0] 22)
  rw [z1] at ho1
  have z2 : (w1.alloc (.cells #[.slice none 0 0] 22)).heap.size = w.heap.size + 2 := by simp [z1]
  generalize w1.alloc (.cells #[.slice none 0 0] 22) = w2 at *
  have c0 : w2.cell? ⟨w.heap.size, 0, none⟩ = some (.slice b n cap) := Blk.cell hb1 0 _ rfl
  go_upto_region 3 with (fail)
  have hrb := Blk.alloc (Blk.new w2 #[.slice b n cap] 60) (.cells #[.pointer (some ⟨w.heap.size + 2, 0, none⟩)] 58)
  have hrp := Blk.new (w2.alloc (.cells #[.slice b n cap] 60)) #[.pointer (some ⟨w.heap.size + 2, 0, none⟩)] 58
  have hb3 := Blk.alloc (Blk.alloc hb1 (.cells #[.slice b n cap] 60)) (.cells #[.pointer (some ⟨w.heap.size + 2, 0, none⟩)] 58)
  have ho3 := Blk.alloc (Blk.alloc ho1 (.cells #[.slice b n cap] 60)) (.cells #[.pointer (some ⟨w.heap.size + 2, 0, none⟩)] 58)
  have k3 := (k2.alloc (by omega) (.cells #[.slice b n cap] 60)).alloc (by simp; omega) (.cells #[.pointer (some ⟨w.heap.size + 2, 0, none⟩)] 58)
  rw [World.size_alloc, z2] at hrp
  rw [z2] at hrb
  have z3 : ((w2.alloc (.cells #[.slice b n cap] 60)).alloc (.cells #[.pointer (some ⟨w.heap.size + 2, 0, none⟩)] 58)).heap.size = w.heap.size + 4 := by simp [z2]
  obtain ⟨w3, hw3⟩ : ∃ w3, (w2.alloc (.cells #[.slice b n cap] 60)).alloc (.cells #[.pointer (some ⟨w.heap.size + 2, 0, none⟩)] 58) = w3 := ⟨_, rfl⟩
  rw [hw3] at hrb hrp hb3 ho3 k3 z3 ⊢
  have hrd : RdB w3 (w.heap.size + 2) L := ⟨b, cap, n, hrb, HN.out, HS.out.below k3, fun x hx h0 => by
    have := sl_lt HS.out x hx h0
    omega⟩
  have HRD := Lib.hid hrd
  have HRP := Lib.hid hrp
  have HBB := Lib.hid hb3
  have HOC := Lib.hid ho3
  have K3 := Lib.hid k3
  clear hrb hrp hb0 hb1 ho1 hb3 ho3 k1 k2 k3 z1 z2 hw3 hrd c0
  have ke := (Below.refl w3.heap.size w3).alloc (Nat.le_refl _) (.cells #[.int .i64 0] 26)
  have KE := Lib.hid ke
  have be := Blk.new w3 #[.int .i64 0] 26
  have BE := Lib.hid be
  have SE := Lib.hid (show (w3.alloc (.cells #[.int .i64 0] 26)).heap.size = w3.heap.size + 1 by simp)
  clear ke be
  obtain ⟨we, hwe⟩ : ∃ we, w3.alloc (.cells #[.int .i64 0] 26) = we := ⟨_, rfl⟩
  have HWE := Lib.hid hwe
  rw [hwe] at KE BE SE
  clear hwe
  have hrt := read_list #[.pointer (some ⟨w.heap.size, 0, none⟩), .pointer (some ⟨w.heap.size + 2 + 1, 0, none⟩), .pointer (some ⟨w.heap.size + 1, 0, none⟩)] w3 (fun w' => ∃ l, listF L = some l ∧ LsR we w' (w.heap.size + 2) (w.heap.size + 1) we.heap.size l) (fun w' => listF L = none ∧ Only (fun z => z = w.heap.size + 2 ∨ z = w.heap.size + 1) we w')
    (by
      rw [HWE.out]
      refine (list1_any w.heap.size (w.heap.size + 1) (w.heap.size + 2 + 1) (w.heap.size + 2) b n cap L we HN.out (Blk.below HBB.out KE.out) (Blk.below HOC.out KE.out) (Blk.below HRP.out KE.out) (HRD.out.below KE.out) rfl rfl rfl HL.out).mono ?_
      rintro e w' ⟨hy, hno⟩
      cases hx : listF L with
      | none => exact Or.inr ⟨(hno hx).1, rfl, (hno hx).2.out⟩
      | some x => exact Or.inl ⟨(hy x hx).1, x, rfl, (hy x hx).2.out⟩)
    (by
      rintro w' ⟨x, _, ht⟩
      exact ht.on.blk BE.out (by omega))
    (by
      rintro w' ⟨_, ho⟩
      exact ho.blk BE.out (by omega))
  have HRT := Lib.hid hrt
  clear hrt
  go_wp2_with (fail)
  refine HRT.out.mono ?_
  rintro e w4 (⟨rfl, wm, ⟨l, hx, ht⟩, o3⟩ | ⟨rfl, wm, ⟨hx, ho⟩, o3⟩)
  · have HRX := Lib.hid (show RS = some l from HRS.out.symm.trans hx)
    obtain ⟨⟨ps, oa, m, c, hps, hob, hm, hos, hok⟩, hon⟩ := ht
    have OA := Lib.hid (show Only (fun z => z = w.heap.size + 2 ∨ z = w.heap.size + 1) w3 w4 from ((only_of_below KE.out _).trans hon).trans' o3 (fun z hz h => by omega))
    have c4 : w4.cell? ⟨w.heap.size + 1, 0, none⟩ = some (.slice oa m c) := Blk.cell (o3.blk hob (by omega)) 0 _ rfl
    have hos4 := hos.only o3 (fun x hx h => by have := (hos.block hx).1; have := SE.out; omega)
    have hok4 : ∀ p ∈ ps, p.ok w4 := fun p hp => by
      obtain ⟨g1, g2, g3⟩ := hok p hp
      exact ⟨g1.fr, g1.d.only o3 (fun y hy _ h => by have := g2.1 y hy; have := SE.out; omega), g1.c.only o3 (fun y hy _ h => by have := g2.2.1 y hy; have := SE.out; omega), g1.a.only o3 (fun y hy _ h => by have := g2.2.2 y hy; have := SE.out; omega)⟩
    have HF := Lib.hid (fs_of hos4 hok4).2
    have HM := Lib.hid hm
    have HPS := Lib.hid hps
    have HSM := Lib.hid (show ∀ p ∈ ps, p.sm from fun p hp => (hok p hp).2.2)
    clear hob hos hos4 hok hok4 hm hps hon o3 hx
    go_wp2_with (fail)
    go_returns
    refine ⟨below_onto K3.out OA.out K3.out.size (by intro z hz h; omega), fun y hy => ?_, (fun h => by rw [HRX.out] at h; cases h)⟩
    rw [HRX.out] at hy
    cases hy
    exact ⟨ps, oa, c, m, rfl, HPS, HM, HF, HSM⟩
  · have HRX := Lib.hid (show RS = none from HRS.out.symm.trans hx)
    have OA := Lib.hid (show Only (fun z => z = w.heap.size + 2 ∨ z = w.heap.size + 1) w3 w4 from ((only_of_below KE.out _).trans ho).trans' o3 (fun z hz h => by omega))
    clear ho o3 hx
    go_wp2_with (fail)
    go_returns
    exact ⟨below_onto K3.out OA.out K3.out.size (by intro z hz h; omega), (fun y hy => by rw [HRX.out] at hy; cases hy), fun _ => rfl⟩
end Frm
end Go.Proofs.Ytcpjehgoeibbeaa
