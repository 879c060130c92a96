/- Sent: copies of frames; Add. -/
import Derived.Test.YtidfimpchbkppaaSt4
import Derived.ArgAppend
namespace Go.Proofs.Ytidfimpchbkppaa
open Go.RowKit
set_option linter.unusedVariables false

section
variable {P : Program} {ops : Array Oper} {rest : List Oper} {o : Oper} {a : Act} {w : World} {Q : Exit → Act → World → Prop}
/-- One is appended to a slice without room: a new row. -/
theorem wpList_appGrow {t e : TypeId} {size bytes : Nat} (hE : ET P t e size bytes) (hgd : o.guard = none) {s x : Operand}
    (ho : o.op = .call { callee := .builtin .append, args := #[s, x], argTypes := #[t, t] })
    {av : Option Addr} {ad : Addr} {n c : Nat} {xs news : List Value} (hs : a.eval s = .slice av n n) (hx : a.eval x = .slice (some ad) 1 c)
    (hold : SrcAt w av n n size xs) (hsrc : SrcAt w (some ad) 1 c size news) (h63 : n + 1 ≤ maxLen) (hbytes : (n + 1) * bytes ≤ 140737488355328)
    (h : ∀ a' cap' w', OwnS w' w.heap.size e size a' (n + 1) cap' (xs ++ news) → Below w.heap.size w w' →
      wpList P ops Q rest (a.put o.dst (.slice a' (n + 1) cap')) w') : wpList P ops Q (o :: rest) a w := by
  cases av with
  | none =>
    obtain ⟨rfl, _⟩ := hold.2.1 rfl
    have hxs : xs = [] := by have := hold.1; rw [Nat.zero_mul] at this; exact List.length_eq_zero_iff.1 this
    subst hxs
    refine wpList_app hE hgd ho (base := w.heap.size) hs hx (OwnS.nil _ _ _ _) hsrc h63 hbytes (Nat.le_refl _) ?_
    intro a' cap' w' h1 h2 _
    exact h a' cap' w' h1 (below_of_only h2 (Nat.le_refl _) (by rintro k _ ⟨y, hy, _⟩; cases hy))
  | some av =>
    obtain ⟨i, z, ht, hi, hz, h1, h2, h3, h4⟩ := hE
    refine wpList_plain hgd fun K hK => ?_
    obtain ⟨v', w', hr, hown, hg⟩ := run_append_arg_grows (P := P) w t o.type e i z size bytes ht hi hz h1 h2 h3 h4 av n n xs hold.1 (hold.2.2.1 av rfl) ad 1 c news hsrc.1 (hsrc.2.2.1 ad rfl) (by omega) h63 hbytes
    have hshape : ∃ a' cap', v' = .slice a' (n + 1) cap' := by
      rcases hown.2 with ⟨h5, h6⟩ | ⟨g, c', cur, h5, _⟩
      · omega
      · exact ⟨_, _, h5⟩
    obtain ⟨a', cap', rfl⟩ := hshape
    unfold Oper.wp execOp
    simp only [ho, resolve, invoke, builtin, Sem.run_bind, Sem.run_pure, Result.andThen_ok, List.map_toArray, List.map_cons, List.map_nil, hs, hx, hr]
    exact hK _ _ (h a' cap' w' hown ⟨hg.os, hg.tape, hg.output, hg.size, fun k hk => hg.block k hk (by simp)⟩)
end
theorem Ps.src {w : World} {a : Option Addr} {n cap : Nat} {L : List Pk} (h : Ps w a cap L) (hn : n = L.length) : SrcAt w a n n 6 (cellsP L) := by
  subst hn
  refine ⟨cellsP_length L, fun ha => ?_, fun x hx j u hj => ?_, cellsP_one L⟩
  · have h1 := h.nul ha
    have h2 := h.le
    omega
  · have hlt : j < L.length * 6 := by rw [← cellsP_length]; exact (List.getElem?_eq_some_iff.1 hj).1
    obtain ⟨b, off, ha, hb, hc⟩ := h.cells (j / 6) (by omega)
    rw [hx] at ha
    cases ha
    have hdm : j / 6 * 6 + j % 6 = j := by omega
    rw [addr_add]
    have := hc (j % 6) u (by rw [← cellsP_get L (j / 6) (j % 6) (by omega) (by omega), hdm]; exact hj)
    rw [show off + j / 6 * 6 + j % 6 = off + j by omega] at this
    exact this

/-- The cells lie there, and stay while what is there stays. -/
def SrcUp (w : World) (a : Option Addr) (n c size : Nat) (cs : List Value) : Prop := ∀ w', Below w.heap.size w w' → SrcAt w' a n c size cs
theorem SrcUp.on {w w' : World} {a : Option Addr} {n c size : Nat} {cs : List Value} (h : SrcUp w a n c size cs) (hb : Below w.heap.size w w') : SrcUp w' a n c size cs := fun w2 h2 => h w2 (below_on hb h2 hb.size)
theorem OwnS.src {w : World} {base : Nat} {e : TypeId} {size n cap : Nat} {a : Option Addr} {xs : List Value} (h : OwnS w base e size a n cap xs) (h1 : ∀ u ∈ xs, u.oneCell' = true) : SrcUp w a n cap size xs := fun w' hb => by
  have h' := h.below hb
  refine ⟨h'.length, fun ha => h'.none_of ha, fun x hx j u hj => ?_, h1⟩
  obtain ⟨g, hg, _, _, hc, _⟩ := h'.at_ (List.getElem?_eq_some_iff.1 hj).1
  rw [hx] at hg
  cases hg
  rw [addr_add, Nat.zero_add, hc]
  exact hj
set_option maxRecDepth 100000 in
theorem fclone_any (a : Option Addr) (n c : Nat) (cs : List Value) (w : World) (h : SrcUp w a n c 30 cs) (hn : n ≤ 1000) :
    Calls Try.prog 74 #[.slice a n c] w fun e w' => Below w.heap.size w w' ∧ ∃ a' c', e = .returned (.slice a' n c') ∧ OwnS w' w.heap.size 51 30 a' n c' cs := by
  have hq : ∀ (w : World) (a : Option Addr) (n c n' c' : Nat), (binOp .eql 67 (.slice a n c) (.slice none n' c')).run Try.prog w = .ok (.bool a.isNone) w := fun w a n c n' c' => Lib.run_eql_slice_nil w _ _ a n c n' c' Try.underlying67
  cases a with
  | none =>
    obtain ⟨h1, h2, _⟩ := h w (Below.refl _ _)
    obtain ⟨rfl, rfl⟩ := h2 rfl
    have hcs : cs = [] := by rw [Nat.zero_mul] at h1; exact List.length_eq_zero_iff.1 h1
    subst hcs
    clear h h1 h2
    go_enter Try.func74, Try.ntmps74
    go_wp2_with (fail)
    go_returns
    exact ⟨Below.refl _ _, none, 0, rfl, OwnS.nil _ _ _ _⟩
  | some x =>
    have HS := Lib.hid h
    clear h
    go_enter Try.func74, Try.ntmps74
    go_wp2_with (at_builtin; refine Stop.mk ?_)
    refine Stop.out ?_
    refine wpList_app fr_et rfl rfl (base := w.heap.size) (xs := []) rfl rfl (OwnS.new w w.heap.size (Nat.le_refl _) 51 30 0 #[] (by simp [maxLen]) rfl) (HS.out _ ((Below.refl _ _).alloc (Nat.le_refl _) _)) (by simp only [maxLen]; omega) (by omega) (by simp) ?_
    intro a2 c2 w2 ho2 on2 _
    have b2 : Below w.heap.size w w2 := below_onto ((Below.refl _ _).alloc (Nat.le_refl _) _) on2 (by simp) (by rintro z hz ⟨y, hy, rfl⟩; cases hy; simp at hz)
    rw [Nat.zero_add, List.nil_append] at ho2
    have HO := Lib.hid ho2
    clear ho2 on2
    simp only [Nat.zero_add]
    go_wp2_with (fail)
    go_returns
    exact ⟨b2, a2, c2, rfl, HO.out⟩
theorem pclip_any (a : Option Addr) (n c : Nat) (w : World) (h : n ≤ c) (hm : c ≤ maxLen) (h0 : a = none → c = 0) :
    Calls Try.prog 75 #[.slice a n c] w fun e w' => e = .returned (.slice a n n) ∧ w' = w := by
  go_enter Try.func75, Try.ntmps75
  go_wp2_with (fail)
  go_returns
  exact ⟨rfl, rfl⟩

set_option maxRecDepth 100000 in
/-- Add of one that may not be. -/
theorem sadd_not (b : Nat) (p : Pk) (a : Option Addr) (n c : Nat) (has : Bool) (lg la lt top : Int) (w : World) (h : SB w b a n c has lg la lt top) (hp : PkOk p) (ht : u64b' top) (hno : p.pn < top ∨ 4611686018427387903 < p.pn) :
    Calls Try.prog 39 #[.pointer (some ⟨b, 0, none⟩), pkV p] w fun e w' => Below w.heap.size w w' ∧ e = .returned (.int .i64 2) := by
  unfold SB at h
  obtain ⟨pn, at_, size, el, after, fa, fn, fc⟩ := p
  obtain ⟨⟨p1, p2⟩, _, _, _⟩ := hp
  simp only [pkV] at p1 p2 hno ⊢
  have hblt := h.lt
  have hne : ¬ b = w.heap.size := by omega
  unfold u64b' at ht
  have HC1 := (h.alloc (.cells #[.int .u64 pn, .int .u64 at_, .int .u64 size, .bool el, .int .u64 after, .slice fa fn fc] 69)).cell 5 _ rfl
  have HC3 := (Blk.new w #[.int .u64 pn, .int .u64 at_, .int .u64 size, .bool el, .int .u64 after, .slice fa fn fc] 69).cell 0 _ rfl
  by_cases g1 : pn < top
  · go_enter Try.func39, Try.ntmps39
    go_wp2_with (fail)
    refine rg_start 14 ?_
    refine rg_same fun p hx hne' hC => ?_
    have k1 : ∀ z : Wd p, z.w.cell? ⟨b, 5, none⟩ = some (.int .u64 top) := fun z => by rw [hx z]; exact HC1
    have k3 : ∀ z : Wd p, z.w.cell? ⟨w.heap.size, 0, none⟩ = some (.int .u64 pn) := fun z => by rw [hx z]; exact HC3
    refine rg_quiet 0 [0,1,2,3,4,5,6,7,8,9,10,11,12,13] hC ?_
    simp only [pickD, List.map_cons, List.map_nil, List.getD_cons_zero, List.getD_cons_succ]; repeat (go_big_quiet_step (fail))
    refine wpQuiet_nil ?_
    refine rg_end ?_
    go_wp2_with (fail)
    go_returns
    exact ⟨((Below.refl _ _).alloc (Nat.le_refl _) _).drew, rfl⟩
  · have g2 : 4611686018427387903 < pn := by omega
    have g1' : decide (pn < top) = false := decide_eq_false g1
    have g2' : decide (4611686018427387903 < pn) = true := decide_eq_true g2
    go_enter Try.func39, Try.ntmps39
    go_wp2_with (fail)
    refine rg_start 14 ?_
    refine rg_same fun p hx hne' hC => ?_
    have k1 : ∀ z : Wd p, z.w.cell? ⟨b, 5, none⟩ = some (.int .u64 top) := fun z => by rw [hx z]; exact HC1
    have k3 : ∀ z : Wd p, z.w.cell? ⟨w.heap.size, 0, none⟩ = some (.int .u64 pn) := fun z => by rw [hx z]; exact HC3
    refine rg_quiet 0 [0,1,2,3,4,5,6,7,8,9,10,11,12,13] hC ?_
    simp only [pickD, List.map_cons, List.map_nil, List.getD_cons_zero, List.getD_cons_succ]; repeat (go_big_quiet_step (fail))
    refine wpQuiet_nil ?_
    refine rg_end ?_
    go_wp2_with (fail)
    go_returns
    exact ⟨((Below.refl _ _).alloc (Nat.le_refl _) _).drew, rfl⟩

set_option maxRecDepth 100000 in
set_option maxHeartbeats 4000000 in
/-- Add. -/
theorem sadd_any (b : Nat) (p : Pk) (cs : List Value) (L : List Pk) (a : Option Addr) (n c : Nat) (has : Bool) (lg la lt top : Int) (w : World) (h : SB w b a n c has lg la lt top) (hn : n = L.length) (hP : Ps w a c L) (hl : L.length ≤ 1000) (hp : PkOk p) (hfr : SrcUp w p.fa p.fn p.fc 30 cs) (hfn : p.fn ≤ 1000)
    (ht : u64b' top) (h1 : ¬ p.pn < top) (h2 : ¬ 4611686018427387903 < p.pn) :
    Calls Try.prog 39 #[.pointer (some ⟨b, 0, none⟩), pkV p] w fun e w' => Only (· = b) w w' ∧ e = .returned (.int .i64 0) ∧
      ∃ (a' : Option Addr) (c' : Nat), SB w' b a' (n + 1) c' has lg la (if p.el = true then p.at_ else lt) (p.pn + 1) ∧ (∀ x, a' = some x → x.block ≠ b ∧ w.heap.size ≤ x.block) ∧ ∃ (ff : Option Addr) (fk : Nat), Ps w' a' c' (L ++ [{ p with after := 0, fa := ff, fc := fk }]) := by
  unfold SB at h
  obtain ⟨pn, at_, size, el, after, fa, fn, fc⟩ := p
  obtain ⟨⟨p1, p2⟩, ⟨p3, p4⟩, ⟨p5, p6⟩, _⟩ := hp
  simp only [pkV] at *
  have hblt := h.lt
  have hne : ¬ b = w.heap.size := by omega
  unfold u64b' at ht
  have HC1 := (h.alloc (.cells #[.int .u64 pn, .int .u64 at_, .int .u64 size, .bool el, .int .u64 after, .slice fa fn fc] 69)).cell 5 _ rfl
  have HC3 := (Blk.new w #[.int .u64 pn, .int .u64 at_, .int .u64 size, .bool el, .int .u64 after, .slice fa fn fc] 69).cell 0 _ rfl
  have g1' : decide (pn < top) = false := decide_eq_false h1
  have g2' : decide (4611686018427387903 < pn) = false := decide_eq_false h2
  have b1 : Below w.heap.size w (w.alloc (.cells #[.int .u64 pn, .int .u64 at_, .int .u64 size, .bool el, .int .u64 after, .slice fa fn fc] 69)).drew := ((Below.refl _ _).alloc (Nat.le_refl _) _).drew
  have x1 : Blk (w.alloc (.cells #[.int .u64 pn, .int .u64 at_, .int .u64 size, .bool el, .int .u64 after, .slice fa fn fc] 69)).drew w.heap.size #[.int .u64 pn, .int .u64 at_, .int .u64 size, .bool el, .int .u64 after, .slice fa fn fc] 69 := (Blk.new w _ _).drew
  have z1 : (w.alloc (.cells #[.int .u64 pn, .int .u64 at_, .int .u64 size, .bool el, .int .u64 after, .slice fa fn fc] 69)).drew.heap.size = w.heap.size + 1 := by simp [World.drew]
  have HB := Lib.hid h
  have HP := Lib.hid hP
  have HN := Lib.hid hn
  have HFR := Lib.hid hfr
  clear h hP hn hfr
  go_enter Try.func39, Try.ntmps39
  go_wp2_with (fail)
  refine rg_start 14 ?_
  refine rg_same fun p hx hne' hC => ?_
  have k1 : ∀ z : Wd p, z.w.cell? ⟨b, 5, none⟩ = some (.int .u64 top) := fun z => by rw [hx z]; exact HC1
  have k3 : ∀ z : Wd p, z.w.cell? ⟨w.heap.size, 0, none⟩ = some (.int .u64 pn) := fun z => by rw [hx z]; exact HC3
  refine rg_quiet 0 [0,1,2,3,4,5,6,7,8,9,10,11,12,13] hC ?_
  simp only [pickD, List.map_cons, List.map_nil, List.getD_cons_zero, List.getD_cons_succ]; repeat (go_big_quiet_step (fail))
  refine wpQuiet_nil ?_
  refine rg_end ?_
  clear HC1 HC3
  obtain ⟨w1, hw1⟩ : ∃ w1, (w.alloc (.cells #[.int .u64 pn, .int .u64 at_, .int .u64 size, .bool el, .int .u64 after, .slice fa fn fc] 69)).drew = w1 := ⟨_, rfl⟩
  rw [hw1] at b1 x1 z1 ⊢
  have c4 := x1.cell 4 _ rfl
  have f4 := x1.free 4
  have x2 : Blk (w1.setCell ⟨w.heap.size, 4, none⟩ (.int .u64 0)) w.heap.size #[.int .u64 pn, .int .u64 at_, .int .u64 size, .bool el, .int .u64 0, .slice fa fn fc] 69 := (x1.set 4 (.int .u64 0)).congr (by simp)
  have b2 : Below w.heap.size w (w1.setCell ⟨w.heap.size, 4, none⟩ (.int .u64 0)) := b1.setCell (Nat.le_refl _) _
  have z2 : (w1.setCell ⟨w.heap.size, 4, none⟩ (.int .u64 0)).heap.size = w.heap.size + 1 := by rw [← z1]; simp
  have d5 := x2.cell 5 _ rfl
  have HX2 := Lib.hid x2
  have HB2 := Lib.hid b2
  clear x1 x2 b1 b2 z1
  go_wp2_with (fail)
  clear f4 c4
  obtain ⟨w2, hw2⟩ : ∃ w2, w1.setCell ⟨w.heap.size, 4, none⟩ (.int .u64 0) = w2 := ⟨_, rfl⟩
  rw [hw2] at HX2 HB2 z2 d5 ⊢
  clear hw2 hw1
  refine (fclone_any fa fn fc cs w2 (HFR.out.on HB2.out) hfn).mono ?_
  rintro e w3 ⟨hb3, ff, fk, rfl, ho3⟩
  have x3 := HX2.out.below hb3
  have f5 := x3.free 5
  have e5 := x3.cell 5 _ rfl
  have x4 : Blk (w3.setCell ⟨w.heap.size, 5, none⟩ (.slice ff fn fk)) w.heap.size #[.int .u64 pn, .int .u64 at_, .int .u64 size, .bool el, .int .u64 0, .slice ff fn fk] 69 := (x3.set 5 (.slice ff fn fk)).congr (by simp)
  have b4 : Below w.heap.size w (w3.setCell ⟨w.heap.size, 5, none⟩ (.slice ff fn fk)) := (below_on HB2.out hb3 (by omega)).setCell (Nat.le_refl _) _
  have z4 : w.heap.size + 1 ≤ (w3.setCell ⟨w.heap.size, 5, none⟩ (.slice ff fn fk)).heap.size := by have := hb3.size; simp; omega
  have HX4 := Lib.hid x4
  have HB4 := Lib.hid b4
  clear d5 x3 x4 b4 ho3 hb3 HX2 HB2 z2
  go_wp2_with (fail)
  clear f5 e5
  obtain ⟨w4, hw4⟩ : ∃ w4, w3.setCell ⟨w.heap.size, 5, none⟩ (.slice ff fn fk) = w4 := ⟨_, rfl⟩
  rw [hw4] at HX4 HB4 z4 ⊢
  clear hw4
  have hlt4 : w.heap.size < w4.heap.size := by omega
  have hblt4 : b < w4.heap.size := by omega
  have HS4 := Lib.hid (Blk.below HB.out HB4.out)
  have HP4 := Lib.hid (HP.out.below HB4.out)
  have s0 := HS4.out.cell 0 _ rfl
  have y0 := HX4.out.cell 0 _ rfl
  have y1 := HX4.out.cell 1 _ rfl
  have y2 := HX4.out.cell 2 _ rfl
  have y3 := HX4.out.cell 3 _ rfl
  have y4 := HX4.out.cell 4 _ rfl
  have y5 := HX4.out.cell 5 _ rfl
  refine rg_start 14 ?_
  refine rg_below fun p hx hne2 hC hbel => ?_
  have k0 : ∀ z : Wd p, z.w.cell? ⟨b, 0, none⟩ = some (.slice a n c) := fun z => (hx z _ _ _ hblt4).trans s0
  have k1 : ∀ z : Wd p, z.w.cell? ⟨w.heap.size, 0, none⟩ = some (.int .u64 pn) := fun z => (hx z _ _ _ hlt4).trans y0
  have k2 : ∀ z : Wd p, z.w.cell? ⟨w.heap.size, 1, none⟩ = some (.int .u64 at_) := fun z => (hx z _ _ _ hlt4).trans y1
  have k3 : ∀ z : Wd p, z.w.cell? ⟨w.heap.size, 2, none⟩ = some (.int .u64 size) := fun z => (hx z _ _ _ hlt4).trans y2
  have k4 : ∀ z : Wd p, z.w.cell? ⟨w.heap.size, 3, none⟩ = some (.bool el) := fun z => (hx z _ _ _ hlt4).trans y3
  have k5 : ∀ z : Wd p, z.w.cell? ⟨w.heap.size, 4, none⟩ = some (.int .u64 0) := fun z => (hx z _ _ _ hlt4).trans y4
  have k6 : ∀ z : Wd p, z.w.cell? ⟨w.heap.size, 5, none⟩ = some (.slice ff fn fk) := fun z => (hx z _ _ _ hlt4).trans y5
  refine rg_quiet 7 [0,1,2,3,4,5,7] hC ?_
  simp only [pickD, List.map_cons, List.map_nil, List.getD_cons_zero, List.getD_cons_succ]; repeat (go_big_quiet_step (fail))
  refine wpQuiet_nil ?_
  refine rg_among [6, 8] ?_
  simp only [List.forall_mem_cons, List.getD_cons_zero, List.getD_cons_succ]
  refine ⟨?_, ?_, by simp⟩
  · go_wp2_with (fail)
    refine (pclip_any a n c _ (by have := HP4.out.le; have := HN.out; omega) HP4.out.max HP4.out.nul).mono ?_
    rintro e w5 ⟨rfl, rfl⟩
    go_wp2_with (fail)
    refine ⟨hbel _ (by repeat first | exact Below.refl _ _ | exact ⟨rfl, rfl, rfl, Nat.le_refl _, fun _ _ => rfl⟩ | apply Below.drew | refine Below.alloc ?_ (by simp) _), ?_⟩
    refine rg_act 8 ?_
    go_wp2_with (fail)
    refine ⟨hbel _ (by repeat first | exact Below.refl _ _ | exact ⟨rfl, rfl, rfl, Nat.le_refl _, fun _ _ => rfl⟩ | apply Below.drew | refine Below.alloc ?_ (by simp) _), ?_⟩
    refine rg_act 9 ?_
    go_wp2_with (at_builtin; refine Stop.mk ?_)
    refine Stop.out ?_
    have hnews := SrcAt.pk w4 ⟨pn, at_, size, el, 0, ff, fn, fk⟩ 69
    refine wpList_appGrow pk_et rfl rfl rfl rfl ((HP4.out.below (by repeat first | exact Below.refl _ _ | exact ⟨rfl, rfl, rfl, Nat.le_refl _, fun _ _ => rfl⟩ | apply Below.drew | refine Below.alloc ?_ (by simp) _)).src HN.out) hnews (by simp only [maxLen]; have := HN.out; omega) (by have := HN.out; omega) ?_
    intro a5 c5 w5 ho5 hb5
    have b5 : Below w4.heap.size w4 w5 := below_on (show Below w4.heap.size w4 (w4.alloc (.cells #[.int .u64 pn, .int .u64 at_, .int .u64 size, .bool el, .int .u64 0, .slice ff fn fk] 69)).drew from ((Below.refl _ _).alloc (Nat.le_refl _) _).drew) hb5 (by simp [World.drew])
    rw [← cellsP_append] at ho5
    have HO5 := Lib.hid ho5
    have HB5 := Lib.hid b5
    have hC5 := hbel _ ⟨b5.os, b5.tape, b5.output, b5.size, b5.block⟩
    have u5 := Blk.below HS4.out b5
    have v0 := u5.cell 0 _ rfl
    have m0 := u5.free 0
    have HU5 := Lib.hid u5
    have HV5 := Lib.hid (HX4.out.below b5)
    clear ho5 b5 hb5 hnews u5
    go_wp2_with (fail)
    refine ⟨hC5, ?_⟩
    have j0 := HV5.out.cell 0 _ rfl
    have j1 := HV5.out.cell 1 _ rfl
    have j3 := HV5.out.cell 3 _ rfl
    have r4 := HU5.out.cell 4 _ rfl
    have r5 := HU5.out.cell 5 _ rfl
    have m4 := HU5.out.free 4
    have m5 := HU5.out.free 5
    refine rg_quiet 1 [10,11,12] hC5 ?_
    simp only [pickD, List.map_cons, List.map_nil, List.getD_cons_zero, List.getD_cons_succ]; repeat (go_big_quiet_step (fail))
    refine wpQuiet_nil ?_
    refine rg_cut 13 ?_
    go_wp2
    refine rg_end0 ?_
    cases el with
    | true =>
      go_wp2_with (fail)
      go_returns
      have on5 : Only (· = b) w w5 := only_of_below (below_on HB4.out HB5.out (by omega)) _
      have o56 := (((Only.refl (· = b) w5).set 0 (.slice a5 (n + 1) c5)).set 5 (.int .u64 (pn + 1))).set 4 (.int .u64 at_)
      have hu := ((HU5.out.set 0 (.slice a5 (n + 1) c5)).set 5 (.int .u64 (pn + 1))).set 4 (.int .u64 at_)
      refine ⟨on5.trans o56, rfl, a5, c5, hu.congr (by simp), fun x hx => ?_, ff, fk, ?_⟩
      · have h9 := (HO5.out.block hx).1
        have h8 := HB4.out.size
        simp [World.drew] at h9
        exact ⟨by omega, by omega⟩
      refine (HO5.out.ps ?_).2.only o56 (fun x hx he => ?_)
      · intro q hq
        rcases List.mem_append.1 hq with hq | hq
        · exact HP4.out.ok q hq
        · rw [List.mem_singleton.1 hq]
          exact ⟨⟨p1, p2⟩, ⟨p3, p4⟩, ⟨p5, p6⟩, by unfold u64b'; simp⟩
      · have := (HO5.out.block hx).1
        simp [World.drew] at this
        omega
    | false =>
      go_wp2_with (fail)
      go_returns
      have on5 : Only (· = b) w w5 := only_of_below (below_on HB4.out HB5.out (by omega)) _
      have o56 := (((Only.refl (· = b) w5).set 0 (.slice a5 (n + 1) c5)).set 5 (.int .u64 (pn + 1)))
      have hu := ((HU5.out.set 0 (.slice a5 (n + 1) c5)).set 5 (.int .u64 (pn + 1)))
      refine ⟨on5.trans o56, rfl, a5, c5, hu.congr (by simp), fun x hx => ?_, ff, fk, ?_⟩
      · have h9 := (HO5.out.block hx).1
        have h8 := HB4.out.size
        simp [World.drew] at h9
        exact ⟨by omega, by omega⟩
      refine (HO5.out.ps ?_).2.only o56 (fun x hx he => ?_)
      · intro q hq
        rcases List.mem_append.1 hq with hq | hq
        · exact HP4.out.ok q hq
        · rw [List.mem_singleton.1 hq]
          exact ⟨⟨p1, p2⟩, ⟨p3, p4⟩, ⟨p5, p6⟩, by unfold u64b'; simp⟩
      · have := (HO5.out.block hx).1
        simp [World.drew] at this
        omega
  · go_wp2_with (fail)
    refine ⟨hbel _ (by repeat first | exact Below.refl _ _ | exact ⟨rfl, rfl, rfl, Nat.le_refl _, fun _ _ => rfl⟩ | apply Below.drew | refine Below.alloc ?_ (by simp) _), ?_⟩
    refine rg_act 6 ?_
    go_wp2_with (fail)
    refine (pclip_any a n c _ (by have := HP4.out.le; have := HN.out; omega) HP4.out.max HP4.out.nul).mono ?_
    rintro e w5 ⟨rfl, rfl⟩
    go_wp2_with (fail)
    refine ⟨hbel _ (by repeat first | exact Below.refl _ _ | exact ⟨rfl, rfl, rfl, Nat.le_refl _, fun _ _ => rfl⟩ | apply Below.drew | refine Below.alloc ?_ (by simp) _), ?_⟩
    refine rg_act 9 ?_
    go_wp2_with (at_builtin; refine Stop.mk ?_)
    refine Stop.out ?_
    have hnews := SrcAt.pk w4 ⟨pn, at_, size, el, 0, ff, fn, fk⟩ 69
    refine wpList_appGrow pk_et rfl rfl rfl rfl ((HP4.out.below (by repeat first | exact Below.refl _ _ | exact ⟨rfl, rfl, rfl, Nat.le_refl _, fun _ _ => rfl⟩ | apply Below.drew | refine Below.alloc ?_ (by simp) _)).src HN.out) hnews (by simp only [maxLen]; have := HN.out; omega) (by have := HN.out; omega) ?_
    intro a5 c5 w5 ho5 hb5
    have b5 : Below w4.heap.size w4 w5 := below_on (show Below w4.heap.size w4 (w4.alloc (.cells #[.int .u64 pn, .int .u64 at_, .int .u64 size, .bool el, .int .u64 0, .slice ff fn fk] 69)).drew from ((Below.refl _ _).alloc (Nat.le_refl _) _).drew) hb5 (by simp [World.drew])
    rw [← cellsP_append] at ho5
    have HO5 := Lib.hid ho5
    have HB5 := Lib.hid b5
    have hC5 := hbel _ ⟨b5.os, b5.tape, b5.output, b5.size, b5.block⟩
    have u5 := Blk.below HS4.out b5
    have v0 := u5.cell 0 _ rfl
    have m0 := u5.free 0
    have HU5 := Lib.hid u5
    have HV5 := Lib.hid (HX4.out.below b5)
    clear ho5 b5 hb5 hnews u5
    go_wp2_with (fail)
    refine ⟨hC5, ?_⟩
    have j0 := HV5.out.cell 0 _ rfl
    have j1 := HV5.out.cell 1 _ rfl
    have j3 := HV5.out.cell 3 _ rfl
    have r4 := HU5.out.cell 4 _ rfl
    have r5 := HU5.out.cell 5 _ rfl
    have m4 := HU5.out.free 4
    have m5 := HU5.out.free 5
    refine rg_quiet 1 [10,11,12] hC5 ?_
    simp only [pickD, List.map_cons, List.map_nil, List.getD_cons_zero, List.getD_cons_succ]; repeat (go_big_quiet_step (fail))
    refine wpQuiet_nil ?_
    refine rg_cut 13 ?_
    go_wp2
    refine rg_end0 ?_
    cases el with
    | true =>
      go_wp2_with (fail)
      go_returns
      have on5 : Only (· = b) w w5 := only_of_below (below_on HB4.out HB5.out (by omega)) _
      have o56 := (((Only.refl (· = b) w5).set 0 (.slice a5 (n + 1) c5)).set 5 (.int .u64 (pn + 1))).set 4 (.int .u64 at_)
      have hu := ((HU5.out.set 0 (.slice a5 (n + 1) c5)).set 5 (.int .u64 (pn + 1))).set 4 (.int .u64 at_)
      refine ⟨on5.trans o56, rfl, a5, c5, hu.congr (by simp), fun x hx => ?_, ff, fk, ?_⟩
      · have h9 := (HO5.out.block hx).1
        have h8 := HB4.out.size
        simp [World.drew] at h9
        exact ⟨by omega, by omega⟩
      refine (HO5.out.ps ?_).2.only o56 (fun x hx he => ?_)
      · intro q hq
        rcases List.mem_append.1 hq with hq | hq
        · exact HP4.out.ok q hq
        · rw [List.mem_singleton.1 hq]
          exact ⟨⟨p1, p2⟩, ⟨p3, p4⟩, ⟨p5, p6⟩, by unfold u64b'; simp⟩
      · have := (HO5.out.block hx).1
        simp [World.drew] at this
        omega
    | false =>
      go_wp2_with (fail)
      go_returns
      have on5 : Only (· = b) w w5 := only_of_below (below_on HB4.out HB5.out (by omega)) _
      have o56 := (((Only.refl (· = b) w5).set 0 (.slice a5 (n + 1) c5)).set 5 (.int .u64 (pn + 1)))
      have hu := ((HU5.out.set 0 (.slice a5 (n + 1) c5)).set 5 (.int .u64 (pn + 1)))
      refine ⟨on5.trans o56, rfl, a5, c5, hu.congr (by simp), fun x hx => ?_, ff, fk, ?_⟩
      · have h9 := (HO5.out.block hx).1
        have h8 := HB4.out.size
        simp [World.drew] at h9
        exact ⟨by omega, by omega⟩
      refine (HO5.out.ps ?_).2.only o56 (fun x hx he => ?_)
      · intro q hq
        rcases List.mem_append.1 hq with hq | hq
        · exact HP4.out.ok q hq
        · rw [List.mem_singleton.1 hq]
          exact ⟨⟨p1, p2⟩, ⟨p3, p4⟩, ⟨p5, p6⟩, by unfold u64b'; simp⟩
      · have := (HO5.out.block hx).1
        simp [World.drew] at this
        omega
end Go.Proofs.Ytidfimpchbkppaa
