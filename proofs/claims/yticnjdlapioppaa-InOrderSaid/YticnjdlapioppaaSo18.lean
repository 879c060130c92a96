/- In: the closure read. -/
import Derived.Test.YticnjdlapioppaaSo17
import Derived.Test.YticnjdlapioppaaQuie
namespace Go.Proofs.Yticnjdlapioppaa
open Go.RowKit
set_option linter.unusedVariables false

section
variable {P : Program} {ops : Array Oper} {rest : List Oper} {o : Oper} {a : Act} {w : World} {Q : Exit → Act → World → Prop}
theorem wpList_appE {t e : TypeId} {size bytes : Nat} (hE : ET P t e size bytes) (hgd : o.guard = none) {s x : Operand}
    (ho : o.op = .call { callee := .builtin .append, args := #[s, x], argTypes := #[t, t] })
    {base : Nat} {av ad : Option Addr} {n cap m c k : Nat} {xs news : List Value} (hs : a.eval s = .slice av n cap) (hx : a.eval x = .slice ad m c) (hk : n + m = k)
    (hown : OwnS w base e size av n cap xs) (hsrc : SrcAt w ad m c size news) (h63 : n + m ≤ maxLen) (hbytes : (n + m) * bytes ≤ 140737488355328) (hbase : base ≤ w.heap.size)
    (h : ∀ a' cap' w', OwnS w' base e size a' k cap' (xs ++ news) → Only (fun k => ∃ y, av = some y ∧ y.block = k) w w' → (∀ y, a' = some y → (∃ z, av = some z ∧ y.block = z.block) ∨ y.block = w.heap.size) →
      wpList P ops Q rest (a.put o.dst (.slice a' k cap')) w') : wpList P ops Q (o :: rest) a w := by
  subst hk
  exact wpList_app hE hgd ho hs hx hown hsrc h63 hbytes hbase h
end
theorem take_sub (T : List Int) (o n : Nat) : T.take o ++ sub T o n = T.take (o + n) := by
  unfold sub
  rw [← List.take_add]
section
variable {w w' : World} {T : List Int} {q : Nat} {Z Z' : Nat → Prop} {s s' : ISt} {L : List Pc}
theorem InM.zmono (h : InM w T q Z s L) (hZ : ∀ b, b < w.heap.size → Z' b → Z b) : InM w T q Z' s L :=
  ⟨h.blk, h.ok, h.buf, fun x hx h0 => ⟨(h.bq x hx h0).1, fun h9 => (h.bq x hx h0).2 (hZ _ (h.buf.ints.lt x hx (by rw [sub_length h.le]; exact h0)) h9)⟩, h.le, h.row, h.ln, fun x hx h0 => ⟨(h.lq x hx h0).1, fun h9 => (h.lq x hx h0).2 (hZ _ (h.row.lt x hx h0) h9)⟩, h.gp,
    fun p hp x hx => ⟨(h.pq p hp x hx).1, fun h9 => (h.pq p hp x hx).2 (hZ _ (by
      obtain ⟨o, h1, h2, h3, h4, h5⟩ := h.gp p hp
      exact h5.ints.lt x hx (by rw [sub_length h3]; exact h4)) h9)⟩, h.apart, h.mx, h.top, h.fin, h.frr⟩
theorem InM.get {a2 : Option Addr} {c2 m : Nat} {en : Bool} (h : InM w T q Z s L) (hb : Only (· = q) w w') (hm : m ≤ s.bn) (hI : IB w' q { s with ba := a2, bn := s.bn - m, bc := c2, rd := s.rd + m, fr := en }) (hf : Fresh w w' a2 c2 ((sub T s.rd s.bn).drop m)) (hZ : ∀ b, Z b → b < w.heap.size)
    (hen : en = (s.hf && decide (s.rd + m = s.fin))) : InM w' T q Z { s with ba := a2, bn := s.bn - m, bc := c2, rd := s.rd + m, fr := en } L := by
  obtain ⟨k1, k2, k3⟩ := h.own hb
  have hok := h.ok
  unfold IOk at hok
  have hle := h.le
  have hq := h.blk.lt
  have hff := hf.1
  rw [sub_drop] at hff
  refine ⟨hI, ⟨?_, by simp only; omega, hok.2.2⟩, hff, fun x hx _ => ⟨by have := hf.2 x hx; omega, fun h9 => by have := hf.2 x hx; have := hZ _ h9; omega⟩, by simp only; omega, k2, h.ln, h.lq, fun p hp => (k3 p hp).mono (by simp only; omega), h.pq, h.apart, h.mx, h.top, h.fin, fun h9 => ?_⟩
  · simp only
    have := h.mx
    omega
  · simp only at h9
    rw [hen] at h9
    simp at h9
    exact ⟨by have := h.fin h9.1; simp only; omega, h9.1⟩
end
def Zf (bg be : Nat) (ga : Option Addr) (b : Nat) : Prop := b = bg ∨ b = be ∨ ∃ y, ga = some y ∧ y.block = b
def Zz (h : Nat) (ga : Option Addr) (b : Nat) : Prop := b = h + 1 ∨ Zf (h + 4) (h + 5) ga b
/-- What the law's variables hold. -/
structure RS (T : List Int) (h base : Nat) (va : Option Addr) (vc byv : Nat) (s : ISt) (L : List Pc) (ga : Option Addr) (gc : Nat) (w : World) : Prop where
  inm : InM w T (h + 2) (Zz h ga) s L
  got : OwnS w base 5 1 ga s.rd gc (bytesV (T.take s.rd))
  xb : Blk w h #[.slice va T.length vc] 47
  xy : Blk w (h + 1) #[.int .u8 byv] 5
  xi : Blk w (h + 3) #[.pointer (some ⟨h + 2, 0, none⟩)] 98
  xg : Blk w (h + 4) #[.slice ga s.rd gc] 47
  xe : Blk w (h + 5) #[.bool s.fr] 4
  txt : Sl .u8 w va vc T
  vq : ∀ x, va = some x → 0 < T.length → x.block < h
  lo : h + 6 ≤ base
  hi : base ≤ w.heap.size
  by8 : byv ≤ 255
section
variable {T : List Int} {h base : Nat} {va : Option Addr} {vc byv : Nat} {s s' : ISt} {L L' : List Pc} {ga : Option Addr} {gc : Nat} {w w' : World}
theorem RS.zlt (r : RS T h base va vc byv s L ga gc w) : ∀ b, Zz h ga b → b < w.heap.size := fun b hb => by
  have h1 := r.lo
  have h2 := r.hi
  rcases hb with hb | hb | hb | ⟨y, hy, hb⟩
  · omega
  · omega
  · omega
  · have := (r.got.block hy).2.1; omega
theorem RS.below (r : RS T h base va vc byv s L ga gc w) (hb : Below w.heap.size w w') : RS T h base va vc byv s L ga gc w' :=
  ⟨r.inm.below hb, r.got.below hb, r.xb.below hb, r.xy.below hb, r.xi.below hb, r.xg.below hb, r.xe.below hb, r.txt.below hb, r.vq, r.lo, Nat.le_trans r.hi hb.size, r.by8⟩
theorem RS.put (r : RS T h base va vc byv s L ga gc w) (hb : Only (· = h + 2) w w') (hI : InM w' T (h + 2) (Zz h ga) s' L') (hrd : s'.rd = s.rd) (hfr : s'.fr = s.fr) : RS T h base va vc byv s' L' ga gc w' := by
  have h1 := r.lo
  refine ⟨hI, by rw [hrd]; exact r.got.only hb (fun x hx => by have := (r.got.block hx).1; omega), hb.blk r.xb (by omega), hb.blk r.xy (by omega), hb.blk r.xi (by omega), by rw [hrd]; exact hb.blk r.xg (by omega), by rw [hfr]; exact hb.blk r.xe (by omega), r.txt.only hb (fun x hx h0 => by have := r.vq x hx h0; omega), r.vq, r.lo, Nat.le_trans r.hi hb.size, r.by8⟩
end
theorem RS.by1 {T : List Int} {h base : Nat} {va : Option Addr} {vc byv : Nat} {s : ISt} {L : List Pc} {ga : Option Addr} {gc : Nat} {w : World} (r : RS T h base va vc byv s L ga gc w) : RS T h base va vc 1 s L ga gc (w.setCell ⟨h + 1, 0, none⟩ (.int .u8 1)) := by
  have hb := (Only.refl (· = h + 1) w).set 0 (.int .u8 1)
  have h1 := r.lo
  have h2 := r.hi
  exact ⟨r.inm.only hb (by omega) (fun b hb => .inl hb), r.got.only hb (fun x hx h9 => by have := (r.got.block hx).1; omega), hb.blk r.xb (by omega), (r.xy.set 0 _).congr (by simp), hb.blk r.xi (by omega), hb.blk r.xg (by omega), hb.blk r.xe (by omega), r.txt.only hb (fun x hx h0 h9 => by have := r.vq x hx h0; omega), r.vq, r.lo, Nat.le_trans r.hi hb.size, by omega⟩
/-- What Get gives, in one way of saying. -/
structure GetR (T : List Int) (q : Nat) (Z : Nat → Prop) (s : ISt) (L : List Pc) (m : Nat) (en : Bool) (da : Option Addr) (dc : Nat) (w w' : World) : Prop where
  only : Only (· = q) w w'
  data : Sl .u8 w' da dc (sub T s.rd m)
  inm : ∃ a2 c2, InM w' T q Z { s with ba := a2, bn := s.bn - m, bc := c2, rd := s.rd + m, fr := en } L
set_option maxRecDepth 100000 in
theorem iget_law (T : List Int) (q : Nat) (Z : Nat → Prop) (s : ISt) (L : List Pc) (n m : Nat) (en : Bool) (w : World) (h : InM w T q Z s L) (hZ : ∀ b, Z b → b < w.heap.size) (hfr : s.fr = false) (hn : n ≤ 100000) (hm : min n s.bn = m) (hen : en = (s.hf && decide (s.rd + m = s.fin))) :
    Calls Try.prog 28 #[.pointer (some ⟨q, 0, none⟩), .int .i64 n] w fun e w' => ∃ da dc, GetR T q Z s L m en da dc w w' ∧ ((m = 0 ∧ en = false ∧ da = none ∧ dc = 0 ∧ e = .returned (.tuple #[.slice none 0 0, .bool false, .int .i64 4])) ∨ e = .returned (.tuple #[.slice da m dc, .bool en, .int .i64 0])) := by
  refine (iget_any q s (sub T s.rd s.bn) n m en w h.blk h.ok (sub_length h.le).symm h.buf (fun x hx h0 => (h.bq x hx h0).1) hfr hm hn hen).mono ?_
  rintro e w1 ⟨h1, a1, c1, a2, c2, h2, h3, h4, h5, h6⟩
  have hG := h.get h1 (by omega) h4 h3 hZ hen
  have h2' := h2.1
  rw [sub_take (by omega)] at h2'
  by_cases hc : en = false ∧ m = 0
  · refine ⟨none, 0, ⟨h1, ?_, a2, c2, hG⟩, .inl ⟨hc.2, hc.1, rfl, rfl, h5 hc⟩⟩
    rw [hc.2]
    simpa [sub] using Sl.nil .u8 w1
  · refine ⟨a1, c1, ⟨h1, h2', a2, c2, hG⟩, .inr (h6 ?_)⟩
    cases en with
    | true => exact .inl rfl
    | false => exact .inr (fun h9 => hc ⟨rfl, h9⟩)
theorem RS.read {T : List Int} {h base : Nat} {va : Option Addr} {vc byv : Nat} {s : ISt} {L : List Pc} {ga ga2 da : Option Addr} {gc gc2 dc m : Nat} {en : Bool} {w w1 w4 : World} (r : RS T h base va vc byv s L ga gc w) (g : GetR T (h + 2) (Zz h ga) s L m en da dc w w1) (hm : m ≤ s.bn)
    (ho : OwnS w4 base 5 1 ga2 (s.rd + m) gc2 (bytesV (T.take (s.rd + m)))) (hat : ∀ y, ga2 = some y → (∃ z, ga = some z ∧ y.block = z.block) ∨ y.block = w1.heap.size) (hon : Only (Zf (h + 4) (h + 5) ga) w1 w4) (hxg : Blk w4 (h + 4) #[.slice ga2 (s.rd + m) gc2] 47) (hxe : Blk w4 (h + 5) #[.bool en] 4) :
    ∃ s', RS T h base va vc byv s' L ga2 gc2 w4 ∧ s'.hf = s.hf ∧ s'.rd = s.rd + m ∧ s'.bn = s.bn - m ∧ s'.fr = en ∧ Only (fun b => b = h + 2 ∨ Zf (h + 4) (h + 5) ga b) w w4 := by
  obtain ⟨a2, c2, hI⟩ := g.inm
  have h1 := r.lo
  have h2 := r.hi
  have h3 := g.only.size
  have nz : ∀ b, b < base → b ≠ h + 4 → b ≠ h + 5 → ¬ Zf (h + 4) (h + 5) ga b := fun b k1 k2 k3 k4 => by
    rcases k4 with k4 | k4 | ⟨y, hy, k4⟩
    · exact k2 k4
    · exact k3 k4
    · have := (r.got.block hy).1; omega
  have i1 : InM w1 T (h + 2) (fun b => Zz h ga b ∨ Zz h ga2 b) _ L := hI.zmono fun b hb hz => by
    rcases hz with hz | hz | hz | hz | ⟨y, hy, hz⟩
    · exact hz
    · exact .inl hz
    · exact .inr (.inl hz)
    · exact .inr (.inr (.inl hz))
    · rcases hat y hy with ⟨z, hz1, hz2⟩ | hz1
      · exact .inr (.inr (.inr ⟨z, hz1, by omega⟩))
      · omega
  have i2 := i1.only hon (nz _ (by omega) (by omega) (by omega)) (fun b hb => .inl (.inr hb))
  have i3 := i2.zmono (Z' := Zz h ga2) fun b hb hz => .inr hz
  refine ⟨_, ⟨i3, ho, hon.blk (g.only.blk r.xb (by omega)) (nz _ (by omega) (by omega) (by omega)), hon.blk (g.only.blk r.xy (by omega)) (nz _ (by omega) (by omega) (by omega)), hon.blk (g.only.blk r.xi (by omega)) (nz _ (by omega) (by omega) (by omega)), hxg, hxe,
    (r.txt.only g.only (fun x hx h0 => by have := r.vq x hx h0; omega)).only hon (fun x hx h0 => nz _ (by have := r.vq x hx h0; omega) (by have := r.vq x hx h0; omega) (by have := r.vq x hx h0; omega)), r.vq, r.lo, by have := hon.size; omega, r.by8⟩, rfl, rfl, rfl, rfl, ?_⟩
  exact (g.only.mono fun k _ hk => .inl hk).trans (hon.mono fun k _ hk => .inr hk)
def ReadPost (T : List Int) (h base : Nat) (va : Option Addr) (vc byv : Nat) (s : ISt) (L : List Pc) (ga : Option Addr) (gc : Nat) (w w' : World) (e : Ending) : Prop :=
  e = .returned (.bool true) ∧ Only (fun b => b = h + 2 ∨ Zf (h + 4) (h + 5) ga b) w w' ∧ ∃ s' ga' gc', RS T h base va vc byv s' L ga' gc' w' ∧ s'.hf = s.hf ∧ s'.rd + s'.bn = s.rd + s.bn ∧ (s.fr = true → s'.fr = true) ∧ (s.fr = false → s'.rd = s.rd + min byv s.bn ∧ s'.fr = (s.hf && decide (s'.rd = s.fin)))
set_option maxRecDepth 100000 in
set_option maxHeartbeats 2000000 in
theorem read_any (T : List Int) (h base : Nat) (va : Option Addr) (vc byv : Nat) (s : ISt) (L : List Pc) (ga : Option Addr) (gc : Nat) (w : World) (r : RS T h base va vc byv s L ga gc w) (hT : T.length ≤ 3000) (hT8 : ∀ x ∈ T, (Lit.int .u8 x).wf = true) :
    Calls Try.prog 27 #[.pointer (some ⟨h + 3, 0, none⟩), .pointer (some ⟨h + 1, 0, none⟩), .pointer (some ⟨h + 5, 0, none⟩), .pointer (some ⟨h + 4, 0, none⟩), .pointer (some ⟨h, 0, none⟩)] w fun e w' => ReadPost T h base va vc byv s L ga gc w w' e := by
  have y0 := r.xy.cell 0 _ rfl
  have i0 := r.xi.cell 0 _ rfl
  have e0 := r.xe.cell 0 _ rfl
  have ly := r.xy.lt
  have li := r.xi.lt
  have le := r.xe.lt
  have hby := r.by8
  cases hfr : s.fr with
  | true =>
    rw [hfr] at e0
    have hget := iget_over (h + 2) s byv w r.inm.blk hfr
    have HG := Lib.hid hget
    have HR := Lib.hid r
    have HFR := Lib.hid hfr
    clear hget r hfr
    go_enter Try.func27, Try.ntmps27
    go_wp2_with (fail)
    refine HG.out.mono ?_
    rintro e w1 ⟨hb1, rfl⟩
    have e0 := (hb1.cell (p := ⟨h + 5, 0, none⟩) le).trans e0
    have B1 := Lib.hid hb1
    clear hb1
    go_wp2_with (fail)
    go_returns
    refine ⟨rfl, only_of_below B1.out _, s, ga, gc, HR.out.below B1.out, rfl, rfl, fun h9 => h9, fun h9 => ?_⟩
    rw [HFR.out] at h9
    cases h9
  | false =>
    rw [hfr] at e0
    have HR := Lib.hid r
    have HFR := Lib.hid hfr
    have hT8' := Lib.hid hT8
    obtain ⟨m, hm⟩ : ∃ m, min byv s.bn = m := ⟨_, rfl⟩
    obtain ⟨en, hen⟩ : ∃ en, (s.hf && decide (s.rd + m = s.fin)) = en := ⟨_, rfl⟩
    have hget := iget_law T (h + 2) _ s L byv m en w r.inm r.zlt hfr (by omega) hm hen.symm
    have HG := Lib.hid hget
    have HM := Lib.hid hm
    have HEN := Lib.hid hen
    have hmb : m ≤ 255 := by omega
    obtain ⟨rd, hrd⟩ : ∃ x, s.rd = x := ⟨_, rfl⟩
    have HRD := Lib.hid hrd
    have hrdb : rd + m ≤ T.length := by have := r.inm.le; omega
    clear hget r hfr hm hen hT8 hrd
    go_enter Try.func27, Try.ntmps27
    go_wp2_with (fail)
    refine HG.out.mono ?_
    rintro e w1 ⟨da, dc, hR, hcase⟩
    have HGR := Lib.hid hR
    have s1 := hR.only.size
    have hlo := HR.out.lo
    have hhi := HR.out.hi
    have x3 : Blk w1 (h + 4) _ _ := hR.only.blk HR.out.xg (by omega)
    have x2 : Blk w1 (h + 5) _ _ := hR.only.blk HR.out.xe (by omega)
    have x4 : Blk w1 h _ _ := hR.only.blk HR.out.xb (by omega)
    have l3 := x3.lt
    have l2 := x2.lt
    have l4 := x4.lt
    have c3 := x3.cell 0 _ rfl
    have c2 := x2.cell 0 _ rfl
    have c4 := x4.cell 0 _ rfl
    rw [HFR.out] at c2
    rw [HRD.out] at c3
    have X3 := Lib.hid x3
    have X2 := Lib.hid x2
    have X4 := Lib.hid x4
    clear x2 x3 x4 hR HG
    rcases hcase with ⟨rfl, rfl, rfl, rfl, rfl⟩ | rfl
    · obtain ⟨rm, hrm⟩ : ∃ x, rd + 0 = x := ⟨_, rfl⟩
      have HRM := Lib.hid hrm
      have hrmb : rm ≤ T.length := by omega
      clear hrm
      have HT := Lib.hid HGR.out.data
      have hdn : 0 = (sub T s.rd 0).length := by rw [sub_length (by rw [HRD.out]; exact hrdb)]
      have OWG : Hid (OwnS w1 base 5 1 ga rd gc (bytesV (T.take rd))) := Lib.hid (by have := HR.out.got.only HGR.out.only (fun x hx => by have := (HR.out.got.block hx).1; omega); rw [HRD.out] at this; exact this)
      have hS4 : ¬ ((h + 4 = h + 4 ∧ False) ∨ ∃ y, ga = some y ∧ y.block = h + 5) := by
        rintro (h9 | ⟨y, hy, h9⟩)
        · exact h9.2
        · have := (OWG.out.block hy).1; omega
      have hS5 : ¬ (h + 5 = h + 4 ∨ ∃ y, ga = some y ∧ y.block = h + 5) := by
        rintro (h9 | ⟨y, hy, h9⟩)
        · omega
        · have := (OWG.out.block hy).1; omega
      have hS0 : ¬ (h = h + 4 ∨ ∃ y, ga = some y ∧ y.block = h) := by
        rintro (h9 | ⟨y, hy, h9⟩)
        · omega
        · have := (OWG.out.block hy).1; omega
      have hgcap := OWG.out.caps
      have hsrc := (HT.out.below (Below.refl _ _).drew).src
      rw [← hdn] at hsrc
      have HSRC := Lib.hid hsrc
      clear hdn hsrc
      go_wp2_with (fail)
      refine rg_start 9 ?_
      refine rg_besides (fun b => b = h + 4 ∨ ∃ y, ga = some y ∧ y.block = b) fun p hx hne hC hbel => ?_
      have k2 : ∀ z : Wd p, z.w.cell? ⟨h + 5, 0, none⟩ = some (.bool false) := fun z => (hx z _ _ _ l2 hS5).trans c2
      refine rg_quiet 7 [1,3] hC ?_
      simp only [pickD, List.map_cons, List.map_nil, List.getD_cons_zero, List.getD_cons_succ]; repeat (go_big_quiet_step (fail))
      refine wpQuiet_nil ?_
      refine rg_act 0 ?_
      go_wp2_with (fail)
      refine ⟨hC, ?_⟩
      refine rg_act 2 ?_
      go_wp2_with (at_builtin; refine Stop.mk ?_)
      refine Stop.out ?_
      refine wpList_appE u8_et rfl rfl (base := base) (k := rm) rfl rfl HRM.out (OWG.out.below (Below.refl _ _).drew) HSRC.out (by simp only [maxLen]; omega) (by omega) (by show base ≤ w1.heap.size; omega) ?_
      intro ga2 gc2 w2 ho2 on2 at2
      have on2' : Only (fun b => ∃ y, ga = some y ∧ y.block = b) w1 w2 := (Only.refl _ _).drew.trans on2
      have hC2 := hbel w2 (fun k hk hs => on2'.block k hk (fun h9 => hs (.inr h9)))
      have s2 := on2'.size
      have hng : ∀ b, b < base → ¬ ∃ y, ga = some y ∧ y.block = b := fun b hb ⟨y, hy, h9⟩ => by have := (OWG.out.block hy).1; omega
      have x3 : Blk w2 (h + 4) _ _ := on2'.blk X3.out (hng _ (by omega))
      have c3 := x3.cell 0 _ rfl
      have f3 := x3.free 0
      rw [HRD.out] at c3
      have ho2' : OwnS w2 base 5 1 ga2 rm gc2 (bytesV (T.take rm)) := by
        have h9 : bytesV (T.take rd) ++ (sub T s.rd 0).map (Value.int .u8) = bytesV (T.take rm) := by rw [HRD.out, ← HRM.out, ← take_sub T rd 0, bytesV_append]; rfl
        rw [h9] at ho2; exact ho2
      have HO2 := Lib.hid ho2'
      have ON2 := Lib.hid on2'
      have AT2 := Lib.hid at2
      have W3 : Hid (∀ k, k < w1.heap.size → ¬ (k = h + 4 ∨ ∃ y, ga = some y ∧ y.block = k) → (w2.setCell ⟨h + 4, 0, none⟩ (.slice ga2 rm gc2)).heap[k]? = w1.heap[k]?) := Lib.hid (fun k hk hs => (((Only.refl (· = h + 4) w2).set 0 (.slice ga2 rm gc2)).block' k (fun h9 => hs (.inl h9))).trans (on2'.block k hk (fun h9 => hs (.inr h9))))
      have hC3 := hbel (w2.setCell ⟨h + 4, 0, none⟩ (.slice ga2 rm gc2)) (fun k hk hs => W3.out k hk hs)
      have y3 := x3.set 0 (.slice ga2 rm gc2)
      have y2 : Blk (w2.setCell ⟨h + 4, 0, none⟩ (.slice ga2 rm gc2)) (h + 5) _ _ := (on2'.blk X2.out (hng _ (by omega))).setOther ⟨h + 4, 0, none⟩ (.slice ga2 rm gc2) (by simp)
      have c5 := y2.cell 0 _ rfl
      have f5 := y2.free 0
      rw [HFR.out] at c5
      have z2 := y2.set 0 (.bool false)
      have z3 : Blk ((w2.setCell ⟨h + 4, 0, none⟩ (.slice ga2 rm gc2)).setCell ⟨h + 5, 0, none⟩ (.bool false)) (h + 4) _ _ := y3.setOther ⟨h + 5, 0, none⟩ (.bool false) (by simp)
      have HZ2 := Lib.hid (z2.congr (cs' := #[.bool false]) (by simp))
      have HZ3 := Lib.hid (z3.congr (cs' := #[.slice ga2 rm gc2]) (by simp))
      clear ho2 ho2' on2 on2' at2 x3 y3 y2 z2 z3
      go_wp2_with (fail)
      refine ⟨hC2, ?_⟩
      refine rg_quiet 2 [4,5,6] hC2 ?_
      simp only [pickD, List.map_cons, List.map_nil, List.getD_cons_zero, List.getD_cons_succ]; repeat (go_big_quiet_step (fail))
      refine wpQuiet_nil ?_
      refine rg_act 7 ?_
      go_wp2_with (fail)
      refine ⟨hC3, ?_⟩
      clear hx hne hC hbel hC2 hC3 k2
      refine rg_cut 8 ?_
      go_wp2_with (fail)
      refine rg_end0 ?_
      have on3 : Only (Zf (h + 4) (h + 5) ga) w1 w2 := ON2.out.mono (fun k _ hk => Or.inr (Or.inr hk))
      have on4 : Only (Zf (h + 4) (h + 5) ga) w1 ((w2.setCell ⟨h + 4, 0, none⟩ (.slice ga2 rm gc2)).setCell ⟨h + 5, 0, none⟩ (.bool false)) := (on3.setCell (p := ⟨h + 4, 0, none⟩) (.inl (Or.inl rfl)) _).setCell (p := ⟨h + 5, 0, none⟩) (.inl (Or.inr (Or.inl rfl))) _
      have o4 : OwnS ((w2.setCell ⟨h + 4, 0, none⟩ (.slice ga2 rm gc2)).setCell ⟨h + 5, 0, none⟩ (.bool false)) base 5 1 ga2 rm gc2 (bytesV (T.take rm)) := (HO2.out.only ((Only.refl (· = h + 4) w2).set 0 _) (fun x hx h9 => by have := (HO2.out.block hx).1; omega)).only ((Only.refl (· = h + 5) _).set 0 _) (fun x hx h9 => by have := (HO2.out.block hx).1; omega)
      generalize (w2.setCell ⟨h + 4, 0, none⟩ (.slice ga2 rm gc2)).setCell ⟨h + 5, 0, none⟩ (.bool false) = w4 at on4 o4 HZ2 HZ3 ⊢
      obtain ⟨s5, r5, q1, q2, q3, q4, q5⟩ := HR.out.read HGR.out (by have := HM.out; omega) (by rw [HRD.out, HRM.out]; exact o4) AT2.out on4 (by rw [HRD.out, HRM.out]; exact HZ3.out) HZ2.out
      have hmm := HM.out
      have hmr := HRM.out
      have hmd := HRD.out
      have hres : ReadPost T h base va vc byv s L ga gc w w4 (.returned (.bool true)) := ⟨rfl, q5, s5, ga2, gc2, r5, q1, by omega, fun h9 => (by rw [HFR.out] at h9; cases h9), fun _ => ⟨by omega, by rw [q4, q2]; exact HEN.out.symm⟩⟩
      have HRES := Lib.hid hres
      have htx := r5.txt
      have HTX := Lib.hid htx
      have s4 := on4.size
      have nz0 : ¬ Zf (h + 4) (h + 5) ga h := by
        rintro (h9 | h9 | h9)
        · omega
        · omega
        · exact hng h (by omega) h9
      have x0 := on4.blk X4.out nz0
      have d3 := HZ3.out.cell 0 _ rfl
      have d2 := HZ2.out.cell 0 _ rfl
      have d0 := x0.cell 0 _ rfl
      have G4 : Hid (Sl .u8 w4 ga2 gc2 (T.take rm)) := Lib.hid (o4.sl (fun x hx => hT8'.out x (List.mem_of_mem_take hx))).2
      have T4 : Hid (Sl .u8 w4 va vc (T.take rm)) := Lib.hid (htx.front rm (by omega))
      have hcap := htx.le
      have hcm := htx.max
      unfold maxLen at hcm
      have HLD : Hid (rm = (T.take rm).length) := Lib.hid (by rw [List.length_take]; omega)
      have hcut := fun W => run_cut_h1 (P := Try.prog) u8_et (av := va) (n := T.length) (cap := vc) (kh := .i64) (m := rm) (by omega) W
      clear hres htx r5 q1 q2 q3 q4 q5 hmm hmr hmd on3 on4 o4 x0 nz0 hng
      have hlei : (((rm : Nat) : Int) ≤ (T.length : Int)) := by omega
      skip
      go_wp2_with (fail)
      refine rg_start 35 ?_
      refine rg_belowB fun p hB' hx hne hC hbel => ?_
      have k3 : ∀ z : Wd p, z.w.cell? ⟨h + 4, 0, none⟩ = some (.slice ga2 rm gc2) := fun z => (hx z _ _ _ HZ3.out.lt).trans d3
      have k2 : ∀ z : Wd p, z.w.cell? ⟨h + 5, 0, none⟩ = some (.bool false) := fun z => (hx z _ _ _ HZ2.out.lt).trans d2
      have k0 : ∀ z : Wd p, z.w.cell? ⟨h, 0, none⟩ = some (.slice va T.length vc) := fun z => (hx z _ _ _ (show h < w4.heap.size by omega)).trans d0
      refine rg_quiet 0 [0,1,2,3,4,5,6,7,8,9,10,11,12,13,14,15,16,17,18,19,20,21,22,23,24,25,26,27,28,29,30,31,32,33,34] hC ?_
      simp only [pickD, List.map_cons, List.map_nil, List.getD_cons_zero, List.getD_cons_succ]; repeat (go_big_quiet_step (fail))
      refine wpQuiet_str Try.underlying47 Try.underlying5 Try.underlying9 rfl rfl rfl HLD.out (fun W hc => (G4.out.below (below_on (Below.refl w4.heap.size w4).drew (hB' W hc) (Nat.le_refl _))).ints) ?_
      simp only [Act.put, Array.set!_eq_setIfInBounds, List.setIfInBounds_toArray, List.set_cons_succ, List.set_cons_zero]
      repeat (go_big_quiet_step (fail))
      refine wpQuiet_str Try.underlying47 Try.underlying5 Try.underlying9 rfl rfl rfl HLD.out (fun W hc => (T4.out.below (below_on (Below.refl w4.heap.size w4).drew (hB' W hc) (Nat.le_refl _))).ints) ?_
      simp only [Act.put, Array.set!_eq_setIfInBounds, List.setIfInBounds_toArray, List.set_cons_succ, List.set_cons_zero]
      refine wpQuiet_same rfl rfl rfl rfl ?_
      simp only [Act.put, Array.set!_eq_setIfInBounds, List.setIfInBounds_toArray, List.set_cons_succ, List.set_cons_zero]
      repeat (go_big_quiet_step (fail))
      refine wpQuiet_nil ?_
      refine rg_end ?_
      clear hx hne hC hbel hB' hcut k3 k2 k0
      go_wp2_with (fail)
      go_returns
      obtain ⟨z1, z2, s5, z3, z4, z5, z6⟩ := HRES.out
      exact ⟨rfl, z2.drew, s5, z3, z4, z5.below (Below.refl _ _).drew, z6⟩
    · cases en with
      | false =>
        obtain ⟨rm, hrm⟩ : ∃ x, rd + m = x := ⟨_, rfl⟩
        have HRM := Lib.hid hrm
        have hrmb : rm ≤ T.length := by omega
        clear hrm
        have HT := Lib.hid HGR.out.data
        have hdn : m = (sub T s.rd m).length := by rw [sub_length (by rw [HRD.out]; exact hrdb)]
        have OWG : Hid (OwnS w1 base 5 1 ga rd gc (bytesV (T.take rd))) := Lib.hid (by have := HR.out.got.only HGR.out.only (fun x hx => by have := (HR.out.got.block hx).1; omega); rw [HRD.out] at this; exact this)
        have hS4 : ¬ ((h + 4 = h + 4 ∧ False) ∨ ∃ y, ga = some y ∧ y.block = h + 5) := by
          rintro (h9 | ⟨y, hy, h9⟩)
          · exact h9.2
          · have := (OWG.out.block hy).1; omega
        have hS5 : ¬ (h + 5 = h + 4 ∨ ∃ y, ga = some y ∧ y.block = h + 5) := by
          rintro (h9 | ⟨y, hy, h9⟩)
          · omega
          · have := (OWG.out.block hy).1; omega
        have hS0 : ¬ (h = h + 4 ∨ ∃ y, ga = some y ∧ y.block = h) := by
          rintro (h9 | ⟨y, hy, h9⟩)
          · omega
          · have := (OWG.out.block hy).1; omega
        have hgcap := OWG.out.caps
        have hsrc := (HT.out.below (Below.refl _ _).drew).src
        rw [← hdn] at hsrc
        have HSRC := Lib.hid hsrc
        clear hdn hsrc
        go_wp2_with (fail)
        refine rg_start 9 ?_
        refine rg_besides (fun b => b = h + 4 ∨ ∃ y, ga = some y ∧ y.block = b) fun p hx hne hC hbel => ?_
        have k2 : ∀ z : Wd p, z.w.cell? ⟨h + 5, 0, none⟩ = some (.bool false) := fun z => (hx z _ _ _ l2 hS5).trans c2
        refine rg_quiet 7 [1,3] hC ?_
        simp only [pickD, List.map_cons, List.map_nil, List.getD_cons_zero, List.getD_cons_succ]; repeat (go_big_quiet_step (fail))
        refine wpQuiet_nil ?_
        refine rg_act 0 ?_
        go_wp2_with (fail)
        refine ⟨hC, ?_⟩
        refine rg_act 2 ?_
        go_wp2_with (at_builtin; refine Stop.mk ?_)
        refine Stop.out ?_
        refine wpList_appE u8_et rfl rfl (base := base) (k := rm) rfl rfl HRM.out (OWG.out.below (Below.refl _ _).drew) HSRC.out (by simp only [maxLen]; omega) (by omega) (by show base ≤ w1.heap.size; omega) ?_
        intro ga2 gc2 w2 ho2 on2 at2
        have on2' : Only (fun b => ∃ y, ga = some y ∧ y.block = b) w1 w2 := (Only.refl _ _).drew.trans on2
        have hC2 := hbel w2 (fun k hk hs => on2'.block k hk (fun h9 => hs (.inr h9)))
        have s2 := on2'.size
        have hng : ∀ b, b < base → ¬ ∃ y, ga = some y ∧ y.block = b := fun b hb ⟨y, hy, h9⟩ => by have := (OWG.out.block hy).1; omega
        have x3 : Blk w2 (h + 4) _ _ := on2'.blk X3.out (hng _ (by omega))
        have c3 := x3.cell 0 _ rfl
        have f3 := x3.free 0
        rw [HRD.out] at c3
        have ho2' : OwnS w2 base 5 1 ga2 rm gc2 (bytesV (T.take rm)) := by
          have h9 : bytesV (T.take rd) ++ (sub T s.rd m).map (Value.int .u8) = bytesV (T.take rm) := by rw [HRD.out, ← HRM.out, ← take_sub T rd m, bytesV_append]; rfl
          rw [h9] at ho2; exact ho2
        have HO2 := Lib.hid ho2'
        have ON2 := Lib.hid on2'
        have AT2 := Lib.hid at2
        have W3 : Hid (∀ k, k < w1.heap.size → ¬ (k = h + 4 ∨ ∃ y, ga = some y ∧ y.block = k) → (w2.setCell ⟨h + 4, 0, none⟩ (.slice ga2 rm gc2)).heap[k]? = w1.heap[k]?) := Lib.hid (fun k hk hs => (((Only.refl (· = h + 4) w2).set 0 (.slice ga2 rm gc2)).block' k (fun h9 => hs (.inl h9))).trans (on2'.block k hk (fun h9 => hs (.inr h9))))
        have hC3 := hbel (w2.setCell ⟨h + 4, 0, none⟩ (.slice ga2 rm gc2)) (fun k hk hs => W3.out k hk hs)
        have y3 := x3.set 0 (.slice ga2 rm gc2)
        have y2 : Blk (w2.setCell ⟨h + 4, 0, none⟩ (.slice ga2 rm gc2)) (h + 5) _ _ := (on2'.blk X2.out (hng _ (by omega))).setOther ⟨h + 4, 0, none⟩ (.slice ga2 rm gc2) (by simp)
        have c5 := y2.cell 0 _ rfl
        have f5 := y2.free 0
        rw [HFR.out] at c5
        have z2 := y2.set 0 (.bool false)
        have z3 : Blk ((w2.setCell ⟨h + 4, 0, none⟩ (.slice ga2 rm gc2)).setCell ⟨h + 5, 0, none⟩ (.bool false)) (h + 4) _ _ := y3.setOther ⟨h + 5, 0, none⟩ (.bool false) (by simp)
        have HZ2 := Lib.hid (z2.congr (cs' := #[.bool false]) (by simp))
        have HZ3 := Lib.hid (z3.congr (cs' := #[.slice ga2 rm gc2]) (by simp))
        clear ho2 ho2' on2 on2' at2 x3 y3 y2 z2 z3
        go_wp2_with (fail)
        refine ⟨hC2, ?_⟩
        refine rg_quiet 2 [4,5,6] hC2 ?_
        simp only [pickD, List.map_cons, List.map_nil, List.getD_cons_zero, List.getD_cons_succ]; repeat (go_big_quiet_step (fail))
        refine wpQuiet_nil ?_
        refine rg_act 7 ?_
        go_wp2_with (fail)
        refine ⟨hC3, ?_⟩
        clear hx hne hC hbel hC2 hC3 k2
        refine rg_cut 8 ?_
        go_wp2_with (fail)
        refine rg_end0 ?_
        have on3 : Only (Zf (h + 4) (h + 5) ga) w1 w2 := ON2.out.mono (fun k _ hk => Or.inr (Or.inr hk))
        have on4 : Only (Zf (h + 4) (h + 5) ga) w1 ((w2.setCell ⟨h + 4, 0, none⟩ (.slice ga2 rm gc2)).setCell ⟨h + 5, 0, none⟩ (.bool false)) := (on3.setCell (p := ⟨h + 4, 0, none⟩) (.inl (Or.inl rfl)) _).setCell (p := ⟨h + 5, 0, none⟩) (.inl (Or.inr (Or.inl rfl))) _
        have o4 : OwnS ((w2.setCell ⟨h + 4, 0, none⟩ (.slice ga2 rm gc2)).setCell ⟨h + 5, 0, none⟩ (.bool false)) base 5 1 ga2 rm gc2 (bytesV (T.take rm)) := (HO2.out.only ((Only.refl (· = h + 4) w2).set 0 _) (fun x hx h9 => by have := (HO2.out.block hx).1; omega)).only ((Only.refl (· = h + 5) _).set 0 _) (fun x hx h9 => by have := (HO2.out.block hx).1; omega)
        generalize (w2.setCell ⟨h + 4, 0, none⟩ (.slice ga2 rm gc2)).setCell ⟨h + 5, 0, none⟩ (.bool false) = w4 at on4 o4 HZ2 HZ3 ⊢
        obtain ⟨s5, r5, q1, q2, q3, q4, q5⟩ := HR.out.read HGR.out (by have := HM.out; omega) (by rw [HRD.out, HRM.out]; exact o4) AT2.out on4 (by rw [HRD.out, HRM.out]; exact HZ3.out) HZ2.out
        have hmm := HM.out
        have hmr := HRM.out
        have hmd := HRD.out
        have hres : ReadPost T h base va vc byv s L ga gc w w4 (.returned (.bool true)) := ⟨rfl, q5, s5, ga2, gc2, r5, q1, by omega, fun h9 => (by rw [HFR.out] at h9; cases h9), fun _ => ⟨by omega, by rw [q4, q2]; exact HEN.out.symm⟩⟩
        have HRES := Lib.hid hres
        have htx := r5.txt
        have HTX := Lib.hid htx
        have s4 := on4.size
        have nz0 : ¬ Zf (h + 4) (h + 5) ga h := by
          rintro (h9 | h9 | h9)
          · omega
          · omega
          · exact hng h (by omega) h9
        have x0 := on4.blk X4.out nz0
        have d3 := HZ3.out.cell 0 _ rfl
        have d2 := HZ2.out.cell 0 _ rfl
        have d0 := x0.cell 0 _ rfl
        have G4 : Hid (Sl .u8 w4 ga2 gc2 (T.take rm)) := Lib.hid (o4.sl (fun x hx => hT8'.out x (List.mem_of_mem_take hx))).2
        have T4 : Hid (Sl .u8 w4 va vc (T.take rm)) := Lib.hid (htx.front rm (by omega))
        have hcap := htx.le
        have hcm := htx.max
        unfold maxLen at hcm
        have HLD : Hid (rm = (T.take rm).length) := Lib.hid (by rw [List.length_take]; omega)
        have hcut := fun W => run_cut_h1 (P := Try.prog) u8_et (av := va) (n := T.length) (cap := vc) (kh := .i64) (m := rm) (by omega) W
        clear hres htx r5 q1 q2 q3 q4 q5 hmm hmr hmd on3 on4 o4 x0 nz0 hng
        have hlei : (((rm : Nat) : Int) ≤ (T.length : Int)) := by omega
        skip
        go_wp2_with (fail)
        refine rg_start 35 ?_
        refine rg_belowB fun p hB' hx hne hC hbel => ?_
        have k3 : ∀ z : Wd p, z.w.cell? ⟨h + 4, 0, none⟩ = some (.slice ga2 rm gc2) := fun z => (hx z _ _ _ HZ3.out.lt).trans d3
        have k2 : ∀ z : Wd p, z.w.cell? ⟨h + 5, 0, none⟩ = some (.bool false) := fun z => (hx z _ _ _ HZ2.out.lt).trans d2
        have k0 : ∀ z : Wd p, z.w.cell? ⟨h, 0, none⟩ = some (.slice va T.length vc) := fun z => (hx z _ _ _ (show h < w4.heap.size by omega)).trans d0
        refine rg_quiet 0 [0,1,2,3,4,5,6,7,8,9,10,11,12,13,14,15,16,17,18,19,20,21,22,23,24,25,26,27,28,29,30,31,32,33,34] hC ?_
        simp only [pickD, List.map_cons, List.map_nil, List.getD_cons_zero, List.getD_cons_succ]; repeat (go_big_quiet_step (fail))
        refine wpQuiet_str Try.underlying47 Try.underlying5 Try.underlying9 rfl rfl rfl HLD.out (fun W hc => (G4.out.below (below_on (Below.refl w4.heap.size w4).drew (hB' W hc) (Nat.le_refl _))).ints) ?_
        simp only [Act.put, Array.set!_eq_setIfInBounds, List.setIfInBounds_toArray, List.set_cons_succ, List.set_cons_zero]
        repeat (go_big_quiet_step (fail))
        refine wpQuiet_str Try.underlying47 Try.underlying5 Try.underlying9 rfl rfl rfl HLD.out (fun W hc => (T4.out.below (below_on (Below.refl w4.heap.size w4).drew (hB' W hc) (Nat.le_refl _))).ints) ?_
        simp only [Act.put, Array.set!_eq_setIfInBounds, List.setIfInBounds_toArray, List.set_cons_succ, List.set_cons_zero]
        refine wpQuiet_same rfl rfl rfl rfl ?_
        simp only [Act.put, Array.set!_eq_setIfInBounds, List.setIfInBounds_toArray, List.set_cons_succ, List.set_cons_zero]
        repeat (go_big_quiet_step (fail))
        refine wpQuiet_nil ?_
        refine rg_end ?_
        clear hx hne hC hbel hB' hcut k3 k2 k0
        go_wp2_with (fail)
        go_returns
        obtain ⟨z1, z2, s5, z3, z4, z5, z6⟩ := HRES.out
        exact ⟨rfl, z2.drew, s5, z3, z4, z5.below (Below.refl _ _).drew, z6⟩
      | true =>
        obtain ⟨rm, hrm⟩ : ∃ x, rd + m = x := ⟨_, rfl⟩
        have HRM := Lib.hid hrm
        have hrmb : rm ≤ T.length := by omega
        clear hrm
        have HT := Lib.hid HGR.out.data
        have hdn : m = (sub T s.rd m).length := by rw [sub_length (by rw [HRD.out]; exact hrdb)]
        have OWG : Hid (OwnS w1 base 5 1 ga rd gc (bytesV (T.take rd))) := Lib.hid (by have := HR.out.got.only HGR.out.only (fun x hx => by have := (HR.out.got.block hx).1; omega); rw [HRD.out] at this; exact this)
        have hS4 : ¬ ((h + 4 = h + 4 ∧ False) ∨ ∃ y, ga = some y ∧ y.block = h + 5) := by
          rintro (h9 | ⟨y, hy, h9⟩)
          · exact h9.2
          · have := (OWG.out.block hy).1; omega
        have hS5 : ¬ (h + 5 = h + 4 ∨ ∃ y, ga = some y ∧ y.block = h + 5) := by
          rintro (h9 | ⟨y, hy, h9⟩)
          · omega
          · have := (OWG.out.block hy).1; omega
        have hS0 : ¬ (h = h + 4 ∨ ∃ y, ga = some y ∧ y.block = h) := by
          rintro (h9 | ⟨y, hy, h9⟩)
          · omega
          · have := (OWG.out.block hy).1; omega
        have hgcap := OWG.out.caps
        have hsrc := (HT.out.below (Below.refl _ _).drew).src
        rw [← hdn] at hsrc
        have HSRC := Lib.hid hsrc
        clear hdn hsrc
        go_wp2_with (fail)
        refine rg_start 9 ?_
        refine rg_besides (fun b => b = h + 4 ∨ ∃ y, ga = some y ∧ y.block = b) fun p hx hne hC hbel => ?_
        have k2 : ∀ z : Wd p, z.w.cell? ⟨h + 5, 0, none⟩ = some (.bool false) := fun z => (hx z _ _ _ l2 hS5).trans c2
        refine rg_quiet 7 [1,3] hC ?_
        simp only [pickD, List.map_cons, List.map_nil, List.getD_cons_zero, List.getD_cons_succ]; repeat (go_big_quiet_step (fail))
        refine wpQuiet_nil ?_
        refine rg_act 0 ?_
        go_wp2_with (fail)
        refine ⟨hC, ?_⟩
        refine rg_act 2 ?_
        go_wp2_with (at_builtin; refine Stop.mk ?_)
        refine Stop.out ?_
        refine wpList_appE u8_et rfl rfl (base := base) (k := rm) rfl rfl HRM.out (OWG.out.below (Below.refl _ _).drew) HSRC.out (by simp only [maxLen]; omega) (by omega) (by show base ≤ w1.heap.size; omega) ?_
        intro ga2 gc2 w2 ho2 on2 at2
        have on2' : Only (fun b => ∃ y, ga = some y ∧ y.block = b) w1 w2 := (Only.refl _ _).drew.trans on2
        have hC2 := hbel w2 (fun k hk hs => on2'.block k hk (fun h9 => hs (.inr h9)))
        have s2 := on2'.size
        have hng : ∀ b, b < base → ¬ ∃ y, ga = some y ∧ y.block = b := fun b hb ⟨y, hy, h9⟩ => by have := (OWG.out.block hy).1; omega
        have x3 : Blk w2 (h + 4) _ _ := on2'.blk X3.out (hng _ (by omega))
        have c3 := x3.cell 0 _ rfl
        have f3 := x3.free 0
        rw [HRD.out] at c3
        have ho2' : OwnS w2 base 5 1 ga2 rm gc2 (bytesV (T.take rm)) := by
          have h9 : bytesV (T.take rd) ++ (sub T s.rd m).map (Value.int .u8) = bytesV (T.take rm) := by rw [HRD.out, ← HRM.out, ← take_sub T rd m, bytesV_append]; rfl
          rw [h9] at ho2; exact ho2
        have HO2 := Lib.hid ho2'
        have ON2 := Lib.hid on2'
        have AT2 := Lib.hid at2
        have W3 : Hid (∀ k, k < w1.heap.size → ¬ (k = h + 4 ∨ ∃ y, ga = some y ∧ y.block = k) → (w2.setCell ⟨h + 4, 0, none⟩ (.slice ga2 rm gc2)).heap[k]? = w1.heap[k]?) := Lib.hid (fun k hk hs => (((Only.refl (· = h + 4) w2).set 0 (.slice ga2 rm gc2)).block' k (fun h9 => hs (.inl h9))).trans (on2'.block k hk (fun h9 => hs (.inr h9))))
        have hC3 := hbel (w2.setCell ⟨h + 4, 0, none⟩ (.slice ga2 rm gc2)) (fun k hk hs => W3.out k hk hs)
        have y3 := x3.set 0 (.slice ga2 rm gc2)
        have y2 : Blk (w2.setCell ⟨h + 4, 0, none⟩ (.slice ga2 rm gc2)) (h + 5) _ _ := (on2'.blk X2.out (hng _ (by omega))).setOther ⟨h + 4, 0, none⟩ (.slice ga2 rm gc2) (by simp)
        have c5 := y2.cell 0 _ rfl
        have f5 := y2.free 0
        rw [HFR.out] at c5
        have z2 := y2.set 0 (.bool true)
        have z3 : Blk ((w2.setCell ⟨h + 4, 0, none⟩ (.slice ga2 rm gc2)).setCell ⟨h + 5, 0, none⟩ (.bool true)) (h + 4) _ _ := y3.setOther ⟨h + 5, 0, none⟩ (.bool true) (by simp)
        have HZ2 := Lib.hid (z2.congr (cs' := #[.bool true]) (by simp))
        have HZ3 := Lib.hid (z3.congr (cs' := #[.slice ga2 rm gc2]) (by simp))
        clear ho2 ho2' on2 on2' at2 x3 y3 y2 z2 z3
        go_wp2_with (fail)
        refine ⟨hC2, ?_⟩
        refine rg_quiet 2 [4,5,6] hC2 ?_
        simp only [pickD, List.map_cons, List.map_nil, List.getD_cons_zero, List.getD_cons_succ]; repeat (go_big_quiet_step (fail))
        refine wpQuiet_nil ?_
        refine rg_act 7 ?_
        go_wp2_with (fail)
        refine ⟨hC3, ?_⟩
        clear hx hne hC hbel hC2 hC3 k2
        refine rg_cut 8 ?_
        go_wp2_with (fail)
        refine rg_end0 ?_
        have on3 : Only (Zf (h + 4) (h + 5) ga) w1 w2 := ON2.out.mono (fun k _ hk => Or.inr (Or.inr hk))
        have on4 : Only (Zf (h + 4) (h + 5) ga) w1 ((w2.setCell ⟨h + 4, 0, none⟩ (.slice ga2 rm gc2)).setCell ⟨h + 5, 0, none⟩ (.bool true)) := (on3.setCell (p := ⟨h + 4, 0, none⟩) (.inl (Or.inl rfl)) _).setCell (p := ⟨h + 5, 0, none⟩) (.inl (Or.inr (Or.inl rfl))) _
        have o4 : OwnS ((w2.setCell ⟨h + 4, 0, none⟩ (.slice ga2 rm gc2)).setCell ⟨h + 5, 0, none⟩ (.bool true)) base 5 1 ga2 rm gc2 (bytesV (T.take rm)) := (HO2.out.only ((Only.refl (· = h + 4) w2).set 0 _) (fun x hx h9 => by have := (HO2.out.block hx).1; omega)).only ((Only.refl (· = h + 5) _).set 0 _) (fun x hx h9 => by have := (HO2.out.block hx).1; omega)
        generalize (w2.setCell ⟨h + 4, 0, none⟩ (.slice ga2 rm gc2)).setCell ⟨h + 5, 0, none⟩ (.bool true) = w4 at on4 o4 HZ2 HZ3 ⊢
        obtain ⟨s5, r5, q1, q2, q3, q4, q5⟩ := HR.out.read HGR.out (by have := HM.out; omega) (by rw [HRD.out, HRM.out]; exact o4) AT2.out on4 (by rw [HRD.out, HRM.out]; exact HZ3.out) HZ2.out
        have hmm := HM.out
        have hmr := HRM.out
        have hmd := HRD.out
        have hres : ReadPost T h base va vc byv s L ga gc w w4 (.returned (.bool true)) := ⟨rfl, q5, s5, ga2, gc2, r5, q1, by omega, fun h9 => (by rw [HFR.out] at h9; cases h9), fun _ => ⟨by omega, by rw [q4, q2]; exact HEN.out.symm⟩⟩
        have HRES := Lib.hid hres
        have htx := r5.txt
        have HTX := Lib.hid htx
        have s4 := on4.size
        have nz0 : ¬ Zf (h + 4) (h + 5) ga h := by
          rintro (h9 | h9 | h9)
          · omega
          · omega
          · exact hng h (by omega) h9
        have x0 := on4.blk X4.out nz0
        have d3 := HZ3.out.cell 0 _ rfl
        have d2 := HZ2.out.cell 0 _ rfl
        have d0 := x0.cell 0 _ rfl
        have G4 : Hid (Sl .u8 w4 ga2 gc2 (T.take rm)) := Lib.hid (o4.sl (fun x hx => hT8'.out x (List.mem_of_mem_take hx))).2
        have T4 : Hid (Sl .u8 w4 va vc (T.take rm)) := Lib.hid (htx.front rm (by omega))
        have hcap := htx.le
        have hcm := htx.max
        unfold maxLen at hcm
        have HLD : Hid (rm = (T.take rm).length) := Lib.hid (by rw [List.length_take]; omega)
        have hcut := fun W => run_cut_h1 (P := Try.prog) u8_et (av := va) (n := T.length) (cap := vc) (kh := .i64) (m := rm) (by omega) W
        clear hres htx r5 q1 q2 q3 q4 q5 hmm hmr hmd on3 on4 o4 x0 nz0 hng
        have hlei : (((rm : Nat) : Int) ≤ (T.length : Int)) := by omega
        have hend : ((rm : Int) == (T.length : Int)) = true := by
          have h1 := HEN.out
          simp only [Bool.and_eq_true, decide_eq_true_eq] at h1
          have h2 := HR.out.inm.fin h1.1
          have h3 := HRD.out
          have h4 := HRM.out
          simp
          omega
        go_wp2_with (fail)
        refine rg_start 35 ?_
        refine rg_belowB fun p hB' hx hne hC hbel => ?_
        have k3 : ∀ z : Wd p, z.w.cell? ⟨h + 4, 0, none⟩ = some (.slice ga2 rm gc2) := fun z => (hx z _ _ _ HZ3.out.lt).trans d3
        have k2 : ∀ z : Wd p, z.w.cell? ⟨h + 5, 0, none⟩ = some (.bool true) := fun z => (hx z _ _ _ HZ2.out.lt).trans d2
        have k0 : ∀ z : Wd p, z.w.cell? ⟨h, 0, none⟩ = some (.slice va T.length vc) := fun z => (hx z _ _ _ (show h < w4.heap.size by omega)).trans d0
        refine rg_quiet 0 [0,1,2,3,4,5,6,7,8,9,10,11,12,13,14,15,16,17,18,19,20,21,22,23,24,25,26,27,28,29,30,31,32,33,34] hC ?_
        simp only [pickD, List.map_cons, List.map_nil, List.getD_cons_zero, List.getD_cons_succ]; repeat (go_big_quiet_step (fail))
        refine wpQuiet_str Try.underlying47 Try.underlying5 Try.underlying9 rfl rfl rfl HLD.out (fun W hc => (G4.out.below (below_on (Below.refl w4.heap.size w4).drew (hB' W hc) (Nat.le_refl _))).ints) ?_
        simp only [Act.put, Array.set!_eq_setIfInBounds, List.setIfInBounds_toArray, List.set_cons_succ, List.set_cons_zero]
        repeat (go_big_quiet_step (fail))
        refine wpQuiet_str Try.underlying47 Try.underlying5 Try.underlying9 rfl rfl rfl HLD.out (fun W hc => (T4.out.below (below_on (Below.refl w4.heap.size w4).drew (hB' W hc) (Nat.le_refl _))).ints) ?_
        simp only [Act.put, Array.set!_eq_setIfInBounds, List.setIfInBounds_toArray, List.set_cons_succ, List.set_cons_zero]
        refine wpQuiet_same rfl rfl rfl rfl ?_
        simp only [Act.put, Array.set!_eq_setIfInBounds, List.setIfInBounds_toArray, List.set_cons_succ, List.set_cons_zero]
        repeat (go_big_quiet_step (fail))
        refine wpQuiet_nil ?_
        refine rg_end ?_
        clear hx hne hC hbel hB' hcut k3 k2 k0
        go_wp2_with (fail)
        go_returns
        obtain ⟨z1, z2, s5, z3, z4, z5, z6⟩ := HRES.out
        exact ⟨rfl, z2.drew, s5, z3, z4, z5.below (Below.refl _ _).drew, z6⟩
end Go.Proofs.Yticnjdlapioppaa
