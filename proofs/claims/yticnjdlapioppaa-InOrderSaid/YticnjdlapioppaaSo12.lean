/- In: the closure of gaps. -/
import Derived.Test.YticnjdlapioppaaSo11
namespace Go.Proofs.Yticnjdlapioppaa
open Go.RowKit
set_option linter.unusedVariables false

def CovL (L : List Pc) (x : Nat) : Prop := ∃ p ∈ L, p.off ≤ (x : Int) ∧ (x : Int) < p.off + (p.n : Int)
/-- The piece is text, from E on. -/
def GP (w : World) (T : List Int) (E : Nat) (p : Pc) : Prop := ∃ o : Nat, p.off = (o : Int) ∧ E ≤ o ∧ o + p.n ≤ T.length ∧ 0 < p.n ∧ Sl .u8 w p.a p.c (sub T o p.n)
theorem GP.below {w w' : World} {T : List Int} {E : Nat} {p : Pc} (h : GP w T E p) (hb : Below w.heap.size w w') : GP w' T E p := by
  obtain ⟨o, h1, h2, h3, h4, h5⟩ := h
  exact ⟨o, h1, h2, h3, h4, h5.below hb⟩
theorem GP.ok {w : World} {T : List Int} {E : Nat} {p : Pc} (h : GP w T E p) (hT : T.length ≤ 100000) : PcOk p := by
  obtain ⟨o, h1, h2, h3, h4, h5⟩ := h
  unfold PcOk
  omega
/-- What put makes of the pieces. -/
structure PutG (w0 : World) (T : List Int) (E off fr to : Nat) (G G' : List Pc) : Prop where
  old : ∀ p ∈ G, p ∈ G'
  is : ∀ p ∈ G', p ∈ G ∨ GP w0 T E p
  len : G'.length ≤ G.length + 1
  cov : ∀ x : Nat, fr ≤ x → off ≤ x → E ≤ x → x < to → CovL G' x
def PutPost (w0 : World) (T : List Int) (E off fr to base bx : Nat) (oa : Option Addr) (G : List Pc) (w w' : World) (e : Ending) : Prop :=
  e = .returned (.tuple #[]) ∧ Only (fun k => k = bx ∨ ∃ y, oa = some y ∧ y.block = k) w w' ∧ ∃ G' a' c', Blk w' bx #[.slice a' G'.length c'] 69 ∧ OwnS w' base 130 2 a' G'.length c' (cellsQ G') ∧ PutG w0 T E off fr to G G'
theorem SrcAt.blkQ {w : World} {q : Nat} {p : Pc} {t : TypeId} (h : Blk w q #[.int .u64 p.off, .slice p.a p.n p.c] t) : SrcAt w (some ⟨q, 0, none⟩) 1 1 2 (cellsQ [p]) :=
  ⟨rfl, by simp, fun y hy j u hj => by
    cases hy
    rw [addr_add, Nat.zero_add]
    exact h.cell j u (by
      match j with
      | 0 => simpa [cellsQ, encQ] using hj
      | 1 => simpa [cellsQ, encQ] using hj
      | j + 2 => simp [cellsQ, encQ] at hj), cellsQ_one _⟩
theorem run_cut_lh {P : Program} {t e : TypeId} {size bytes : Nat} (hE : ET P t e size bytes) {av : Option Addr} {n cap : Nat} {kl kh : IntKind} (l m : Nat) (h1 : l ≤ m) (h2 : m ≤ cap) (w : World) :
    (Instr.sliceAt t (.slice av n cap) (some (.int kl l)) (some (.int kh m)) none).run P w = .ok (.slice (if cap = l then av else av.map (·.add (l * size))) (m - l) (cap - l)) w := by
  obtain ⟨ht, hz⟩ := hE.elem
  rw [run_sliceAt_slice (h := ht), run_slice_lh (ht := ht) (h0 := by omega) (h1 := by omega) (h2 := by omega), hz]
  simp [Result.andThen, sliced]
set_option maxRecDepth 100000 in
set_option maxHeartbeats 2000000 in
theorem put_any (w0 : World) (T : List Int) (fr to bo bi bx bb q base off len vc : Nat) (va : Option Addr) (s : ISt) (G : List Pc) (oa : Option Addr) (oc : Nat) (w : World)
    (h : IB w q s) (hs : IOk s) (ho : Blk w bo #[.int .u64 off] 25) (hi : Blk w bi #[.pointer (some ⟨q, 0, none⟩)] 98) (hx : Blk w bx #[.slice oa G.length oc] 69) (hb : Blk w bb #[.slice va len vc] 47)
    (hown : OwnS w base 130 2 oa G.length oc (cellsQ G)) (hbase : base ≤ w.heap.size) (hbx : bx < base) (hT : T.length ≤ 3000) (hfr : fr ≤ 100000) (hto : to ≤ off + len) (hol : off + len ≤ T.length) (hG : G.length ≤ 100000) (hsl : Sl .u8 w0 va vc (sub T off len)) :
    Calls Try.prog 65 #[.int .u64 fr, .int .u64 to, .pointer (some ⟨bo, 0, none⟩), .pointer (some ⟨bi, 0, none⟩), .pointer (some ⟨bx, 0, none⟩), .pointer (some ⟨bb, 0, none⟩)] w fun e w' => PutPost w0 T (s.rd + s.bn) off fr to base bx oa G w w' e := by
  obtain ⟨g1, g2, g3, g4, g5, g6⟩ := hs
  have lo := ho.lt
  have li := hi.lt
  have lx := hx.lt
  have lb := hb.lt
  have c0 := ho.cell 0 _ rfl
  have c1 := hi.cell 0 _ rfl
  have c2 := hx.cell 0 _ rfl
  have c3 := hb.cell 0 _ rfl
  have HE := Lib.hid (fun W (hW : Below w.heap.size w W) => iend_any q s W (Blk.below h hW) ⟨g1, g2, g3, g4, g5, g6⟩)
  obtain ⟨E, hE⟩ : ∃ E, s.rd + s.bn = E := ⟨_, rfl⟩
  have hEi : (s.rd : Int) + (s.bn : Int) = (E : Int) := by omega
  rw [hEi] at HE
  have hEb : E ≤ 200000 := by omega
  rw [hE]
  obtain ⟨f, hf⟩ : ∃ f : Nat, max (max fr off) E = f := ⟨_, rfl⟩
  have hfi : max (max (fr : Int) (off : Int)) (E : Int) = (f : Int) := by omega
  have HF := Lib.hid hf
  have hfb : f ≤ 300000 := by omega
  have hfo : off ≤ f := by omega
  have HX := Lib.hid hx
  have HO := Lib.hid ho
  have HI := Lib.hid hi
  have HB := Lib.hid hb
  have HOW := Lib.hid hown
  have HS := Lib.hid hsl
  obtain ⟨m, hm⟩ : ∃ m, G.length = m := ⟨_, rfl⟩
  rw [hm] at c2
  have HM := Lib.hid hm
  have hmb : m ≤ 100000 := by omega
  have hcap := hsl.le
  rw [sub_length hol] at hcap
  have hcm := hsl.max
  unfold maxLen at hcm
  clear h ho hi hx hb hown hsl hf hE hEi hm hG
  by_cases hc : f < to
  · have hd1 : ¬ (to : Int) ≤ (f : Int) := by omega
    have hd2 : (to : Int) > (f : Int) := by omega
    obtain ⟨l, hl⟩ : ∃ l : Nat, f = off + l := ⟨f - off, by omega⟩
    obtain ⟨u, hu⟩ : ∃ u : Nat, to = off + u := ⟨to - off, by omega⟩
    have hli : (f : Int) - (off : Int) = (l : Int) := by omega
    have hui : (to : Int) - (off : Int) = (u : Int) := by omega
    have hlu : l < u ∧ u ≤ len := by omega
    have HL := Lib.hid (And.intro hl hu)
    clear hl hu
    have hcut := fun W => run_cut_lh (P := Try.prog) u8_et (av := va) (n := len) (cap := vc) (kl := .u64) (kh := .u64) l u (by omega) (by omega) W
    obtain ⟨pa, hpa⟩ : ∃ x, (if vc = l then va else va.map (·.add (l * 1))) = x := ⟨_, rfl⟩
    obtain ⟨pn, hpn⟩ : ∃ x, u - l = x := ⟨_, rfl⟩
    obtain ⟨pc, hpc⟩ : ∃ x, vc - l = x := ⟨_, rfl⟩
    rw [hpa, hpn, hpc] at hcut
    have HP := Lib.hid (And.intro hpa (And.intro hpn hpc))
    clear hpa hpn hpc
    go_enter Try.func65, Try.ntmps65
    go_wp2_with (fail)
    refine rg_start 6 ?_
    refine rg_below fun p hx hne hC hbel => ?_
    have k0 : ∀ z : Wd p, z.w.cell? ⟨bo, 0, none⟩ = some (.int .u64 off) := fun z => (hx z _ _ _ lo).trans c0
    have k1 : ∀ z : Wd p, z.w.cell? ⟨bi, 0, none⟩ = some (.pointer (some ⟨q, 0, none⟩)) := fun z => (hx z _ _ _ li).trans c1
    refine rg_quiet 3 [0,1,2] hC ?_
    simp only [pickD, List.map_cons, List.map_nil, List.getD_cons_zero, List.getD_cons_succ]; repeat (go_big_quiet_step (fail))
    refine wpQuiet_nil ?_
    refine rg_act 3 ?_
    go_wp2_with (fail)
    refine (HE.out _ (Below.refl _ _).drew).mono ?_
    rintro e w1 ⟨hb1, rfl⟩
    go_wp2_with (fail)
    have hC1 := hbel _ hb1
    refine ⟨hC1, ?_⟩
    refine rg_quiet 0 [4,5] hC1 ?_
    simp only [pickD, List.map_cons, List.map_nil, List.getD_cons_zero, List.getD_cons_succ]; repeat (go_big_quiet_step (fail))
    refine wpQuiet_nil ?_
    refine rg_end ?_
    clear hx hne hC hbel hC1 k0 k1
    have hb1' : Below w.heap.size w w1 := below_on (Below.refl _ _).drew hb1 (Nat.le_refl _)
    clear hb1
    have HX1 : Blk w1 bx _ _ := HX.out.below hb1'
    have HO1 : Blk w1 bo _ _ := HO.out.below hb1'
    have HB1 : Blk w1 bb _ _ := HB.out.below hb1'
    rw [HM.out] at HX1
    have l0 := HO1.lt
    have l1 := HX1.lt
    have l2 := HB1.lt
    have k0 := HO1.cell 0 _ rfl
    have k1 := HX1.cell 0 _ rfl
    have k2 := HB1.cell 0 _ rfl
    have OW1 : Hid (OwnS w1 base 130 2 oa m oc (cellsQ G)) := Lib.hid (HM.out ▸ HOW.out.below hb1')
    have BB := Lib.hid hb1'
    have bs : base ≤ w1.heap.size := Nat.le_trans hbase hb1'.size
    have HX1' := Lib.hid HX1
    clear HX1 HO1 HB1 hb1' c0 c1 c2 c3
    go_wp2_with (fail)
    refine rg_start 14 ?_
    refine rg_below fun p hx hne hC hbel => ?_
    have k3 : ∀ z : Wd p, z.w.cell? ⟨bo, 0, none⟩ = some (.int .u64 off) := fun z => (hx z _ _ _ l0).trans k0
    have k4 : ∀ z : Wd p, z.w.cell? ⟨bx, 0, none⟩ = some (.slice oa m oc) := fun z => (hx z _ _ _ l1).trans k1
    have k5 : ∀ z : Wd p, z.w.cell? ⟨bb, 0, none⟩ = some (.slice va len vc) := fun z => (hx z _ _ _ l2).trans k2
    refine rg_quiet 3 [0,1,2,3,4,5,6,7,8,9,10] hC ?_
    simp only [pickD, List.map_cons, List.map_nil, List.getD_cons_zero, List.getD_cons_succ]; repeat (go_big_quiet_step (fail))
    refine wpQuiet_nil ?_
    refine rg_act 11 ?_
    go_wp2
    refine ⟨hbel _ ?_, ?_⟩
    · repeat first | exact ⟨rfl, rfl, rfl, Nat.le_refl _, fun _ _ => rfl⟩ | apply Below.drew | refine Below.alloc ?_ (by simp) _
    clear k3 k4 k5 hx hne hC hbel hcut
    refine rg_cut 12 ?_
    have hwd : Below w1.heap.size w1 (w1.drew) := (Below.refl _ _).drew
    refine wpList_app pc_et rfl rfl (base := base) rfl rfl (OW1.out.below (by repeat first | exact Below.refl _ _ | apply Below.drew | refine Below.alloc ?_ (by simp) _)) (SrcAt.blkQ (p := ⟨f, pa, pn, pc⟩) (Blk.new _ _ _)) (by simp only [maxLen]; skip; omega) (by skip; omega) (by simp; omega) ?_
    intro a2 cc2 w2 ho2 on2 _
    have hwd : Below w1.heap.size w1 (w1.alloc (.cells #[.int .u64 (f : Int), .slice pa pn pc] 130)).drew := by repeat first | exact Below.refl _ _ | apply Below.drew | refine Below.alloc ?_ (by simp) _
    have hx2 : Blk w2 bx _ _ := on2.blk (HX1'.out.below hwd) (by rintro ⟨y, hy, he⟩; have := (OW1.out.block hy).1; omega)
    have onl : Only (fun k => k = bx ∨ ∃ y, oa = some y ∧ y.block = k) w w2 := below_only BB.out (below_only hwd (on2.mono fun k _ hk => .inr hk))
    have k3 := hx2.cell 0 _ rfl
    have f3 := hx2.free 0
    rw [show cellsQ G ++ cellsQ [⟨f, pa, pn, pc⟩] = cellsQ (G ++ [⟨f, pa, pn, pc⟩]) from (cellsQ_append _ _).symm] at ho2
    have HO2 := Lib.hid ho2
    have HN2 := Lib.hid onl
    have HX2 := Lib.hid hx2
    clear ho2 on2 hx2 hwd onl k0 k1 k2
    go_wp2_with (fail)
    refine rg_do 13 ?_
    go_wp2_with (fail)
    refine rg_end0 ?_
    go_wp2_with (fail)
    go_returns
    have hl1 : (G ++ [(⟨f, pa, pn, pc⟩ : Pc)]).length = m + 1 := by simp [HM.out]
    refine ⟨rfl, HN2.out.setCell (p := ⟨bx, 0, none⟩) (.inl (.inl rfl)) _, G ++ [⟨f, pa, pn, pc⟩], a2, cc2, ?_, ?_, ?_⟩
    · rw [hl1]; exact (HX2.out.set 0 _).congr rfl
    · rw [hl1]
      exact HO2.out.only ((Only.refl (· = bx) w2).set 0 _) (fun x hx he => by have := (HO2.out.block hx).1; omega)
    · obtain ⟨hl, hu⟩ := HL.out
      obtain ⟨rfl, rfl, rfl⟩ := HP.out
      have hcut := HS.out.cut l u (by omega) (by rw [sub_length (by omega)]; omega)
      rw [sub_drop, sub_take (by omega), ← hl] at hcut
      have hff := HF.out
      refine ⟨fun p hp => List.mem_append_left _ hp, fun p hp => ?_, by simp, fun x h1 h2 h3 h4 => ⟨_, List.mem_append_right _ (List.mem_singleton.2 rfl), ?_, ?_⟩⟩
      · rcases List.mem_append.1 hp with h1 | h1
        · exact .inl h1
        · rw [List.mem_singleton.1 h1]
          exact .inr ⟨f, rfl, by omega, by simp only; omega, by simp only; omega, hcut⟩
      · simp only; omega
      · simp only; omega
  · have hd2 : ¬ (to : Int) > (f : Int) := by omega
    go_enter Try.func65, Try.ntmps65
    go_wp2_with (fail)
    refine rg_start 6 ?_
    refine rg_below fun p hx hne hC hbel => ?_
    have k0 : ∀ z : Wd p, z.w.cell? ⟨bo, 0, none⟩ = some (.int .u64 off) := fun z => (hx z _ _ _ lo).trans c0
    have k1 : ∀ z : Wd p, z.w.cell? ⟨bi, 0, none⟩ = some (.pointer (some ⟨q, 0, none⟩)) := fun z => (hx z _ _ _ li).trans c1
    refine rg_quiet 3 [0,1,2] hC ?_
    simp only [pickD, List.map_cons, List.map_nil, List.getD_cons_zero, List.getD_cons_succ]; repeat (go_big_quiet_step (fail))
    refine wpQuiet_nil ?_
    refine rg_act 3 ?_
    go_wp2_with (fail)
    refine (HE.out _ (Below.refl _ _).drew).mono ?_
    rintro e w1 ⟨hb1, rfl⟩
    go_wp2_with (fail)
    have hC1 := hbel _ hb1
    refine ⟨hC1, ?_⟩
    refine rg_quiet 0 [4,5] hC1 ?_
    simp only [pickD, List.map_cons, List.map_nil, List.getD_cons_zero, List.getD_cons_succ]; repeat (go_big_quiet_step (fail))
    refine wpQuiet_nil ?_
    refine rg_end ?_
    clear hx hne hC hbel hC1 k0 k1
    have hb1' : Below w.heap.size w w1 := below_on (Below.refl _ _).drew hb1 (Nat.le_refl _)
    clear hb1
    have HX1 : Blk w1 bx _ _ := HX.out.below hb1'
    have HO1 : Blk w1 bo _ _ := HO.out.below hb1'
    have HB1 : Blk w1 bb _ _ := HB.out.below hb1'
    rw [HM.out] at HX1
    have l0 := HO1.lt
    have l1 := HX1.lt
    have l2 := HB1.lt
    have k0 := HO1.cell 0 _ rfl
    have k1 := HX1.cell 0 _ rfl
    have k2 := HB1.cell 0 _ rfl
    have OW1 : Hid (OwnS w1 base 130 2 oa m oc (cellsQ G)) := Lib.hid (HM.out ▸ HOW.out.below hb1')
    have BB := Lib.hid hb1'
    have bs : base ≤ w1.heap.size := Nat.le_trans hbase hb1'.size
    have HX1' := Lib.hid HX1
    clear HX1 HO1 HB1 hb1' c0 c1 c2 c3
    go_wp2_with (fail)
    go_returns
    refine ⟨rfl, only_of_below BB.out _, G, oa, oc, ?_, ?_, ⟨fun p hp => hp, fun p hp => .inl hp, by omega, fun x h1 h2 h3 h4 => ?_⟩⟩
    · rw [HM.out]; exact HX1'.out
    · rw [HM.out]; exact OW1.out
    · have hff := HF.out
      omega
end Go.Proofs.Yticnjdlapioppaa
