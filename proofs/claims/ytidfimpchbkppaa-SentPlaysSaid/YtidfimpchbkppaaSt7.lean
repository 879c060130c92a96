/- Sent: Ack. -/
import Derived.Test.YtidfimpchbkppaaSt6
namespace Go.Proofs.Ytidfimpchbkppaa
open Go.RowKit
set_option linter.unusedVariables false

/-- One cell of an own row is set. -/
theorem OwnS.setk {w : World} {base : Nat} {e : TypeId} {size n cap : Nat} {a : Option Addr} {xs : List Value} (h : OwnS w base e size a n cap xs) (g : Nat) (ha : a = some ⟨g, 0, none⟩) (i : Nat) (v : Value) : OwnS (w.setCell ⟨g, i, none⟩ v) base e size a n cap (xs.set i v) := by
  obtain ⟨hl, h2⟩ := h
  refine ⟨by simpa using hl, ?_⟩
  rcases h2 with ⟨h1, h3⟩ | ⟨g', c, cur, h1, h3, h4, h5, h6, h7, h8⟩
  · rw [ha] at h1; cases h1
  · rw [ha] at h1
    cases h1
    have hb : Blk w g cur e := h4
    refine .inr ⟨g, cap, _, by rw [ha], h3, hb.set i v, h5, h6, by simpa using h7, ?_⟩
    rw [← h8]
    simp [List.take_set]
theorem cellsP_set : ∀ (L : List Pk) (i : Nat) (z : Int), (cellsP L).set (i * 6 + 4) (.int .u64 z) = cellsP (L.set i { L.getD i default with after := z })
  | [], i, z => rfl
  | p :: L, 0, z => by
    have e : ∀ (q : Pk) (M : List Pk), cellsP (q :: M) = encP q ++ cellsP M := fun _ _ => rfl
    rw [List.set_cons_zero, e, e]
    simp [encP]
  | p :: L, i + 1, z => by
    have e : ∀ (q : Pk) (M : List Pk), cellsP (q :: M) = encP q ++ cellsP M := fun _ _ => rfl
    rw [List.set_cons_succ, e, e, List.set_append_right _ _ (by simp [encP]; omega), show (i + 1) * 6 + 4 - (encP p).length = i * 6 + 4 by simp [encP]; omega, cellsP_set L i z]
    simp
def over (p : Pk) (out : List Pk) : Nat := out.countP fun q => decide (p.pn < q.pn)
def bump (out : List Pk) (p : Pk) : Pk := { p with after := p.after + over p out }
theorem over_succ (p : Pk) {out : List Pk} {k : Nat} (hk : k < out.length) : over p (out.take (k + 1)) = over p (out.take k) + if p.pn < (out.getD k default).pn then 1 else 0 := by
  unfold over
  rw [List.take_add_one, List.getElem?_eq_getElem hk, List.countP_append]
  simp [List.countP_cons, hk]
theorem over_le (p : Pk) (out : List Pk) : over p out ≤ out.length := List.countP_le_length
/-- The list when the first k have been gone through. -/
def bumped (R out : List Pk) (k : Nat) : List Pk := (R.take k).map (bump out) ++ R.drop k
theorem bumped_zero (R out : List Pk) : bumped R out 0 = R := by simp [bumped]
theorem bumped_all (R out : List Pk) : bumped R out R.length = R.map (bump out) := by simp [bumped]
theorem bumped_length (R out : List Pk) (k : Nat) : (bumped R out k).length = R.length := by simp [bumped]; omega
theorem bumped_get {R : List Pk} (out : List Pk) {k : Nat} (hk : k < R.length) : (bumped R out k).getD k default = R.getD k default := by
  unfold bumped
  rw [List.getD_eq_getElem?_getD, List.getElem?_append_right (by simp; omega)]
  simp [hk, Nat.min_eq_left (Nat.le_of_lt hk)]
theorem bumped_succ {R : List Pk} (out : List Pk) {k : Nat} (hk : k < R.length) : bumped R out (k + 1) = (bumped R out k).set k (bump out (R.getD k default)) := by
  unfold bumped
  have e : ((R.take k).map (bump out)).length = k := by simp; omega
  rw [List.set_append_right _ _ (by omega), e, Nat.sub_self, List.drop_eq_getElem_cons hk, List.set_cons_zero, List.take_add_one, List.getElem?_eq_getElem hk, List.map_append, List.append_assoc]
  simp only [Option.toList_some, List.map_cons, List.map_nil, List.singleton_append, List.getD_eq_getElem?_getD, List.getElem?_eq_getElem hk, Option.getD_some]
theorem bump_nil (p : Pk) : bump [] p = p := by simp [bump, over]

theorem nf_top {p : Int → Prop} {M : List Rg} (h : IsNf p M) (h0 : M ≠ []) : p (endOf (-1) M - 1) := by
  rw [← h.mem]
  have hn := h.neat
  clear h
  suffices ∀ (M : List Rg) (b : Int), NeatFrom b M → M ≠ [] → MemR M (endOf b M - 1) from this M _ hn h0
  intro M
  induction M with
  | nil => intro b _ h; exact absurd rfl h
  | cons r M ih =>
    intro b hb _
    cases M with
    | nil =>
      rw [memR_cons]
      have := hb.2.1
      simp only [endOf]
      omega
    | cons s M =>
      rw [memR_cons]
      exact .inr (ih r.2 hb.2.2 (by simp))
theorem endOf_getLast : ∀ (M : List Rg) (b : Int), M ≠ [] → endOf b M = (M.getD (M.length - 1) default).2
  | [], _, h => absurd rfl h
  | [r], b, _ => rfl
  | r :: s :: M, b, _ => by
    have := endOf_getLast (s :: M) r.2 (by simp)
    simpa [endOf] using this
/-- The row of what is left, while it is gone through. -/
def AL (w5 wr : World) (base : Nat) (al : Option Addr) (nl cl : Nat) (T : List Pk) : Prop := OwnS wr base 69 6 al nl cl (cellsP T) ∧ Only (fun x => ∃ y, al = some y ∧ y.block = x) w5 wr
theorem bumped_same {R : List Pk} (out : List Pk) {k : Nat} (hk : k < R.length) : (bumped R out k).set k (R.getD k default) = bumped R out k := by
  have h := bumped_get out hk
  rw [← h]
  have hl := bumped_length R out k
  refine List.ext_getElem? fun i => ?_
  rw [List.getElem?_set]
  split
  · rename_i e
    subst e
    rw [if_pos (by omega), List.getD_eq_getElem?_getD, List.getElem?_eq_getElem (by omega)]
    rfl
  · rfl
def newTop (has : Bool) (lg e : Int) : Int := if (!has || decide (lg < e - 1)) = true then e - 1 else lg
/-- What Ack answers. -/
def AckPost (w w' : World) (e : Ending) (b : Nat) (F : Nat → Prop) (l : List Rg) (L : List Pk) (has : Bool) (lg la lt top : Int) : Prop :=
  ∃ M, IsNf (MemR l) M ∧ ((M = [] ∧ Below w.heap.size w w' ∧ e = .returned (.tuple #[.slice none 0 0, .int .i64 0])) ∨
    (M ≠ [] ∧ top < endOf (-1) M ∧ Below w.heap.size w w' ∧ e = .returned (.tuple #[.slice none 0 0, .int .i64 5])) ∨
    (M ≠ [] ∧ ¬ top < endOf (-1) M ∧ Only (· = b) w w' ∧ ∃ v, e = .returned (.tuple #[v, .int .i64 0]) ∧ Told15 w w' v (L.filter fun p => inB l p.pn) ∧
      SS w' b F ((L.filter fun p => !inB l p.pn).map (bump (L.filter fun p => inB l p.pn))) true (newTop has lg (endOf (-1) M)) la lt top))
set_option maxRecDepth 100000 in
set_option maxHeartbeats 4000000 in
theorem sack_any (b : Nat) (F : Nat → Prop) (al0 : Option Addr) (nl0 cl0 : Nat) (l : List Rg) (L : List Pk) (has : Bool) (lg la lt top : Int) (w : World) (h : SS w b F L has lg la lt top) (hF : Hid (∀ z, w.heap.size ≤ z → F z)) (hl : L.length ≤ 1000) (hg : u64b' lg) (ht : u64b' top) (hnl : nl0 = l.length) (hR : Rs w al0 cl0 l) (hll : l.length ≤ 1000) (haf : ∀ p ∈ L, p.after ≤ 1000000) :
    Calls Try.prog 40 #[.pointer (some ⟨b, 0, none⟩), .slice al0 nl0 cl0] w fun e w' => AckPost w w' e b F l L has lg la lt top := by
  obtain ⟨a, n, c, hB, hn, hP, hne0⟩ := h
  have hne : ∀ x, a = some x → 0 < L.length → x.block ≠ b := fun x hx h0 => (hne0 x hx h0).1
  clear hne0
  have hblt := Blk.lt hB
  have hz0 : ¬ b = w.heap.size := by omega
  have b1 : Below w.heap.size w (w.alloc (.cells #[.slice al0 nl0 cl0] 22)) := (Below.refl _ _).alloc (Nat.le_refl _) _
  have x1 := Blk.new w #[.slice al0 nl0 cl0] 22
  have HNL := Lib.hid hnl
  have HN := Lib.hid hn
  have HB := Lib.hid hB
  have HP := Lib.hid hP
  have HNE := Lib.hid hne
  have HR := Lib.hid hR
  have HAF := Lib.hid haf
  clear hnl hn hB hP hne hR haf
  go_enter Try.func40, Try.ntmps40
  go_wp2_with (fail)
  obtain ⟨w1, hw1⟩ : ∃ w1, w.alloc (.cells #[.slice al0 nl0 cl0] 22) = w1 := ⟨_, rfl⟩
  have z1 : w1.heap.size = w.heap.size + 1 := by rw [← hw1]; simp
  rw [hw1] at b1 x1 ⊢
  have B1 := Lib.hid b1
  clear hw1
  refine (add_any al0 none nl0 0 cl0 0 l [] w1 HNL.out rfl (HR.out.below b1) (Rs.nil _) (by omega) (by simp)).mono ?_
  rintro e w2 ⟨hb2, am, cm, M, rfl, hom, hbM, hnM, hlM⟩
  rw [List.append_nil] at hnM
  have x2 := x1.below hb2
  have y0 := x2.cell 0 _ rfl
  have fr0 := x2.free 0
  have x3 : Blk (w2.setCell ⟨w.heap.size, 0, none⟩ (.slice am M.length cm)) w.heap.size #[.slice am M.length cm] 22 := (x2.set 0 _).congr (by simp)
  have b2 := below_on b1 hb2 (by omega)
  have hsz2 : w.heap.size + 1 ≤ w2.heap.size := by have := hb2.size; omega
  have hom2 := (hom.rs hbM).2
  have hmb : ∀ x, am = some x → x.block ≠ w.heap.size ∧ w.heap.size < x.block := fun x hx => by have := (hom.block hx).1; omega
  have o3 : Only (· = w.heap.size) w2 (w2.setCell ⟨w.heap.size, 0, none⟩ (.slice am M.length cm)) := (Only.refl _ _).set 0 _
  have hrs3 := hom2.only o3 (fun x hx _ => (hmb x hx).1)
  have b3 : Below w.heap.size w (w2.setCell ⟨w.heap.size, 0, none⟩ (.slice am M.length cm)) := b2.setCell (Nat.le_refl _) _
  have hs3 : (w2.setCell ⟨w.heap.size, 0, none⟩ (.slice am M.length cm)).heap.size = w2.heap.size := by simp
  have hs2 := Blk.below HB.out b2
  have s5 := hs2.cell 5 _ rfl
  have s1 := hs2.cell 1 _ rfl
  have s2 := hs2.cell 2 _ rfl
  have r1 := hs2.free 1
  have r2 := hs2.free 2
  have HS2 := Lib.hid hs2
  have R2 := Lib.hid hom2
  have B2 := Lib.hid b2
  have HMB := Lib.hid hmb
  have O3 := Lib.hid o3
  clear hs2 hmb
  obtain ⟨m, hm⟩ : ∃ m, M.length = m := ⟨_, rfl⟩
  rw [hm] at O3
  rw [hm] at x3 o3 hrs3 b3 hs3 ⊢
  have hm1 : m ≤ 1000 := by simp at hlM; omega
  have HM := Lib.hid hm
  have HNF := Lib.hid hnM
  have X3 := Lib.hid x3
  have B3 := Lib.hid b3
  have R3 := Lib.hid hrs3
  clear hm hnM x3 b3 hrs3 o3 hom hom2 hbM hlM x1 x2 hb2 b1 b2 z1
  by_cases hm0 : m = 0
  · subst hm0
    go_wp2_with (fail)
    go_returns
    exact ⟨M, HNF.out, .inl ⟨List.length_eq_zero_iff.1 HM.out, B3.out, rfl⟩⟩
  · obtain ⟨k, rfl⟩ : ∃ k, m = k + 1 := ⟨m - 1, by omega⟩
    have hM0 : M ≠ [] := fun h => by have := HM.out; rw [h] at this; simp at this
    obtain ⟨bm, om, ham, hbm, v1, v2⟩ := R2.out.at_ (i := k) (by have := HM.out; omega)
    have hend := endOf_getLast M (-1) hM0
    rw [show M.length - 1 = k by have := HM.out; omega] at hend
    rw [← hend] at v2
    have hendb := (R3.out.bnd _ (show M.getD k default ∈ M by have := HM.out; simp [show k < M.length by omega])).2
    rw [← hend] at hendb
    obtain ⟨E, hE⟩ : ∃ E, endOf (-1) M = E := ⟨_, rfl⟩
    rw [hE] at v2 hendb
    have hE0 : 0 < E := by
      have h1 := nf_top HNF.out hM0
      obtain ⟨r, hr, h2, h3⟩ := h1
      have := (HR.out.bnd r hr).1.1
      omega
    have HE := Lib.hid hE
    have hk1 : ((k + 1 : Nat) : Int) - 1 = (k : Int) := by omega
    have hbw2 : bm ≠ w.heap.size := (HMB.out _ ham).1
    subst ham
    have hin : inB M = inB l := funext fun n => by rw [Bool.eq_iff_iff, inB_iff, inB_iff]; exact HNF.out.mem n
    have HIN := Lib.hid hin
    clear hin hend hE
    by_cases hE1 : top < E
    · go_wp2_with (fail)
      go_returns
      exact ⟨M, HNF.out, .inr (.inl ⟨hM0, by rw [HE.out]; exact hE1, B3.out, rfl⟩)⟩
    · cases has with
      | false =>
        obtain ⟨w3, hw3⟩ : ∃ w3, w2.setCell ⟨w.heap.size, 0, none⟩ (.slice (some ⟨bm, om, none⟩) (k + 1) cm) = w3 := ⟨_, rfl⟩
        have hx3 := X3.out
        have hs3' := O3.out.blk (show Blk w2 b _ _ from HS2.out) hz0
        have hr3 := R3.out
        have hb3 := B3.out
        rw [hw3] at hx3 hs3' hr3 hb3 hs3
        have hs4 : SB ((w3.setCell ⟨b, 1, none⟩ (.bool true)).setCell ⟨b, 2, none⟩ (.int .u64 (E - 1))) b a n c true (E - 1) la lt top := ((hs3'.set 1 (.bool true)).set 2 (.int .u64 (E - 1))).congr (by simp)
        have o34 : Only (· = b) w3 ((w3.setCell ⟨b, 1, none⟩ (.bool true)).setCell ⟨b, 2, none⟩ (.int .u64 (E - 1))) := ((Only.refl _ _).set 1 _).set 2 _
        have o4 := (only_of_below hb3 (· = b)).trans o34
        have hp4 := (HP.out.below hb3).only2 o34 (fun x hx h0 => HNE.out x hx h0)
        have q4 := (o34.blk hx3 (fun h => hz0 h.symm)).cell 0 _ rfl
        have rm4 := hr3.only o34 (fun x hx _ => by cases hx; show ¬ bm = b; have := HMB.out _ rfl; simp at this; omega)
        have hs4s : w.heap.size < ((w3.setCell ⟨b, 1, none⟩ (.bool true)).setCell ⟨b, 2, none⟩ (.int .u64 (E - 1))).heap.size := by simp; omega
        have W3 := Lib.hid hw3
        clear hw3 hx3 hs3' hr3 hb3 o34
        go_wp2_with (fail)
        rw [W3.out]
        obtain ⟨w4, hw4⟩ : ∃ w4, (w3.setCell ⟨b, 1, none⟩ (.bool true)).setCell ⟨b, 2, none⟩ (.int .u64 (E - 1)) = w4 := ⟨_, rfl⟩
        rw [hw4] at hs4 o4 hp4 q4 rm4 hs4s ⊢
        clear hw4
        have HS4 := Lib.hid hs4
        have O4 := Lib.hid o4
        have HP4 := Lib.hid hp4
        have c4 : w4.cell? ⟨w.heap.size, 0, none⟩ = some (.slice (some ⟨bm, om, none⟩) (k + 1) cm) := q4
        have RM4 := Lib.hid rm4
        clear hs4 o4 hp4 q4 rm4
        refine (take_any 77 #[.pointer (some ⟨w.heap.size, 0, none⟩)] (fun p => inB l p.pn) b L a n c true (E - 1) la lt top w4 HS4.out HN.out HP4.out hl (by kernel_rfl) (fun W p hW hp => by
          have := ackc_any p w.heap.size (some ⟨bm, om, none⟩) (k + 1) cm M W (HP4.out.ok p hp) (by have := hW.size; omega) ((hW.cell (p := ⟨w.heap.size, 0, none⟩) (by show w.heap.size < _; omega)).trans c4) HM.out.symm (RM4.out.below hW)
          rw [HIN.out] at this
          exact this)).mono ?_
        rintro e w5 ⟨o5, ao, no, co, al, nl, cl, rfl, hs5, ht5⟩
        obtain ⟨e1, e2, u1, u2, hdd⟩ := ht5
        rw [List.take_length] at e1 e2 u1 u2
        obtain ⟨R, hRR⟩ : ∃ R, (L.filter fun p => !inB l p.pn) = R := ⟨_, rfl⟩
        obtain ⟨out, hout⟩ : ∃ out, (L.filter fun p => inB l p.pn) = out := ⟨_, rfl⟩
        rw [hRR] at e2 u2
        rw [hout] at e1 u1
        have hRok : ∀ p ∈ R, PkOk p ∧ p.after ≤ 1000000 := fun p hp => by rw [← hRR] at hp; exact ⟨HP4.out.ok p (List.mem_filter.1 hp).1, HAF.out p (List.mem_filter.1 hp).1⟩
        have hook : ∀ p ∈ out, PkOk p := fun p hp => by rw [← hout] at hp; exact HP4.out.ok p (List.mem_filter.1 hp).1
        have hRl : R.length ≤ 1000 := by have := List.length_filter_le (fun p => !inB l p.pn) L; rw [hRR] at this; omega
        have hol : out.length ≤ 1000 := by have := List.length_filter_le (fun p => inB l p.pn) L; rw [hout] at this; omega
        rw [← e1] at hol
        rw [← e2] at hRl
        have ps5 := (u1.ps hook).2
        have hal : ∀ x, al = some x → x.block ≠ b ∧ w.heap.size < x.block := fun x hx => by have := (u2.block hx).1; omega
        have hao : ∀ x, ao = some x → x.block ≠ b ∧ w.heap.size < x.block := fun x hx => by have := (u1.block hx).1; omega
        have s05 := Blk.cell hs5 0 _ rfl
        have E1 := Lib.hid e1
        have E2 := Lib.hid e2
        have U2 := Lib.hid u2
        have PS5 := Lib.hid ps5
        have HDD := Lib.hid hdd
        have HAL := Lib.hid hal
        have HAO := Lib.hid hao
        have HS5 := Lib.hid hs5
        have O5 := Lib.hid (O4.out.trans o5)
        have HRR := Lib.hid hRR
        have HOUT := Lib.hid hout
        have HROK := Lib.hid hRok
        have hb5 : b < w5.heap.size := Blk.lt hs5
        clear e1 e2 u1 u2 ps5 hdd hal hao hs5 o5 hRR hout hRok hook
        go_wp2_with (fail)
        clear s05
        go_loopw [8, 10, 67, 72] (fun _ _ i _ wr => ∃ kk : Nat, i = .int .i64 kk ∧ kk ≤ nl ∧ Hid (AL w5 wr w4.heap.size al nl cl (bumped R out kk))) (fun _ _ i _ _ => nl - (intOf i).toNat)
        case atStart => exact ⟨0, rfl, by omega, Lib.hid ⟨by rw [bumped_zero]; exact U2.out, Only.refl _ _⟩⟩
        case round =>
          obtain ⟨kk, rfl, hkk, hal⟩ := hrel
          have HA := Lib.hid hal.out
          clear hal
          by_cases hlt : kk < nl
          · have hkR : kk < R.length := by have := E2.out; omega
            go_wp2_with (fail)
            go_loopw [10, 72] (fun _ j wr => ∃ jj : Nat, j = .int .i64 jj ∧ jj ≤ no ∧ Hid (AL w5 wr w4.heap.size al nl cl ((bumped R out kk).set kk (bump (out.take jj) (R.getD kk default))))) (fun _ j _ => no - (intOf j).toNat)
            case atStart => exact ⟨0, rfl, by omega, Lib.hid (by rw [List.take_zero, bump_nil, bumped_same out hkR]; exact HA.out)⟩
            case round =>
              obtain ⟨jj, rfl, hjj, hal⟩ := hrel
              by_cases hlj : jj < no
              · have hjo : jj < out.length := by have := E1.out; omega
                obtain ⟨own, onl⟩ := hal.out
                obtain ⟨b', off, ha, hb', p, hpe, hpm, d0, d1, d2, d3, d4, d5, i0, i1, i2, i4⟩ := (PS5.out.only onl (fun x hx ⟨y, hy, he⟩ => HDD.out x y hx hy he.symm)).at_ hjo
                have hov := over_succ (R.getD kk default) hjo
                rw [hpe] at hov
                have hsb := onl.blk (show Blk w5 b _ _ from HS5.out) (fun ⟨y, hy, he⟩ => (HAL.out y hy).1 he)
                obtain ⟨r, hr⟩ : ∃ r, R.getD kk default = r := ⟨_, rfl⟩
                have hrm : r ∈ R := by rw [← hr]; simp [hkR]
                obtain ⟨⟨⟨rp1, rp2⟩, _, _, ra1, _⟩, ra3⟩ := HROK.out r hrm
                rw [hr] at own hov
                obtain ⟨T, hT⟩ : ∃ T, (bumped R out kk).set kk (bump (out.take jj) r) = T := ⟨_, rfl⟩
                have hTl : T.length = R.length := by rw [← hT, List.length_set, bumped_length]
                have hTg : T.getD kk default = bump (out.take jj) r := by rw [← hT]; simp [bumped_length, hkR]
                rw [hT] at own
                obtain ⟨z, hz⟩ : ∃ z : Int, r.after + over r (out.take jj) = z := ⟨_, rfl⟩
                have hzb : 0 ≤ z ∧ z ≤ 1001000 := by
                  have h1 := over_le r (out.take jj)
                  rw [List.length_take] at h1
                  omega
                have hcl := cellsP_length T
                obtain ⟨g, hg1, hg2, hg3, hg4, hg5⟩ := own.at_ (i := kk * 6) (by omega)
                obtain ⟨g', hg1', _, _, hg4', hg5'⟩ := own.at_ (i := kk * 6 + 4) (by omega)
                rw [hg1] at hg1'
                cases hg1'
                have hcg := cellsP_get T kk 0 (by omega) (by omega)
                rw [Nat.add_zero] at hcg
                rw [hcg, hTg] at hg4
                rw [cellsP_get T kk 4 (by omega) (by omega), hTg] at hg4'
                replace hg4 : wr.cell? ⟨g, kk * 6, none⟩ = some (.int .u64 r.pn) := hg4
                replace hg4' : wr.cell? ⟨g, kk * 6 + 4, none⟩ = some (.int .u64 (r.after + over r (out.take jj))) := hg4'
                rw [hz] at hg4'
                have hgb : ¬ g = b := (HAL.out _ hg1).1
                have sb0 := hsb.cell 0 _ rfl
                have hsbl := hsb.lt
                have HOWN := Lib.hid own
                have HONL := Lib.hid onl
                have HTG := Lib.hid hTg
                have HTT := Lib.hid hT
                have HOV := Lib.hid hov
                have HZ := Lib.hid hz
                have HR1 := Lib.hid hr
                clear hal own onl hTg hT hov hz hcl hcg hTl hpe hr hg5
                subst ha hg1
                obtain ⟨pn, at_, size, el, after, fa, fn, fc⟩ := p
                obtain ⟨rn, rat, rsize, rel, raft, rfa, rfn, rfc⟩ := r
                simp only at *
                have n1 : ¬ b = wr.heap.size := by omega
                have n2 : ¬ g = wr.heap.size := by omega
                have K1 : (wr.alloc (.cells #[.int .u64 pn, .int .u64 at_, .int .u64 size, .bool el, .int .u64 after, .slice fa fn fc] 69)).cell? ⟨wr.heap.size, 0, none⟩ = some (.int .u64 pn) := (Blk.new wr _ _).cell 0 _ rfl
                have K2 : (wr.alloc (.cells #[.int .u64 pn, .int .u64 at_, .int .u64 size, .bool el, .int .u64 after, .slice fa fn fc] 69)).cell? ⟨b, 0, none⟩ = some (.slice (some ⟨g, 0, none⟩) nl cl) := (hsb.alloc _).cell 0 _ rfl
                have bb : Below wr.heap.size wr (wr.alloc (.cells #[.int .u64 pn, .int .u64 at_, .int .u64 size, .bool el, .int .u64 after, .slice fa fn fc] 69)).drew := ((Below.refl _ _).alloc (Nat.le_refl _) _).drew
                have K3 : (wr.alloc (.cells #[.int .u64 pn, .int .u64 at_, .int .u64 size, .bool el, .int .u64 after, .slice fa fn fc] 69)).cell? ⟨g, kk * 6, none⟩ = some (.int .u64 rn) := (bb.cell (p := ⟨g, kk * 6, none⟩) hg3).trans hg4
                have K4 : (wr.alloc (.cells #[.int .u64 pn, .int .u64 at_, .int .u64 size, .bool el, .int .u64 after, .slice fa fn fc] 69)).drew.cell? ⟨g, kk * 6 + 4, none⟩ = some (.int .u64 z) := (bb.cell (p := ⟨g, kk * 6 + 4, none⟩) hg3).trans hg4'
                have K5 : (wr.alloc (.cells #[.int .u64 pn, .int .u64 at_, .int .u64 size, .bool el, .int .u64 after, .slice fa fn fc] 69)).drew.cell? ⟨b, 0, none⟩ = some (.slice (some ⟨g, 0, none⟩) nl cl) := (hsb.alloc _).cell 0 _ rfl
                have K6 : (wr.alloc (.cells #[.int .u64 pn, .int .u64 at_, .int .u64 size, .bool el, .int .u64 after, .slice fa fn fc] 69)).drew.frozen? ⟨g, kk * 6 + 4, none⟩ = false := (bb.frozen (p := ⟨g, kk * 6 + 4, none⟩) hg3).trans hg5'
                have BB := Lib.hid bb
                clear bb
                go_wp2_with (fail)
                refine rg_start 12 ?_
                refine rg_same fun p hx hne' hC => ?_
                have k1 : ∀ z : Wd p, z.w.cell? ⟨wr.heap.size, 0, none⟩ = some (.int .u64 pn) := fun z => by rw [hx z]; exact K1
                have k2 : ∀ z : Wd p, z.w.cell? ⟨b, 0, none⟩ = some (.slice (some ⟨g, 0, none⟩) nl cl) := fun z => by rw [hx z]; exact K2
                have k3 : ∀ z : Wd p, z.w.cell? ⟨g, kk * 6, none⟩ = some (.int .u64 rn) := fun z => by rw [hx z]; exact K3
                refine rg_quiet 0 [0,1,2,3,4,5,6,7,8,9,10,11] hC ?_
                simp only [pickD, List.map_cons, List.map_nil, List.getD_cons_zero, List.getD_cons_succ]; repeat (go_big_quiet_step (fail))
                refine wpQuiet_nil ?_
                refine rg_end ?_
                obtain ⟨wq, hwq⟩ : ∃ wq, (wr.alloc (.cells #[.int .u64 pn, .int .u64 at_, .int .u64 size, .bool el, .int .u64 after, .slice fa fn fc] 69)).drew = wq := ⟨_, rfl⟩
                rw [hwq] at K4 K5 K6 BB ⊢
                clear k1 k2 k3 hC hne' hx K1 K2 K3 hwq hg4 hg4'
                by_cases hgt : rn < pn
                · have hg1 : decide (rn < pn) = true := decide_eq_true hgt
                  go_wp2_with (fail)
                  have hz2 : ({ T.getD kk default with after := z + 1 } : Pk) = bump (out.take (jj + 1)) ⟨rn, rat, rsize, rel, raft, rfa, rfn, rfc⟩ := by
                    rw [HTG.out]
                    unfold bump
                    rw [HOV.out, if_pos hgt, ← HZ.out]
                    simp only [Pk.mk.injEq, true_and, and_true]
                    omega
                  refine ⟨⟨jj + 1, rfl, by omega, Lib.hid ⟨?_, ?_⟩⟩, by simp [intOf]; omega⟩
                  · have h1 := (HOWN.out.below BB.out).setk g rfl (kk * 6 + 4) (.int .u64 (z + 1))
                    rw [cellsP_set, hz2] at h1
                    rw [HR1.out, show (bumped R out kk).set kk (bump (out.take (jj + 1)) ⟨rn, rat, rsize, rel, raft, rfa, rfn, rfc⟩) = T.set kk (bump (out.take (jj + 1)) ⟨rn, rat, rsize, rel, raft, rfa, rfn, rfc⟩) by rw [← HTT.out, List.set_set]]
                    exact h1
                  · exact Only.setCell (p := ⟨g, kk * 6 + 4, none⟩) (HONL.out.trans (only_of_below BB.out _)) (.inl ⟨⟨g, 0, none⟩, rfl, rfl⟩) _
                · have hg1 : decide (rn < pn) = false := decide_eq_false hgt
                  go_wp2_with (fail)
                  have hz2 : bump (out.take jj) ⟨rn, rat, rsize, rel, raft, rfa, rfn, rfc⟩ = bump (out.take (jj + 1)) ⟨rn, rat, rsize, rel, raft, rfa, rfn, rfc⟩ := by
                    unfold bump
                    rw [HOV.out, if_neg hgt, Nat.add_zero]
                  refine ⟨⟨jj + 1, rfl, by omega, Lib.hid ⟨?_, HONL.out.trans (only_of_below BB.out _)⟩⟩, by simp [intOf]; omega⟩
                  rw [HR1.out, ← hz2, HTT.out]
                  exact HOWN.out.below BB.out
              · obtain rfl : jj = no := by omega
                have hal2 := hal.out
                rw [show out.take jj = out by rw [E1.out, List.take_length], ← bumped_succ out hkR] at hal2
                have HAL2 := Lib.hid hal2
                clear hal hal2
                go_wp2_with (fail)
                exact ⟨⟨kk + 1, rfl, by omega, HAL2⟩, by simp [intOf]; omega⟩
          · obtain rfl : kk = nl := by omega
            obtain ⟨own, onl⟩ := HA.out
            rw [show bumped R out kk = R.map (bump out) by rw [E2.out]; exact bumped_all R out] at own
            have hokk : ∀ p ∈ R.map (bump out), PkOk p := by
              intro p hp
              obtain ⟨q, hq, rfl⟩ := List.mem_map.1 hp
              obtain ⟨⟨h1, h2, h3, h4, h5⟩, h6⟩ := HROK.out q hq
              have h7 := over_le q out
              refine ⟨h1, h2, h3, ?_⟩
              unfold u64b'
              show 0 ≤ q.after + (over q out : Int) ∧ q.after + (over q out : Int) ≤ 18446744073709551615
              have := E1.out
              omega
            have hsb := onl.blk (show Blk w5 b _ _ from HS5.out) (fun ⟨y, hy, he⟩ => (HAL.out y hy).1 he)
            have hpo := PS5.out.only onl (fun x hx ⟨y, hy, he⟩ => HDD.out x y hx hy he.symm)
            have hfin : Only (· = b) w wr := ⟨onl.os.trans O5.out.os, onl.tape.trans O5.out.tape, onl.output.trans O5.out.output, Nat.le_trans O5.out.size onl.size, fun x hx hs => (onl.block x (Nat.lt_of_lt_of_le hx O5.out.size) (fun ⟨y, hy, he⟩ => by have := (HAL.out y hy).2; omega)).trans (O5.out.block x hx hs)⟩
            have HSB := Lib.hid hsb
            have HPO := Lib.hid hpo
            have HPL := Lib.hid (own.ps hokk)
            have HFIN := Lib.hid hfin
            clear own onl hokk hsb hpo hfin HA
            go_wp2_with (fail)
            go_returns
            refine ⟨M, HNF.out, .inr (.inr ⟨hM0, by rw [HE.out]; omega, HFIN.out, _, rfl, ⟨ao, no, co, rfl, by rw [HOUT.out]; exact E1.out, by rw [HOUT.out]; exact HPO.out, fun x hx => Nat.le_of_lt (HAO.out x hx).2⟩, ?_⟩)⟩
            rw [HRR.out, HOUT.out, HE.out, show newTop false lg E = (E - 1) by simp [newTop]]
            exact ⟨al, kk, cl, HSB.out, by rw [List.length_map]; exact E2.out, HPL.out.2, fun x hx _ => ⟨(HAL.out x hx).1, hF.out _ (Nat.le_of_lt (HAL.out x hx).2)⟩⟩
      | true =>
        by_cases hgt0 : lg < E - 1
        · have hgt1 : decide (lg < E - 1) = true := decide_eq_true hgt0
          obtain ⟨w3, hw3⟩ : ∃ w3, w2.setCell ⟨w.heap.size, 0, none⟩ (.slice (some ⟨bm, om, none⟩) (k + 1) cm) = w3 := ⟨_, rfl⟩
          have hx3 := X3.out
          have hs3' := O3.out.blk (show Blk w2 b _ _ from HS2.out) hz0
          have hr3 := R3.out
          have hb3 := B3.out
          rw [hw3] at hx3 hs3' hr3 hb3 hs3
          have hs4 : SB ((w3.setCell ⟨b, 1, none⟩ (.bool true)).setCell ⟨b, 2, none⟩ (.int .u64 (E - 1))) b a n c true (E - 1) la lt top := ((hs3'.set 1 (.bool true)).set 2 (.int .u64 (E - 1))).congr (by simp)
          have o34 : Only (· = b) w3 ((w3.setCell ⟨b, 1, none⟩ (.bool true)).setCell ⟨b, 2, none⟩ (.int .u64 (E - 1))) := ((Only.refl _ _).set 1 _).set 2 _
          have o4 := (only_of_below hb3 (· = b)).trans o34
          have hp4 := (HP.out.below hb3).only2 o34 (fun x hx h0 => HNE.out x hx h0)
          have q4 := (o34.blk hx3 (fun h => hz0 h.symm)).cell 0 _ rfl
          have rm4 := hr3.only o34 (fun x hx _ => by cases hx; show ¬ bm = b; have := HMB.out _ rfl; simp at this; omega)
          have hs4s : w.heap.size < ((w3.setCell ⟨b, 1, none⟩ (.bool true)).setCell ⟨b, 2, none⟩ (.int .u64 (E - 1))).heap.size := by simp; omega
          have W3 := Lib.hid hw3
          clear hw3 hx3 hs3' hr3 hb3 o34
          go_wp2_with (fail)
          rw [W3.out]
          obtain ⟨w4, hw4⟩ : ∃ w4, (w3.setCell ⟨b, 1, none⟩ (.bool true)).setCell ⟨b, 2, none⟩ (.int .u64 (E - 1)) = w4 := ⟨_, rfl⟩
          rw [hw4] at hs4 o4 hp4 q4 rm4 hs4s ⊢
          clear hw4
          have HS4 := Lib.hid hs4
          have O4 := Lib.hid o4
          have HP4 := Lib.hid hp4
          have c4 : w4.cell? ⟨w.heap.size, 0, none⟩ = some (.slice (some ⟨bm, om, none⟩) (k + 1) cm) := q4
          have RM4 := Lib.hid rm4
          clear hs4 o4 hp4 q4 rm4
          refine (take_any 77 #[.pointer (some ⟨w.heap.size, 0, none⟩)] (fun p => inB l p.pn) b L a n c true (E - 1) la lt top w4 HS4.out HN.out HP4.out hl (by kernel_rfl) (fun W p hW hp => by
            have := ackc_any p w.heap.size (some ⟨bm, om, none⟩) (k + 1) cm M W (HP4.out.ok p hp) (by have := hW.size; omega) ((hW.cell (p := ⟨w.heap.size, 0, none⟩) (by show w.heap.size < _; omega)).trans c4) HM.out.symm (RM4.out.below hW)
            rw [HIN.out] at this
            exact this)).mono ?_
          rintro e w5 ⟨o5, ao, no, co, al, nl, cl, rfl, hs5, ht5⟩
          obtain ⟨e1, e2, u1, u2, hdd⟩ := ht5
          rw [List.take_length] at e1 e2 u1 u2
          obtain ⟨R, hRR⟩ : ∃ R, (L.filter fun p => !inB l p.pn) = R := ⟨_, rfl⟩
          obtain ⟨out, hout⟩ : ∃ out, (L.filter fun p => inB l p.pn) = out := ⟨_, rfl⟩
          rw [hRR] at e2 u2
          rw [hout] at e1 u1
          have hRok : ∀ p ∈ R, PkOk p ∧ p.after ≤ 1000000 := fun p hp => by rw [← hRR] at hp; exact ⟨HP4.out.ok p (List.mem_filter.1 hp).1, HAF.out p (List.mem_filter.1 hp).1⟩
          have hook : ∀ p ∈ out, PkOk p := fun p hp => by rw [← hout] at hp; exact HP4.out.ok p (List.mem_filter.1 hp).1
          have hRl : R.length ≤ 1000 := by have := List.length_filter_le (fun p => !inB l p.pn) L; rw [hRR] at this; omega
          have hol : out.length ≤ 1000 := by have := List.length_filter_le (fun p => inB l p.pn) L; rw [hout] at this; omega
          rw [← e1] at hol
          rw [← e2] at hRl
          have ps5 := (u1.ps hook).2
          have hal : ∀ x, al = some x → x.block ≠ b ∧ w.heap.size < x.block := fun x hx => by have := (u2.block hx).1; omega
          have hao : ∀ x, ao = some x → x.block ≠ b ∧ w.heap.size < x.block := fun x hx => by have := (u1.block hx).1; omega
          have s05 := Blk.cell hs5 0 _ rfl
          have E1 := Lib.hid e1
          have E2 := Lib.hid e2
          have U2 := Lib.hid u2
          have PS5 := Lib.hid ps5
          have HDD := Lib.hid hdd
          have HAL := Lib.hid hal
          have HAO := Lib.hid hao
          have HS5 := Lib.hid hs5
          have O5 := Lib.hid (O4.out.trans o5)
          have HRR := Lib.hid hRR
          have HOUT := Lib.hid hout
          have HROK := Lib.hid hRok
          have hb5 : b < w5.heap.size := Blk.lt hs5
          clear e1 e2 u1 u2 ps5 hdd hal hao hs5 o5 hRR hout hRok hook
          go_wp2_with (fail)
          clear s05
          go_loopw [8, 10, 67, 72] (fun _ _ i _ wr => ∃ kk : Nat, i = .int .i64 kk ∧ kk ≤ nl ∧ Hid (AL w5 wr w4.heap.size al nl cl (bumped R out kk))) (fun _ _ i _ _ => nl - (intOf i).toNat)
          case atStart => exact ⟨0, rfl, by omega, Lib.hid ⟨by rw [bumped_zero]; exact U2.out, Only.refl _ _⟩⟩
          case round =>
            obtain ⟨kk, rfl, hkk, hal⟩ := hrel
            have HA := Lib.hid hal.out
            clear hal
            by_cases hlt : kk < nl
            · have hkR : kk < R.length := by have := E2.out; omega
              go_wp2_with (fail)
              go_loopw [10, 72] (fun _ j wr => ∃ jj : Nat, j = .int .i64 jj ∧ jj ≤ no ∧ Hid (AL w5 wr w4.heap.size al nl cl ((bumped R out kk).set kk (bump (out.take jj) (R.getD kk default))))) (fun _ j _ => no - (intOf j).toNat)
              case atStart => exact ⟨0, rfl, by omega, Lib.hid (by rw [List.take_zero, bump_nil, bumped_same out hkR]; exact HA.out)⟩
              case round =>
                obtain ⟨jj, rfl, hjj, hal⟩ := hrel
                by_cases hlj : jj < no
                · have hjo : jj < out.length := by have := E1.out; omega
                  obtain ⟨own, onl⟩ := hal.out
                  obtain ⟨b', off, ha, hb', p, hpe, hpm, d0, d1, d2, d3, d4, d5, i0, i1, i2, i4⟩ := (PS5.out.only onl (fun x hx ⟨y, hy, he⟩ => HDD.out x y hx hy he.symm)).at_ hjo
                  have hov := over_succ (R.getD kk default) hjo
                  rw [hpe] at hov
                  have hsb := onl.blk (show Blk w5 b _ _ from HS5.out) (fun ⟨y, hy, he⟩ => (HAL.out y hy).1 he)
                  obtain ⟨r, hr⟩ : ∃ r, R.getD kk default = r := ⟨_, rfl⟩
                  have hrm : r ∈ R := by rw [← hr]; simp [hkR]
                  obtain ⟨⟨⟨rp1, rp2⟩, _, _, ra1, _⟩, ra3⟩ := HROK.out r hrm
                  rw [hr] at own hov
                  obtain ⟨T, hT⟩ : ∃ T, (bumped R out kk).set kk (bump (out.take jj) r) = T := ⟨_, rfl⟩
                  have hTl : T.length = R.length := by rw [← hT, List.length_set, bumped_length]
                  have hTg : T.getD kk default = bump (out.take jj) r := by rw [← hT]; simp [bumped_length, hkR]
                  rw [hT] at own
                  obtain ⟨z, hz⟩ : ∃ z : Int, r.after + over r (out.take jj) = z := ⟨_, rfl⟩
                  have hzb : 0 ≤ z ∧ z ≤ 1001000 := by
                    have h1 := over_le r (out.take jj)
                    rw [List.length_take] at h1
                    omega
                  have hcl := cellsP_length T
                  obtain ⟨g, hg1, hg2, hg3, hg4, hg5⟩ := own.at_ (i := kk * 6) (by omega)
                  obtain ⟨g', hg1', _, _, hg4', hg5'⟩ := own.at_ (i := kk * 6 + 4) (by omega)
                  rw [hg1] at hg1'
                  cases hg1'
                  have hcg := cellsP_get T kk 0 (by omega) (by omega)
                  rw [Nat.add_zero] at hcg
                  rw [hcg, hTg] at hg4
                  rw [cellsP_get T kk 4 (by omega) (by omega), hTg] at hg4'
                  replace hg4 : wr.cell? ⟨g, kk * 6, none⟩ = some (.int .u64 r.pn) := hg4
                  replace hg4' : wr.cell? ⟨g, kk * 6 + 4, none⟩ = some (.int .u64 (r.after + over r (out.take jj))) := hg4'
                  rw [hz] at hg4'
                  have hgb : ¬ g = b := (HAL.out _ hg1).1
                  have sb0 := hsb.cell 0 _ rfl
                  have hsbl := hsb.lt
                  have HOWN := Lib.hid own
                  have HONL := Lib.hid onl
                  have HTG := Lib.hid hTg
                  have HTT := Lib.hid hT
                  have HOV := Lib.hid hov
                  have HZ := Lib.hid hz
                  have HR1 := Lib.hid hr
                  clear hal own onl hTg hT hov hz hcl hcg hTl hpe hr hg5
                  subst ha hg1
                  obtain ⟨pn, at_, size, el, after, fa, fn, fc⟩ := p
                  obtain ⟨rn, rat, rsize, rel, raft, rfa, rfn, rfc⟩ := r
                  simp only at *
                  have n1 : ¬ b = wr.heap.size := by omega
                  have n2 : ¬ g = wr.heap.size := by omega
                  have K1 : (wr.alloc (.cells #[.int .u64 pn, .int .u64 at_, .int .u64 size, .bool el, .int .u64 after, .slice fa fn fc] 69)).cell? ⟨wr.heap.size, 0, none⟩ = some (.int .u64 pn) := (Blk.new wr _ _).cell 0 _ rfl
                  have K2 : (wr.alloc (.cells #[.int .u64 pn, .int .u64 at_, .int .u64 size, .bool el, .int .u64 after, .slice fa fn fc] 69)).cell? ⟨b, 0, none⟩ = some (.slice (some ⟨g, 0, none⟩) nl cl) := (hsb.alloc _).cell 0 _ rfl
                  have bb : Below wr.heap.size wr (wr.alloc (.cells #[.int .u64 pn, .int .u64 at_, .int .u64 size, .bool el, .int .u64 after, .slice fa fn fc] 69)).drew := ((Below.refl _ _).alloc (Nat.le_refl _) _).drew
                  have K3 : (wr.alloc (.cells #[.int .u64 pn, .int .u64 at_, .int .u64 size, .bool el, .int .u64 after, .slice fa fn fc] 69)).cell? ⟨g, kk * 6, none⟩ = some (.int .u64 rn) := (bb.cell (p := ⟨g, kk * 6, none⟩) hg3).trans hg4
                  have K4 : (wr.alloc (.cells #[.int .u64 pn, .int .u64 at_, .int .u64 size, .bool el, .int .u64 after, .slice fa fn fc] 69)).drew.cell? ⟨g, kk * 6 + 4, none⟩ = some (.int .u64 z) := (bb.cell (p := ⟨g, kk * 6 + 4, none⟩) hg3).trans hg4'
                  have K5 : (wr.alloc (.cells #[.int .u64 pn, .int .u64 at_, .int .u64 size, .bool el, .int .u64 after, .slice fa fn fc] 69)).drew.cell? ⟨b, 0, none⟩ = some (.slice (some ⟨g, 0, none⟩) nl cl) := (hsb.alloc _).cell 0 _ rfl
                  have K6 : (wr.alloc (.cells #[.int .u64 pn, .int .u64 at_, .int .u64 size, .bool el, .int .u64 after, .slice fa fn fc] 69)).drew.frozen? ⟨g, kk * 6 + 4, none⟩ = false := (bb.frozen (p := ⟨g, kk * 6 + 4, none⟩) hg3).trans hg5'
                  have BB := Lib.hid bb
                  clear bb
                  go_wp2_with (fail)
                  refine rg_start 12 ?_
                  refine rg_same fun p hx hne' hC => ?_
                  have k1 : ∀ z : Wd p, z.w.cell? ⟨wr.heap.size, 0, none⟩ = some (.int .u64 pn) := fun z => by rw [hx z]; exact K1
                  have k2 : ∀ z : Wd p, z.w.cell? ⟨b, 0, none⟩ = some (.slice (some ⟨g, 0, none⟩) nl cl) := fun z => by rw [hx z]; exact K2
                  have k3 : ∀ z : Wd p, z.w.cell? ⟨g, kk * 6, none⟩ = some (.int .u64 rn) := fun z => by rw [hx z]; exact K3
                  refine rg_quiet 0 [0,1,2,3,4,5,6,7,8,9,10,11] hC ?_
                  simp only [pickD, List.map_cons, List.map_nil, List.getD_cons_zero, List.getD_cons_succ]; repeat (go_big_quiet_step (fail))
                  refine wpQuiet_nil ?_
                  refine rg_end ?_
                  obtain ⟨wq, hwq⟩ : ∃ wq, (wr.alloc (.cells #[.int .u64 pn, .int .u64 at_, .int .u64 size, .bool el, .int .u64 after, .slice fa fn fc] 69)).drew = wq := ⟨_, rfl⟩
                  rw [hwq] at K4 K5 K6 BB ⊢
                  clear k1 k2 k3 hC hne' hx K1 K2 K3 hwq hg4 hg4'
                  by_cases hgt : rn < pn
                  · have hg1 : decide (rn < pn) = true := decide_eq_true hgt
                    go_wp2_with (fail)
                    have hz2 : ({ T.getD kk default with after := z + 1 } : Pk) = bump (out.take (jj + 1)) ⟨rn, rat, rsize, rel, raft, rfa, rfn, rfc⟩ := by
                      rw [HTG.out]
                      unfold bump
                      rw [HOV.out, if_pos hgt, ← HZ.out]
                      simp only [Pk.mk.injEq, true_and, and_true]
                      omega
                    refine ⟨⟨jj + 1, rfl, by omega, Lib.hid ⟨?_, ?_⟩⟩, by simp [intOf]; omega⟩
                    · have h1 := (HOWN.out.below BB.out).setk g rfl (kk * 6 + 4) (.int .u64 (z + 1))
                      rw [cellsP_set, hz2] at h1
                      rw [HR1.out, show (bumped R out kk).set kk (bump (out.take (jj + 1)) ⟨rn, rat, rsize, rel, raft, rfa, rfn, rfc⟩) = T.set kk (bump (out.take (jj + 1)) ⟨rn, rat, rsize, rel, raft, rfa, rfn, rfc⟩) by rw [← HTT.out, List.set_set]]
                      exact h1
                    · exact Only.setCell (p := ⟨g, kk * 6 + 4, none⟩) (HONL.out.trans (only_of_below BB.out _)) (.inl ⟨⟨g, 0, none⟩, rfl, rfl⟩) _
                  · have hg1 : decide (rn < pn) = false := decide_eq_false hgt
                    go_wp2_with (fail)
                    have hz2 : bump (out.take jj) ⟨rn, rat, rsize, rel, raft, rfa, rfn, rfc⟩ = bump (out.take (jj + 1)) ⟨rn, rat, rsize, rel, raft, rfa, rfn, rfc⟩ := by
                      unfold bump
                      rw [HOV.out, if_neg hgt, Nat.add_zero]
                    refine ⟨⟨jj + 1, rfl, by omega, Lib.hid ⟨?_, HONL.out.trans (only_of_below BB.out _)⟩⟩, by simp [intOf]; omega⟩
                    rw [HR1.out, ← hz2, HTT.out]
                    exact HOWN.out.below BB.out
                · obtain rfl : jj = no := by omega
                  have hal2 := hal.out
                  rw [show out.take jj = out by rw [E1.out, List.take_length], ← bumped_succ out hkR] at hal2
                  have HAL2 := Lib.hid hal2
                  clear hal hal2
                  go_wp2_with (fail)
                  exact ⟨⟨kk + 1, rfl, by omega, HAL2⟩, by simp [intOf]; omega⟩
            · obtain rfl : kk = nl := by omega
              obtain ⟨own, onl⟩ := HA.out
              rw [show bumped R out kk = R.map (bump out) by rw [E2.out]; exact bumped_all R out] at own
              have hokk : ∀ p ∈ R.map (bump out), PkOk p := by
                intro p hp
                obtain ⟨q, hq, rfl⟩ := List.mem_map.1 hp
                obtain ⟨⟨h1, h2, h3, h4, h5⟩, h6⟩ := HROK.out q hq
                have h7 := over_le q out
                refine ⟨h1, h2, h3, ?_⟩
                unfold u64b'
                show 0 ≤ q.after + (over q out : Int) ∧ q.after + (over q out : Int) ≤ 18446744073709551615
                have := E1.out
                omega
              have hsb := onl.blk (show Blk w5 b _ _ from HS5.out) (fun ⟨y, hy, he⟩ => (HAL.out y hy).1 he)
              have hpo := PS5.out.only onl (fun x hx ⟨y, hy, he⟩ => HDD.out x y hx hy he.symm)
              have hfin : Only (· = b) w wr := ⟨onl.os.trans O5.out.os, onl.tape.trans O5.out.tape, onl.output.trans O5.out.output, Nat.le_trans O5.out.size onl.size, fun x hx hs => (onl.block x (Nat.lt_of_lt_of_le hx O5.out.size) (fun ⟨y, hy, he⟩ => by have := (HAL.out y hy).2; omega)).trans (O5.out.block x hx hs)⟩
              have HSB := Lib.hid hsb
              have HPO := Lib.hid hpo
              have HPL := Lib.hid (own.ps hokk)
              have HFIN := Lib.hid hfin
              clear own onl hokk hsb hpo hfin HA
              go_wp2_with (fail)
              go_returns
              refine ⟨M, HNF.out, .inr (.inr ⟨hM0, by rw [HE.out]; omega, HFIN.out, _, rfl, ⟨ao, no, co, rfl, by rw [HOUT.out]; exact E1.out, by rw [HOUT.out]; exact HPO.out, fun x hx => Nat.le_of_lt (HAO.out x hx).2⟩, ?_⟩)⟩
              rw [HRR.out, HOUT.out, HE.out, show newTop true lg E = (E - 1) by simp [newTop, hgt0]]
              exact ⟨al, kk, cl, HSB.out, by rw [List.length_map]; exact E2.out, HPL.out.2, fun x hx _ => ⟨(HAL.out x hx).1, hF.out _ (Nat.le_of_lt (HAL.out x hx).2)⟩⟩
        · have hgt1 : decide (lg < E - 1) = false := decide_eq_false hgt0
          obtain ⟨w3, hw3⟩ : ∃ w3, w2.setCell ⟨w.heap.size, 0, none⟩ (.slice (some ⟨bm, om, none⟩) (k + 1) cm) = w3 := ⟨_, rfl⟩
          have hx3 := X3.out
          have hs3' := O3.out.blk (show Blk w2 b _ _ from HS2.out) hz0
          have hr3 := R3.out
          have hb3 := B3.out
          rw [hw3] at hx3 hs3' hr3 hb3 hs3
          have hs4 : SB w3 b a n c true lg la lt top := hs3'
          have o4 := only_of_below hb3 (· = b)
          have hp4 := HP.out.below hb3
          have q4 := hx3.cell 0 _ rfl
          have rm4 := hr3
          have hs4s : w.heap.size < w3.heap.size := by omega
          have W3 := Lib.hid hw3
          clear hw3 hx3 hs3' hr3 hb3
          go_wp2_with (fail)
          rw [W3.out]
          obtain ⟨w4, hw4⟩ : ∃ w4, w3 = w4 := ⟨_, rfl⟩
          rw [hw4] at hs4 o4 hp4 q4 rm4 hs4s ⊢
          clear hw4
          have HS4 := Lib.hid hs4
          have O4 := Lib.hid o4
          have HP4 := Lib.hid hp4
          have c4 : w4.cell? ⟨w.heap.size, 0, none⟩ = some (.slice (some ⟨bm, om, none⟩) (k + 1) cm) := q4
          have RM4 := Lib.hid rm4
          clear hs4 o4 hp4 q4 rm4
          refine (take_any 77 #[.pointer (some ⟨w.heap.size, 0, none⟩)] (fun p => inB l p.pn) b L a n c true lg la lt top w4 HS4.out HN.out HP4.out hl (by kernel_rfl) (fun W p hW hp => by
            have := ackc_any p w.heap.size (some ⟨bm, om, none⟩) (k + 1) cm M W (HP4.out.ok p hp) (by have := hW.size; omega) ((hW.cell (p := ⟨w.heap.size, 0, none⟩) (by show w.heap.size < _; omega)).trans c4) HM.out.symm (RM4.out.below hW)
            rw [HIN.out] at this
            exact this)).mono ?_
          rintro e w5 ⟨o5, ao, no, co, al, nl, cl, rfl, hs5, ht5⟩
          obtain ⟨e1, e2, u1, u2, hdd⟩ := ht5
          rw [List.take_length] at e1 e2 u1 u2
          obtain ⟨R, hRR⟩ : ∃ R, (L.filter fun p => !inB l p.pn) = R := ⟨_, rfl⟩
          obtain ⟨out, hout⟩ : ∃ out, (L.filter fun p => inB l p.pn) = out := ⟨_, rfl⟩
          rw [hRR] at e2 u2
          rw [hout] at e1 u1
          have hRok : ∀ p ∈ R, PkOk p ∧ p.after ≤ 1000000 := fun p hp => by rw [← hRR] at hp; exact ⟨HP4.out.ok p (List.mem_filter.1 hp).1, HAF.out p (List.mem_filter.1 hp).1⟩
          have hook : ∀ p ∈ out, PkOk p := fun p hp => by rw [← hout] at hp; exact HP4.out.ok p (List.mem_filter.1 hp).1
          have hRl : R.length ≤ 1000 := by have := List.length_filter_le (fun p => !inB l p.pn) L; rw [hRR] at this; omega
          have hol : out.length ≤ 1000 := by have := List.length_filter_le (fun p => inB l p.pn) L; rw [hout] at this; omega
          rw [← e1] at hol
          rw [← e2] at hRl
          have ps5 := (u1.ps hook).2
          have hal : ∀ x, al = some x → x.block ≠ b ∧ w.heap.size < x.block := fun x hx => by have := (u2.block hx).1; omega
          have hao : ∀ x, ao = some x → x.block ≠ b ∧ w.heap.size < x.block := fun x hx => by have := (u1.block hx).1; omega
          have s05 := Blk.cell hs5 0 _ rfl
          have E1 := Lib.hid e1
          have E2 := Lib.hid e2
          have U2 := Lib.hid u2
          have PS5 := Lib.hid ps5
          have HDD := Lib.hid hdd
          have HAL := Lib.hid hal
          have HAO := Lib.hid hao
          have HS5 := Lib.hid hs5
          have O5 := Lib.hid (O4.out.trans o5)
          have HRR := Lib.hid hRR
          have HOUT := Lib.hid hout
          have HROK := Lib.hid hRok
          have hb5 : b < w5.heap.size := Blk.lt hs5
          clear e1 e2 u1 u2 ps5 hdd hal hao hs5 o5 hRR hout hRok hook
          go_wp2_with (fail)
          clear s05
          go_loopw [8, 10, 67, 72] (fun _ _ i _ wr => ∃ kk : Nat, i = .int .i64 kk ∧ kk ≤ nl ∧ Hid (AL w5 wr w4.heap.size al nl cl (bumped R out kk))) (fun _ _ i _ _ => nl - (intOf i).toNat)
          case atStart => exact ⟨0, rfl, by omega, Lib.hid ⟨by rw [bumped_zero]; exact U2.out, Only.refl _ _⟩⟩
          case round =>
            obtain ⟨kk, rfl, hkk, hal⟩ := hrel
            have HA := Lib.hid hal.out
            clear hal
            by_cases hlt : kk < nl
            · have hkR : kk < R.length := by have := E2.out; omega
              go_wp2_with (fail)
              go_loopw [10, 72] (fun _ j wr => ∃ jj : Nat, j = .int .i64 jj ∧ jj ≤ no ∧ Hid (AL w5 wr w4.heap.size al nl cl ((bumped R out kk).set kk (bump (out.take jj) (R.getD kk default))))) (fun _ j _ => no - (intOf j).toNat)
              case atStart => exact ⟨0, rfl, by omega, Lib.hid (by rw [List.take_zero, bump_nil, bumped_same out hkR]; exact HA.out)⟩
              case round =>
                obtain ⟨jj, rfl, hjj, hal⟩ := hrel
                by_cases hlj : jj < no
                · have hjo : jj < out.length := by have := E1.out; omega
                  obtain ⟨own, onl⟩ := hal.out
                  obtain ⟨b', off, ha, hb', p, hpe, hpm, d0, d1, d2, d3, d4, d5, i0, i1, i2, i4⟩ := (PS5.out.only onl (fun x hx ⟨y, hy, he⟩ => HDD.out x y hx hy he.symm)).at_ hjo
                  have hov := over_succ (R.getD kk default) hjo
                  rw [hpe] at hov
                  have hsb := onl.blk (show Blk w5 b _ _ from HS5.out) (fun ⟨y, hy, he⟩ => (HAL.out y hy).1 he)
                  obtain ⟨r, hr⟩ : ∃ r, R.getD kk default = r := ⟨_, rfl⟩
                  have hrm : r ∈ R := by rw [← hr]; simp [hkR]
                  obtain ⟨⟨⟨rp1, rp2⟩, _, _, ra1, _⟩, ra3⟩ := HROK.out r hrm
                  rw [hr] at own hov
                  obtain ⟨T, hT⟩ : ∃ T, (bumped R out kk).set kk (bump (out.take jj) r) = T := ⟨_, rfl⟩
                  have hTl : T.length = R.length := by rw [← hT, List.length_set, bumped_length]
                  have hTg : T.getD kk default = bump (out.take jj) r := by rw [← hT]; simp [bumped_length, hkR]
                  rw [hT] at own
                  obtain ⟨z, hz⟩ : ∃ z : Int, r.after + over r (out.take jj) = z := ⟨_, rfl⟩
                  have hzb : 0 ≤ z ∧ z ≤ 1001000 := by
                    have h1 := over_le r (out.take jj)
                    rw [List.length_take] at h1
                    omega
                  have hcl := cellsP_length T
                  obtain ⟨g, hg1, hg2, hg3, hg4, hg5⟩ := own.at_ (i := kk * 6) (by omega)
                  obtain ⟨g', hg1', _, _, hg4', hg5'⟩ := own.at_ (i := kk * 6 + 4) (by omega)
                  rw [hg1] at hg1'
                  cases hg1'
                  have hcg := cellsP_get T kk 0 (by omega) (by omega)
                  rw [Nat.add_zero] at hcg
                  rw [hcg, hTg] at hg4
                  rw [cellsP_get T kk 4 (by omega) (by omega), hTg] at hg4'
                  replace hg4 : wr.cell? ⟨g, kk * 6, none⟩ = some (.int .u64 r.pn) := hg4
                  replace hg4' : wr.cell? ⟨g, kk * 6 + 4, none⟩ = some (.int .u64 (r.after + over r (out.take jj))) := hg4'
                  rw [hz] at hg4'
                  have hgb : ¬ g = b := (HAL.out _ hg1).1
                  have sb0 := hsb.cell 0 _ rfl
                  have hsbl := hsb.lt
                  have HOWN := Lib.hid own
                  have HONL := Lib.hid onl
                  have HTG := Lib.hid hTg
                  have HTT := Lib.hid hT
                  have HOV := Lib.hid hov
                  have HZ := Lib.hid hz
                  have HR1 := Lib.hid hr
                  clear hal own onl hTg hT hov hz hcl hcg hTl hpe hr hg5
                  subst ha hg1
                  obtain ⟨pn, at_, size, el, after, fa, fn, fc⟩ := p
                  obtain ⟨rn, rat, rsize, rel, raft, rfa, rfn, rfc⟩ := r
                  simp only at *
                  have n1 : ¬ b = wr.heap.size := by omega
                  have n2 : ¬ g = wr.heap.size := by omega
                  have K1 : (wr.alloc (.cells #[.int .u64 pn, .int .u64 at_, .int .u64 size, .bool el, .int .u64 after, .slice fa fn fc] 69)).cell? ⟨wr.heap.size, 0, none⟩ = some (.int .u64 pn) := (Blk.new wr _ _).cell 0 _ rfl
                  have K2 : (wr.alloc (.cells #[.int .u64 pn, .int .u64 at_, .int .u64 size, .bool el, .int .u64 after, .slice fa fn fc] 69)).cell? ⟨b, 0, none⟩ = some (.slice (some ⟨g, 0, none⟩) nl cl) := (hsb.alloc _).cell 0 _ rfl
                  have bb : Below wr.heap.size wr (wr.alloc (.cells #[.int .u64 pn, .int .u64 at_, .int .u64 size, .bool el, .int .u64 after, .slice fa fn fc] 69)).drew := ((Below.refl _ _).alloc (Nat.le_refl _) _).drew
                  have K3 : (wr.alloc (.cells #[.int .u64 pn, .int .u64 at_, .int .u64 size, .bool el, .int .u64 after, .slice fa fn fc] 69)).cell? ⟨g, kk * 6, none⟩ = some (.int .u64 rn) := (bb.cell (p := ⟨g, kk * 6, none⟩) hg3).trans hg4
                  have K4 : (wr.alloc (.cells #[.int .u64 pn, .int .u64 at_, .int .u64 size, .bool el, .int .u64 after, .slice fa fn fc] 69)).drew.cell? ⟨g, kk * 6 + 4, none⟩ = some (.int .u64 z) := (bb.cell (p := ⟨g, kk * 6 + 4, none⟩) hg3).trans hg4'
                  have K5 : (wr.alloc (.cells #[.int .u64 pn, .int .u64 at_, .int .u64 size, .bool el, .int .u64 after, .slice fa fn fc] 69)).drew.cell? ⟨b, 0, none⟩ = some (.slice (some ⟨g, 0, none⟩) nl cl) := (hsb.alloc _).cell 0 _ rfl
                  have K6 : (wr.alloc (.cells #[.int .u64 pn, .int .u64 at_, .int .u64 size, .bool el, .int .u64 after, .slice fa fn fc] 69)).drew.frozen? ⟨g, kk * 6 + 4, none⟩ = false := (bb.frozen (p := ⟨g, kk * 6 + 4, none⟩) hg3).trans hg5'
                  have BB := Lib.hid bb
                  clear bb
                  go_wp2_with (fail)
                  refine rg_start 12 ?_
                  refine rg_same fun p hx hne' hC => ?_
                  have k1 : ∀ z : Wd p, z.w.cell? ⟨wr.heap.size, 0, none⟩ = some (.int .u64 pn) := fun z => by rw [hx z]; exact K1
                  have k2 : ∀ z : Wd p, z.w.cell? ⟨b, 0, none⟩ = some (.slice (some ⟨g, 0, none⟩) nl cl) := fun z => by rw [hx z]; exact K2
                  have k3 : ∀ z : Wd p, z.w.cell? ⟨g, kk * 6, none⟩ = some (.int .u64 rn) := fun z => by rw [hx z]; exact K3
                  refine rg_quiet 0 [0,1,2,3,4,5,6,7,8,9,10,11] hC ?_
                  simp only [pickD, List.map_cons, List.map_nil, List.getD_cons_zero, List.getD_cons_succ]; repeat (go_big_quiet_step (fail))
                  refine wpQuiet_nil ?_
                  refine rg_end ?_
                  obtain ⟨wq, hwq⟩ : ∃ wq, (wr.alloc (.cells #[.int .u64 pn, .int .u64 at_, .int .u64 size, .bool el, .int .u64 after, .slice fa fn fc] 69)).drew = wq := ⟨_, rfl⟩
                  rw [hwq] at K4 K5 K6 BB ⊢
                  clear k1 k2 k3 hC hne' hx K1 K2 K3 hwq hg4 hg4'
                  by_cases hgt : rn < pn
                  · have hg1 : decide (rn < pn) = true := decide_eq_true hgt
                    go_wp2_with (fail)
                    have hz2 : ({ T.getD kk default with after := z + 1 } : Pk) = bump (out.take (jj + 1)) ⟨rn, rat, rsize, rel, raft, rfa, rfn, rfc⟩ := by
                      rw [HTG.out]
                      unfold bump
                      rw [HOV.out, if_pos hgt, ← HZ.out]
                      simp only [Pk.mk.injEq, true_and, and_true]
                      omega
                    refine ⟨⟨jj + 1, rfl, by omega, Lib.hid ⟨?_, ?_⟩⟩, by simp [intOf]; omega⟩
                    · have h1 := (HOWN.out.below BB.out).setk g rfl (kk * 6 + 4) (.int .u64 (z + 1))
                      rw [cellsP_set, hz2] at h1
                      rw [HR1.out, show (bumped R out kk).set kk (bump (out.take (jj + 1)) ⟨rn, rat, rsize, rel, raft, rfa, rfn, rfc⟩) = T.set kk (bump (out.take (jj + 1)) ⟨rn, rat, rsize, rel, raft, rfa, rfn, rfc⟩) by rw [← HTT.out, List.set_set]]
                      exact h1
                    · exact Only.setCell (p := ⟨g, kk * 6 + 4, none⟩) (HONL.out.trans (only_of_below BB.out _)) (.inl ⟨⟨g, 0, none⟩, rfl, rfl⟩) _
                  · have hg1 : decide (rn < pn) = false := decide_eq_false hgt
                    go_wp2_with (fail)
                    have hz2 : bump (out.take jj) ⟨rn, rat, rsize, rel, raft, rfa, rfn, rfc⟩ = bump (out.take (jj + 1)) ⟨rn, rat, rsize, rel, raft, rfa, rfn, rfc⟩ := by
                      unfold bump
                      rw [HOV.out, if_neg hgt, Nat.add_zero]
                    refine ⟨⟨jj + 1, rfl, by omega, Lib.hid ⟨?_, HONL.out.trans (only_of_below BB.out _)⟩⟩, by simp [intOf]; omega⟩
                    rw [HR1.out, ← hz2, HTT.out]
                    exact HOWN.out.below BB.out
                · obtain rfl : jj = no := by omega
                  have hal2 := hal.out
                  rw [show out.take jj = out by rw [E1.out, List.take_length], ← bumped_succ out hkR] at hal2
                  have HAL2 := Lib.hid hal2
                  clear hal hal2
                  go_wp2_with (fail)
                  exact ⟨⟨kk + 1, rfl, by omega, HAL2⟩, by simp [intOf]; omega⟩
            · obtain rfl : kk = nl := by omega
              obtain ⟨own, onl⟩ := HA.out
              rw [show bumped R out kk = R.map (bump out) by rw [E2.out]; exact bumped_all R out] at own
              have hokk : ∀ p ∈ R.map (bump out), PkOk p := by
                intro p hp
                obtain ⟨q, hq, rfl⟩ := List.mem_map.1 hp
                obtain ⟨⟨h1, h2, h3, h4, h5⟩, h6⟩ := HROK.out q hq
                have h7 := over_le q out
                refine ⟨h1, h2, h3, ?_⟩
                unfold u64b'
                show 0 ≤ q.after + (over q out : Int) ∧ q.after + (over q out : Int) ≤ 18446744073709551615
                have := E1.out
                omega
              have hsb := onl.blk (show Blk w5 b _ _ from HS5.out) (fun ⟨y, hy, he⟩ => (HAL.out y hy).1 he)
              have hpo := PS5.out.only onl (fun x hx ⟨y, hy, he⟩ => HDD.out x y hx hy he.symm)
              have hfin : Only (· = b) w wr := ⟨onl.os.trans O5.out.os, onl.tape.trans O5.out.tape, onl.output.trans O5.out.output, Nat.le_trans O5.out.size onl.size, fun x hx hs => (onl.block x (Nat.lt_of_lt_of_le hx O5.out.size) (fun ⟨y, hy, he⟩ => by have := (HAL.out y hy).2; omega)).trans (O5.out.block x hx hs)⟩
              have HSB := Lib.hid hsb
              have HPO := Lib.hid hpo
              have HPL := Lib.hid (own.ps hokk)
              have HFIN := Lib.hid hfin
              clear own onl hokk hsb hpo hfin HA
              go_wp2_with (fail)
              go_returns
              refine ⟨M, HNF.out, .inr (.inr ⟨hM0, by rw [HE.out]; omega, HFIN.out, _, rfl, ⟨ao, no, co, rfl, by rw [HOUT.out]; exact E1.out, by rw [HOUT.out]; exact HPO.out, fun x hx => Nat.le_of_lt (HAO.out x hx).2⟩, ?_⟩)⟩
              rw [HRR.out, HOUT.out, HE.out, show newTop true lg E = lg by simp [newTop]; omega]
              exact ⟨al, kk, cl, HSB.out, by rw [List.length_map]; exact E2.out, HPL.out.2, fun x hx _ => ⟨(HAL.out x hx).1, hF.out _ (Nat.le_of_lt (HAL.out x hx).2)⟩⟩
end Go.Proofs.Ytidfimpchbkppaa
