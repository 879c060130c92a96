/- The machine's writers: append, copy, clear, all of them. -/
import Derived.Test.YtgpnfdeneagdbaaGreatRf7
namespace Go.Proofs.YtgpnfdeneagdbaaGreat.Rf
open Go Go.RowKit
set_option linter.unusedVariables false
set_option linter.unusedSimpArgs false

variable {P : Program} {ρ : Ren} {W0 W W' : World} {hp hp' : Tr Blk} {n : Nat} {tm : Tr Value} {e : Operand → Value}

theorem bif_false {b : Bool} {x : Bool} (h : (bif b then false else x) = true) : b = false ∧ x = true := by cases b <;> simp_all
theorem bif_true {b : Bool} {x : Bool} (h : (bif b then x else false) = true) : b = true ∧ x = true := by cases b <;> simp_all

theorem rangeAt_append {b o : Nat} {a c : List Value} (h1 : W.rangeAt b o a) (h2 : W.rangeAt b (o + a.length) c) : W.rangeAt b o (a ++ c) := fun j v hv => by
  by_cases hj : j < a.length
  · rw [List.getElem?_append_left hj] at hv; exact h1 j v hv
  · rw [List.getElem?_append_right (by omega)] at hv
    have := h2 (j - a.length) v hv
    rwa [show o + a.length + (j - a.length) = o + j by omega] at this

/-- an append that makes a new row -/
theorem grow_sound (hw : WR W0 ρ hp n W) {t tx el ty : TypeId} {i : TypeInfo} {x' : Value} {m size len cap' : Nat} {old old' new new' : List Value} {base' : Option Addr} (hap : Ap P W t tx el i x' m new') (hs : i.size = size) (h0 : 0 < m)
    (ho : VRs ρ old old') (hold1 : old.all Rf.one = true) (hol : old.length = len * size) (hn : VRs ρ new new') (hn1 : new.all Rf.one = true) (hnl : new.length = m * size)
    (hold : (Builtin.firstCells i.size len (.slice base' len cap')).run P W.drew = .ok ⟨old'⟩ W.drew) (hlt : cap' < len + m) (hb1 : len + m ≤ 1000000) (hb2 : 2 * (len + m) * i.bytes ≤ 140737488355328) (hb3 : m * i.bytes ≤ 140737488355328)
    (hg : ∀ k, hp'.get k = if k = n then some (.cells (old ++ new) (some (size, el, false))) else hp.get k) :
    ∃ v' W' ρ', (Builtin.append_ #[t, tx] ty #[.slice base' len cap', x']).run P W = .ok v' W' ∧ WR W0 ρ' hp' (n + 1) W' ∧ Ext ρ hp n ρ' hp' (n + 1) ∧ VR ρ' (.slice (some ⟨n, 0, some 0⟩) (len + m) (len + m)) v' := by
  obtain ⟨rest, hrl, hrun⟩ := hap.grow ty base' len cap' old' h0 hold hlt hb1 hb2 hb3
  have hρn : ρ n = none := by
    cases hq : ρ n with
    | none => rfl
    | some q => exact absurd (hw.dom n q hq).2.1 (Nat.lt_irrefl _)
  have hlay := hw.lay hg
  have hcap := grownCap_ge W (len + m) cap' el
  have hN : (old' ++ new' ++ rest).length = grownCap W (len + m) cap' el * size := by
    simp only [List.length_append, hrl, ← ho.length, ← hn.length, hol, hnl, hs]
    rw [← Nat.add_mul, ← Nat.add_mul]
    congr 1
    omega
  have hbind := bind_row hlay (b := n) hw.pos (Nat.lt_succ_self n) hρn (by rw [hg, if_pos rfl]) (ho.append hn) (by rw [List.all_append, hold1, hn1]; rfl) (rest := rest) (t := el) (fz := (0, 0)) (.inl rfl) (d := W.drawn + 1)
    (room := some ((old' ++ new' ++ rest).length, size)) (fun es e x he => by cases he; exact ⟨rfl, rfl, fun h => by cases h⟩)
  refine ⟨_, _, _, hrun, hbind, ⟨Nat.le_succ _, fun b hb => Ren.set_other (by omega), fun b hb _ => by rw [hg, if_neg (by omega)]⟩, ?_⟩
  exact .slk n 0 (len + m) (len + m) _ _ size _ (Ren.set_same _ _ _) rfl hcap (by rw [hN]; simp)

theorem appendA_sound {t tx : TypeId} {s x : Value} {K : Value → Tr Blk → Nat → Bool} (h : appendA P hp n t tx s x K = true) :
    ∃ v2 hp2 n2, K v2 hp2 n2 = true ∧ ∀ {ρ W0 W s' x' ty}, WR W0 ρ hp n W → VR ρ s s' → VR ρ x x' →
      ∃ v' W' ρ', (Builtin.append_ #[t, tx] ty #[s', x']).run P W = .ok v' W' ∧ WR W0 ρ' hp2 n2 W' ∧ Ext ρ hp n ρ' hp2 n2 ∧ VR ρ' v2 v' := by
  unfold appendA at h
  split at h
  rotate_left
  · cases h
  rename_i el base len cap ht
  split at h
  rotate_left
  · cases h
  rename_i size z hk hz
  split at h
  · cases h
  rename_i m new hel
  obtain ⟨hle, h⟩ := bif_false h
  have hle : len ≤ cap := by simpa using hle
  cases hm : m.beq 0 <;> simp only [hm, cond_true, cond_false] at h
  rotate_left
  · -- nothing
    refine ⟨_, _, _, h, fun {ρ W0 W s' x' ty} hw hs hx => ?_⟩
    obtain rfl := Nat.eq_of_beq_eq_true hm
    obtain ⟨i, new', hi, his, hn, hn1, hnl, hap⟩ := elemsA_sound hw ht hk hz hx hel (.inl rfl)
    have : ∃ b' c', s' = .slice b' len c' ∧ len ≤ c' := by
      cases base with
      | none => exact ⟨_, _, VR.of_flat rfl hs, hle⟩
      | some a => obtain ⟨a', c', rfl, _, hcc, _⟩ := hs.slice_inv; exact ⟨_, _, rfl, by omega⟩
    obtain ⟨b', c', rfl, hlc⟩ := this
    exact ⟨_, W, ρ, hap.nothing rfl ty b' len c' hlc, hw, Ext.refl _ _ _, hs⟩
  have hm0 : 0 < m := by
    rcases Nat.eq_zero_or_pos m with h0 | h0
    · subst h0; cases hm
    · exact h0
  obtain ⟨hbd, h⟩ := bif_false h
  simp only [Bool.not_eq_false', Bool.and_eq_true, Nat.ble_eq] at hbd
  obtain ⟨⟨hb2, hb1⟩, hb3⟩ := hbd
  have hbytes : ∀ i, P.info? el = some i → P.bytesOf el = i.bytes := fun i hi => by simp [Program.bytesOf, hi]
  cases base with
  | none =>
    -- onto nil
    dsimp only at h
    obtain ⟨hz0, h⟩ := bif_true h
    simp only [Bool.and_eq_true] at hz0
    obtain rfl := Nat.eq_of_beq_eq_true hz0.1
    obtain rfl := Nat.eq_of_beq_eq_true hz0.2
    obtain ⟨hp2, hK, hg⟩ := Tr.putK_ok _ _ _ _ _ h
    refine ⟨_, _, _, hK, fun {ρ W0 W s' x' ty} hw hs hx => ?_⟩
    obtain ⟨i, new', hi, his, hn, hn1, hnl, hap⟩ := elemsA_sound hw ht hk hz hx hel (.inr hb3)
    obtain rfl := VR.of_flat rfl hs
    rw [hbytes i hi] at hb2 hb3
    have := grow_sound hw (ty := ty) (len := 0) (cap' := 0) (base' := none) (old := []) (old' := []) hap his hm0 .nil rfl (by simp) hn hn1 hnl (by rw [run_firstCells_none]) (by omega) hb1 hb2 hb3 (by simpa using hg)
    simpa using this
  | some a =>
    dsimp only at h
    split at h
    rotate_left
    · cases h
    rename_i c g hc
    cases hfit : (len + m).ble cap <;> simp only [hfit, cond_true, cond_false] at h
    · -- there may be no room
      have hfit : ¬ len + m ≤ cap := by intro h1; rw [Nat.ble_eq_true_of_le h1] at hfit; cases hfit
      split at h
      · cases h
      rename_i old hold
      obtain ⟨rfl, hol⟩ := takeN_eq _ _ _ hold
      have holdl : ((c.drop a.off).take (len * size)).length = len * size := by simp at hol ⊢; omega
      split at h
      · -- the capacity is known
        rename_i hsp
        obtain ⟨hp2, hK, hg⟩ := Tr.putK_ok _ _ _ _ _ h
        refine ⟨_, _, _, hK, fun {ρ W0 W s' x' ty} hw hs hx => ?_⟩
        obtain ⟨i, new', hi, his, hn, hn1, hnl, hap⟩ := elemsA_sound hw ht hk hz hx hel (.inr hb3)
        rw [hbytes i hi] at hb2 hb3
        obtain ⟨a', c', rfl, _, hcc, ⟨p, hρ, rfl, ⟨_, rfl⟩ | ⟨hsp2, _⟩⟩ | ⟨rfl, _, _⟩⟩ := hs.slice_inv
        · obtain ⟨cs, a1, a2, a3, a4, a5⟩ := hw.cells _ p c g hρ hc
          have hr := rangeAt_drop a2 a.off (len * size)
          refine grow_sound hw hap his hm0 ((a1.drop a.off).take (len * size)) (List.all_eq_true.2 fun v hv => List.all_eq_true.1 a4 v (List.mem_of_mem_drop (List.mem_of_mem_take hv))) holdl hn hn1 hnl ?_ (by omega) hb1 hb2 hb3 hg
          rw [his]
          exact run_firstCells_some W.drew size len _ len c' _ (by rw [← ((a1.drop a.off).take (len * size)).length]; exact holdl) (fun j v hv => by rw [Addr.add_mid]; simpa using hr j v hv)
        · rw [hsp] at hsp2; cases hsp2
        · cases hsp
      · -- the capacity is not known
        rename_i k hsp
        split at h
        rotate_left
        · cases h
        rename_i es el2 x2
        obtain ⟨hes, h⟩ := bif_true h
        simp only [Bool.and_eq_true] at hes
        obtain rfl := Nat.eq_of_beq_eq_true hes.1
        obtain rfl := Nat.eq_of_beq_eq_true hes.2
        obtain ⟨hp1, h, hg1⟩ := Tr.putK_ok _ _ _ _ _ h
        obtain ⟨hp2, hK, hg2⟩ := Tr.putK_ok _ _ _ _ _ h
        refine ⟨_, _, _, hK, fun {ρ W0 W s' x' ty} hw hs hx => ?_⟩
        obtain ⟨i, new', hi, his, hn, hn1, hnl, hap⟩ := elemsA_sound hw ht hk hz hx hel (.inr hb3)
        rw [hbytes i hi] at hb2 hb3
        obtain ⟨a', c', rfl, _, hcc, ⟨p, hρ, rfl, ⟨hsp2, _⟩ | ⟨_, N, es', hroom, hN⟩⟩ | ⟨rfl, _, _⟩⟩ := hs.slice_inv
        · rw [hsp] at hsp2; cases hsp2
        · obtain ⟨cs, a1, a2, a3, a4, a5⟩ := hw.cells _ p c _ hρ hc
          obtain ⟨N', hN', hth, hsh, _⟩ := a5 es _ x2 rfl
          rw [hroom] at hN'
          simp only [Option.some.injEq, Prod.mk.injEq] at hN'
          obtain ⟨rfl, rfl⟩ := hN'
          have hdom := hw.dom _ p hρ
          have hr := rangeAt_drop a2 a.off (len * es')
          have hov := (a1.drop a.off).take (len * es')
          have hol' : ((cs.drop a.off).take (len * es')).length = len * es' := by rw [← hov.length]; exact holdl
          have hold1 : ((c.drop a.off).take (len * es')).all Rf.one = true := List.all_eq_true.2 fun v hv => List.all_eq_true.1 a4 v (List.mem_of_mem_drop (List.mem_of_mem_take hv))
          have hne : a.block ≠ n := by omega
          have hg2' : ∀ k, hp2.get k = if k = a.block then some .dead else hp1.get k := hg2
          by_cases hroom' : len + m ≤ c'
          · -- in place
            have hsub : a.off + p.sh + len * es' + new'.length ≤ N := by
              rw [← hn.length, hnl]
              have : (len + m) * es' ≤ c' * es' := Nat.mul_le_mul_right _ hroom'
              rw [Nat.add_mul] at this
              omega
            have hth' : W.there p.blk (a.off + p.sh + len * i.size) new'.length := by
              rw [his]
              have := there_sub hth (o := a.off + p.sh + len * es') (j := new'.length) (by omega)
              simpa using this
            have hrun := hap.room ty p.blk (a.off + p.sh) len c' hroom' hm0 hth'
            have hkill := (hw.lay hg1).kill (b := a.block) hdom.1 (by omega) hg2'
            have hfree : ∀ y q, ρ y = some q → Blk.live (hp2.get y) = true → q.blk ≠ p.blk := fun y q hy hl => by
              have hyn : y ≠ n := by have := (hw.dom y q hy).2.1; omega
              have hya : y ≠ a.block := by intro e; subst e; rw [hg2', if_pos rfl] at hl; cases hl
              rw [hg2', if_neg hya, hg1, if_neg hyn] at hl
              exact hw.inj y a.block q p hya hy hρ hl (by rw [hc]; rfl)
            have hscr := hkill.scribble hdom.2.2.1 hfree (a.off + p.sh + len * i.size) new'
            have hρn : ρ n = none := by
              cases hq : ρ n with
              | none => rfl
              | some q => exact absurd (hw.dom n q hq).2.1 (Nat.lt_irrefl _)
            have hgn : hp2.get n = some (.cells ((c.drop a.off).take (len * es') ++ new) (some (es', el2, false))) := by rw [hg2', if_neg (Ne.symm hne), hg1, if_pos rfl]
            have hth2 : W.there p.blk (a.off + p.sh + len * es') new'.length := by rw [← his]; exact hth'
            have hreb := hscr.rebind (b := n) (p := ⟨p.blk, a.off + p.sh, some (N, es')⟩) hw.pos (Nat.lt_succ_self n) hρn hdom.2.2.1 (by rw [World.setCells_size]; exact hdom.2.2.2) hfree hgn
              ⟨(cs.drop a.off).take (len * es') ++ new', hov.append hn, by
                rw [his]
                refine rangeAt_append ?_ ?_
                · exact World.rangeAt_setCells_apart hr _ _ _ (.inr (.inl (by rw [hol']; exact Nat.le_refl _)))
                · rw [hol']; exact World.rangeAt_setCells_same W _ _ _ hth2, by
                refine World.there_setCells ?_ _ _ _
                have := there_sub hth (o := a.off + p.sh) (j := ((c.drop a.off).take (len * es') ++ new).length) (by
                  rw [List.length_append, holdl, hn.length]; omega)
                simpa using this, by rw [List.all_append, hold1, hn1]; rfl, fun es2 e2 x3 he => by cases he; exact ⟨N, rfl, World.there_setCells hth _ _ _, by rw [setCells_shape]; exact hsh, fun h => by cases h⟩⟩ (fun C e fz hC => by
                obtain ⟨C', h2, h3⟩ := setCells_froz _ _ _ _ _ _ _ _ hC
                rw [← h3]; exact hw.froz _ p hρ (by rw [hc]; rfl) C' e fz h2)
            refine ⟨_, _, _, hrun, hreb, ⟨Nat.le_succ _, fun b hb => Ren.set_other (by omega), fun b hb hbn => ?_⟩, ?_⟩
            · have : b ≠ a.block := by intro e; subst e; rw [hρ] at hbn; cases hbn
              rw [hg2', if_neg this, hg1, if_neg (by omega)]
            · have := VR.slk (ρ := ρ.set n ⟨p.blk, a.off + p.sh, some (N, es')⟩) n 0 (len + m) (len + m) c' N es' _ (Ren.set_same _ _ _) rfl hroom' (by simpa using hN)
              simpa using this
          · -- a new row
            have hgr := grow_sound (W0 := W0) (hp' := hp1) hw (ty := ty) hap his hm0 hov hold1 holdl hn hn1 hnl (base' := some ⟨p.blk, a.off + p.sh, none⟩) (cap' := c') (by
              rw [his]
              exact run_firstCells_some W.drew es' len _ len c' _ hol' (fun j v hv => by rw [Addr.add_mid]; simpa using hr j v hv)) (by omega) hb1 hb2 hb3 hg1
            obtain ⟨v', W', ρ', h1, h2, h3, h4⟩ := hgr
            refine ⟨v', W', ρ', h1, h2.kill (b := a.block) hdom.1 (by omega) hg2', ⟨h3.le, h3.ren, fun b hb hbn => ?_⟩, h4⟩
            have : b ≠ a.block := by intro e; subst e; rw [hρ] at hbn; cases hbn
            rw [hg2', if_neg this]
            exact h3.keep b hb hbn
        · rw [hw.zero] at hc; cases hc
    · -- in place for sure
      have hfit := Nat.le_of_ble_eq_true hfit
      split at h
      rotate_left
      · cases h
      rename_i r hr
      obtain ⟨hp2, hK, hg⟩ := Tr.putK_ok _ _ _ _ _ h
      refine ⟨_, _, _, hK, fun {ρ W0 W s' x' ty} hw hs hx => ?_⟩
      obtain ⟨i, new', hi, his, hn, hn1, hnl, hap⟩ := elemsA_sound hw ht hk hz hx hel (.inr hb3)
      obtain ⟨_, hl⟩ := setAt_eq _ _ _ _ hr
      have main : ∀ p c', ρ a.block = some p → cap ≤ c' → VR ρ (.slice (some a) (len + m) cap) (.slice (some ⟨p.blk, a.off + p.sh, none⟩) (len + m) c') →
          ∃ v' W' ρ', (Builtin.append_ #[t, tx] ty #[.slice (some ⟨p.blk, a.off + p.sh, none⟩) len c', x']).run P W = .ok v' W' ∧ WR W0 ρ' hp2 n W' ∧ Ext ρ hp n ρ' hp2 n ∧ VR ρ' (.slice (some a) (len + m) cap) v' := fun p c' hρ hcc hv => by
        obtain ⟨cs, a1, a2, a3, a4, a5⟩ := hw.cells _ p c g hρ hc
        have hst := hw.store hρ hc hn hn1 hr hg
        have hrun := hap.room ty p.blk (a.off + p.sh) len c' (by omega) hm0 (by
          rw [his]
          have := there_sub a3 (o := a.off + len * size) (j := new'.length) (by rw [← hn.length]; exact hl)
          rwa [show p.sh + (a.off + len * size) = a.off + p.sh + len * size by omega] at this)
        rw [his, show a.off + p.sh + len * size = p.sh + (a.off + len * size) by omega] at hrun
        exact ⟨_, _, ρ, hrun, hst, ⟨Nat.le_refl _, fun _ _ => rfl, fun b _ hbn => keep_of (by rw [hρ]; simp) hg b hbn⟩, hv⟩
      clear h
      cases hs with
      | flat v h => simp [Rf.flat] at h
      | sl b o l c p hρ => exact main p _ hρ (Nat.le_refl _) (.sl _ _ _ _ _ hρ)
      | slk b o l c c' N es p hρ hroom hcc hN => exact main p _ hρ hcc (.slk _ _ _ _ _ _ _ _ hρ hroom hcc hN)
      | emp a' c' hsp => rw [hw.zero] at hc; cases hc

theorem copySrc_sound (hw : WR W0 ρ hp n W) {size dlen : Nat} {x x' : Value} (hx : VR ρ x x') {m : Nat} {new : List Value} (h : copySrc P hp size dlen x = some (m, new)) :
    ∃ new' k, (Builtin.lenOf x').run P W = .ok k W ∧ Nat.min k dlen = m ∧ (Builtin.firstCells size m x').run P W = .ok ⟨new'⟩ W ∧ VRs ρ new new' ∧ new.all Rf.one = true := by
  unfold copySrc at h
  split at h
  · rename_i k c
    cases hk : k.beq 0 <;> simp only [hk, cond_true, cond_false] at h
    · cases h
    simp only [Option.some.injEq, Prod.mk.injEq] at h
    obtain ⟨rfl, rfl⟩ := h
    obtain rfl := Nat.eq_of_beq_eq_true hk
    obtain rfl := VR.of_flat rfl hx
    exact ⟨[], 0, rfl, Nat.zero_min _, by rw [run_firstCells_none], .nil, rfl⟩
  · rename_i a k c
    obtain ⟨a', c', rfl, hsp, hcc, hpl⟩ := hx.slice_inv
    cases hk : (Nat.min k dlen).beq 0 <;> simp only [hk, cond_true, cond_false] at h
    · split at h
      · rename_i cs hcs
        simp only [Option.some.injEq, Prod.mk.injEq] at h
        obtain ⟨rfl, rfl⟩ := h
        rcases hpl with ⟨p, hρ, rfl, _⟩ | ⟨rfl, rfl, _⟩
        · obtain ⟨cs', h1, h2, h3, h4⟩ := cellsAt_sound hw hρ hcs
          exact ⟨cs', k, rfl, rfl, run_firstCells_some W size _ _ k c' cs' (by rw [← h1.length, h3]) (fun j u hj => by rw [Addr.add_mid]; exact h2 j u hj), h1, h4⟩
        · have : Nat.min 0 dlen = 0 := Nat.zero_min _
          rw [this] at hk; cases hk
      · cases h
    · simp only [Option.some.injEq, Prod.mk.injEq] at h
      obtain ⟨rfl, rfl⟩ := h
      have hk := Nat.eq_of_beq_eq_true hk
      exact ⟨[], k, rfl, hk, run_firstCells_some W size 0 a' k c' [] (by simp) (by simp), .nil, rfl⟩
  · rename_i s
    cases hk : size.beq 1 <;> simp only [hk, cond_true, cond_false] at h
    · cases h
    simp only [Option.some.injEq, Prod.mk.injEq] at h
    obtain ⟨rfl, rfl⟩ := h
    obtain rfl := Nat.eq_of_beq_eq_true hk
    obtain rfl := VR.of_flat rfl hx
    refine ⟨_, s.size, rfl, rfl, ?_, VRs.flat (bytes_flat _), flat_all_one (bytes_flat _)⟩
    simp only [Builtin.firstCells, Sem.run_pure]
    congr 1
    apply Array.ext'
    have : (s.extract 0 (s.size.min dlen)).data.toList = s.data.toList.take (s.size.min dlen) := by
      have hd : (s.extract 0 (s.size.min dlen)).data = s.data.extract 0 (s.size.min dlen) := ByteArray.data_extract
      rw [hd]
      simp
    simp only [Array.toList_map, this]
  · cases h

theorem copyA_sound {t tx : TypeId} {d x : Value} {K : Value → Tr Blk → Bool} (h : copyA P hp t d x K = true) :
    ∃ v2 hp2, K v2 hp2 = true ∧ Rf.flat v2 = true ∧ ∀ {ρ W0 W n d' x' ty}, WR W0 ρ hp n W → VR ρ d d' → VR ρ x x' →
      ∃ W', (Builtin.copy_ #[t, tx] ty #[d', x']).run P W = .ok v2 W' ∧ WR W0 ρ hp2 n W' ∧ Ext ρ hp n ρ hp2 n := by
  unfold copyA at h
  split at h
  rotate_left
  · cases h
  rename_i el base dlen cap ht
  split at h
  · cases h
  rename_i size hk
  split at h
  · cases h
  rename_i m new hsrc
  obtain ⟨I, hI, hs, h0⟩ := esz_sound hk
  cases hm : m.beq 0 <;> simp only [hm, cond_true, cond_false] at h
  · cases base with
    | none => cases h
    | some a =>
      dsimp only at h
      split at h
      rotate_left
      · cases h
      rename_i c g hc
      split at h
      rotate_left
      · cases h
      rename_i r hr
      obtain ⟨hp2, hK, hg⟩ := Tr.putK_ok _ _ _ _ _ h
      clear h
      refine ⟨_, _, hK, rfl, fun {ρ W0 W n d' x' ty} hw hd hx => ?_⟩
      obtain ⟨new', k, h1, h2, h3, h4, h5⟩ := copySrc_sound (P := P) hw hx hsrc
      obtain ⟨a', c', rfl, _, hcc, ⟨p, hρ, rfl, _⟩ | ⟨rfl, _, _⟩⟩ := hd.slice_inv
      · obtain ⟨cs, a1, a2, a3, a4, a5⟩ := hw.cells _ p c g hρ hc
        obtain ⟨_, hl⟩ := setAt_eq _ _ _ _ hr
        have hst := hw.store hρ hc h4 h5 hr hg
        have hrun := run_stores (P := P) (W := W) (b := p.blk) (o := p.sh + a.off) (vs := new') (there_sub a3 (by rw [← h4.length]; exact hl)) (VRs.one h4 h5)
        refine ⟨_, ?_, hst, Nat.le_refl _, fun _ _ => rfl, fun b _ hbn => keep_of (by rw [hρ]; simp) hg b hbn⟩
        simp [Builtin.copy_, run_underlying ht, h1, h2, run_sizeOf_info hI W, hs, h3, Nat.add_comm a.off p.sh, hrun]
      · rw [hw.zero] at hc; cases hc
  · obtain rfl := Nat.eq_of_beq_eq_true hm
    refine ⟨_, _, h, rfl, fun {ρ W0 W n d' x' ty} hw hd hx => ?_⟩
    obtain ⟨new', k, h1, h2, h3, h4, h5⟩ := copySrc_sound (P := P) hw hx hsrc
    have hn0 : new' = [] := by
      have hl := h4.length
      unfold copySrc at hsrc
      split at hsrc
      · rename_i k c
        cases hk : k.beq 0 <;> simp only [hk, cond_true, cond_false] at hsrc
        · cases hsrc
        simp only [Option.some.injEq, Prod.mk.injEq] at hsrc
        obtain ⟨_, rfl⟩ := hsrc
        exact List.length_eq_zero_iff.1 hl.symm
      · rename_i a k c
        cases hk : (Nat.min k dlen).beq 0 <;> simp only [hk, cond_true, cond_false] at hsrc
        · split at hsrc
          · simp only [Option.some.injEq, Prod.mk.injEq] at hsrc
            rw [hsrc.1] at hk; cases hk
          · cases hsrc
        · simp only [Option.some.injEq, Prod.mk.injEq] at hsrc
          obtain ⟨_, rfl⟩ := hsrc
          exact List.length_eq_zero_iff.1 hl.symm
      · rename_i s
        cases hk : size.beq 1 <;> simp only [hk, cond_true, cond_false] at hsrc
        · cases hsrc
        simp only [Option.some.injEq, Prod.mk.injEq] at hsrc
        obtain ⟨h0, rfl⟩ := hsrc
        rw [h0] at hl
        exact List.length_eq_zero_iff.1 (by simpa using hl.symm)
      · cases hsrc
    subst hn0
    have : ∃ b' c', d' = .slice b' dlen c' := by
      cases base with
      | none => exact ⟨_, _, VR.of_flat rfl hd⟩
      | some a => obtain ⟨a', c', rfl, _⟩ := hd.slice_inv; exact ⟨_, _, rfl⟩
    obtain ⟨b', c', rfl⟩ := this
    refine ⟨W, ?_, hw, Ext.refl _ _ _⟩
    cases b' <;> simp [Builtin.copy_, run_underlying ht, h1, h2, run_sizeOf_info hI W, hs, h3, storeCells]

theorem clearA_sound {t : TypeId} {d : Value} {K : Tr Blk → Bool} (h : clearA P hp t d K = true) :
    ∃ hp2, K hp2 = true ∧ ∀ {ρ W0 W n d' ty}, WR W0 ρ hp n W → VR ρ d d' → ∃ W', (Builtin.clear_ #[t] ty #[d']).run P W = .ok (.tuple #[]) W' ∧ WR W0 ρ hp2 n W' ∧ Ext ρ hp n ρ hp2 n := by
  unfold clearA at h
  split at h
  · rename_i el l c ht
    refine ⟨_, h, fun {ρ W0 W n d' ty} hw hd => ⟨W, ?_, hw, Ext.refl _ _ _⟩⟩
    obtain rfl := VR.of_flat rfl hd
    simp [Builtin.clear_, run_underlying ht]
  · rename_i el a k cap ht
    cases hk : k.beq 0 <;> simp only [hk, cond_true, cond_false] at h
    · have hk0 : k ≠ 0 := by intro e; subst e; cases hk
      split at h
      rotate_left
      · cases h
      rename_i c g z hc hz
      split at h
      rotate_left
      · cases h
      rename_i r hr
      obtain ⟨hp2, hK, hg⟩ := Tr.putK_ok _ _ _ _ _ h
      clear h
      refine ⟨_, hK, fun {ρ W0 W n d' ty} hw hd => ?_⟩
      obtain ⟨I, zv, hI, hzv, hzc, hzl, hsz, hfl⟩ := zeroOf_sound hz
      obtain ⟨a', c', rfl, _, hcc, ⟨p, hρ, rfl, _⟩ | ⟨_, rfl, _⟩⟩ := hd.slice_inv
      · obtain ⟨cs, a1, a2, a3, a4, a5⟩ := hw.cells _ p c g hρ hc
        obtain ⟨_, hl⟩ := setAt_eq _ _ _ _ hr
        have hst := hw.store hρ hc (VRs.flat (rep_all z _ hfl k)) (flat_all_one (rep_all z _ hfl k)) hr hg
        have hrun := run_stores (P := P) (W := W) (b := p.blk) (o := p.sh + a.off) (vs := rep k z) (there_sub a3 hl) (fun v hv => one_cell (List.all_eq_true.1 (flat_all_one (rep_all z _ hfl k)) v hv))
        refine ⟨_, ?_, hst, Nat.le_refl _, fun _ _ => rfl, fun b _ hbn => keep_of (by rw [hρ]; simp) hg b hbn⟩
        have hzr : (Builtin.zeroCells zv.cells k).toList = rep k z := by
          rw [hzc]
          rcases Nat.eq_zero_or_pos z.length with h0 | h0
          · have : z = [] := List.length_eq_zero_iff.1 h0
            subst this
            have : ∀ j, rep j ([] : List Value) = [] := fun j => by induction j with | zero => rfl | succ j ih => simp [rep, ih]
            rw [this]
            simp [Builtin.zeroCells]
          · rw [zeroCells_rep z h0]
        obtain ⟨k', rfl⟩ : ∃ k', k = k' + 1 := ⟨k - 1, by omega⟩
        rw [Nat.add_comm p.sh a.off] at hrun hst ⊢
        simp [Builtin.clear_, run_underlying ht, run_zero hI hzv W, hzr, hrun]
      · exact absurd rfl hk0
    · obtain rfl := Nat.eq_of_beq_eq_true hk
      refine ⟨_, h, fun {ρ W0 W n d' ty} hw hd => ⟨W, ?_, hw, Ext.refl _ _ _⟩⟩
      obtain ⟨a', c', rfl, _⟩ := hd.slice_inv
      simp [Builtin.clear_, run_underlying ht]
  · cases h
end Go.Proofs.YtgpnfdeneagdbaaGreat.Rf
