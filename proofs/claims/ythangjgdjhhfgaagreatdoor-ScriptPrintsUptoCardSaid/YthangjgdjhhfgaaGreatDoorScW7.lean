/- FieldsFunc at blanks; script.Parse. -/
import Derived.Test.YthangjgdjhhfgaaGreatDoorScW6
import Derived.Great.BuildSlice
namespace Go.Proofs.YthangjgdjhhfgaaGreatDoor
open Go.RowKit
set_option linter.unusedVariables false
theorem isblank_any (r : Int) (w : World) : Calls Tryz.prog 25 #[.int .i32 r] w fun e w' => e = .returned (.bool (decide (r = 32))) ∧ w' = w := by
  by_cases h : r = 32
  · subst h
    go_enter Tryz.func25, Tryz.ntmps25
    go_wp2_with (fail)
    go_returns
    exact ⟨rfl, rfl⟩
  · have hq : (r == 32) = false := by simpa using h
    rw [decide_eq_false h]
    go_enter Tryz.func25, Tryz.ntmps25
    go_wp2_with (fail)
    go_returns
    exact ⟨rfl, rfl⟩
theorem fields_any (l : List UInt8) (w : World) (hs : l.length ≤ 4294967296) :
    Calls Tryz.prog 24 #[.string (tx l), .func (.func 25) #[] #[]] w fun e w' => ∃ A, e = .returned (.slice (some ⟨A, 0, none⟩) (wds l).length (wds l).length) ∧ w.heap.size ≤ A ∧
      OwnS w' w.heap.size 9 1 (some ⟨A, 0, none⟩) (wds l).length (wds l).length ((wds l).map fun p => Value.string (tx p)) ∧ Below w.heap.size w w' := by
  have hf : Lib.goFieldsP blank (tx l) = (wds l).map tx := fields_wds l
  refine (Any.strings_FieldsFunc L.lays229 25 #[] ?_ blank (tx l) w (by rw [tx_size]; exact hs) ?_ (by kernel_rfl) (by kernel_rfl)).mono ?_
  · exact enters_of Tryz.func25 (by kernel_rfl) rfl
  · intro W x hb
    refine (isblank_any x W).mono ?_
    rintro e w' ⟨rfl, rfl⟩
    refine ⟨?_, 0, rfl⟩
    have : decide ((x : Int) = 32) = blank x := by
      unfold blank
      by_cases h : x = 32
      · subst h; rfl
      · rw [decide_eq_false h, decide_eq_false (by omega)]
    rw [this]
  · rintro e w' ⟨A, rfl, hA, ho, hb⟩
    rw [hf] at ho ⊢
    rw [List.length_map] at ho ⊢
    rw [List.map_map] at ho
    exact ⟨A, rfl, hA, ho, hb⟩
/-! ### Lists of moves -/
inductive MEnc (w : World) (base : Nat) : List Mv → List Value → Prop
  | nil : MEnc w base [] []
  | cons (m : Mv) (L : List Mv) (xs : List Value) (aB : Option Addr) (nB cB : Nat) (aD : Option Addr) (nD cD : Nat) (h1 : By w base aB nB cB m.b) (h2 : By w base aD nD cD m.d) (h : MEnc w base L xs) : MEnc w base (m :: L) ((mvCs m (.slice aB nB cB) (.slice aD nD cD)).toList ++ xs)
theorem MEnc.len {w : World} {base : Nat} {L : List Mv} {xs : List Value} (h : MEnc w base L xs) : xs.length = L.length * 9 := by
  induction h with
  | nil => rfl
  | cons m L xs aB nB cB aD nD cD h1 h2 h ih => simp [mvCs, ih]; omega
theorem MEnc.under {w w' : World} {base : Nat} {L : List Mv} {xs : List Value} (h : MEnc w base L xs) (hb : Below w.heap.size w w') : MEnc w' base L xs := by
  induction h with
  | nil => exact .nil
  | cons m L xs aB nB cB aD nD cD h1 h2 h ih => exact .cons m L xs aB nB cB aD nD cD (h1.only (only_of_below hb (fun _ => False)) (fun _ _ h => h)) (h2.only (only_of_below hb (fun _ => False)) (fun _ _ h => h)) ih
theorem own_types {w : World} {base base' : Nat} {e e' : TypeId} (hne : e ≠ e') {s s' : Nat} {a a' : Option Addr} {n cap n' cap' : Nat} {xs xs' : List Value} (h : OwnS w base e s a n cap xs) (h' : OwnS w base' e' s' a' n' cap' xs') : ∀ x y, a = some x → a' = some y → x.block ≠ y.block := by
  intro x y hx hy he
  subst hx hy
  rcases h.2 with ⟨h3, _⟩ | ⟨g, c', cur, h3, _, h5, _⟩
  · cases h3
  · rcases h'.2 with ⟨k3, _⟩ | ⟨g', c'', cur', k3, _, k5, _⟩
    · cases k3
    · cases h3; cases k3
      simp only at he
      subst he
      rw [h5] at k5
      injection k5 with k5
      injection k5 with _ k6 _
      exact hne k6
theorem own_blk {w : World} {base : Nat} {e T : TypeId} (hne : e ≠ T) {s : Nat} {a : Option Addr} {n cap b : Nat} {xs : List Value} {cs : Array Value} (h : OwnS w base e s a n cap xs) (hb : Blk w b cs T) : ¬ ∃ y, a = some y ∧ y.block = b := by
  rintro ⟨y, rfl, rfl⟩
  rcases h.2 with ⟨h3, _⟩ | ⟨g, c', cur, h3, _, h5, _⟩
  · cases h3
  · cases h3
    unfold Blk at hb
    simp only at hb
    rw [h5] at hb
    injection hb with hb
    injection hb with _ k6 _
    exact hne k6
theorem MEnc.app {w w' : World} {base : Nat} {L : List Mv} {xs : List Value} (h : MEnc w base L xs) {a : Option Addr} {n cap : Nat} {ys : List Value} (ho : OwnS w base 35 9 a n cap ys) (on : Only (fun k => ∃ y, a = some y ∧ y.block = k) w w') : MEnc w' base L xs := by
  have hu : (5 : TypeId) ≠ 35 := by decide
  induction h with
  | nil => exact .nil
  | cons m L xs aB nB cB aD nD cD h1 h2 h ih =>
    exact .cons m L xs aB nB cB aD nD cD (h1.only on (fun x hx => by rintro ⟨y, hy, e⟩; exact own_types hu h1.own ho x y hx hy e.symm)) (h2.only on (fun x hx => by rintro ⟨y, hy, e⟩; exact own_types hu h2.own ho x y hx hy e.symm)) ih
theorem MEnc.snoc {w : World} {base : Nat} {L : List Mv} {xs : List Value} (h : MEnc w base L xs) (m : Mv) {aB : Option Addr} {nB cB : Nat} {aD : Option Addr} {nD cD : Nat} (h1 : By w base aB nB cB m.b) (h2 : By w base aD nD cD m.d) : MEnc w base (L ++ [m]) (xs ++ (mvCs m (.slice aB nB cB) (.slice aD nD cD)).toList) := by
  induction h with
  | nil => simpa using MEnc.cons m [] [] aB nB cB aD nD cD h1 h2 .nil
  | cons m' L xs aB' nB' cB' aD' nD' cD' k1 k2 h ih =>
    rw [List.cons_append, List.append_assoc]
    exact .cons m' _ _ aB' nB' cB' aD' nD' cD' k1 k2 ih
/-- A slice of moves of one's own. -/
structure MsAt (w : World) (base : Nat) (a : Option Addr) (n cap : Nat) (L : List Mv) : Prop where
  ex : ∃ xs, OwnS w base 35 9 a n cap xs ∧ MEnc w base L xs
  len : n = L.length
theorem MsAt.nil (w : World) (base : Nat) : MsAt w base none 0 0 [] := ⟨⟨[], OwnS.nil _ _ _ _, .nil⟩, rfl⟩
theorem MsAt.below {w w' : World} {base : Nat} {a : Option Addr} {n cap : Nat} {L : List Mv} (h : MsAt w base a n cap L) (hb : Below w.heap.size w w') : MsAt w' base a n cap L := by
  obtain ⟨⟨xs, h1, h2⟩, h3⟩ := h
  exact ⟨⟨xs, h1.below hb, h2.under hb⟩, h3⟩
theorem mv_et : ET Tryz.prog 22 35 9 88 := et_of (by kernel_rfl)
section
variable {ops : Array Oper} {rest : List Oper} {o : Oper} {a : Act} {w : World} {Q : Exit → Act → World → Prop}
theorem stop_bs {P : Program} {d : Option Tmp} {t : TypeId} {n : Nat} {x : Array (Nat × Operand)} {ty : TypeId} {pos : String} {aft : Array Edge} {g : Option (Nat × Bool)}
    (h : Stop (wpList P ops Q (⟨d, .buildSlice t n x, ty, pos, aft, g⟩ :: rest) a w)) : wpList P ops Q (⟨d, .buildSlice t n x, ty, pos, aft, g⟩ :: rest) a w := h
theorem fill_nine (zs cs : Array Value) (h : zs.size = 9) (h2 : cs.size = 9) : Instr.fill (fun i => some (i * 9, 9)) zs [(0, .agg cs)] = some cs := by
  have := Great.fill_whole (s := 9) (by omega) [.agg cs] zs (fun v hv => by rw [List.mem_singleton] at hv; subst hv; exact h2) (by rw [h]; rfl)
  rw [List.flatMap_cons, List.flatMap_nil, List.append_nil] at this
  exact this
theorem wpList_bs1 (hg : o.guard = none) {x : Operand} (ho : o.op = .buildSlice 22 1 #[(0, x)]) {cs : Array Value} (hx : a.eval x = .agg cs) (h9 : cs.size = 9)
    (hz : ((Tryz.prog.info? 35).bind (·.zero)).isSome = true)
    (h : wpList Tryz.prog ops Q rest (a.put o.dst (.slice (some ⟨w.heap.size, 0, none⟩) 1 1)) (w.alloc (.cells cs 35))) : wpList Tryz.prog ops Q (o :: rest) a w := by
  have hs := move_size
  cases hie : Tryz.prog.info? 35 with
  | none => rw [hie] at hs; cases hs
  | some ie =>
    rw [hie] at hs hz
    simp only [Option.map_some, Option.some.injEq, Option.bind_some] at hs hz
    cases hzz : ie.zero with
    | none => rw [hzz] at hz; cases hz
    | some z =>
      refine wpList_buildSlice hg 22 35 1 _ ho _ ie z (by kernel_rfl) hie hzz (by omega) (by omega) ?_ h
      rw [hs]
      have hl : ((#[((0 : Nat), x)] : Array (Nat × Operand)).map fun (i, x) => (i, a.eval x)).toList = [((0 : Nat), Value.agg cs)] := by simp [hx]
      rw [hl]
      exact fill_nine _ _ (by simp) h9
end
/-- What a round of Parse keeps. -/
structure PsI (w0 : World) (lb : Nat) (ps : List (List UInt8)) (R : List Mv × Nat × Nat) (a : Option Addr) (n cap : Nat) (L : List Mv) (k : Nat) (w : World) : Prop where
  below : Below w0.heap.size w0 w
  lines : Blk w lb (strCs ps) 9
  ms : MsAt w w0.heap.size a n cap L
  res : parseLs k (ps.drop k) L = R
  few : L.length ≤ 2000
def PsPost (w0 : World) (R : List Mv × Nat × Nat) (e : Ending) (w' : World) : Prop := ∃ a n cap, e = .returned (.tuple #[.slice a n cap, .int .i64 (R.2.1 : Nat), .int .i64 (R.2.2 : Nat)]) ∧ MsAt w' w0.heap.size a n cap R.1 ∧ Below w0.heap.size w0 w'
theorem wdsA_len : ∀ (l acc : List UInt8), (wdsA acc l).length ≤ l.length + 1 ∧ ∀ s ∈ wdsA acc l, s.length ≤ acc.length + l.length
  | [], acc => by
    rw [wdsA]; split
    · simp
    · simp
  | x :: l, acc => by
    rw [wdsA]
    obtain ⟨h1, h2⟩ := wdsA_len l []
    obtain ⟨h3, h4⟩ := wdsA_len l (acc ++ [x])
    split
    · split
      · exact ⟨by simp; omega, fun s hs => by have := h2 s hs; simp at this ⊢; omega⟩
      · refine ⟨by simp; omega, fun s hs => ?_⟩
        rcases List.mem_cons.1 hs with rfl | hs
        · simp
        · have := h2 s hs; simp at this ⊢; omega
    · exact ⟨by simp; omega, fun s hs => by have := h4 s hs; simp at this ⊢; omega⟩
theorem pcs_mem_len (c : UInt8) : ∀ (l acc : List UInt8) (p : List UInt8), p ∈ pcsA c acc l → p.length ≤ acc.length + l.length
  | [], acc, p, h => by simp [pcsA] at h; subst h; simp
  | x :: l, acc, p, h => by
    rw [pcsA] at h
    split at h
    · rcases List.mem_cons.1 h with rfl | h
      · simp
      · have := pcs_mem_len c l [] p h
        simp at this ⊢; omega
    · have := pcs_mem_len c l _ p h
      simp at this ⊢; omega
theorem pcs_many (c : UInt8) : ∀ (l acc : List UInt8), (pcsA c acc l).length ≤ l.length + 1
  | [], acc => by simp [pcsA]
  | x :: l, acc => by
    rw [pcsA]; split
    · have := pcs_many c l []; simp; omega
    · have := pcs_many c l (acc ++ [x]); simp; omega
set_option maxRecDepth 100000 in
set_option maxHeartbeats 16000000 in
theorem parse_any (s : List UInt8) (w : World) (hs : s.length ≤ 262144) (hV : Vars w) :
    Calls Tryz.prog 11 #[.string (tx s)] w fun e w' => PsPost w (parseS s) e w' := by
  obtain ⟨M, hM⟩ : ∃ M, s.length = M := ⟨_, rfl⟩
  have hsz : (tx s).size = M := by rw [tx_size, hM]
  have hMb : ¬ (M : Int) > 262144 := by omega
  have hV' := Lib.hid hV
  have HS := Lib.hid hs
  have HST : Hid (PsI w w.heap.size (pcs 10 s) (parseS s) none 0 0 [] 0 (w.alloc (.cells (strCs (pcs 10 s)) 9))) := Lib.hid ⟨(Below.refl _ _).alloc (Nat.le_refl _) _, Blk.new w _ _, MsAt.nil _ _, rfl, by simp⟩
  have hpl := pcs_many 10 s []
  have hps : ∀ p ∈ pcs 10 s, p.length ≤ 262144 := fun p hp => by have := pcs_mem_len 10 s [] p hp; simp at this; omega
  obtain ⟨R, hR⟩ : ∃ R, parseS s = R := ⟨_, rfl⟩
  rw [hR] at HST ⊢
  have HSP := Lib.hid (split_any s 10 w (by omega) hV.mx)
  obtain ⟨ps, hpp⟩ : ∃ ps, pcs 10 s = ps := ⟨_, rfl⟩
  rw [show pcsA 10 [] s = pcs 10 s from rfl] at hpl
  rw [hpp] at HST hpl hps HSP
  have hlit : ((ps.map fun p => Value.string (tx p)).toArray) = strCs ps := rfl
  rw [hlit] at HSP
  obtain ⟨N, hN⟩ : ∃ N, ps.length = N := ⟨_, rfl⟩
  rw [hN] at hpl HSP
  have HN := Lib.hid hN
  have HPS := Lib.hid hps
  have hNb : N ≤ 262145 := by omega
  clear hV hs hM hR hpp hlit hN hps hpl
  go_enter Tryz.func11, Tryz.ntmps11
  go_wp2_with (fail)
  refine HSP.out.mono ?_
  rintro e w1 ⟨rfl, rfl⟩
  obtain ⟨w1, hw1⟩ : ∃ w1, w.alloc (.cells (strCs ps) 9) = w1 := ⟨_, rfl⟩
  rw [hw1] at HST ⊢
  clear hw1
  go_wp2_with (fail)
  go_loopw [5, 6, 7, 8, 9, 10, 17] (fun v _ _ _ _ _ i wr => ∃ (a : Option Addr) (n cap k : Nat) (L : List Mv), v = .slice a n cap ∧ i = .int .i64 k ∧ k ≤ N ∧ Hid (PsI w w.heap.size ps R a n cap L k wr)) (fun _ _ _ _ _ _ i _ => N - (intOf i).toNat)
  case atStart => exact ⟨none, 0, 0, 0, [], rfl, rfl, by omega, HST⟩
  case round =>
    obtain ⟨a, n, cap, k, L, rfl, rfl, hk, hok⟩ := hrel
    by_cases hlt : k < N
    · have hki : (k : Int) < N := by omega
      obtain ⟨t, ht⟩ : ∃ t, ps.getD k [] = t := ⟨_, rfl⟩
      have hkl : k < ps.length := by rw [HN.out]; exact hlt
      have hcell := hok.out.lines.cell k _ (strCs_get ps k hkl)
      have htl : t.length ≤ 262144 := by rw [← ht]; exact HPS.out _ (by simp [hkl])
      have hdr : ps.drop k = t :: ps.drop (k + 1) := by rw [List.drop_eq_getElem_cons hkl]; simp [← ht, hkl]
      rw [ht] at hcell
      have hrs := hok.out.res
      rw [hdr, parseLs] at hrs
      have HRS := Lib.hid hrs
      have HTL := Lib.hid htl
      clear ht hkl htl hdr hrs
      go_wp2_with (fail)
      refine (cut_any t 35 wr (by have := HTL.out; omega) (hV'.out.below hok.out.below).mx).mono ?_
      rintro e w2 ⟨rfl, hb2⟩
      have B2 := Lib.hid (below_on hok.out.below hb2 hok.out.below.size)
      have LN2 := Lib.hid (hok.out.lines.below hb2)
      have MS2 := Lib.hid (hok.out.ms.below hb2)
      have hdl : (hdc 35 t).length ≤ 262144 := Nat.le_trans ((List.takeWhile_sublist _).length_le) HTL.out
      have htw : textW t = wds (hdc 35 t) := rfl
      obtain ⟨hd, hhd⟩ : ∃ x, hdc 35 t = x := ⟨_, rfl⟩
      rw [hhd] at hdl htw ⊢
      have HDL := Lib.hid hdl
      have HRS2 := HRS.out
      rw [htw] at HRS2
      have HRS3 := Lib.hid HRS2
      clear hb2 hdl htw hhd HRS2 hcell
      go_wp2_with (fail)
      refine (fields_any hd w2 (by have := HDL.out; omega)).mono ?_
      rintro e w3 ⟨A, rfl, hA, ho3, hb3⟩
      have B3 := Lib.hid (below_on B2.out hb3 B2.out.size)
      have LN3 := Lib.hid (LN2.out.below hb3)
      have MS3 := Lib.hid (MS2.out.below hb3)
      have O3 := Lib.hid ho3
      obtain ⟨hw1, hw2⟩ := wdsA_len hd []
      rw [show wdsA [] hd = wds hd from rfl] at hw1 hw2
      obtain ⟨ws, hws⟩ : ∃ ws, wds hd = ws := ⟨_, rfl⟩
      rw [hws] at hw1 hw2 O3 HRS3 ⊢
      obtain ⟨nw, hnw⟩ : ∃ nw, ws.length = nw := ⟨_, rfl⟩
      rw [hnw] at hw1 O3 ⊢
      have HNW := Lib.hid hnw
      have HW2 := Lib.hid hw2
      have HA3 := Lib.hid hA
      have hnwb : nw ≤ 262145 := by have := HDL.out; omega
      clear ho3 hb3 hws hnw hw1 hw2 hA
      by_cases h0 : nw = 0
      · subst h0
        have hwe : ws = [] := List.length_eq_zero_iff.1 HNW.out
        have hrs := HRS3.out
        rw [if_pos hwe] at hrs
        have FIN := Lib.hid (show PsI w w.heap.size ps R a n cap L (k + 1) w3 from ⟨B3.out, LN3.out, MS3.out, hrs, hok.out.few⟩)
        clear hrs hwe
        go_wp2_with (fail)
        exact ⟨⟨a, n, cap, k + 1, L, rfl, by go_num, by omega, FIN⟩, by simp [intOf]; omega⟩
      · have hq0 : ((nw : Int) == 0) = false := by simp; omega
        have hwne : ws ≠ [] := fun e => h0 (by rw [← HNW.out, e]; rfl)
        have hrs := HRS3.out
        rw [if_neg hwne] at hrs
        have HRS4 := Lib.hid hrs
        have HWNE := Lib.hid hwne
        clear hrs hwne
        go_wp2_with (fail)
        refine (move_any w3 A nw ws HNW.out.symm ((O3.out.block rfl).2.1) (fun i hi => ?_) HWNE.out (fun s hs => by have j1 := HW2.out s hs; have j2 := HDL.out; simp only [List.length_nil, Nat.zero_add] at j1; omega) (by rw [HNW.out]; omega) (hV'.out.below B3.out)).mono ?_
        · obtain ⟨g, hg, _, _, hc, _⟩ := O3.out.at_ (i := i) (by simpa using hi)
          cases hg
          rw [hc]
          simp [hi]
        rintro e w4 ⟨⟨m, aB, nB, cB, aD, nD, cD, er, rfl, hbB, hbD, hone⟩, hb4⟩
        have B4 := Lib.hid (below_on B3.out hb4 B3.out.size)
        have LN4 := Lib.hid (LN3.out.below hb4)
        have MS4 := Lib.hid (MS3.out.below hb4)
        have HBB := Lib.hid (hbB.base_le B3.out.size)
        have HBD := Lib.hid (hbD.base_le B3.out.size)
        have HONE := Lib.hid hone
        clear hb4 hbB hbD hone
        go_wp2_with (with_reducible refine stop_storem ?_)
        refine wpList_storem rfl rfl rfl rfl (mvCs_one _ _ _ _ _ _ _) rfl rfl (Blk.new w4 _ _) move_size ?_
        intro w5 bk5 o5
        have b5 : Below w4.heap.size w4 w5 := Below.trans ((Below.refl _ _).alloc (Nat.le_refl _) _) (below_of_only o5 (by simp) (by rintro k hk rfl; simp at hk))
        have B5 := Lib.hid (below_on B4.out b5 B4.out.size)
        have LN5 := Lib.hid (LN4.out.below b5)
        have MS5 := Lib.hid (MS4.out.below b5)
        have HBB5 := Lib.hid (HBB.out.only (only_of_below b5 (fun _ => False)) (fun _ _ h => h))
        have HBD5 := Lib.hid (HBD.out.only (only_of_below b5 (fun _ => False)) (fun _ _ h => h))
        have BK5 := Lib.hid bk5
        clear b5 bk5 o5
        by_cases he : er = 0
        · subst he
          have hone2 : oneE ws = .ok m := by
            rcases HONE.out with ⟨_, h⟩ | ⟨h, _⟩
            · exact h
            · exact absurd rfl h
          have hrs := HRS4.out
          rw [hone2] at hrs
          dsimp only at hrs
          by_cases h2 : L.length = 2000
          · rw [if_pos h2] at hrs
            have hn2 : ((n : Int) == 2000) = true := by
              have j1 := MS4.out.len
              simp; omega
            have HRS5 := Lib.hid hrs
            clear hrs hone2
            go_wp2_with (fail)
            go_returns
            refine ⟨none, 0, 0, ?_, ?_, B5.out⟩ <;> rw [← HRS5.out]
            · rfl
            · exact MsAt.nil _ _
          · rw [if_neg h2] at hrs
            have hn2 : n < 2000 := by
              have j1 := MS4.out.len
              have j2 := hok.out.few
              omega
            have hq2 : ((n : Int) == 2000) = false := by simp; omega
            have HRS5 := Lib.hid hrs
            have hL : L.length + 1 ≤ 2000 := by have j1 := MS4.out.len; omega
            clear hrs hone2
            have bk5 := BK5.out
            unfold mvCs at bk5
            have BL5 := Lib.hid bk5
            clear bk5
            go_wp2_with (with_reducible refine stop_loadm ?_)
            refine wpList_loadAll Tryz.underlying35 move_size rfl rfl rfl BL5.out rfl ?_
            go_wp2_with (with_reducible refine stop_bs ?_)
            refine wpList_bs1 rfl rfl rfl rfl (by kernel_rfl) ?_
            obtain ⟨xs, ho6, he6⟩ := MS5.out.ex
            refine wpList_app mv_et rfl rfl rfl rfl (ho6.below ((Below.refl _ _).alloc (Nat.le_refl _) _)) (SrcAt.cells w5 _ 35 1 9 rfl (by simp [Value.oneCell'])) (by simp only [maxLen]; omega) (by omega) (by have := B5.out.size; simp; omega) ?_
            intro a6 cap6 w6 ho7 on6 hat6
            have on56 : Only (fun k => ∃ y, a = some y ∧ y.block = k) w5 w6 := Only.trans (only_of_below ((Below.refl _ _).alloc (Nat.le_refl _) _) _) on6
            have hfree : ∀ k, k < w.heap.size → ¬ ∃ y, a = some y ∧ y.block = k := by
              rintro k hk ⟨y, hy, rfl⟩
              exact absurd (ho6.block hy).1 (by omega)
            have FIN := Lib.hid (show PsI w w.heap.size ps R a6 (n + 1) cap6 (L ++ [m]) (k + 1) w6 from
              ⟨below_onto B5.out on56 B5.out.size hfree, on56.blk LN5.out (own_blk (by decide) ho6 LN5.out), ⟨⟨_, ho7, (he6.app ho6 on56).snoc m (HBB5.out.only on56 (by
                rintro x hx ⟨y, hy, e⟩
                exact own_types (by decide) HBB5.out.own ho6 x y hx hy e.symm)) (HBD5.out.only on56 (by
                rintro x hx ⟨y, hy, e⟩
                exact own_types (by decide) HBD5.out.own ho6 x y hx hy e.symm))⟩, by rw [List.length_append, ← MS5.out.len]; rfl⟩, HRS5.out, by simp; omega⟩)
            clear ho6 ho7 on6 on56 hat6 he6 hfree
            go_wp2_with (fail)
            exact ⟨⟨a6, n + 1, cap6, k + 1, L ++ [m], rfl, by go_num, by omega, FIN⟩, by simp [intOf]; omega⟩
        · have hq1 : ((er : Int) == 0) = false := by simp; omega
          have hone2 : oneE ws = .err er := by
            rcases HONE.out with ⟨h, _⟩ | ⟨_, h⟩
            · exact absurd h he
            · exact h
          have hrs := HRS4.out
          rw [hone2] at hrs
          dsimp only at hrs
          have HRS5 := Lib.hid hrs
          clear hrs hone2
          go_wp2_with (fail)
          go_returns
          refine ⟨none, 0, 0, ?_, ?_, B5.out⟩ <;> rw [← HRS5.out]
          · rfl
          · exact MsAt.nil _ _
    · obtain rfl : k = N := by omega
      have hrs := hok.out.res
      rw [List.drop_of_length_le (by rw [HN.out]; exact Nat.le_refl _), parseLs] at hrs
      have HRS := Lib.hid hrs
      clear hrs
      go_wp2_with (fail)
      go_returns
      refine ⟨a, n, cap, ?_, ?_, hok.out.below⟩ <;> rw [← HRS.out]
      · rfl
      · exact hok.out.ms
end Go.Proofs.YthangjgdjhhfgaaGreatDoor
