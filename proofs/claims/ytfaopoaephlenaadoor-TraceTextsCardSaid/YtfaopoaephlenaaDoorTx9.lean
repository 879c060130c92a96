/- The law TraceTexts. -/
import Derived.Test.YtfaopoaephlenaaDoorTx8
import Derived.Test.YtfaopoaephlenaaDoorTr1
namespace Go.Proofs.YtfaopoaephlenaaDoor
open Go.RowKit
set_option linter.unusedVariables false

/-- The text that the law sets together. -/
def wantL (L : List Ev) : List UInt8 := L.flatMap fun e => lineV e ++ [10]
theorem wantL_snoc (L : List Ev) (e : Ev) : wantL (L ++ [e]) = wantL L ++ (lineV e ++ [10]) := by simp [wantL]
theorem lineV_ne (e : Ev) : (lineV e == []) = !goodK e.kind := by
  unfold lineV
  cases h : goodK e.kind
  · rfl
  · simp [lineL]
theorem lineV_len (e : Ev) (h : EvOk e) : (lineV e).length ≤ 75 := by
  unfold lineV
  cases goodK e.kind
  · simp
  · exact lineL_len e h
theorem wantL_len (L : List Ev) (h : ∀ e ∈ L, EvOk e) : (wantL L).length ≤ 76 * L.length := by
  induction L with
  | nil => simp [wantL]
  | cons e L ih =>
    have h1 := lineV_len e (h e (by simp))
    have h2 := ih (fun x hx => h x (by simp [hx]))
    have : wantL (e :: L) = lineV e ++ [10] ++ wantL L := by simp [wantL]
    rw [this]
    simp only [List.length_append, List.length_cons, List.length_nil]; omega
theorem wantL_good (L : List Ev) (h : goodL L = true) : wantL L = linesL L := by
  induction L with
  | nil => rfl
  | cons e L ih =>
    simp only [goodL, List.all_cons, Bool.and_eq_true] at h
    have h2 := ih h.2
    simp only [wantL, linesL, List.flatMap_cons] at h2 ⊢
    rw [h2]
    simp [lineV, h.1]
theorem goodL_snoc (L : List Ev) (e : Ev) : goodL (L ++ [e]) = (goodL L && goodK e.kind) := by simp [goodL]
theorem parseF_len : ∀ (f n : Nat) (s : List UInt8) (acc : List Ev), (parseF f n s acc).1.length ≤ acc.length + f
  | 0, n, s, acc => by rw [parseF]; split <;> simp
  | f + 1, n, s, acc => by
    rw [parseF]
    split
    · simp
    · split
      · split
        · have := parseF_len f (n + 1) (tlc 10 s) (acc ++ [‹Ev›])
          simp at this; omega
        · simp
      · simp
theorem parseT_len (s : List UInt8) : (parseT s).1.length ≤ s.length := by
  have := parseF_len s.length 1 s []
  simpa [parseT] using this
/-- What a round of the law keeps. -/
structure LwI (w0 : World) (L : List Ev) (k : Nat) (x : List UInt8) (b : Bool) (w : World) : Prop where
  below : Below w0.heap.size w0 w
  txt : x = wantL (L.take k)
  may : b = goodL (L.take k)
set_option maxRecDepth 100000 in
set_option maxHeartbeats 16000000 in
theorem texts_law (a : Option Addr) (n cap : Nat) (L : List Ev) (s : List UInt8) (w : World) (hn : n = L.length) (h : Es w a cap L) (hG : ∀ g c, (g, c) ∈ tabs → w.rangeAt g 0 c ∧ g < w.heap.size) (hp : Pow10 w) (hm : MaxLenAt w) (he : ErrAt w)
    (hg1 : 1 < w.heap.size) (hg2 : 0 < w.heap.size) (hg3 : 2 < w.heap.size ∧ 3 < w.heap.size) (hs63 : s.length ≤ 9223372036854775807) :
    Calls Tryd.prog 3 #[.slice a n cap, .string (tx s)] w fun x w' => x = .returned (.bool true) ∧ Below w.heap.size w w' := by
  have HWK : Hid (∀ W, Below w.heap.size w W → Calls Tryd.prog 5 #[] W fun e W' => e = .returned (.bool true) ∧ Below W.heap.size W W') := Lib.hid (fun W hb => tworks_any W (fun g c hg => by
    obtain ⟨h1, h2⟩ := hG g c hg
    refine ⟨fun j v hv => ?_, Nat.lt_of_lt_of_le h2 hb.size⟩
    exact (hb.cell (p := ⟨g, 0 + j, none⟩) h2).trans (h1 j v hv)))
  have HE := Lib.hid h
  have HN := Lib.hid hn
  have HP := Lib.hid hp
  have HM := Lib.hid hm
  have HER := Lib.hid he
  have HG1 := Lib.hid hg1
  have HG2 := Lib.hid hg2
  have HG3 := Lib.hid hg3
  have hnm : n ≤ maxLen := by have := h.le; have := h.max; omega
  simp only [maxLen] at hnm
  obtain ⟨M, hM⟩ : ∃ M, s.length = M := ⟨_, rfl⟩
  have hsz : (tx s).size = M := by rw [tx_size, hM]
  rw [hM] at hs63
  have HMM := Lib.hid hM
  clear h hn hG hp hm he hg1 hg2 hg3 hM
  by_cases hbig : n > 500
  · have d1 : (n : Int) > 500 := by omega
    go_enter Tryd.func3, Tryd.ntmps3
    go_wp2_with (fail)
    refine (HWK.out _ (Below.refl _ _)).mono ?_
    rintro e w1 ⟨rfl, hb1⟩
    go_wp2_with (fail)
    go_returns
    exact ⟨rfl, hb1⟩
  · have d1 : ¬ (n : Int) > 500 := by omega
    by_cases hsb : M > 10000
    · have d2 : (M : Int) > 10000 := by omega
      go_enter Tryd.func3, Tryd.ntmps3
      go_wp2_with (fail)
      refine (HWK.out _ (Below.refl _ _)).mono ?_
      rintro e w1 ⟨rfl, hb1⟩
      go_wp2_with (fail)
      go_returns
      exact ⟨rfl, hb1⟩
    · have d2 : ¬ (M : Int) > 10000 := by omega
      have HST := Lib.hid (show LwI w L 0 [] true w from ⟨Below.refl _ _, rfl, rfl⟩)
      go_enter Tryd.func3, Tryd.ntmps3
      go_wp2_with (fail)
      go_loopw [5, 6, 8, 9, 27] (fun t m _ _ i wr => ∃ (k : Nat) (x : List UInt8) (b : Bool), t = .string (tx x) ∧ m = .bool b ∧ i = .int .i64 k ∧ k ≤ n ∧ Hid (LwI w L k x b wr)) (fun _ _ _ _ i _ => n - (intOf i).toNat)
      case atStart => exact ⟨0, [], true, rfl, rfl, rfl, by omega, HST⟩
      case round =>
        obtain ⟨k, x, b, rfl, rfl, rfl, hk, hok⟩ := hrel
        by_cases hlt : k < n
        · have hltL : k < L.length := by have := HN.out; omega
          obtain ⟨gb, go, rfl, hgb, e, hed, e0, e1, e2, e3, he⟩ := (HE.out.below hok.out.below).at_ hltL
          obtain ⟨ea, eA, eB, ek⟩ := e
          simp only at e0 e1 e2 e3
          have HED := Lib.hid hed
          have HEO := Lib.hid he
          clear hed he
          have hki : (k : Int) < (n : Int) := by omega
          have hb4 := Lib.hid (hok.out.below.alloc hok.out.below.size (.cells #[.int .u64 ea, .int .u64 eA, .int .u64 eB, .int .u8 ek] 26))
          go_wp2_with (fail)
          refine (line_any ⟨ea, eA, eB, ek⟩ _ HEO.out).mono ?_
          rintro e w5 ⟨rfl, hb5⟩
          have B5 := Lib.hid (below_on hb4.out hb5 hb4.out.size)
          clear hb5 e0 e1 e2 e3
          obtain ⟨y, hy⟩ : ∃ y, lineV ⟨ea, eA, eB, ek⟩ = y := ⟨_, rfl⟩
          have hyl := lineV_len _ HEO.out
          have hyn := lineV_ne ⟨ea, eA, eB, ek⟩
          rw [hy] at hyl hyn ⊢
          have hxl : x.length ≤ 40000 := by
            rw [hok.out.txt]
            have h1 := wantL_len (L.take k) (fun x hx => HE.out.ok x (List.mem_of_mem_take hx))
            have : (L.take k).length ≤ 500 := by rw [List.length_take]; omega
            omega
          have q1 : ∀ W, (Op.stringOp .add (tx y) (tx [10])).run Tryd.prog W = .ok (.string (tx (y ++ [10]))) W := fun W => run_add _ _ _ _ (by simp; omega)
          have q2 : ∀ W, (Op.stringOp .add (tx x) (tx (y ++ [10]))).run Tryd.prog W = .ok (.string (tx (x ++ (y ++ [10])))) W := fun W => run_add _ _ _ _ (by simp; omega)
          obtain ⟨z, hz⟩ : ∃ z, y ++ [10] = z := ⟨_, rfl⟩
          rw [hz] at q1 q2
          obtain ⟨u, hu⟩ : ∃ u, x ++ z = u := ⟨_, rfl⟩
          rw [hu] at q2
          obtain ⟨g, hgk⟩ : ∃ g, goodK ek = g := ⟨_, rfl⟩
          have hyn2 : (y == []) = !g := by rw [← hgk]; exact hyn
          have FIN := Lib.hid (show LwI w L (k + 1) u (b && g) w5 from ⟨B5.out, by rw [take_succ hltL HED.out, wantL_snoc, hy, hz, ← hok.out.txt, hu], by rw [take_succ hltL HED.out, goodL_snoc, ← hok.out.may, ← hgk]⟩)
          clear hy hyl hyn hxl hz hu hgk
          cases b with
          | false =>
            go_wp2_with (fail)
            exact ⟨⟨k + 1, u, false, rfl, rfl, by go_num, by omega, FIN⟩, by simp [intOf]; omega⟩
          | true =>
            cases g with
            | false =>
              go_wp2_with (fail)
              exact ⟨⟨k + 1, u, false, rfl, rfl, by go_num, by omega, FIN⟩, by simp [intOf]; omega⟩
            | true =>
              go_wp2_with (fail)
              exact ⟨⟨k + 1, u, true, rfl, rfl, by go_num, by omega, FIN⟩, by simp [intOf]; omega⟩
        · obtain rfl : k = n := by omega
          have hx := hok.out.txt
          have hb := hok.out.may
          rw [List.take_of_length_le (by have := HN.out; omega)] at hx hb
          have HX := Lib.hid hx
          have HB := Lib.hid hb
          clear hx hb
          go_wp2_with (fail)
          refine (print_any _ _ _ L wr HN.out (HE.out.below hok.out.below) (by have := HN.out; omega) (HP.out.below HG1.out hok.out.below) (HM.out.below HG2.out hok.out.below) (Nat.lt_of_lt_of_le HG1.out hok.out.below.size)).mono ?_
          rintro e w5 ⟨rfl, hb5⟩
          have B5 := Lib.hid (below_on hok.out.below hb5 hok.out.below.size)
          clear hb5
          by_cases hgd : goodL L = true
          · have hv : printV L = .tuple #[.string (tx (linesL L)), .int .i64 0] := by unfold printV; rw [hgd]; rfl
            rw [hv]
            have hbt : b = true := by rw [HB.out]; exact hgd
            subst hbt
            obtain ⟨y, hy⟩ : ∃ y, linesL L = y := ⟨_, rfl⟩
            have hyx : y = x := by rw [HX.out, ← hy, wantL_good L hgd]
            have e1 : (y == x) = true := by simpa using hyx
            have e2 : (x == y) = true := by simpa using hyx.symm
            rw [hy]
            clear hv hy hyx hgd
            go_wp2_with (fail)
            refine (parse_any s w5 (by rw [HMM.out]; omega) (HP.out.below HG1.out B5.out) (HM.out.below HG2.out B5.out) (HER.out.below HG3.out B5.out) (Nat.lt_of_lt_of_le HG1.out B5.out.size) (Nat.lt_of_lt_of_le HG2.out B5.out.size) ⟨Nat.lt_of_lt_of_le HG3.out.1 B5.out.size, Nat.lt_of_lt_of_le HG3.out.2 B5.out.size⟩).mono ?_
            rintro e w6 ⟨pa, pn, pc, rfl, hpn, hpe, hb6⟩
            have B6 := Lib.hid (below_on B5.out hb6 B5.out.size)
            obtain ⟨R, hR⟩ : ∃ R, parseT s = R := ⟨_, rfl⟩
            rw [hR] at hpn hpe ⊢
            have HPN := Lib.hid hpn
            have HPE := Lib.hid hpe
            have HR := Lib.hid hR
            obtain ⟨r, hr⟩ : ∃ r, R.2 = r := ⟨_, rfl⟩
            rw [hr]
            have HR2 := Lib.hid hr
            obtain ⟨er, her⟩ : ∃ er, errOf r = er := ⟨_, rfl⟩
            rw [her]
            have HER2 := Lib.hid her
            clear hb6 hR hpn hpe hr her
            go_wp2_with (fail)
            refine (refparse_any s w6 (by rw [HMM.out]; omega)).mono ?_
            rintro e w7 ⟨qa, qn, qc, rfl, hqn, hqe, hb7⟩
            rw [HR.out] at hqn hqe ⊢
            rw [HR2.out]
            have B7 := Lib.hid (below_on B6.out hb7 B6.out.size)
            have hlen : R.1.length ≤ 20000 := by rw [← HR.out]; have := parseT_len s; have := HMM.out; omega
            have HS := Lib.hid (same_any pa pn pc qa qn qc R.1 w7 HPN.out hqn (HPE.out.below hb7) hqe hlen)
            clear hb7 hqn hqe hlen
            go_wp2_with (fail)
            refine HS.out.mono ?_
            rintro e w8 ⟨rfl, hb8⟩
            have B8 := Lib.hid (below_on B7.out hb8 B7.out.size)
            clear hb8
            by_cases hr0 : r = 0
            · have h1 : er = 0 := by rw [← HER2.out, hr0]; rfl
              subst h1
              subst hr0
              go_wp2_with (fail)
              refine (HWK.out _ B8.out).mono ?_
              rintro e w9 ⟨rfl, hb9⟩
              have B9 := Lib.hid (below_on B8.out hb9 B8.out.size)
              clear hb9
              go_wp2_with (fail)
              go_returns
              exact ⟨rfl, B9.out⟩
            · have h1 : er = 2 := by rw [← HER2.out]; exact if_neg hr0
              subst h1
              have h2 : ((r : Int) == 0) = false := by simp; omega
              go_wp2_with (fail)
              refine (HWK.out _ B8.out).mono ?_
              rintro e w9 ⟨rfl, hb9⟩
              have B9 := Lib.hid (below_on B8.out hb9 B8.out.size)
              clear hb9
              go_wp2_with (fail)
              go_returns
              exact ⟨rfl, B9.out⟩
          · have hv : printV L = .tuple #[.string (tx []), .int .i64 2] := by unfold printV; rw [Bool.not_eq_true] at hgd; rw [hgd]; rfl
            rw [hv]
            have hbt : b = false := by rw [HB.out]; simpa using hgd
            subst hbt
            clear hv hgd
            go_wp2_with (fail)
            refine (parse_any s w5 (by rw [HMM.out]; omega) (HP.out.below HG1.out B5.out) (HM.out.below HG2.out B5.out) (HER.out.below HG3.out B5.out) (Nat.lt_of_lt_of_le HG1.out B5.out.size) (Nat.lt_of_lt_of_le HG2.out B5.out.size) ⟨Nat.lt_of_lt_of_le HG3.out.1 B5.out.size, Nat.lt_of_lt_of_le HG3.out.2 B5.out.size⟩).mono ?_
            rintro e w6 ⟨pa, pn, pc, rfl, hpn, hpe, hb6⟩
            have B6 := Lib.hid (below_on B5.out hb6 B5.out.size)
            obtain ⟨R, hR⟩ : ∃ R, parseT s = R := ⟨_, rfl⟩
            rw [hR] at hpn hpe ⊢
            have HPN := Lib.hid hpn
            have HPE := Lib.hid hpe
            have HR := Lib.hid hR
            obtain ⟨r, hr⟩ : ∃ r, R.2 = r := ⟨_, rfl⟩
            rw [hr]
            have HR2 := Lib.hid hr
            obtain ⟨er, her⟩ : ∃ er, errOf r = er := ⟨_, rfl⟩
            rw [her]
            have HER2 := Lib.hid her
            clear hb6 hR hpn hpe hr her
            go_wp2_with (fail)
            refine (refparse_any s w6 (by rw [HMM.out]; omega)).mono ?_
            rintro e w7 ⟨qa, qn, qc, rfl, hqn, hqe, hb7⟩
            rw [HR.out] at hqn hqe ⊢
            rw [HR2.out]
            have B7 := Lib.hid (below_on B6.out hb7 B6.out.size)
            have hlen : R.1.length ≤ 20000 := by rw [← HR.out]; have := parseT_len s; have := HMM.out; omega
            have HS := Lib.hid (same_any pa pn pc qa qn qc R.1 w7 HPN.out hqn (HPE.out.below hb7) hqe hlen)
            clear hb7 hqn hqe hlen
            go_wp2_with (fail)
            refine HS.out.mono ?_
            rintro e w8 ⟨rfl, hb8⟩
            have B8 := Lib.hid (below_on B7.out hb8 B7.out.size)
            clear hb8
            by_cases hr0 : r = 0
            · have h1 : er = 0 := by rw [← HER2.out, hr0]; rfl
              subst h1
              subst hr0
              go_wp2_with (fail)
              refine (HWK.out _ B8.out).mono ?_
              rintro e w9 ⟨rfl, hb9⟩
              have B9 := Lib.hid (below_on B8.out hb9 B8.out.size)
              clear hb9
              go_wp2_with (fail)
              go_returns
              exact ⟨rfl, B9.out⟩
            · have h1 : er = 2 := by rw [← HER2.out]; exact if_neg hr0
              subst h1
              have h2 : ((r : Int) == 0) = false := by simp; omega
              go_wp2_with (fail)
              refine (HWK.out _ B8.out).mono ?_
              rintro e w9 ⟨rfl, hb9⟩
              have B9 := Lib.hid (below_on B8.out hb9 B8.out.size)
              clear hb9
              go_wp2_with (fail)
              go_returns
              exact ⟨rfl, B9.out⟩
end Go.Proofs.YtfaopoaephlenaaDoor
