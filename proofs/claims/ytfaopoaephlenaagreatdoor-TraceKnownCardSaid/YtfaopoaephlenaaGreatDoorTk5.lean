/- trace.Parse. -/
import Derived.Test.YtfaopoaephlenaaGreatDoorTk4
namespace Go.Proofs.YtfaopoaephlenaaGreatDoor
open Go.RowKit
set_option linter.unusedVariables false

def parseF : Nat → Nat → List UInt8 → List Ev → List Ev × Nat
  | 0, n, s, acc => if s = [] then (acc, 0) else ([], n)
  | f + 1, n, s, acc => if s = [] then (acc, 0) else if 10 ∈ s then (match evO (hdc 10 s) with | some e => parseF f (n + 1) (tlc 10 s) (acc ++ [e]) | none => ([], n)) else ([], n)
def parseT (s : List UInt8) : List Ev × Nat := parseF s.length 1 s []
def errOf (n : Nat) : Int := if n = 0 then 0 else 2
theorem parseF_nil (f n : Nat) (acc : List Ev) : parseF f n [] acc = (acc, 0) := by cases f <;> rfl
theorem parseF_no (f n : Nat) (s : List UInt8) (acc : List Ev) (h : s ≠ []) (h10 : 10 ∉ s) : parseF f n s acc = ([], n) := by
  cases f
  · rw [parseF, if_neg h]
  · rw [parseF, if_neg h, if_neg h10]
theorem parseF_bad (f n : Nat) (s : List UInt8) (acc : List Ev) (h : s ≠ []) (he : evO (hdc 10 s) = none) : parseF f n s acc = ([], n) := by
  cases f
  · rw [parseF, if_neg h]
  · rw [parseF, if_neg h]; split
    · rw [he]
    · rfl
theorem parseF_some (f n : Nat) (s : List UInt8) (acc : List Ev) (h : s ≠ []) (h10 : 10 ∈ s) {e : Ev} (he : evO (hdc 10 s) = some e) : parseF (f + 1) n s acc = parseF f (n + 1) (tlc 10 s) (acc ++ [e]) := by
  rw [parseF, if_neg h, if_pos h10, he]
theorem hdc_len (c : UInt8) (s : List UInt8) : (hdc c s).length ≤ s.length := (List.takeWhile_sublist _).length_le
theorem tlc_lt {c : UInt8} {s : List UInt8} (h : c ∈ s) : (tlc c s).length < s.length := by
  have h1 := hdc_len c s
  have h2 : 0 < s.length := List.length_pos_of_mem h
  unfold tlc
  rw [List.length_drop]; omega
def strLen (v : Value) : Nat := match v with | .string b => b.size | _ => 0
/-- What a round of Parse keeps. -/
structure PaI (w0 : World) (M : Nat) (R : List Ev × Nat) (a : Option Addr) (n cap : Nat) (acc : List Ev) (ln : Nat) (s : List UInt8) (w : World) : Prop where
  below : Below w0.heap.size w0 w
  own : OwnS w w0.heap.size 31 4 a n cap (cellsE acc)
  len : n = acc.length
  ok : ∀ e ∈ acc, EvOk e
  res : ∃ f, s.length ≤ f ∧ parseF f ln s acc = R
  ln1 : 1 ≤ ln
  lnM : ln + s.length ≤ M + 1
  acM : n + s.length ≤ M
def PaPost (w : World) (R : List Ev × Nat) (x : Ending) (w' : World) : Prop := ∃ a n cap, x = .returned (.tuple #[.slice a n cap, .int .i64 (R.2 : Nat), .int .i64 (errOf R.2)]) ∧ n = R.1.length ∧ Es w' a cap R.1 ∧ Below w.heap.size w w'
theorem Es.nil (w : World) : Es w none 0 [] := ⟨fun i hi => absurd hi (Nat.not_lt_zero _), fun _ => rfl, Nat.le_refl _, Nat.zero_le _, fun p hp => by cases hp⟩
theorem SrcAt.ev (w : World) (e : Ev) : SrcAt (w.alloc (.cells #[.int .u64 e.at_, .int .u64 e.a, .int .u64 e.b, .int .u8 e.kind] 31)) (some ⟨w.heap.size, 0, none⟩) 1 1 4 (cellsE [e]) := by
  have h := SrcAt.cells w #[.int .u64 e.at_, .int .u64 e.a, .int .u64 e.b, .int .u8 e.kind] 31 1 4 rfl (by intro u hu; exact cellsE_one [e] u (by simpa [cellsE, encE] using hu))
  exact h
set_option maxRecDepth 100000 in
set_option maxHeartbeats 8000000 in
theorem parse_any (l : List UInt8) (w : World) (hs : l.length ≤ 10000) (hp : Pow10 w) (hm : MaxLenAt w) (he : ErrAt w) (hg1 : 3 < w.heap.size) (hg2 : 0 < w.heap.size) (hg3 : 1 < w.heap.size ∧ 2 < w.heap.size) :
    Calls Tryz.prog 4 #[.string (tx l)] w fun x w' => PaPost w (parseT l) x w' := by
  have HP := Lib.hid hp
  have HM := Lib.hid hm
  have HE := Lib.hid he
  have HG1 := Lib.hid hg1
  have HG2 := Lib.hid hg2
  have HG3 := Lib.hid hg3
  have hc : l.count 10 ≤ l.length := List.count_le_length
  obtain ⟨M, hM⟩ : ∃ M, l.length = M := ⟨_, rfl⟩
  rw [hM] at hs hc
  have hct : ¬ ((l.count 10 : Nat) : Int) > 10000 := by omega
  obtain ⟨ct, hctt⟩ : ∃ ct, l.count 10 = ct := ⟨_, rfl⟩
  rw [hctt] at hct
  have hst : PaI w M (parseT l) none 0 0 [] 1 l w := ⟨Below.refl _ _, OwnS.nil _ _ _ _, rfl, (fun e h => (by cases h)), ⟨l.length, Nat.le_refl _, rfl⟩, Nat.le_refl _, by omega, by omega⟩
  have HST := Lib.hid hst
  have HR : Hid (∀ x w', PaPost w (parseT l) x w' → PaPost w (parseT l) x w') := Lib.hid fun _ _ h => h
  obtain ⟨R, hR⟩ : ∃ R, parseT l = R := ⟨_, rfl⟩
  rw [hR] at HST HR ⊢
  have HCC := Lib.hid hctt
  clear hp hm he hg1 hg2 hg3 hst hR hc hctt
  go_enter Tryz.func4, Tryz.ntmps4
  go_wp2_with (fail)
  refine (count_any l 10 w).mono ?_
  rintro e w1 ⟨rfl, rfl⟩
  rw [HCC.out]
  go_wp2_with (fail)
  go_loopw [0, 2, 5, 6, 7, 8, 9, 10] (fun s v i _ _ _ _ _ wr => ∃ (t : List UInt8) (a : Option Addr) (n cap ln : Nat) (acc : List Ev), s = .string (tx t) ∧ v = .slice a n cap ∧ i = .int .i64 ln ∧ Hid (PaI w1 M R a n cap acc ln t wr)) (fun s _ _ _ _ _ _ _ _ => strLen s)
  case atStart => exact ⟨l, none, 0, 0, 1, [], rfl, rfl, rfl, HST⟩
  case round =>
    obtain ⟨t, a, n, cap, ln, acc, rfl, rfl, rfl, hok⟩ := hrel
    by_cases ht : t = []
    · subst ht
      obtain ⟨f, hf, hfr⟩ := hok.out.res
      rw [parseF_nil] at hfr
      obtain ⟨hn, hes⟩ := hok.out.own.es hok.out.ok
      have HFR := Lib.hid hfr
      have HES := Lib.hid hes
      have HN := Lib.hid hn
      clear hf hfr hes hn
      go_wp2_with (fail)
      go_returns
      refine ⟨a, n, cap, ?_, ?_, ?_, hok.out.below⟩ <;> rw [← HFR.out]
      · rfl
      · exact HN.out
      · exact HES.out
    · have hte : (t == []) = false := by simpa using ht
      have HT := Lib.hid ht
      clear ht
      have htl : t.length < 4294967281 := by have := hok.out.lnM; have := hok.out.ln1; omega
      have HTL := Lib.hid htl
      clear htl
      go_wp2_with (fail)
      refine (cut_any t 10 wr HTL.out (HM.out.below HG2.out hok.out.below)).mono ?_
      rintro e w2 ⟨rfl, hb2⟩
      have B2 := Lib.hid (below_on hok.out.below hb2 hok.out.below.size)
      have O2 := Lib.hid (hok.out.own.below hb2)
      obtain ⟨hd, hhd⟩ : ∃ x, hdc 10 t = x := ⟨_, rfl⟩
      obtain ⟨tl, htl⟩ : ∃ x, tlc 10 t = x := ⟨_, rfl⟩
      rw [hhd, htl]
      have hdl : hd.length < 4294967281 := by rw [← hhd]; have := hdc_len 10 t; have := HTL.out; omega
      have HHD := Lib.hid hhd
      have HHT := Lib.hid htl
      have HDL := Lib.hid hdl
      clear hb2 hhd htl hdl hte
      go_wp2_with (fail)
      refine (event_any hd w2 HDL.out (HP.out.below HG1.out B2.out) (HM.out.below HG2.out B2.out) (HE.out.below HG3.out B2.out) (Nat.lt_of_lt_of_le HG1.out B2.out.size) (Nat.lt_of_lt_of_le HG2.out B2.out.size) ⟨Nat.lt_of_lt_of_le HG3.out.1 B2.out.size, Nat.lt_of_lt_of_le HG3.out.2 B2.out.size⟩).mono ?_
      rintro e w3 ⟨⟨ea, eb, ec, ek, ok, rfl, hy, hn⟩, hb3⟩
      have B3 := Lib.hid (below_on B2.out hb3 B2.out.size)
      have O3 := Lib.hid (O2.out.below hb3)
      have HY := Lib.hid hy
      have HN := Lib.hid hn
      clear hb3 hy hn
      by_cases h10 : 10 ∈ t
      · have d10 : decide (10 ∈ t) = true := by simpa using h10
        rw [d10]
        have H10 := Lib.hid h10
        clear h10 d10
        cases ok with
        | false =>
          have hR := hok.out.res
          obtain ⟨f, hf, hfr⟩ := hR
          rw [parseF_bad f ln t acc HT.out (by rw [HHD.out]; exact HN.out rfl)] at hfr
          have HFR := Lib.hid hfr
          have hl1 := hok.out.ln1
          have HL1 := Lib.hid hl1
          clear hf hfr hl1
          go_wp2_with (fail)
          go_returns
          refine ⟨none, 0, 0, ?_, ?_, ?_, B3.out.alloc B3.out.size _⟩ <;> rw [← HFR.out]
          · have : errOf ln = 2 := if_neg (by have := HL1.out; omega)
            rw [this]; rfl
          · rfl
          · exact Es.nil _
        | true =>
          have hev := HY.out rfl
          have hR : ∃ f, tl.length ≤ f ∧ parseF f (ln + 1) tl (acc ++ [⟨ea, eb, ec, ek⟩]) = R := by
            obtain ⟨f, hf, hfr⟩ := hok.out.res
            have hlt := tlc_lt H10.out
            rw [HHT.out] at hlt
            obtain ⟨f', rfl⟩ : ∃ m, f = m + 1 := ⟨f - 1, by omega⟩
            rw [parseF_some f' ln t acc HT.out H10.out (by rw [HHD.out]; exact hev), HHT.out] at hfr
            exact ⟨f', by omega, hfr⟩
          have HR2 := Lib.hid hR
          have HOK := Lib.hid (evO_ok hev)
          have hltl := tlc_lt H10.out
          rw [HHT.out] at hltl
          have hlnM := hok.out.lnM
          have hacM := hok.out.acM
          clear hev hR
          have hb4 : Below w1.heap.size w1 (w3.alloc (.cells #[.int .u64 ea, .int .u64 eb, .int .u64 ec, .int .u8 ek] 31)) := B3.out.alloc B3.out.size _
          have o4 := O3.out.below (show Below w3.heap.size w3 (w3.alloc (.cells #[.int .u64 ea, .int .u64 eb, .int .u64 ec, .int .u8 ek] 31)) from (Below.refl _ _).alloc (Nat.le_refl _) _)
          have hs5 := SrcAt.ev (w3.alloc (.cells #[.int .u64 ea, .int .u64 eb, .int .u64 ec, .int .u8 ek] 31)) ⟨ea, eb, ec, ek⟩
          have hz4 : (w3.alloc (.cells #[.int .u64 ea, .int .u64 eb, .int .u64 ec, .int .u8 ek] 31)).heap.size = w3.heap.size + 1 := by simp
          have hb5 := hb4.alloc hb4.size (.cells #[.int .u64 ea, .int .u64 eb, .int .u64 ec, .int .u8 ek] 31)
          have o5 := o4.below ((Below.refl _ _).alloc (Nat.le_refl _) (.cells #[.int .u64 ea, .int .u64 eb, .int .u64 ec, .int .u8 ek] 31))
          rw [hz4] at hs5
          have HB5 := Lib.hid hb5
          have O5 := Lib.hid o5
          have HS5 := Lib.hid hs5
          clear hb4 o4 hz4 hb5 o5 hs5
          go_wp2_with (at_builtin; refine Stop.mk ?_)
          refine Stop.out ?_
          refine wpList_app ev_et rfl rfl (base := w1.heap.size) rfl rfl O5.out HS5.out (by simp only [maxLen]; omega) (by omega) HB5.out.size ?_
          intro a6 c6 w6 ho6 on6 at6
          have b6 : Below w1.heap.size w1 w6 := below_onto HB5.out on6 HB5.out.size (by rintro z hz ⟨y, hy, rfl⟩; have := (O5.out.block hy).1; omega)
          rw [← cellsE_append] at ho6
          have hfin : PaI w1 M R a6 (n + 1) c6 (acc ++ [⟨ea, eb, ec, ek⟩]) (ln + 1) tl w6 := ⟨b6, ho6, by rw [List.length_append, ← hok.out.len]; rfl, fun x hx => by
            rcases List.mem_append.1 hx with hx | hx
            · exact hok.out.ok x hx
            · rw [List.mem_singleton.1 hx]; exact HOK.out, HR2.out, by omega, by omega, by omega⟩
          have FIN := Lib.hid hfin
          have hsz : tl.length < t.length := hltl
          clear ho6 on6 at6 b6 hfin hltl
          go_wp2_with (fail)
          exact ⟨⟨tl, a6, n + 1, c6, ln + 1, acc ++ [⟨ea, eb, ec, ek⟩], rfl, rfl, by go_num, FIN⟩, by simp only [strLen, tx_size]; exact hsz⟩
      · have d10 : decide (10 ∈ t) = false := by simpa using h10
        rw [d10]
        obtain ⟨f, hf, hfr⟩ := hok.out.res
        rw [parseF_no f ln t acc HT.out h10] at hfr
        have HFR := Lib.hid hfr
        have hl1 := hok.out.ln1
        have HL1 := Lib.hid hl1
        clear hf hfr hl1 h10 d10
        go_wp2_with (fail)
        go_returns
        refine ⟨none, 0, 0, ?_, ?_, ?_, B3.out.alloc B3.out.size _⟩ <;> rw [← HFR.out]
        · have : errOf ln = 2 := if_neg (by have := HL1.out; omega)
          rw [this]; rfl
        · rfl
        · exact Es.nil _
end Go.Proofs.YtfaopoaephlenaaGreatDoor
