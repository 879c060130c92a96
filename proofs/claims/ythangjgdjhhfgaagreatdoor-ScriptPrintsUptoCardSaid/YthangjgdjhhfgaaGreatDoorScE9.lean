/- The document's Line of any move, and its Print. -/
import Derived.Test.YthangjgdjhhfgaaGreatDoorScE5
import Derived.Test.YthangjgdjhhfgaaGreatDoorScE6
import Derived.Test.YthangjgdjhhfgaaGreatDoorScE7
import Derived.Test.YthangjgdjhhfgaaGreatDoorScE8
namespace Go.Proofs.YthangjgdjhhfgaaGreatDoor
open Go.RowKit
set_option linter.unusedVariables false
set_option maxRecDepth 100000 in
set_option maxHeartbeats 8000000 in
theorem rline_any (m : Mv) (aB : Option Addr) (nB cB : Nat) (aD : Option Addr) (nD cD : Nat) (w : World) (hB : BR w aB nB m.b) (hD : BR w aD nD m.d) (ok : MvOk m) (hb : m.b.length ≤ 4000000) (hd : m.d.length ≤ 4000000) :
    Calls Tryz.prog 9 #[.agg (mvCs m (.slice aB nB cB) (.slice aD nD cD))] w fun e w' => e = .returned (.string (tx (lineR m))) ∧ Below w.heap.size w w' := by
  by_cases hi : isK m.kind = true
  · have hik : 1 ≤ m.kind ∧ m.kind ≤ 26 := by simpa [isK] using hi
    have hmem := letR_mem m.kind (by omega) hik.1
    simp only [letsR, List.mem_cons, List.not_mem_nil, or_false] at hmem
    rcases hmem with h | h | h | h | h | h | h | h | h | h | h
    · exact rline_none m aB nB cB aD nD cD w hB hD ok hb hd hi h
    · exact rline_sn m aB nB cB aD nD cD w hB hD ok hb hd hi h
    · exact rline_sib m aB nB cB aD nD cD w hB hD ok hb hd hi h
    · exact rline_si m aB nB cB aD nD cD w hB hD ok hb hd hi h
    · exact rline_sic m aB nB cB aD nD cD w hB hD ok hb hd hi h
    · exact rline_sin m aB nB cB aD nD cD w hB hD ok hb hd hi h
    · exact rline_s m aB nB cB aD nD cD w hB hD ok hb hd hi h
    · exact rline_scb m aB nB cB aD nD cD w hB hD ok hb hd hi h
    · exact rline_n m aB nB cB aD nD cD w hB hD ok hb hd hi h
    · exact rline_nc m aB nB cB aD nD cD w hB hD ok hb hd hi h
    · exact rline_ftd m aB nB cB aD nD cD w hB hD ok hb hd hi h
  · have b1 : Below w.heap.size w (w.alloc (.cells (mvCs m (.slice aB nB cB) (.slice aD nD cD)) 35)) := (Below.refl _ _).alloc (Nat.le_refl _) _
    have n1 := Blk.new w (mvCs m (.slice aB nB cB) (.slice aD nD cD)) 35
    have c0 : (w.alloc (.cells (mvCs m (.slice aB nB cB) (.slice aD nD cD)) 35)).cell? ⟨w.heap.size, 0, none⟩ = some (.int .u8 (m.kind : Nat)) := n1.cell 0 _ rfl
    obtain ⟨w1, hw1⟩ : ∃ w1, w.alloc (.cells (mvCs m (.slice aB nB cB) (.slice aD nD cD)) 35) = w1 := ⟨_, rfl⟩
    rw [hw1] at b1 n1
    have hv : lineR m = [] := by unfold lineR; rw [if_neg (by simp [hi])]
    rw [hv]
    have hk255 := ok.kind
    have hform : formRV m.kind = .tuple #[.string (tx []), .string (tx []), .bool false] := by rw [formRV, if_neg hi]
    have HFO := Lib.hid (fun (u : World) => rform_any m.kind u hk255)
    rw [hform] at HFO
    obtain ⟨k, hk⟩ : ∃ k, m.kind = k := ⟨_, rfl⟩
    rw [hk] at c0 hk255 HFO
    have HB1 := Lib.hid b1
    have HW1 := Lib.hid hw1
    clear b1 n1 hw1 ok hB hD hb hd hv hform hk hi
    go_enter Tryz.func9, Tryz.ntmps9
    go_wp2_with (fail)
    rw [HW1.out]
    clear c0
    refine (HFO.out w1).mono ?_
    rintro e w2 ⟨rfl, b2⟩
    have B2 := Lib.hid (below_on HB1.out b2 HB1.out.size)
    clear b2
    go_upto_region 2 with (fail)
    simp only [List.append_eq, List.cons_append, List.nil_append]
    go_wp2_with (fail)
    go_returns
    exact ⟨rfl, B2.out⟩
/-- What a round of Print keeps. -/
structure RpI (w0 : World) (L : List Mv) (R : List UInt8 × Nat × Nat) (acc : List UInt8) (k : Nat) (w : World) : Prop where
  below : Below w0.heap.size w0 w
  eq : printG (L.drop k) k acc = R
  len : acc.length ≤ k * 40000001
set_option maxRecDepth 100000 in
set_option maxHeartbeats 16000000 in
theorem rprint_any (a : Option Addr) (n cap : Nat) (L : List Mv) (w : World) (hn : n = L.length) (h : n ≤ 2000 → MsR w a L) (hok : n ≤ 2000 → ∀ m ∈ L, MvOk m ∧ m.b.length ≤ 4000000 ∧ m.d.length ≤ 4000000) (hnm : n ≤ 9223372036854775807) :
    Calls Tryz.prog 7 #[.slice a n cap] w fun e w' => PrPost w (printS L) e w' := by
  by_cases hbig : n > 2000
  · have hp : printS L = ([], 0, 3) := by rw [printS, if_pos (by omega)]
    rw [hp]
    have hbi : (n : Int) > 2000 := by omega
    clear h hok hp hn
    go_enter Tryz.func7, Tryz.ntmps7
    go_wp2_with (fail)
    go_returns
    exact ⟨rfl, Below.refl _ _⟩
  · have hnb : n ≤ 2000 := by omega
    have hbi : ¬ (n : Int) > 2000 := by omega
    have h1 := h hnb
    have h2 := hok hnb
    have hp : printG L 0 [] = printS L := by rw [printS, if_neg (by omega)]
    obtain ⟨R, hR⟩ : ∃ R, printS L = R := ⟨_, rfl⟩
    rw [hR] at hp ⊢
    have HST : Hid (RpI w L R [] 0 w) := Lib.hid ⟨Below.refl _ _, hp, by simp⟩
    have HN := Lib.hid hn
    have H1 := Lib.hid h1
    have HOK := Lib.hid h2
    clear h hok h1 h2 hn hp hR hbig
    go_enter Tryz.func7, Tryz.ntmps7
    go_wp2_with (fail)
    go_loopw [5, 6, 7] (fun s i _ wr => ∃ (k : Nat) (acc : List UInt8), i = .int .i64 k ∧ s = .string (tx acc) ∧ k ≤ n ∧ Hid (RpI w L R acc k wr)) (fun _ i _ _ => n - (intOf i).toNat)
    case atStart => exact ⟨0, [], rfl, rfl, by omega, HST⟩
    case round =>
      obtain ⟨k, acc, rfl, rfl, hk, hok⟩ := hrel
      by_cases hlt : k < n
      · have hki : (k : Int) < (n : Int) := by omega
        have hkL : k < L.length := by have := HN.out; omega
        obtain ⟨g1, o1, aB, nB, cB, aD, nD, cD, rfl, hg1, c1, y1, z1⟩ := (H1.out.below hok.out.below) k hkL
        obtain ⟨mok, mb, md⟩ := HOK.out (L[k]) (List.getElem_mem _)
        have hpp := hok.out.eq
        have hal := hok.out.len
        rw [List.drop_eq_getElem_cons hkL, printG] at hpp
        have HLN := Lib.hid (fun s hs => lineO_len (s := s) mok mb md hs)
        generalize L[k] = q at *
        have HRL := Lib.hid (lineR_O q)
        have HNE := Lib.hid (fun s hs => lineO_ne (m := q) (s := s) hs)
        obtain ⟨q0, q1, q2, q3, q4, q5, q6, q7, q8⟩ := q
        have d0 : wr.cell? ⟨g1, o1 + k * 9, none⟩ = some (.int .u8 q0) := c1 0 _ rfl
        have d1 : wr.cell? ⟨g1, o1 + k * 9 + 1, none⟩ = some (.int .u8 q1) := c1 1 _ rfl
        have d2 : wr.cell? ⟨g1, o1 + k * 9 + 2, none⟩ = some (.int .i64 q2) := c1 2 _ rfl
        have d3 : wr.cell? ⟨g1, o1 + k * 9 + 3, none⟩ = some (.int .u64 q3) := c1 3 _ rfl
        have d4 : wr.cell? ⟨g1, o1 + k * 9 + 4, none⟩ = some (.int .u64 q4) := c1 4 _ rfl
        have d5 : wr.cell? ⟨g1, o1 + k * 9 + 5, none⟩ = some (.slice aB nB cB) := c1 5 _ rfl
        have d6 : wr.cell? ⟨g1, o1 + k * 9 + 6, none⟩ = some (.int .u32 q6) := c1 6 _ rfl
        have d7 : wr.cell? ⟨g1, o1 + k * 9 + 7, none⟩ = some (.int .u32 q7) := c1 7 _ rfl
        have d8 : wr.cell? ⟨g1, o1 + k * 9 + 8, none⟩ = some (.slice aD nD cD) := c1 8 _ rfl
        have HC := Lib.hid (rline_any ⟨q0, q1, q2, q3, q4, q5, q6, q7, q8⟩ aB nB cB aD nD cD wr y1 z1 mok mb md)
        rw [HRL.out] at HC
        have HPP := Lib.hid hpp
        have HAL := Lib.hid hal
        have hqk : decide (n ≤ k) = false := by simp; omega
        clear c1 y1 z1 mok mb md hpp hal
        go_wp2_with (fail)
        refine HC.out.mono ?_
        rintro e w6 ⟨rfl, b6⟩
        have B6 := Lib.hid (below_on hok.out.below b6 hok.out.below.size)
        clear b6 d0 d1 d2 d3 d4 d5 d6 d7 d8
        cases hln : lineO ⟨q0, q1, q2, q3, q4, q5, q6, q7, q8⟩ with
        | none =>
          have hpp := HPP.out
          rw [hln] at hpp
          simp only [Option.getD_none] at hpp ⊢
          have HF := Lib.hid hpp
          clear hpp hln
          go_wp2_with (fail)
          go_returns
          exact ⟨by rw [← HF.out]; rfl, B6.out⟩
        | some s =>
          have hpp := HPP.out
          rw [hln] at hpp
          simp only [Option.getD_some] at hpp ⊢
          have hsl := HLN.out s hln
          have hne := HNE.out s hln
          have hal := HAL.out
          have q1 : (s == []) = false := by simpa using hne
          have q2 : ([] == s) = false := by simpa using hne
          have s1 : ∀ W, (Op.stringOp .add (tx acc) (tx s)).run Tryz.prog W = .ok (.string (tx (acc ++ s))) W := fun W => run_add _ _ _ _ (by omega)
          obtain ⟨y1, hy1⟩ : ∃ y, acc ++ s = y := ⟨_, rfl⟩
          rw [hy1] at s1 hpp
          have l1 : y1.length = acc.length + s.length := by rw [← hy1]; simp
          have s2 : ∀ W, (Op.stringOp .add (tx y1) (tx [10])).run Tryz.prog W = .ok (.string (tx (y1 ++ [10]))) W := fun W => run_add _ _ _ _ (by simp only [List.length_cons, List.length_nil]; omega)
          have FIN : Hid (RpI w L R (y1 ++ [10]) (k + 1) w6) := Lib.hid ⟨B6.out, hpp, by simp; omega⟩
          have HNL := Lib.hid hne
          clear hpp hln hsl hal hy1 l1 hne
          go_wp2_with (fail)
          exact ⟨⟨k + 1, y1 ++ [10], by go_num, rfl, by omega, FIN⟩, by simp [intOf]; omega⟩
      · have hpp := hok.out.eq
        rw [List.drop_of_length_le (by have := HN.out; omega), printG] at hpp
        have B6 := Lib.hid hok.out.below
        have HPP := Lib.hid hpp
        obtain ⟨al, hall⟩ : ∃ al, acc.length = al := ⟨_, rfl⟩
        have hasz : (tx acc).size = al := by rw [tx_size, hall]
        have HALL := Lib.hid hall
        clear hall hpp
        by_cases hsm : al > 262144
        · have hsi : (al : Int) > 262144 := by omega
          have hpp := HPP.out
          rw [if_pos (by rw [HALL.out]; exact hsm)] at hpp
          have HF := Lib.hid hpp
          clear hpp
          go_wp2_with (fail)
          go_returns
          exact ⟨by rw [← HF.out]; rfl, B6.out⟩
        · have hsi : ¬ (al : Int) > 262144 := by omega
          have hpp := HPP.out
          rw [if_neg (by rw [HALL.out]; exact hsm)] at hpp
          have HF := Lib.hid hpp
          clear hpp
          go_wp2_with (fail)
          go_returns
          exact ⟨by rw [← HF.out]; rfl, B6.out⟩
end Go.Proofs.YthangjgdjhhfgaaGreatDoor
