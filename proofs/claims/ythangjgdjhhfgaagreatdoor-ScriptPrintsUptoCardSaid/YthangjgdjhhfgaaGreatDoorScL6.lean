/- script.Print, and the document's Great. -/
import Derived.Test.YthangjgdjhhfgaaGreatDoorScL5
namespace Go.Proofs.YthangjgdjhhfgaaGreatDoor
open Go.RowKit
set_option linter.unusedVariables false
/-! ### Great -/
def greatN : List Mv → Nat → Nat
  | [], n => n
  | m :: r, n => if n ≤ 1000 then greatN r (n + 1 + (m.b.length + m.d.length) / 64) else n
theorem greatN_le : ∀ (L : List Mv) (n : Nat), n ≤ greatN L n
  | [], n => Nat.le_refl _
  | m :: r, n => by
    rw [greatN]
    split
    · have := greatN_le r (n + 1 + (m.b.length + m.d.length) / 64); omega
    · exact Nat.le_refl _
theorem greatN_small : ∀ (L : List Mv) (n : Nat), greatN L n ≤ 1000 → n + L.length ≤ 1000 ∧ ∀ m ∈ L, m.b.length + m.d.length ≤ 64064
  | [], n, h => ⟨by simpa [greatN] using h, by simp⟩
  | m :: r, n, h => by
    rw [greatN] at h
    split at h
    · have h1 := greatN_le r (n + 1 + (m.b.length + m.d.length) / 64)
      obtain ⟨h2, h3⟩ := greatN_small r _ h
      refine ⟨by simp only [List.length_cons]; omega, fun x hx => ?_⟩
      rcases List.mem_cons.1 hx with rfl | hx
      · omega
      · exact h3 x hx
    · omega
set_option maxRecDepth 100000 in
set_option maxHeartbeats 8000000 in
theorem great_any (a : Option Addr) (n cap : Nat) (L : List Mv) (w : World) (hn : n = L.length) (h : MsR w a L) (hs : ∀ m ∈ L, m.b.length + m.d.length ≤ 1152921504606846976) (hl : n ≤ 1152921504606846976) :
    Calls Tryz.prog 5 #[.slice a n cap] w fun x w' => x = .returned (.bool (decide (greatN L 0 > 1000))) ∧ Below w.heap.size w w' := by
  obtain ⟨B, hB⟩ : ∃ B, decide (greatN L 0 > 1000) = B := ⟨_, rfl⟩
  rw [hB]
  have HB := Lib.hid hB
  have HN := Lib.hid hn
  have H1 := Lib.hid h
  have HS := Lib.hid hs
  have HST : Hid (greatN (L.drop 0) 0 = greatN L 0) := Lib.hid rfl
  clear hB hn h hs
  go_enter Tryz.func5, Tryz.ntmps5
  go_wp2_with (fail)
  go_loopw [3, 4] (fun s i wr => ∃ k v : Nat, i = .int .i64 k ∧ s = .int .i64 v ∧ k ≤ n ∧ v ≤ 1152921504606848977 ∧ Hid (Below w.heap.size w wr) ∧ Hid (greatN (L.drop k) v = greatN L 0)) (fun _ i _ => n - (intOf i).toNat)
  case atStart => exact ⟨0, 0, rfl, rfl, by omega, by omega, Lib.hid (Below.refl _ _), HST⟩
  case round =>
    obtain ⟨k, v, rfl, rfl, hk, hv, bw, hok⟩ := hrel
    by_cases hlt : k < n
    · have hki : (k : Int) < (n : Int) := by omega
      have hkL : k < L.length := by have := HN.out; omega
      by_cases hv1 : v ≤ 1000
      · have hvi : (v : Int) ≤ 1000 := by omega
        obtain ⟨g1, o1, aB, nB, cB, aD, nD, cD, rfl, hg1, c1, y1, z1⟩ := (H1.out.below bw.out) k hkL
        have hsm := HS.out (L[k]) (List.getElem_mem _)
        have hg := hok.out
        rw [List.drop_eq_getElem_cons hkL, greatN, if_pos hv1] at hg
        have hy := y1.len
        have hz := z1.len
        generalize L[k] = q at *
        obtain ⟨q0, q1, q2, q3, q4, q5, q6, q7, q8⟩ := q
        simp only at hsm hg hy hz
        have d5 : wr.cell? ⟨g1, o1 + k * 9 + 5, none⟩ = some (.slice aB nB cB) := c1 5 _ rfl
        have d8 : wr.cell? ⟨g1, o1 + k * 9 + 8, none⟩ = some (.slice aD nD cD) := c1 8 _ rfl
        have hnb : nB + nD ≤ 1152921504606846976 := by omega
        have hqk : decide (n ≤ k) = false := by simp; omega
        rw [← hy, ← hz] at hg
        obtain ⟨t, ht⟩ : ∃ t, (nB + nD) / 64 = t := ⟨_, rfl⟩
        have ht2 : t ≤ 18014398509481984 := by omega
        rw [ht] at hg
        have e3 : ((nB : Int) + (nD : Int)) / 64 = (t : Int) := by omega
        have FIN : Hid (greatN (L.drop (k + 1)) (v + 1 + t) = greatN L 0) := Lib.hid hg
        clear hok hg hsm ht c1 y1 z1 hy hz
        go_wp2_with (fail)
        refine rg_start 19 ?_
        refine rg_below fun p hx hne hC hbel => ?_
        have k5 : ∀ z : Wd p, z.w.cell? ⟨g1, o1 + k * 9 + 5, none⟩ = _ := fun z => (hx z _ _ _ hg1).trans d5
        have k8 : ∀ z : Wd p, z.w.cell? ⟨g1, o1 + k * 9 + 8, none⟩ = _ := fun z => (hx z _ _ _ hg1).trans d8
        refine rg_quiet 0 [0,1,2,3,4,5,6,7,8,9,10,11,12,13,14,15,16,17,18] hC ?_
        simp only [pickD, List.map_cons, List.map_nil, List.getD_cons_zero, List.getD_cons_succ]; repeat (go_big_quiet_step (fail))
        refine wpQuiet_nil ?_
        refine rg_end ?_
        have BW := Lib.hid (show Below w.heap.size w wr.drew from bw.out.drew)
        clear hx hne hC hbel k5 k8
        go_wp2_with (fail)
        exact ⟨⟨k + 1, v + 1 + t, by go_num, by go_num, by omega, by omega, BW, FIN⟩, by simp [intOf]; omega⟩
      · have hvi : ¬ (v : Int) ≤ 1000 := by omega
        have hvg : (v : Int) > 1000 := by omega
        have hg := hok.out
        rw [List.drop_eq_getElem_cons hkL, greatN, if_neg hv1] at hg
        have HBT : Hid (B = true) := Lib.hid (by rw [← HB.out, ← hg]; simp; omega)
        clear hg hv1
        go_wp2_with (fail)
        go_returns
        exact ⟨by rw [HBT.out]; rfl, bw.out⟩
    · have hg := hok.out
      rw [List.drop_of_length_le (by have := HN.out; omega), greatN] at hg
      by_cases hv1 : v ≤ 1000
      · have hvg : ¬ (v : Int) > 1000 := by omega
        have HBT : Hid (B = false) := Lib.hid (by rw [← HB.out, ← hg]; simp; omega)
        clear hg hv1
        go_wp2_with (fail)
        go_returns
        exact ⟨by rw [HBT.out]; rfl, bw.out⟩
      · have hvg : (v : Int) > 1000 := by omega
        have HBT : Hid (B = true) := Lib.hid (by rw [← HB.out, ← hg]; simp; omega)
        clear hg hv1
        go_wp2_with (fail)
        go_returns
        exact ⟨by rw [HBT.out]; rfl, bw.out⟩
/-! ### Print -/
def printP : List Mv → Nat → List UInt8 → List UInt8 × Nat × Nat
  | [], _, acc => if acc.length > 262144 then ([], 0, 3) else (acc, 0, 0)
  | m :: r, k, acc => match lineO m with
    | none => ([], k, 2)
    | some s => printP r (k + 1) (if acc.length ≤ 262144 then acc ++ (s ++ [10]) else acc)
theorem printP_G : ∀ (L : List Mv) (k : Nat) (acc acc' : List UInt8), (acc = acc' ∨ (acc.length > 262144 ∧ acc'.length > 262144)) → printP L k acc = printG L k acc'
  | [], k, acc, acc', h => by
    rw [printP, printG]
    rcases h with rfl | ⟨h1, h2⟩
    · rfl
    · rw [if_pos h1, if_pos h2]
  | m :: r, k, acc, acc', h => by
    rw [printP, printG]
    cases lineO m with
    | none => rfl
    | some s =>
      simp only
      apply printP_G
      rcases h with rfl | ⟨h1, h2⟩
      · by_cases h3 : acc.length ≤ 262144
        · rw [if_pos h3]; left; simp
        · rw [if_neg h3]; right; exact ⟨by omega, by simp; omega⟩
      · rw [if_neg (by omega)]; right; exact ⟨h1, by simp; omega⟩
theorem lineO_len {m : Mv} {s : List UInt8} (ok : MvOk m) (hb : m.b.length ≤ 4000000) (hd : m.d.length ≤ 4000000) (h : lineO m = some s) : s.length ≤ 40000000 := by
  unfold lineO at h
  split at h
  · rename_i hk
    cases h
    have hk2 : 1 ≤ m.kind ∧ m.kind ≤ 26 := by
      have : isK m.kind = true := by simp only [Bool.and_eq_true] at hk; exact hk.1
      simpa [isK] using this
    have hw := wordK_len m.kind (by omega)
    have hl := let_len m.kind (by omega)
    have key : ∀ (l : List UInt8) (m : Mv), MvOk m → m.b.length ≤ 4000000 → m.d.length ≤ 4000000 → (putL l m).length = l.length ∧ ∀ s ∈ putL l m, s.length ≤ 9000000 := by
      intro l
      induction l with
      | nil => intro m _ _ _; exact ⟨rfl, by simp [putL]⟩
      | cons c l ih =>
        intro m ok hb hd
        obtain ⟨h1, h2⟩ := ih (clearM c m) (clear_ok ok) (Nat.le_trans clear_len.1 hb) (Nat.le_trans clear_len.2.1 hd)
        rw [putL]
        refine ⟨by simp [h1], fun s hs => ?_⟩
        rcases List.mem_cons.1 hs with rfl | hs
        · exact fieldS_len ok hb hd
        · exact h2 s hs
    obtain ⟨h1, h2⟩ := key (letK m.kind) m ok hb hd
    have h3 := joinW_len 9000000 (wordK m.kind :: putL (letK m.kind) m) (fun s hs => by
      rcases List.mem_cons.1 hs with rfl | hs
      · omega
      · exact h2 s hs)
    have h4 : (wordK m.kind :: putL (letK m.kind) m).length ≤ 4 := by simp only [List.length_cons]; omega
    have := Nat.mul_le_mul_right 9000001 h4
    omega
  · cases h
theorem blen_any (B b : Nat) (l : List UInt8) (w : World) (h : Bd B b l w) :
    Calls Tryz.prog 12 #[.pointer (some ⟨b, 0, none⟩)] w fun e w' => e = .returned (.int .i64 l.length) ∧ w' = w := by
  have := Any.Builder_Len_f L.lays170 B b (Lib.byteCells l) w h
  rwa [show (Lib.byteCells l).length = l.length by simp [Lib.byteCells]] at this
/-- What a round of Print keeps. -/
structure PrI (w0 : World) (L : List Mv) (R : List UInt8 × Nat × Nat) (k : Nat) (w : World) : Prop where
  below : Below w0.heap.size w0 w
  ex : ∃ acc, Bd w0.heap.size w0.heap.size acc w ∧ printP (L.drop k) k acc = R ∧ acc.length ≤ 50000000
def PrPost (w0 : World) (R : List UInt8 × Nat × Nat) (e : Ending) (w' : World) : Prop := e = .returned (.tuple #[.string (tx R.1), .int .i64 (R.2.1 : Nat), .int .i64 (R.2.2 : Nat)]) ∧ Below w0.heap.size w0 w'
set_option maxRecDepth 100000 in
set_option maxHeartbeats 16000000 in
theorem print_any (a : Option Addr) (n cap : Nat) (L : List Mv) (w : World) (hn : n = L.length) (h : n ≤ 2000 → MsR w a L) (hok : n ≤ 2000 → ∀ m ∈ L, MvOk m ∧ m.b.length ≤ 4000000 ∧ m.d.length ≤ 4000000) (hV : Vars w) (hnm : n ≤ 9223372036854775807) :
    Calls Tryz.prog 6 #[.slice a n cap] w fun e w' => PrPost w (printS L) e w' := by
  by_cases hbig : n > 2000
  · have hp : printS L = ([], 0, 3) := by rw [printS, if_pos (by omega)]
    rw [hp]
    have hbi : (n : Int) > 2000 := by omega
    clear h hok hp hn
    go_enter Tryz.func6, Tryz.ntmps6
    go_wp2_with (fail)
    go_returns
    exact ⟨rfl, Below.refl _ _⟩
  · have hnb : n ≤ 2000 := by omega
    have hbi : ¬ (n : Int) > 2000 := by omega
    have h1 := h hnb
    have h2 := hok hnb
    have hp : printP L 0 [] = printS L := by rw [printS, if_neg (by omega)]; exact printP_G L 0 [] [] (.inl rfl)
    obtain ⟨R, hR⟩ : ∃ R, printS L = R := ⟨_, rfl⟩
    rw [hR] at hp ⊢
    have HST : Hid (PrI w L R 0 (w.alloc (.cells #[.pointer none, .slice none 0 0] 45))) := Lib.hid ⟨(Below.refl _ _).alloc (Nat.le_refl _) _, [], Bd.new w, hp, by simp⟩
    have HN := Lib.hid hn
    have H1 := Lib.hid h1
    have HOK := Lib.hid h2
    have HV := Lib.hid hV
    clear h hok h1 h2 hn hV hp hR hbig
    go_enter Tryz.func6, Tryz.ntmps6
    go_wp2_with (fail)
    go_loopw [6, 7, 8, 9, 15] (fun _ _ _ _ i wr => ∃ k : Nat, i = .int .i64 k ∧ k ≤ n ∧ Hid (PrI w L R k wr)) (fun _ _ _ _ i _ => n - (intOf i).toNat)
    case atStart => exact ⟨0, rfl, by omega, HST⟩
    case round =>
      obtain ⟨k, rfl, hk, hok⟩ := hrel
      by_cases hlt : k < n
      · have hki : (k : Int) < (n : Int) := by omega
        have hkL : k < L.length := by have := HN.out; omega
        obtain ⟨g1, o1, aB, nB, cB, aD, nD, cD, rfl, hg1, c1, y1, z1⟩ := (H1.out.below hok.out.below) k hkL
        obtain ⟨mok, mb, md⟩ := HOK.out (L[k]) (List.getElem_mem _)
        obtain ⟨acc, hbd, hpp, hal⟩ := hok.out.ex
        rw [List.drop_eq_getElem_cons hkL, printP] at hpp
        have HLN := Lib.hid (fun s hs => lineO_len (s := s) mok mb md hs)
        generalize L[k] = q at *
        have HLV := Lib.hid (show (∀ s, lineO q = some s → lineV q = .tuple #[.string (tx s), .bool true]) ∧ (lineO q = none → lineV q = .tuple #[.string (tx []), .bool false]) from ⟨fun s hs => by unfold lineV; rw [hs], fun hs => by unfold lineV; rw [hs]⟩)
        obtain ⟨q0, q1, q2, q3, q4, q5, q6, q7, q8⟩ := q
        have d0 : wr.cell? ⟨g1, o1 + k * 9, none⟩ = some (.int .u8 q0) := c1 0 _ rfl
        have d1 : wr.cell? ⟨g1, o1 + k * 9 + 1, none⟩ = some (.int .u8 q1) := c1 1 _ rfl
        have d2 : wr.cell? ⟨g1, o1 + k * 9 + 2, none⟩ = some (.int .i64 q2) := c1 2 _ rfl
        have d3 : wr.cell? ⟨g1, o1 + k * 9 + 3, none⟩ = some (.int .u64 q3) := c1 3 _ rfl
        have d4 : wr.cell? ⟨g1, o1 + k * 9 + 4, none⟩ = some (.int .u64 q4) := c1 4 _ rfl
        have d5 : wr.cell? ⟨g1, o1 + k * 9 + 5, none⟩ = some (.slice aB nB cB) := c1 5 _ rfl
        have d6 : wr.cell? ⟨g1, o1 + k * 9 + 6, none⟩ = some (.int .u32 q6) := c1 6 _ rfl
        have d7 : wr.cell? ⟨g1, o1 + k * 9 + 7, none⟩ = some (.int .u32 q7) := c1 7 _ rfl
        have d8 : wr.cell? ⟨g1, o1 + k * 9 + 8, none⟩ = some (.slice aD nD cD) := c1 8 _ rfl
        have Y1 := Lib.hid y1
        have Z1 := Lib.hid z1
        have MOK := Lib.hid mok
        have MB := Lib.hid mb
        have MD := Lib.hid md
        have HBD := Lib.hid hbd
        have HPP := Lib.hid hpp
        have HAL := Lib.hid hal
        have hqk : decide (n ≤ k) = false := by simp; omega
        clear c1 y1 z1 mok mb md hbd hpp hal
        go_wp2_with (with_reducible refine stop_storem ?_)
        refine Stop.out ?_
        refine wpList_storem rfl rfl (cs := mvCs ⟨q0, q1, q2, q3, q4, q5, q6, q7, q8⟩ (.slice aB nB cB) (.slice aD nD cD)) rfl rfl (mvCs_one _ _ _ _ _ _ _) rfl rfl (Blk.new _ _ _) move_size ?_
        intro w5 bk5 o5
        have b5 : Below wr.heap.size wr w5 := Below.trans ((Below.refl _ _).alloc (Nat.le_refl _) _) (below_of_only o5 (by simp) (by rintro k hk rfl; simp at hk))
        have Y5 := Lib.hid (Y1.out.below b5)
        have Z5 := Lib.hid (Z1.out.below b5)
        have BD5 := Lib.hid (HBD.out.below b5)
        have B5 := Lib.hid (below_on hok.out.below b5 hok.out.below.size)
        have K5 := Lib.hid bk5
        clear b5 bk5 o5 d0 d1 d2 d3 d4 d5 d6 d7 d8
        go_wp2_with (with_reducible refine stop_loadm ?_)
        refine Stop.out ?_
        refine wpList_loadAll Tryz.underlying35 move_size rfl rfl rfl K5.out rfl ?_
        go_wp2_with (fail)
        refine (line_any _ aB nB cB aD nD cD w5 Y5.out Z5.out MOK.out MB.out MD.out (HV.out.below B5.out)).mono ?_
        rintro e w6 ⟨rfl, b6⟩
        have B6 := Lib.hid (below_on B5.out b6 B5.out.size)
        have BD6 := Lib.hid (BD5.out.below b6)
        clear b6
        cases hln : lineO ⟨q0, q1, q2, q3, q4, q5, q6, q7, q8⟩ with
        | none =>
          rw [HLV.out.2 hln]
          have hpp := HPP.out
          rw [hln] at hpp
          simp only at hpp
          have HF := Lib.hid hpp
          clear hpp hln
          go_wp2_with (fail)
          go_returns
          exact ⟨by rw [← HF.out]; rfl, B6.out⟩
        | some s =>
          rw [HLV.out.1 s hln]
          have hpp := HPP.out
          rw [hln] at hpp
          simp only at hpp
          have hsl := HLN.out s hln
          have s1 : ∀ W, (Op.stringOp .add (tx s) (tx [10])).run Tryz.prog W = .ok (.string (tx (s ++ [10]))) W := fun W => run_add _ _ _ _ (by simp only [List.length_cons, List.length_nil]; omega)
          have HPP2 := Lib.hid hpp
          have HSL := Lib.hid hsl
          clear hpp hln hsl
          go_wp2_with (fail)
          refine (blen_any _ _ acc w6 BD6.out).mono ?_
          rintro e w7 ⟨rfl, rfl⟩
          obtain ⟨al, hall⟩ : ∃ al, acc.length = al := ⟨_, rfl⟩
          rw [hall]
          have HALL := Lib.hid hall
          clear hall
          by_cases hsm : al ≤ 262144
          · have hsi : (al : Int) ≤ 262144 := by omega
            have hpp := HPP2.out
            rw [if_pos (by rw [HALL.out]; exact hsm)] at hpp
            have HPP3 := Lib.hid hpp
            clear hpp
            go_wp2_with (fail)
            refine (wstr_any _ _ acc (s ++ [10]) w7 BD6.out (by have := HALL.out; have := HSL.out; simp; omega) B6.out.size).mono ?_
            rintro e w8 ⟨rfl, bd8, b8⟩
            have FIN : Hid (PrI w L R (k + 1) w8) := Lib.hid ⟨B6.out.trans b8, acc ++ (s ++ [10]), bd8, HPP3.out, by have := HALL.out; have := HSL.out; simp; omega⟩
            clear bd8 b8
            go_wp2_with (fail)
            exact ⟨⟨k + 1, by go_num, by omega, FIN⟩, by simp [intOf]; omega⟩
          · have hsi : ¬ (al : Int) ≤ 262144 := by omega
            have hpp := HPP2.out
            rw [if_neg (by rw [HALL.out]; exact hsm)] at hpp
            have FIN : Hid (PrI w L R (k + 1) w7) := Lib.hid ⟨B6.out, acc, BD6.out, hpp, HAL.out⟩
            clear hpp
            go_wp2_with (fail)
            exact ⟨⟨k + 1, by go_num, by omega, FIN⟩, by simp [intOf]; omega⟩
      · obtain ⟨acc, hbd, hpp, hal⟩ := hok.out.ex
        rw [List.drop_of_length_le (by have := HN.out; omega), printP] at hpp
        have BD6 := Lib.hid hbd
        have B6 := Lib.hid hok.out.below
        have HPP := Lib.hid hpp
        clear hbd hpp hal
        go_wp2_with (fail)
        refine (blen_any _ _ acc wr BD6.out).mono ?_
        rintro e w7 ⟨rfl, rfl⟩
        obtain ⟨al, hall⟩ : ∃ al, acc.length = al := ⟨_, rfl⟩
        rw [hall]
        have HALL := Lib.hid hall
        clear hall
        by_cases hsm : al > 262144
        · have hsi : (al : Int) > 262144 := by omega
          have hpp := HPP.out
          rw [if_pos (by rw [HALL.out]; exact hsm)] at hpp
          have HF := Lib.hid hpp
          clear hpp
          go_wp2_with (fail)
          go_returns
          exact ⟨by rw [← HF.out]; rfl, B6.out⟩
        · have hsi : ¬ (al : Int) > 262144 := by omega
          have hpp := HPP.out
          rw [if_neg (by rw [HALL.out]; exact hsm)] at hpp
          have HF := Lib.hid hpp
          clear hpp
          go_wp2_with (fail)
          refine (bstr_any _ _ _ w7 BD6.out B6.out.size).mono ?_
          rintro e w8 ⟨rfl, b8⟩
          have HB8 := Lib.hid (B6.out.trans b8)
          clear b8
          go_wp2_with (fail)
          go_returns
          exact ⟨by rw [← HF.out]; rfl, HB8.out⟩
end Go.Proofs.YthangjgdjhhfgaaGreatDoor
