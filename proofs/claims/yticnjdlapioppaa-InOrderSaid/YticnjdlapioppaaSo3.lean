/- Sorting pieces: the comparison, symMerge. -/
import Derived.Test.YticnjdlapioppaaSo2
namespace Go.Proofs.Yticnjdlapioppaa
open Go.RowKit Go.Shelf Go.Lib Go.Sort
set_option linter.unusedVariables false

def cmpQ (x y : Int) : Int := if x < y then -1 else if y < x then 1 else 0
theorem cmpQ_neg (x y : Int) : (cmpQ x y < 0) ↔ x < y := by
  unfold cmpQ
  split
  · omega
  · split <;> omega
theorem cmpQ_bnd (x y : Int) : -1 ≤ cmpQ x y ∧ cmpQ x y ≤ 1 := by
  unfold cmpQ
  split
  · omega
  · split <;> omega
set_option maxRecDepth 100000 in
theorem isnan_any (x : Int) (w : World) : Calls Try.prog 60 #[.int .u64 x] w fun e w' => e = .returned (.bool false) ∧ w' = w := by
  go_enter Try.func60, Try.ntmps60
  go_wp2_with (fail)
  go_returns
  exact ⟨by simp, rfl⟩
set_option maxRecDepth 100000 in
theorem compareq_any (x y : Int) (w : World) : Calls Try.prog 45 #[.int .u64 x, .int .u64 y] w fun e w' => e = .returned (.int .i64 (cmpQ x y)) ∧ w' = w := by
  have h1 := isnan_any x w
  have h2 := isnan_any y w
  by_cases g1 : x < y
  · rw [show cmpQ x y = -1 from if_pos g1]
    go_enter Try.func45, Try.ntmps45
    go_wp2_with (fail)
    refine h1.mono ?_
    rintro e w1 ⟨rfl, rfl⟩
    go_wp2_with (fail)
    refine h2.mono ?_
    rintro e w1 ⟨rfl, rfl⟩
    go_wp2_with (fail)
    go_returns
    exact ⟨rfl, rfl⟩
  · by_cases g2 : y < x
    · rw [show cmpQ x y = 1 by unfold cmpQ; rw [if_neg g1, if_pos g2]]
      go_enter Try.func45, Try.ntmps45
      go_wp2_with (fail)
      refine h1.mono ?_
      rintro e w1 ⟨rfl, rfl⟩
      go_wp2_with (fail)
      refine h2.mono ?_
      rintro e w1 ⟨rfl, rfl⟩
      go_wp2_with (fail)
      go_returns
      exact ⟨rfl, rfl⟩
    · rw [show cmpQ x y = 0 by unfold cmpQ; rw [if_neg g1, if_neg g2]]
      go_enter Try.func45, Try.ntmps45
      go_wp2_with (fail)
      refine h1.mono ?_
      rintro e w1 ⟨rfl, rfl⟩
      go_wp2_with (fail)
      refine h2.mono ?_
      rintro e w1 ⟨rfl, rfl⟩
      go_wp2_with (fail)
      go_returns
      exact ⟨rfl, rfl⟩
def pcV (p : Pc) : Value := .agg #[.int .u64 p.off, .slice p.a p.n p.c]
set_option maxRecDepth 100000 in
theorem cmpc_any (p q : Pc) (w : World) : Calls Try.prog 64 #[pcV p, pcV q] w fun e w' => e = .returned (.int .i64 (cmpQ p.off q.off)) ∧ w' = (w.alloc (.cells #[.int .u64 p.off, .slice p.a p.n p.c] 130)).alloc (.cells #[.int .u64 q.off, .slice q.a q.n q.c] 130) := by
  unfold pcV
  go_enter Try.func64, Try.ntmps64
  go_wp2_with (fail)
  refine (compareq_any _ _ _).mono ?_
  rintro e w1 ⟨rfl, rfl⟩
  go_wp2_with (fail)
  go_returns
  exact ⟨rfl, rfl⟩
/-- What is compared. -/
def keyQ (p : Pc) : Int := p.off
theorem swk_cells2 {g : Nat} {L : List Pc} {d0 : Array Pc} {w0 W : World} (S : SWK encQ 2 w0 g 0 L.toArray W) (R : RowK encQ 2 w0 g 0 d0) (hs : d0.size = L.length) {i : Nat} (hi : i < L.length) : ∃ p, at' L i = p ∧
    W.cell? ⟨g, i * 2, none⟩ = some (.int .u64 p.off) ∧ W.cell? ⟨g, i * 2 + 1, none⟩ = some (.slice p.a p.n p.c) ∧ W.frozen? ⟨g, i * 2, none⟩ = false ∧ W.frozen? ⟨g, i * 2 + 1, none⟩ = false := by
  have hH := S.holds R.hblk R.hH (by simp [hs])
  refine ⟨_, rfl, ?_⟩
  have r0 := hH.cell (i := i) (c := 0) (by simpa using hi) (by omega)
  have r1 := hH.cell (i := i) (c := 1) (by simpa using hi) (by omega)
  rw [at_list L hi] at r0 r1
  simp only [Nat.zero_add, Nat.add_zero] at r0 r1
  exact ⟨r0.1, r1.1, r0.2, r1.2⟩
theorem swk_swap2 {g : Nat} {L : List Pc} {d0 : Array Pc} {w0 W : World} (S : SWK encQ 2 w0 g 0 L.toArray W) (R : RowK encQ 2 w0 g 0 d0) {i j : Nat} (hi : i < L.length) (hj : j < L.length) {p q : Pc} (hp : at' L i = p) (hq : at' L j = q) :
    SWK encQ 2 w0 g 0 (swapL L i j).toArray ((((W.drew.setCell ⟨g, i * 2, none⟩ (.int .u64 q.off)).setCell ⟨g, i * 2 + 1, none⟩ (.slice q.a q.n q.c)).setCell ⟨g, j * 2, none⟩ (.int .u64 p.off)).setCell ⟨g, j * 2 + 1, none⟩ (.slice p.a p.n p.c)) := by
  have h := S.swapped R i j (by simpa using hi) (by simpa using hj)
  rw [swp_list L hi hj, at_list L hi, at_list L hj, hp, hq] at h
  simpa only [Nat.zero_add, encQ, World.setCells] using h

/-- The first thing of a stretch moved up to place k. -/
def InsU (L M : List Pc) (a k : Nat) : Prop := ∀ x, at' M x = if a ≤ x ∧ x < k then at' L (x + 1) else if x = k then at' L a else at' L x
theorem InsU.start (L : List Pc) (a : Nat) : InsU L L a a := fun x => by
  rw [if_neg (by omega)]
  by_cases h : x = a
  · rw [if_pos h, h]
  · rw [if_neg h]
theorem InsU.step {L M : List Pc} {a k : Nat} (h : InsU L M a k) (hk : a ≤ k) (hl : k + 1 < M.length) : InsU L (swapL M k (k + 1)) a (k + 1) := fun x => by
  rw [swapL_at (by omega) hl, h x, h k, h (k + 1)]
  by_cases c1 : x = k + 1
  · subst c1
    rw [if_pos rfl, if_neg (by omega), if_pos rfl, if_neg (by omega), if_pos rfl]
  · rw [if_neg c1]
    by_cases c2 : x = k
    · subst c2
      rw [if_pos rfl, if_neg (by omega), if_neg (by omega), if_pos (by omega)]
    · rw [if_neg c2]
      by_cases c3 : a ≤ x ∧ x < k
      · rw [if_pos c3, if_pos (by omega)]
      · rw [if_neg c3, if_neg c2, if_neg (by omega), if_neg c1]
theorem InsU.ord {L M : List Pc} {a i b : Nat} (h : InsU L M a (i - 1)) (ho : Ord keyQ (a + 1) b L) (h1 : a + 1 ≤ i) (h2 : i ≤ b) (hlo : ∀ k, a + 1 ≤ k → k < i → keyQ (at' L k) < keyQ (at' L a)) (hhi : ∀ k, i ≤ k → k < b → keyQ (at' L a) ≤ keyQ (at' L k)) : Ord keyQ a b M := fun x y h3 h4 h5 => by
  rw [h x, h y]
  by_cases c1 : x < i - 1
  · rw [if_pos (by omega)]
    by_cases c2 : y < i - 1
    · rw [if_pos (by omega)]; exact ho _ _ (by omega) (by omega) (by omega)
    · rw [if_neg (by omega)]
      by_cases c3 : y = i - 1
      · rw [if_pos c3]; exact Int.le_of_lt (hlo _ (by omega) (by omega))
      · rw [if_neg c3]; exact ho _ _ (by omega) (by omega) h5
  · rw [if_neg (by omega)]
    by_cases c2 : x = i - 1
    · rw [if_pos c2, if_neg (by omega)]
      by_cases c3 : y = i - 1
      · rw [if_pos c3]; exact Int.le_refl _
      · rw [if_neg c3]; exact hhi _ (by omega) h5
    · rw [if_neg c2, if_neg (by omega), if_neg (by omega)]; exact ho _ _ (by omega) h4 h5
/-- The last thing of a stretch moved down to place k. -/
def InsD (L M : List Pc) (m k : Nat) : Prop := ∀ x, at' M x = if k < x ∧ x ≤ m then at' L (x - 1) else if x = k then at' L m else at' L x
theorem InsD.start (L : List Pc) (m : Nat) : InsD L L m m := fun x => by
  rw [if_neg (by omega)]
  by_cases h : x = m
  · rw [if_pos h, h]
  · rw [if_neg h]
theorem InsD.step {L M : List Pc} {m k : Nat} (h : InsD L M m (k + 1)) (hk : k + 1 ≤ m) (hl : k + 1 < M.length) : InsD L (swapL M (k + 1) k) m k := fun x => by
  rw [swapL_at hl (by omega), h x, h k, h (k + 1)]
  by_cases c1 : x = k
  · subst c1
    rw [if_pos rfl, if_neg (by omega), if_pos rfl, if_neg (by omega), if_pos rfl]
  · rw [if_neg c1]
    by_cases c2 : x = k + 1
    · subst c2
      rw [if_pos rfl, if_neg (by omega), if_neg (by omega), if_pos (by omega)]
      congr 1
    · rw [if_neg c2]
      by_cases c3 : k + 1 < x ∧ x ≤ m
      · rw [if_pos c3, if_pos (by omega)]
      · rw [if_neg c3, if_neg c2, if_neg (by omega), if_neg c1]
theorem InsD.ord {L M : List Pc} {a i m : Nat} (h : InsD L M m i) (ho : Ord keyQ a m L) (h1 : a ≤ i) (h2 : i ≤ m) (hlo : ∀ k, a ≤ k → k < i → keyQ (at' L k) ≤ keyQ (at' L m)) (hhi : ∀ k, i ≤ k → k < m → keyQ (at' L m) < keyQ (at' L k)) : Ord keyQ a (m + 1) M := fun x y h3 h4 h5 => by
  rw [h x, h y]
  by_cases c1 : x < i
  · rw [if_neg (by omega), if_neg (by omega)]
    by_cases c2 : y < i
    · rw [if_neg (by omega), if_neg (by omega)]; exact ho _ _ h3 h4 (by omega)
    · by_cases c3 : y = i
      · rw [if_neg (by omega), if_pos c3]; exact hlo _ h3 c1
      · rw [if_pos (by omega)]; exact ho _ _ h3 (by omega) (by omega)
  · by_cases c2 : x = i
    · rw [if_neg (by omega), if_pos c2]
      by_cases c3 : y = i
      · rw [if_neg (by omega), if_pos c3]; exact Int.le_refl _
      · rw [if_pos (by omega)]; exact Int.le_of_lt (hhi _ (by omega) (by omega))
    · rw [if_pos (by omega), if_pos (by omega)]; exact ho _ _ (by omega) (by omega) (by omega)
def SymPost (w0 : World) (g a b : Nat) (L : List Pc) (w' : World) (e : Ending) : Prop := e = .returned (.tuple #[]) ∧ ∃ M, SWK encQ 2 w0 g 0 M.toArray w' ∧ Moved a b L M ∧ Ord keyQ a b M
set_option maxHeartbeats 8000000 in
set_option maxRecDepth 1000000 in
theorem sym_one (g n cap a b : Nat) (L : List Pc) (d0 : Array Pc) (w0 w : World) (R : RowK encQ 2 w0 g 0 d0) (hs : d0.size = L.length) (S : SWK encQ 2 w0 g 0 L.toArray w) (hn : n = L.length) (hmb : a + 1 < b) (hb : b ≤ n) (hsz : n ≤ 1000000) (ho : Ord keyQ (a + 1) b L) :
    Calls Try.prog 75 #[.slice (some ⟨g, 0, none⟩) n cap, .int .i64 a, .int .i64 ((a + 1 : Nat) : Int), .int .i64 b, .func (.func 64) #[] #[]] w fun e w' => SymPost w0 g a b L w' e := by
  have mixed : Try.prog.follows .mixedOrders = true := by kernel_rfl
  obtain ⟨m, hm⟩ : ∃ m, a + 1 = m := ⟨_, rfl⟩
  rw [hm] at ho hmb ⊢
  have e1 : (m : Int) - (a : Int) = 1 := by omega
  have HN := Lib.hid hn
  have HS := Lib.hid hs
  have HO := Lib.hid ho
  have HM := Lib.hid hm
  have S0 : Aside (SWK encQ 2 w0 g 0 L.toArray w) := S
  have han : a < n := by omega
  clear S hn hs ho hm
  go_enter Try.func75, Try.ntmps75
  go_wp2_with (fail)
  go_loopw [10, 11, 12] (fun s t _ wr => ∃ (i j : Nat), s = .int .i64 i ∧ t = .int .i64 j ∧ m ≤ i ∧ i ≤ j ∧ j ≤ b ∧ Aside (SWK encQ 2 w0 g 0 L.toArray wr) ∧ Hid ((∀ k, m ≤ k → k < i → keyQ (at' L k) < keyQ (at' L a)) ∧ ∀ k, j ≤ k → k < b → keyQ (at' L a) ≤ keyQ (at' L k))) (fun s t _ _ => (intOf t).toNat - (intOf s).toNat)
  case atStart => exact ⟨m, b, rfl, rfl, by omega, by omega, by omega, S0, Lib.hid ⟨fun k h1 h2 => by omega, fun k h1 h2 => by omega⟩⟩
  case round =>
    clear S0
    obtain ⟨i, j, rfl, rfl, hi, hij, hj, S1, hbs⟩ := hrel
    by_cases hlt : i < j
    · obtain ⟨h, hh⟩ : ∃ h, (i + j) / 2 = h := ⟨_, rfl⟩
      have hh1 : i ≤ h ∧ h < j := by omega
      have hhI : ((i : Int) + (j : Int)) / 2 = (h : Int) := by omega
      have hij2 : (i : Int) + (j : Int) ≤ 2000000 := by omega
      have hlen : L.length = n := HN.out.symm
      obtain ⟨ph, hph, c0, c1, _, _⟩ := swk_cells2 S1.out R HS.out (i := h) (by omega)
      obtain ⟨pa, hpa, c2, c3, _, _⟩ := swk_cells2 S1.out R HS.out (i := a) (by omega)
      have hhn : (h : Int) < (n : Int) := by omega
      have hann : (a : Int) < (n : Int) := by omega
      obtain ⟨z, hz⟩ : ∃ z, cmpQ ph.off pa.off = z := ⟨_, rfl⟩
      have hzb := cmpQ_bnd ph.off pa.off
      have hzn := cmpQ_neg ph.off pa.off
      rw [hz] at hzb hzn
      have HC := fun W => cmpc_any ph pa W
      unfold pcV at HC
      rw [hz] at HC
      have HPH := Lib.hid hph
      have HPA := Lib.hid hpa
      have HZN := Lib.hid hzn
      clear hlen hz hzn hph hpa
      go_wp2_with (fail)
      refine rg_start 11 ?_
      refine rg_same fun p hx hne hC => ?_
      refine rg_quiet 2 [0,1,2,3,4,5,6,7,8] hC ?_
      simp only [pickD, List.map_cons, List.map_nil, List.getD_cons_zero, List.getD_cons_succ]; repeat (go_big_quiet_step (fail))
      refine wpQuiet_nil ?_
      refine rg_cut 9 ?_
      clear hx hne hC
      go_wp2_with (fail)
      refine (HC _).mono ?_
      rintro e w2 ⟨rfl, hw2⟩
      have S2 : Aside (SWK encQ 2 w0 g 0 L.toArray w2) := by rw [hw2]; exact ((S1.out.drew).alloc _).alloc _
      clear S1 c0 c1 c2 c3 hw2 HC
      by_cases hzz : z < 0
      · have hkk := HZN.out.1 hzz
        have HKK := Lib.hid hkk
        have hdz : decide (z < 0) = true := decide_eq_true hzz
        clear hkk
        go_wp2_with (fail)
        refine rg_below fun p hx hne hC hbel => ?_
        refine rg_quiet 0 [10] hC ?_
        simp only [pickD, List.map_cons, List.map_nil, List.getD_cons_zero, List.getD_cons_succ]; repeat (go_big_quiet_step (fail))
        refine wpQuiet_nil ?_
        refine rg_end ?_
        clear hx hne hC hbel
        go_wp2_with (fail)
        exact ⟨⟨h + 1, j, by go_num, rfl, by omega, by omega, by omega, S2, Lib.hid ⟨fun k h1 h2 => by
          have h9 := HO.out k h h1 (by omega) (by omega)
          rw [HPH.out] at h9
          rw [HPA.out]
          have h8 := HKK.out
          unfold keyQ at *
          omega, hbs.out.2⟩⟩, by simp [intOf]; omega⟩
      · have hkk : ¬ ph.off < pa.off := fun h9 => hzz (HZN.out.2 h9)
        have HKK := Lib.hid hkk
        have hdz : decide (z < 0) = false := decide_eq_false hzz
        clear hkk
        go_wp2_with (fail)
        refine rg_below fun p hx hne hC hbel => ?_
        refine rg_quiet 0 [10] hC ?_
        simp only [pickD, List.map_cons, List.map_nil, List.getD_cons_zero, List.getD_cons_succ]; repeat (go_big_quiet_step (fail))
        refine wpQuiet_nil ?_
        refine rg_end ?_
        clear hx hne hC hbel
        go_wp2_with (fail)
        exact ⟨⟨i, h, rfl, rfl, by omega, by omega, by omega, S2, Lib.hid ⟨hbs.out.1, fun k h1 h2 => by
          have h9 := HO.out h k (by omega) h1 (by omega)
          rw [HPH.out] at h9
          rw [HPA.out]
          have h8 := HKK.out
          unfold keyQ at *
          omega⟩⟩, by simp [intOf]; omega⟩
    · obtain rfl : i = j := by omega
      have hm1 := HM.out
      have HBS := hbs
      go_wp2_with (fail)
      go_loopw [13] (fun s wr => ∃ (k : Nat) (M : List Pc), s = .int .i64 k ∧ a ≤ k ∧ k ≤ i - 1 ∧ Aside (SWK encQ 2 w0 g 0 M.toArray wr) ∧ Hid (M.length = L.length ∧ Moved a b L M ∧ InsU L M a k)) (fun s _ => i - 1 - (intOf s).toNat)
      case atStart => exact ⟨a, L, rfl, by omega, by omega, S1, Lib.hid ⟨rfl, Moved.refl _ _ _, InsU.start L a⟩⟩
      case round =>
        clear S1
        obtain ⟨k, M, rfl, hk1, hk2, S1, hM⟩ := hrel
        by_cases hlt2 : k < i - 1
        · obtain ⟨q, hq⟩ : ∃ q, k + 1 = q := ⟨_, rfl⟩
          have hML : M.length = n := by have := hM.out.1; have := HN.out; omega
          have hq1 : (k : Int) + 1 = (q : Int) := by omega
          have hpl : k < M.length := by omega
          have hql : q < M.length := by omega
          have hpn : (k : Int) < (n : Int) := by omega
          have hqn : (q : Int) < (n : Int) := by omega
          obtain ⟨P, hP, p0, p1, p2, p3⟩ := swk_cells2 S1.out R (by have := HS.out; have := HN.out; omega) hpl
          obtain ⟨Qq, hQ, q0, q1', q2, q3⟩ := swk_cells2 S1.out R (by have := HS.out; have := HN.out; omega) hql
          have S2 : Aside (SWK encQ 2 w0 g 0 (swapL M k q).toArray ((((wr.drew.setCell ⟨g, k * 2, none⟩ (.int .u64 Qq.off)).setCell ⟨g, k * 2 + 1, none⟩ (.slice Qq.a Qq.n Qq.c)).setCell ⟨g, q * 2, none⟩ (.int .u64 P.off)).setCell ⟨g, q * 2 + 1, none⟩ (.slice P.a P.n P.c))) := swk_swap2 S1.out R hpl hql hP hQ
          have hst : M.length = L.length ∧ Moved a b L M ∧ InsU L M a k := hM.out
          have hnx : (swapL M k q).length = L.length ∧ Moved a b L (swapL M k q) ∧ InsU L (swapL M k q) a (k + 1) := by
            rw [← hq]
            exact ⟨by rw [swapL_length]; exact hst.1, hst.2.1.trans (Moved.swap (by omega) hk1 (by omega) (by omega) (by omega)), hst.2.2.step hk1 (by omega)⟩
          have HNX := Lib.hid hnx
          have hpq : ¬ k = q := by omega
          have n0 : ¬ q * 2 = k * 2 := by omega
          have n1 : ¬ q * 2 = k * 2 + 1 := by omega
          have n2 : ¬ q * 2 + 1 = k * 2 := by omega
          have n3 : ¬ q * 2 + 1 = k * 2 + 1 := by omega
          have wpp : IntKind.i64.wrap (k : Int) = (k : Int) := by rw [IntKind.wrap_i64]; omega
          have wqq : IntKind.i64.wrap (q : Int) = (q : Int) := by rw [IntKind.wrap_i64]; omega
          clear S1 hM hst hnx hML hq hP hQ hpl hql
          go_wp2_with (fail)
          go_big_region_o
          go_wp2_with (fail)
          exact ⟨⟨k + 1, _, by go_num, by omega, by omega, S2, HNX⟩, by simp [intOf]; omega⟩
        · have hki : k = i - 1 := by omega
          have hst := hM.out
          rw [hki] at hst
          have hord := hst.2.2.ord (by rw [hm1]; exact HO.out) (by omega) hj (by rw [hm1]; exact HBS.out.1) HBS.out.2
          have HF := Lib.hid (And.intro hst.2.1 hord)
          clear hst hord hki hM hm1
          go_wp2_with (fail)
          go_returns
          exact ⟨rfl, M, S1.out, HF.out.1, HF.out.2⟩
set_option maxHeartbeats 8000000 in
set_option maxRecDepth 1000000 in
theorem sym_last (g n cap a m : Nat) (L : List Pc) (d0 : Array Pc) (w0 w : World) (R : RowK encQ 2 w0 g 0 d0) (hs : d0.size = L.length) (S : SWK encQ 2 w0 g 0 L.toArray w) (hn : n = L.length) (ham : a + 1 < m) (hb : m + 1 ≤ n) (hsz : n ≤ 1000000) (ho : Ord keyQ a m L) :
    Calls Try.prog 75 #[.slice (some ⟨g, 0, none⟩) n cap, .int .i64 a, .int .i64 m, .int .i64 ((m + 1 : Nat) : Int), .func (.func 64) #[] #[]] w fun e w' => SymPost w0 g a (m + 1) L w' e := by
  have mixed : Try.prog.follows .mixedOrders = true := by kernel_rfl
  obtain ⟨b, hm⟩ : ∃ b, m + 1 = b := ⟨_, rfl⟩
  rw [hm] at hb ⊢
  have e0 : ((m : Int) - (a : Int) == 1) = false := by simp; omega
  have e1 : (b : Int) - (m : Int) = 1 := by omega
  have HN := Lib.hid hn
  have HS := Lib.hid hs
  have HO := Lib.hid ho
  have HM := Lib.hid hm
  have S0 : Aside (SWK encQ 2 w0 g 0 L.toArray w) := S
  have han : m < n := by omega
  clear S hn hs ho hm
  go_enter Try.func75, Try.ntmps75
  go_wp2_with (fail)
  go_loopw [14, 15, 16] (fun s t _ wr => ∃ (i j : Nat), s = .int .i64 i ∧ t = .int .i64 j ∧ a ≤ i ∧ i ≤ j ∧ j ≤ m ∧ Aside (SWK encQ 2 w0 g 0 L.toArray wr) ∧ Hid ((∀ k, a ≤ k → k < i → keyQ (at' L k) ≤ keyQ (at' L m)) ∧ ∀ k, j ≤ k → k < m → keyQ (at' L m) < keyQ (at' L k))) (fun s t _ _ => (intOf t).toNat - (intOf s).toNat)
  case atStart => exact ⟨a, m, rfl, rfl, by omega, by omega, by omega, S0, Lib.hid ⟨fun k h1 h2 => by omega, fun k h1 h2 => by omega⟩⟩
  case round =>
    clear S0
    obtain ⟨i, j, rfl, rfl, hi, hij, hj, S1, hbs⟩ := hrel
    by_cases hlt : i < j
    · obtain ⟨h, hh⟩ : ∃ h, (i + j) / 2 = h := ⟨_, rfl⟩
      have hh1 : i ≤ h ∧ h < j := by omega
      have hhI : ((i : Int) + (j : Int)) / 2 = (h : Int) := by omega
      have hij2 : (i : Int) + (j : Int) ≤ 2000000 := by omega
      have hlen : L.length = n := HN.out.symm
      obtain ⟨ph, hph, c0, c1, _, _⟩ := swk_cells2 S1.out R HS.out (i := h) (by omega)
      obtain ⟨pa, hpa, c2, c3, _, _⟩ := swk_cells2 S1.out R HS.out (i := m) (by omega)
      have hhn : (h : Int) < (n : Int) := by omega
      have hann : (m : Int) < (n : Int) := by omega
      obtain ⟨z, hz⟩ : ∃ z, cmpQ pa.off ph.off = z := ⟨_, rfl⟩
      have hzb := cmpQ_bnd pa.off ph.off
      have hzn := cmpQ_neg pa.off ph.off
      rw [hz] at hzb hzn
      have HC := fun W => cmpc_any pa ph W
      unfold pcV at HC
      rw [hz] at HC
      have HPH := Lib.hid hph
      have HPA := Lib.hid hpa
      have HZN := Lib.hid hzn
      clear hlen hz hzn hph hpa
      go_wp2_with (fail)
      refine rg_start 12 ?_
      refine rg_same fun p hx hne hC => ?_
      refine rg_quiet 3 [0,1,2,3,4,5,6,7,8] hC ?_
      simp only [pickD, List.map_cons, List.map_nil, List.getD_cons_zero, List.getD_cons_succ]; repeat (go_big_quiet_step (fail))
      refine wpQuiet_nil ?_
      refine rg_cut 9 ?_
      clear hx hne hC
      go_wp2_with (fail)
      refine (HC _).mono ?_
      rintro e w2 ⟨rfl, hw2⟩
      have S2 : Aside (SWK encQ 2 w0 g 0 L.toArray w2) := by rw [hw2]; exact ((S1.out.drew).alloc _).alloc _
      clear S1 c0 c1 c2 c3 hw2 HC
      by_cases hzz : z < 0
      · have hkk := HZN.out.1 hzz
        have HKK := Lib.hid hkk
        have hdz : decide (z < 0) = true := decide_eq_true hzz
        clear hkk
        go_wp2_with (fail)
        refine rg_below fun p hx hne hC hbel => ?_
        refine rg_quiet 0 [10,11] hC ?_
        simp only [pickD, List.map_cons, List.map_nil, List.getD_cons_zero, List.getD_cons_succ]; repeat (go_big_quiet_step (fail))
        refine wpQuiet_nil ?_
        refine rg_end ?_
        clear hx hne hC hbel
        go_wp2_with (fail)
        exact ⟨⟨i, h, rfl, rfl, by omega, by omega, by omega, S2, Lib.hid ⟨hbs.out.1, fun k h1 h2 => by
          have h9 := HO.out h k (by omega) h1 (by omega)
          rw [HPH.out] at h9
          rw [HPA.out]
          have h8 := HKK.out
          unfold keyQ at *
          omega⟩⟩, by simp [intOf]; omega⟩
      · have hkk : ¬ pa.off < ph.off := fun h9 => hzz (HZN.out.2 h9)
        have HKK := Lib.hid hkk
        have hdz : decide (z < 0) = false := decide_eq_false hzz
        clear hkk
        go_wp2_with (fail)
        refine rg_below fun p hx hne hC hbel => ?_
        refine rg_quiet 0 [10,11] hC ?_
        simp only [pickD, List.map_cons, List.map_nil, List.getD_cons_zero, List.getD_cons_succ]; repeat (go_big_quiet_step (fail))
        refine wpQuiet_nil ?_
        refine rg_end ?_
        clear hx hne hC hbel
        go_wp2_with (fail)
        exact ⟨⟨h + 1, j, by go_num, rfl, by omega, by omega, by omega, S2, Lib.hid ⟨fun k h1 h2 => by
          have h9 := HO.out k h h1 (by omega) (by omega)
          rw [HPH.out] at h9
          rw [HPA.out]
          have h8 := HKK.out
          unfold keyQ at *
          omega, hbs.out.2⟩⟩, by simp [intOf]; omega⟩
    · obtain rfl : i = j := by omega
      have hm1 := HM.out
      have HBS := hbs
      go_wp2_with (fail)
      go_loopw [17] (fun s wr => ∃ (k : Nat) (M : List Pc), s = .int .i64 k ∧ i ≤ k ∧ k ≤ m ∧ Aside (SWK encQ 2 w0 g 0 M.toArray wr) ∧ Hid (M.length = L.length ∧ Moved a b L M ∧ InsD L M m k)) (fun s _ => (intOf s).toNat)
      case atStart => exact ⟨m, L, rfl, by omega, by omega, S1, Lib.hid ⟨rfl, Moved.refl _ _ _, InsD.start L m⟩⟩
      case round =>
        clear S1
        obtain ⟨k, M, rfl, hk1, hk2, S1, hM⟩ := hrel
        by_cases hlt2 : i < k
        · obtain ⟨q, hq⟩ : ∃ q, k - 1 = q := ⟨_, rfl⟩
          have hML : M.length = n := by have := hM.out.1; have := HN.out; omega
          have hq1 : (k : Int) - 1 = (q : Int) := by omega
          have hpl : k < M.length := by omega
          have hql : q < M.length := by omega
          have hpn : (k : Int) < (n : Int) := by omega
          have hqn : (q : Int) < (n : Int) := by omega
          obtain ⟨P, hP, p0, p1, p2, p3⟩ := swk_cells2 S1.out R (by have := HS.out; have := HN.out; omega) hpl
          obtain ⟨Qq, hQ, q0, q1', q2, q3⟩ := swk_cells2 S1.out R (by have := HS.out; have := HN.out; omega) hql
          have S2 : Aside (SWK encQ 2 w0 g 0 (swapL M k q).toArray ((((wr.drew.setCell ⟨g, k * 2, none⟩ (.int .u64 Qq.off)).setCell ⟨g, k * 2 + 1, none⟩ (.slice Qq.a Qq.n Qq.c)).setCell ⟨g, q * 2, none⟩ (.int .u64 P.off)).setCell ⟨g, q * 2 + 1, none⟩ (.slice P.a P.n P.c))) := swk_swap2 S1.out R hpl hql hP hQ
          have hst : M.length = L.length ∧ Moved a b L M ∧ InsD L M m k := hM.out
          have hnx : (swapL M k q).length = L.length ∧ Moved a b L (swapL M k q) ∧ InsD L (swapL M k q) m q := by
            refine ⟨by rw [swapL_length]; exact hst.1, hst.2.1.trans (Moved.swap (by omega) (by omega) (by omega) (by omega) (by omega)), ?_⟩
            obtain rfl : k = q + 1 := by omega
            exact hst.2.2.step (by omega) (by omega)
          have HNX := Lib.hid hnx
          have hpq : ¬ k = q := by omega
          have hqi : i ≤ q ∧ q < k := by omega
          have n0 : ¬ q * 2 = k * 2 := by omega
          have n1 : ¬ q * 2 = k * 2 + 1 := by omega
          have n2 : ¬ q * 2 + 1 = k * 2 := by omega
          have n3 : ¬ q * 2 + 1 = k * 2 + 1 := by omega
          have wpp : IntKind.i64.wrap (k : Int) = (k : Int) := by rw [IntKind.wrap_i64]; omega
          have wqq : IntKind.i64.wrap (q : Int) = (q : Int) := by rw [IntKind.wrap_i64]; omega
          clear S1 hM hst hnx hML hq hP hQ hpl hql
          go_wp2_with (fail)
          go_big_region_o
          go_wp2_with (fail)
          exact ⟨⟨q, _, rfl, by omega, by omega, S2, HNX⟩, by simp [intOf]; omega⟩
        · have hki : k = i := by omega
          have hst := hM.out
          rw [hki] at hst
          have hord := hst.2.2.ord HO.out hi (by omega) HBS.out.1 HBS.out.2
          rw [hm1] at hord
          have HF := Lib.hid (And.intro hst.2.1 hord)
          clear hst hord hki hM hm1
          go_wp2_with (fail)
          go_returns
          exact ⟨rfl, M, S1.out, HF.out.1, HF.out.2⟩

end Go.Proofs.Yticnjdlapioppaa
