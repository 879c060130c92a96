/- A set of streams: the peer's streams are opened up to one. -/
import Derived.Test.YtgpnfdeneagdbaaGreatCo10
namespace Go.Proofs.YtgpnfdeneagdbaaGreat
open Go.RowKit
set_option linter.unusedVariables false
def me (sv : Bool) : Nat := if sv then 1 else 0
theorem me_lt (sv : Bool) : me sv < 2 := by cases sv <;> simp [me]
/-- What a set's block says of its streams. -/
structure StI (cs : Array Value) (sv : Bool) (may cn : Nat → Nat) : Prop where
  rm : ∃ r : Nat, cs[2]? = some (.int .u64 r) ∧ r ≤ 1048576
  came : cs[3]? = some (.int .u64 (0 : Nat))
  read : cs[4]? = some (.int .u64 (0 : Nat))
  op : ∀ k, k < 2 → cs[5 + k]? = some (.int .u64 (cn (me sv + 2 * k) : Nat))
  mo : ∀ k, k < 2 → cs[7 + k]? = some (.int .u64 (may (me sv + 2 * k) : Nat))
  po : ∀ k, k < 2 → cs[9 + k]? = some (.int .u64 (cn (1 - me sv + 2 * k) : Nat))
  pm : ∀ k, k < 2 → cs[11 + k]? = some (.int .u64 (may (1 - me sv + 2 * k) : Nat))
  le : ∀ c, c < 4 → cn c ≤ may c
  m20 : ∀ c, c < 4 → may c ≤ 20
section
variable {cs : Array Value} {sv : Bool} {may cn : Nat → Nat}
theorem StI.set70 (h : StI cs sv may cn) (v : Value) : StI (cs.setIfInBounds 70 v) sv may cn := by
  refine ⟨?_, ?_, ?_, fun k hk => ?_, fun k hk => ?_, fun k hk => ?_, fun k hk => ?_, h.le, h.m20⟩
  · obtain ⟨r, h1, h2⟩ := h.rm; exact ⟨r, by rw [Array.getElem?_setIfInBounds_ne (by omega)]; exact h1, h2⟩
  · rw [Array.getElem?_setIfInBounds_ne (by omega)]; exact h.came
  · rw [Array.getElem?_setIfInBounds_ne (by omega)]; exact h.read
  · rw [Array.getElem?_setIfInBounds_ne (by omega)]; exact h.op k hk
  · rw [Array.getElem?_setIfInBounds_ne (by omega)]; exact h.mo k hk
  · rw [Array.getElem?_setIfInBounds_ne (by omega)]; exact h.po k hk
  · rw [Array.getElem?_setIfInBounds_ne (by omega)]; exact h.pm k hk
theorem StI.open_ (h : StI cs sv may cn) {k : Nat} (hk : k < 2) (m : Nat) (hm : m ≤ may (me sv + 2 * k)) : StI (cs.setIfInBounds (5 + k) (.int .u64 (m : Nat))) sv may (bump cn (me sv + 2 * k) m) := by
  have hme := me_lt sv
  have hlt := (Array.getElem?_eq_some_iff.1 (h.op k hk)).1
  refine ⟨?_, ?_, ?_, fun j hj => ?_, fun j hj => ?_, fun j hj => ?_, fun j hj => ?_, fun c hc => ?_, h.m20⟩
  · obtain ⟨r, h1, h2⟩ := h.rm; exact ⟨r, by rw [Array.getElem?_setIfInBounds_ne (by omega)]; exact h1, h2⟩
  · rw [Array.getElem?_setIfInBounds_ne (by omega)]; exact h.came
  · rw [Array.getElem?_setIfInBounds_ne (by omega)]; exact h.read
  · by_cases e : j = k
    · subst e; rw [bump_self]; simp [hlt]
    · rw [Array.getElem?_setIfInBounds_ne (by omega)]; unfold bump; rw [if_neg (by omega)]; exact h.op j hj
  · rw [Array.getElem?_setIfInBounds_ne (by omega)]; exact h.mo j hj
  · rw [Array.getElem?_setIfInBounds_ne (by omega)]; unfold bump; rw [if_neg (by omega)]; exact h.po j hj
  · rw [Array.getElem?_setIfInBounds_ne (by omega)]; exact h.pm j hj
  · unfold bump; split
    · subst_vars; exact hm
    · exact h.le c hc
theorem StI.peer_ (h : StI cs sv may cn) {k : Nat} (hk : k < 2) (m : Nat) (hm : m ≤ may (1 - me sv + 2 * k)) : StI (cs.setIfInBounds (9 + k) (.int .u64 (m : Nat))) sv may (bump cn (1 - me sv + 2 * k) m) := by
  have hme := me_lt sv
  have hlt := (Array.getElem?_eq_some_iff.1 (h.po k hk)).1
  refine ⟨?_, ?_, ?_, fun j hj => ?_, fun j hj => ?_, fun j hj => ?_, fun j hj => ?_, fun c hc => ?_, h.m20⟩
  · obtain ⟨r, h1, h2⟩ := h.rm; exact ⟨r, by rw [Array.getElem?_setIfInBounds_ne (by omega)]; exact h1, h2⟩
  · rw [Array.getElem?_setIfInBounds_ne (by omega)]; exact h.came
  · rw [Array.getElem?_setIfInBounds_ne (by omega)]; exact h.read
  · rw [Array.getElem?_setIfInBounds_ne (by omega)]; unfold bump; rw [if_neg (by omega)]; exact h.op j hj
  · rw [Array.getElem?_setIfInBounds_ne (by omega)]; exact h.mo j hj
  · by_cases e : j = k
    · subst e; rw [bump_self]; simp [hlt]
    · rw [Array.getElem?_setIfInBounds_ne (by omega)]; unfold bump; rw [if_neg (by omega)]; exact h.po j hj
  · rw [Array.getElem?_setIfInBounds_ne (by omega)]; exact h.pm j hj
  · unfold bump; split
    · subst_vars; exact hm
    · exact h.le c hc
theorem StAt.set_ {w w' : World} {s base n cap : Nat} {own peer : Nat → Nat} {a : Option Addr} {L : List Strm} (h : StAt w s base sv own peer cs a n cap L) {k : Nat} (hk : k < 13) {v : Value} (hb : Blk w' s (cs.setIfInBounds k v) 54) (ho : Only (· = s) w w') : StAt w' s base sv own peer (cs.setIfInBounds k v) a n cap L := by
  have hoff := h.off
  have hbs := h.bs
  refine ⟨hb, ?_, fun j hj => ?_, fun j hj => ?_, ?_, h.row.only ho (fun y hy e => by have := (h.row.block hy).1; omega), h.len, hoff, Nat.le_trans hbs ho.size⟩
  · rw [Array.getElem?_setIfInBounds_ne (by omega)]; exact h.srv
  · rw [Array.getElem?_setIfInBounds_ne (by omega)]; exact h.o j hj
  · rw [Array.getElem?_setIfInBounds_ne (by omega)]; exact h.p j hj
  · rw [Array.getElem?_setIfInBounds_ne (by omega)]; exact h.l
end
def thereC (sv : Bool) (may cn : Nat → Nat) (ok : Bool) (id : Nat) : Nat :=
  if !ok then 5 else if mineB sv id then (if cn (id % 4) ≤ id / 4 then 5 else 0) else if may (id % 4) ≤ id / 4 then 4 else 0
def thereN (sv : Bool) (may cn : Nat → Nat) (ok : Bool) (id : Nat) : Nat → Nat :=
  if thereC sv may cn ok id = 0 then bump cn (id % 4) (max (cn (id % 4)) (id / 4 + 1)) else cn
/-- The set, whatever its list's place. -/
def SetIs (Q : Nat → Prop) (w : World) (s base : Nat) (sv : Bool) (own peer may cn : Nat → Nat) : Prop :=
  ∃ (cs : Array Value) (a : Option Addr) (n cap : Nat) (L : List Strm), StAt w s base sv own peer cs a n cap L ∧ StI cs sv may cn ∧ OpI cn L ∧ ∀ y, a = some y → Q y.block
def RowOr (a : Option Addr) (w : World) (k : Nat) : Prop := (∃ y, a = some y ∧ y.block = k) ∨ w.heap.size ≤ k
theorem rowOr_self {a : Option Addr} {w : World} : ∀ y, a = some y → RowOr a w y.block := fun y h => .inl ⟨y, h, rfl⟩
def TherePost (a : Option Addr) (s base : Nat) (sv : Bool) (own peer may cn : Nat → Nat) (ok : Bool) (id : Nat) (w : World) (e : Ending) (w' : World) : Prop :=
  e = .returned (.int .u64 (thereC sv may cn ok id : Nat)) ∧ SetIs (RowOr a w) w' s base sv own peer may (thereN sv may cn ok id) ∧ Only (· = s) w w'
theorem or3 {f c : Nat} (hf : f < 4611686018427387904) (hc : c < 4) : bits .or .u64 ((4 * f : Nat) : Int) ((c : Nat) : Int) = ((4 * f + c : Nat) : Int) := by
  rw [bits_or_u64_nat (4 * f) c (by omega) (by omega)]
  congr 1
  have := Nat.two_pow_add_eq_or_of_lt (i := 2) (b := c) (by omega) f
  rw [show (2 : Nat) ^ 2 * f = 4 * f from rfl] at this
  exact this.symm
theorem mine_mod {sv : Bool} {id : Nat} : mineB sv id = decide (id % 2 = me sv) := by
  unfold mineB me
  rcases (by omega : id % 2 = 0 ∨ id % 2 = 1) with h | h <;> cases sv <;> simp [h]
set_option maxRecDepth 100000 in
set_option maxHeartbeats 8000000 in
theorem there_any (s base : Nat) (sv : Bool) (own peer may cn : Nat → Nat) (cs : Array Value) (a : Option Addr) (n cap : Nat) (L : List Strm) (ok : Bool) (id : Nat) (w : World) (h : StAt w s base sv own peer cs a n cap L) (hI : StI cs sv may cn) (hL : OpI cn L) (hid : id < 18446744073709551616) :
    Calls Tryz.prog 30 #[.pointer (some ⟨s, 0, none⟩), .int .u64 id, .bool ok] w fun e w' => TherePost a s base sv own peer may cn ok id w e w' := by
  have H := Lib.hid h
  have HI := Lib.hid hI
  have HL := Lib.hid hL
  have HM := Lib.hid (mine_any s sv id w hid h.sc.srv)
  have HK := Lib.hid (kind_any id w hid)
  clear h hI hL
  unfold TherePost
  obtain ⟨C, hC⟩ : ∃ C, thereC sv may cn ok id = C := ⟨_, rfl⟩
  have HN := Lib.hid (show thereN sv may cn ok id = if C = 0 then bump cn (id % 4) (max (cn (id % 4)) (id / 4 + 1)) else cn by unfold thereN; rw [hC])
  obtain ⟨N, hN⟩ : ∃ N, thereN sv may cn ok id = N := ⟨_, rfl⟩
  rw [hC, hN]
  rw [hN] at HN
  unfold thereC at hC
  obtain ⟨q, hq⟩ : ∃ q : Nat, id / 4 = q := ⟨_, rfl⟩
  have hq2 : (id : Int) / 4 = (q : Int) := by omega
  have hqq : q ≤ 4611686018427387903 := by omega
  obtain ⟨k, hk⟩ : ∃ k : Nat, kindN id = k := ⟨_, rfl⟩
  have hk2 : k < 2 := by unfold kindN at hk; omega
  have hcc : id % 4 = id % 2 + 2 * k := by unfold kindN at hk; omega
  obtain ⟨m, hm⟩ : ∃ m, mineB sv id = m := ⟨_, rfl⟩
  rw [hm] at hC HM
  rw [hq] at hC HN
  rw [hk] at HK
  cases ok with
  | false =>
    simp only [Bool.not_false, if_true] at hC
    subst hC
    have HSET := Lib.hid (show SetIs (RowOr a w) w s base sv own peer may N from ⟨cs, a, n, cap, L, H.out, by rw [HN.out, if_neg (by omega)]; exact HI.out, by rw [HN.out, if_neg (by omega)]; exact HL.out, rowOr_self⟩)
    clear hN HN hcc hm hk hq
    go_enter Tryz.func30, Tryz.ntmps30
    go_wp2_with (fail)
    refine HK.out.mono ?_
    rintro e w1 ⟨rfl, rfl⟩
    go_wp2_with (fail)
    go_returns
    exact ⟨rfl, HSET.out, Only.refl _ _⟩
  | true =>
    simp only [Bool.not_true, Bool.false_eq_true, if_false] at hC
    cases m with
    | true =>
      have hme : id % 2 = me sv := by rw [mine_mod] at hm; simpa using hm
      simp only [if_true] at hC
      have ck := HI.out.op k hk2
      rw [← hme, ← hcc] at ck
      have co := H.out.blk.cell _ _ ck
      obtain ⟨o, ho⟩ : ∃ o, cn (id % 4) = o := ⟨_, rfl⟩
      rw [ho] at hC co HN
      by_cases hoq : o ≤ q
      · rw [if_pos hoq] at hC
        subst hC
        have HSET := Lib.hid (show SetIs (RowOr a w) w s base sv own peer may N from ⟨cs, a, n, cap, L, H.out, by rw [HN.out, if_neg (by omega)]; exact HI.out, by rw [HN.out, if_neg (by omega)]; exact HL.out, rowOr_self⟩)
        clear hN HN hcc hm hk hq ho ck hme
        have hoq' : (o : Int) ≤ (q : Int) := by omega
        rcases (by omega : k = 0 ∨ k = 1) with rfl | rfl
        all_goals
          simp only [Nat.add_zero, Nat.reduceAdd] at co
          go_enter Tryz.func30, Tryz.ntmps30
          go_wp2_with (fail)
          refine HK.out.mono ?_
          rintro e w1 ⟨rfl, rfl⟩
          go_wp2_with (fail)
          refine HM.out.mono ?_
          rintro e w2 ⟨rfl, rfl⟩
          go_wp2_with (fail)
          go_returns
          exact ⟨rfl, HSET.out, Only.refl _ _⟩
      · rw [if_neg hoq] at hC
        subst hC
        have HSET := Lib.hid (show SetIs (RowOr a w) w s base sv own peer may N from by
          have e : N = cn := by rw [HN.out, if_pos rfl, show max o (q + 1) = cn (id % 4) by omega, bump_same]
          rw [e]; exact ⟨cs, a, n, cap, L, H.out, HI.out, HL.out, rowOr_self⟩)
        clear hN HN hcc hm hk hq ho ck hme
        have hoq' : ¬ (o : Int) ≤ (q : Int) := by omega
        rcases (by omega : k = 0 ∨ k = 1) with rfl | rfl
        all_goals
          simp only [Nat.add_zero, Nat.reduceAdd] at co
          go_enter Tryz.func30, Tryz.ntmps30
          go_wp2_with (fail)
          refine HK.out.mono ?_
          rintro e w1 ⟨rfl, rfl⟩
          go_wp2_with (fail)
          refine HM.out.mono ?_
          rintro e w2 ⟨rfl, rfl⟩
          go_wp2_with (fail)
          refine HM.out.mono ?_
          rintro e w2 ⟨rfl, rfl⟩
          go_wp2_with (fail)
          go_returns
          exact ⟨rfl, HSET.out, Only.refl _ _⟩
    | false =>
      have hme : id % 2 = 1 - me sv := by
        rw [mine_mod] at hm
        have := me_lt sv
        have : ¬ id % 2 = me sv := by simpa using hm
        omega
      simp only [Bool.false_eq_true, if_false] at hC
      have cp := HI.out.po k hk2
      have cq := HI.out.pm k hk2
      have hle := HI.out.le (id % 4) (by omega)
      have h20 := HI.out.m20 (id % 4) (by omega)
      have HPE := Lib.hid (fun x => HI.out.peer_ hk2 x)
      rw [← hme, ← hcc] at cp cq HPE
      obtain ⟨c, hc⟩ : ∃ c, id % 4 = c := ⟨_, rfl⟩
      have hc4 : c < 4 := by omega
      rw [hc] at cp cq HPE hle h20 hC HN
      obtain ⟨o, ho⟩ : ∃ o, cn c = o := ⟨_, rfl⟩
      obtain ⟨M, hM⟩ : ∃ M, may c = M := ⟨_, rfl⟩
      rw [ho] at cp hle HN
      rw [hM] at hC cq HPE hle h20
      have hb3 := and3 id hid
      rw [hc] at hb3
      have HP := Lib.hid (peer_open_any s k o M q cs 54 w hk2 H.out.blk cp cq (by omega) (by omega) (by omega))
      by_cases hMq : M ≤ q
      · rw [if_pos hMq] at hC
        subst hC
        have HSET := Lib.hid (fun W (hb : Below w.heap.size w W) => show SetIs (RowOr a w) W s base sv own peer may N from ⟨cs, a, n, cap, L, H.out.below hb, by rw [HN.out, if_neg (by omega)]; exact HI.out, by rw [HN.out, if_neg (by omega)]; exact HL.out, rowOr_self⟩)
        have HMq := Lib.hid hMq
        clear hN HN hcc hm hk hq ho hM hme HPE hle h20 cp cq hMq hc hb3
        go_enter Tryz.func30, Tryz.ntmps30
        go_wp2_with (fail)
        refine HK.out.mono ?_
        rintro e w1 ⟨rfl, rfl⟩
        go_wp2_with (fail)
        refine HM.out.mono ?_
        rintro e w2 ⟨rfl, rfl⟩
        go_wp2_with (fail)
        refine HM.out.mono ?_
        rintro e w2 ⟨rfl, rfl⟩
        go_wp2_with (fail)
        refine HP.out.mono ?_
        rintro e w3 ⟨h1, h2⟩
        obtain ⟨rfl, hb⟩ := h1 HMq.out
        clear h1 h2
        go_wp2_with (fail)
        go_returns
        exact ⟨rfl, HSET.out _ hb, only_of_below hb _⟩
      · rw [if_neg hMq] at hC
        subst hC
        obtain ⟨top, htop⟩ : ∃ top, max o (q + 1) = top := ⟨_, rfl⟩
        rw [htop] at HN
        have HNN := Lib.hid (show N = bump cn c top by rw [HN.out, if_pos rfl])
        have HPT := Lib.hid (HPE.out top (by omega))
        have HMq : Hid (q < M) := Lib.hid (by omega)
        have HTOP := Lib.hid htop
        have H0 : Hid (OpI (bump cn c o) L) := Lib.hid (by rw [← ho, bump_same]; exact HL.out)
        have HSZ : Hid (∀ f, f ≤ q → ∀ LL, OpI (bump cn c f) LL → LL.length ≤ 250) := Lib.hid (fun f hf LL hLL => by
          have h0 := HI.out.le 0 (by omega)
          have h1 := HI.out.le 1 (by omega)
          have h2 := HI.out.le 2 (by omega)
          have h3 := HI.out.le 3 (by omega)
          have g0 := HI.out.m20 0 (by omega)
          have g1 := HI.out.m20 1 (by omega)
          have g2 := HI.out.m20 2 (by omega)
          have g3 := HI.out.m20 3 (by omega)
          have hl := hLL.len
          have hq20 : f ≤ 20 := by have := HMq.out; omega
          have : ∀ d, d < 4 → bump cn c f d ≤ 20 := fun d hd => by
            unfold bump; split
            · exact hq20
            · rcases (by omega : d = 0 ∨ d = 1 ∨ d = 2 ∨ d = 3) with rfl | rfl | rfl | rfl <;> omega
          have t0 := this 0 (by omega)
          have t1 := this 1 (by omega)
          have t2 := this 2 (by omega)
          have t3 := this 3 (by omega)
          omega)
        have hoT : o ≤ top := by omega
        clear hN HN hcc hm hk hq ho hM hme HPE hle h20 cp cq hMq hc htop HL
        go_enter Tryz.func30, Tryz.ntmps30
        go_wp2_with (fail)
        refine HK.out.mono ?_
        rintro e w1 ⟨e1, rfl⟩
        obtain rfl : w = w1 := e1.symm
        go_wp2_with (fail)
        refine HM.out.mono ?_
        rintro e w2 ⟨e1, rfl⟩
        obtain rfl : w = w2 := e1.symm
        go_wp2_with (fail)
        refine HM.out.mono ?_
        rintro e w2 ⟨e1, rfl⟩
        obtain rfl : w = w2 := e1.symm
        go_wp2_with (fail)
        refine HP.out.mono ?_
        rintro e w3 ⟨h1, h2⟩
        obtain ⟨rfl, hon, hbk⟩ := h2 HMq.out
        rw [HTOP.out] at hbk
        have S3 := Lib.hid (H.out.set_ (by omega) hbk hon)
        have ON3 := Lib.hid hon
        clear h1 h2 hon hbk
        generalize hcs3 : cs.setIfInBounds (9 + k) (.int .u64 (top : Nat)) = cs3 at S3 HPT
        clear hcs3
        go_wp2_with (fail)
        go_loopw [9] (fun i wr => ∃ f : Nat, i = .int .u64 f ∧ f ≤ top ∧ o ≤ f ∧ Hid (Only (· = s) w wr) ∧ Hid (∃ cs' a' n' c' L', StAt wr s base sv own peer cs' a' n' c' L' ∧ StI cs' sv may (bump cn c top) ∧ OpI (bump cn c f) L' ∧ ∀ y, a' = some y → RowOr a w y.block)) (fun i _ => top - (intOf i).toNat)
        case atStart => exact ⟨o, rfl, hoT, Nat.le_refl _, ON3, Lib.hid ⟨cs3, a, n, cap, L, S3.out, HPT.out, H0.out, rowOr_self⟩⟩
        case round =>
          obtain ⟨f, rfl, hft, hof, hon, hst⟩ := hrel
          by_cases hfq : f ≤ q
          · obtain ⟨cs', a', n', c', L', g1, g2, g3, _⟩ := hst.out
            have hf62 : f < 4611686018427387904 := by omega
            have hor : bits .or .u64 ((f : Int) * 4) (c : Int) = ((4 * f + c : Nat) : Int) := by rw [← or3 (c := c) hf62 hc4]; congr 1; omega
            have HAD := Lib.hid (add_any s base sv own peer cs' a' n' c' L' (4 * f + c) wr g1 g3.asc (by rw [g1.len]; exact HSZ.out f hfq _ g3) (by omega))
            have G2 := Lib.hid g2
            have G3 := Lib.hid g3
            clear hst g1 g2 g3
            go_wp2_with (fail)
            rw [show (4 * (f : Int) + (c : Int)) = ((4 * f + c : Nat) : Int) by omega]
            refine HAD.out.mono ?_
            rintro e w4 ⟨om, im, a4, c4, rfl, hS4, hon4, hat4⟩
            have HON := Lib.hid (hon.out.trans hon4)
            have hG4 := G3.out.new (c := c) hc4 om im
            rw [bump_self, bump_bump] at hG4
            have HST := Lib.hid (show ∃ cs' a' n' c' L', StAt w4 s base sv own peer cs' a' n' c' L' ∧ StI cs' sv may (bump cn c top) ∧ OpI (bump cn c (f + 1)) L' ∧ ∀ y, a' = some y → RowOr a w y.block from ⟨_, _, _, _, _, hS4, G2.out.set70 _, hG4, fun y hy => .inr (Nat.le_trans hon.out.size (hat4 y hy))⟩)
            clear hor hS4 hon4 hat4 hG4 hon HAD
            go_wp2_with (fail)
            have := HTOP.out
            exact ⟨⟨f + 1, by go_num, by omega, by omega, HON, HST⟩, by simp [intOf]; omega⟩
          · have hft : f = top := by have := HTOP.out; omega
            have HFT := Lib.hid hft
            clear hft
            go_wp2_with (fail)
            go_returns
            have he := HFT.out
            subst he
            refine ⟨rfl, ?_, hon.out⟩
            obtain ⟨cs', a', n', c', L', g1, g2, g3, g4⟩ := hst.out
            rw [HNN.out]
            exact ⟨cs', a', n', c', L', g1, g2, g3, g4⟩
end Go.Proofs.YtgpnfdeneagdbaaGreat
