/- Sent: the document's Lost. -/
import Derived.Test.YtidfimpchbkppaaSt15
namespace Go.Proofs.Ytidfimpchbkppaa
open Go.RowKit
set_option linter.unusedVariables false

theorem Only.onto {S S2 : Nat → Prop} {a b c : World} (h : Only S a b) (h2 : Only S2 b c) (hS : ∀ z, z < a.heap.size → S2 z → S z) : Only S a c :=
  ⟨h2.os.trans h.os, h2.tape.trans h.tape, h2.output.trans h.output, Nat.le_trans h.size h2.size, fun z hz hn => (h2.block z (Nat.lt_of_lt_of_le hz h.size) (fun h3 => hn (hS z hz h3))).trans (h.block z hz hn)⟩
theorem loss_app (has : Bool) (lg delay : Int) (L : List Pk) (p : Pk) : lossOf has lg delay (L ++ [p]) = lossStep has lg delay (lossOf has lg delay L) p := by
  unfold lossOf
  rw [List.foldl_append]
  rfl
def LInv (w1 wr : World) (q0 : Nat) (a : Option Addr) (n c : Nat) (has : Bool) (lg lt top now delay : Int) (L : List Pk) (k : Nat) (ao : Option Addr) (no co : Nat) (al : Option Addr) (nl cl : Nat) : Prop :=
  TakeInv w1 wr (lostQ has lg now delay) L k ao no co al nl cl ∧ Blk wr q0 #[.slice a n c, .bool has, .int .u64 lg, .int .u64 (lossOf has lg delay ((L.take k).filter fun p => !lostQ has lg now delay p)), .int .u64 lt, .int .u64 top] 64
section
variable {w1 wr w5 : World} {q0 : Nat} {a : Option Addr} {n c : Nat} {has : Bool} {lg lt top now delay : Int} {L : List Pk} {k : Nat} {ao : Option Addr} {no co : Nat} {al : Option Addr} {nl cl : Nat} {pp : Pk}
theorem LInv.goOut (h : LInv w1 wr q0 a n c has lg lt top now delay L k ao no co al nl cl) (hk : k < L.length) (hpe : L.getD k default = pp) (hq : lostQ has lg now delay pp = true) {wA : World} (hA : Below wr.heap.size wr wA) (h0 : q0 < w1.heap.size)
    {a5 : Option Addr} {c5 : Nat} (ho5 : OwnS w5 w1.heap.size 69 6 a5 (no + 1) c5 (cellsP ((L.take k).filter (lostQ has lg now delay)) ++ cellsP [pp])) (on5 : Only (fun z => ∃ y, ao = some y ∧ y.block = z) wA w5) (at5 : ∀ y, a5 = some y → (∃ z, ao = some z ∧ y.block = z.block) ∨ y.block = wA.heap.size) :
    LInv w1 w5 q0 a n c has lg lt top now delay L (k + 1) a5 (no + 1) c5 al nl cl := by
  obtain ⟨⟨r1, r2, r3, r4, r5⟩, r6⟩ := h
  have hts : (L.take (k + 1)).filter (lostQ has lg now delay) = (L.take k).filter (lostQ has lg now delay) ++ [pp] := by
    rw [take_succ_filter hk, hpe]; simp [hq]
  have htl : (L.take (k + 1)).filter (fun p => !lostQ has lg now delay p) = (L.take k).filter (fun p => !lostQ has lg now delay p) := by
    rw [take_succ_filter hk (fun p => !lostQ has lg now delay p), hpe]; simp [hq]
  have hs := hA.size
  refine ⟨⟨by rw [hts, List.length_append, ← r1]; rfl, by rw [htl]; exact r2, by rw [hts, cellsP_append]; exact ho5, ?_, ?_⟩, ?_⟩
  · rw [htl]
    refine (r4.below hA).only on5 ?_
    rintro x hx ⟨y, hy, he⟩
    exact r5 y x hy hx he
  · intro x y hx hy he
    rcases at5 x hx with ⟨z, hz, h6⟩ | h6
    · exact r5 z y hz hy (by rw [← h6]; exact he)
    · have := (r4.block hy).2.1
      omega
  · rw [htl]
    refine on5.blk (r6.below hA) ?_
    rintro ⟨y, hy, he⟩
    have := (r3.block hy).1
    omega
theorem LInv.goLeft (h : LInv w1 wr q0 a n c has lg lt top now delay L k ao no co al nl cl) (hk : k < L.length) (hpe : L.getD k default = pp) (hq : lostQ has lg now delay pp = false) {wA : World} (hA : Below wr.heap.size wr wA) (h0 : q0 < w1.heap.size)
    {a5 : Option Addr} {c5 : Nat} (ho5 : OwnS w5 w1.heap.size 69 6 a5 (nl + 1) c5 (cellsP ((L.take k).filter fun p => !lostQ has lg now delay p) ++ cellsP [pp])) (on5 : Only (fun z => ∃ y, al = some y ∧ y.block = z) wA w5) (at5 : ∀ y, a5 = some y → (∃ z, al = some z ∧ y.block = z.block) ∨ y.block = wA.heap.size) :
    TakeInv w1 w5 (lostQ has lg now delay) L (k + 1) ao no co a5 (nl + 1) c5 ∧ Blk w5 q0 #[.slice a n c, .bool has, .int .u64 lg, .int .u64 (lossOf has lg delay ((L.take k).filter fun p => !lostQ has lg now delay p)), .int .u64 lt, .int .u64 top] 64 ∧
    lossOf has lg delay ((L.take (k + 1)).filter fun p => !lostQ has lg now delay p) = lossStep has lg delay (lossOf has lg delay ((L.take k).filter fun p => !lostQ has lg now delay p)) pp := by
  obtain ⟨⟨r1, r2, r3, r4, r5⟩, r6⟩ := h
  have hts : (L.take (k + 1)).filter (lostQ has lg now delay) = (L.take k).filter (lostQ has lg now delay) := by
    rw [take_succ_filter hk, hpe]; simp [hq]
  have htl : (L.take (k + 1)).filter (fun p => !lostQ has lg now delay p) = (L.take k).filter (fun p => !lostQ has lg now delay p) ++ [pp] := by
    rw [take_succ_filter hk (fun p => !lostQ has lg now delay p), hpe]; simp [hq]
  have hs := hA.size
  refine ⟨⟨by rw [hts]; exact r1, by rw [htl, List.length_append, ← r2]; rfl, ?_, by rw [htl, cellsP_append]; exact ho5, ?_⟩, ?_, by rw [htl, loss_app]⟩
  · rw [hts]
    refine (r3.below hA).only on5 ?_
    rintro x hx ⟨y, hy, he⟩
    exact r5 x y hx hy he.symm
  · intro x y hx hy he
    rcases at5 y hy with ⟨z, hz, h6⟩ | h6
    · exact r5 x z hx hz (by rw [← h6]; exact he)
    · have := (r3.block hx).2.1
      omega
  · refine on5.blk (r6.below hA) ?_
    rintro ⟨y, hy, he⟩
    have := (r4.block hy).1
    omega
end
def RLostPost (w w' : World) (e : Ending) (L : List Pk) (has : Bool) (lg lt top now delay : Int) : Prop :=
  Below w.heap.size w w' ∧ ∃ (ao : Option Addr) (no co : Nat) (al : Option Addr) (nl cl : Nat), e = .returned (.tuple #[stV al nl cl has lg (lossOf has lg delay (L.filter fun p => !lostQ has lg now delay p)) lt top, .slice ao no co]) ∧
    no = (L.filter (lostQ has lg now delay)).length ∧ nl = (L.filter fun p => !lostQ has lg now delay p).length ∧ Ps w' ao co (L.filter (lostQ has lg now delay)) ∧ Ps w' al cl (L.filter fun p => !lostQ has lg now delay p) ∧
    (∀ x, ao = some x → w.heap.size ≤ x.block) ∧ (∀ x, al = some x → w.heap.size ≤ x.block)
set_option maxRecDepth 100000 in
set_option maxHeartbeats 16000000 in
theorem rlost_any (L : List Pk) (a : Option Addr) (n c : Nat) (has : Bool) (lg la lt top now delay : Int) (w : World) (hn : n = L.length) (hP : Ps w a c L) (hl : L.length ≤ 1000)
    (hg : 0 ≤ lg ∧ lg ≤ 4611686018427387904) (hd : 0 ≤ delay ∧ delay ≤ 4611686018427387904) (hnow : 0 ≤ now ∧ now ≤ 4611686018427387904) (hat : ∀ p ∈ L, p.at_ ≤ 4611686018427387904) :
    Calls Try.prog 51 #[stV a n c has lg la lt top, .int .u64 now, .int .u64 delay] w fun e w' => RLostPost w w' e L has lg lt top now delay := by
  unfold stV
  have HN := Lib.hid hn
  have HP := Lib.hid hP
  have HAT := Lib.hid hat
  have hn1 : n ≤ 1000 := by omega
  have HNQ : Hid (∀ x, a = some x → 0 < L.length → x.block ≠ w.heap.size) := Lib.hid (fun x hx h0 => by have := hP.lt x hx h0; omega)
  clear hn hP hl hat
  go_enter Try.func51, Try.ntmps51
  go_wp2_with (fail)
  have x0 : Blk ((w.alloc (.cells #[.slice a n c, .bool has, .int .u64 lg, .int .u64 0, .int .u64 lt, .int .u64 top] 64)).alloc (.cells #[.slice none 0 0, .bool false, .int .u64 0, .int .u64 0, .int .u64 0, .int .u64 0] 64)) w.heap.size #[.slice a n c, .bool has, .int .u64 lg, .int .u64 0, .int .u64 lt, .int .u64 top] 64 := (Blk.new w _ _).alloc _
  have x1 : Blk ((w.alloc (.cells #[.slice a n c, .bool has, .int .u64 lg, .int .u64 0, .int .u64 lt, .int .u64 top] 64)).alloc (.cells #[.slice none 0 0, .bool false, .int .u64 0, .int .u64 0, .int .u64 0, .int .u64 0] 64)) (w.heap.size + 1) #[.slice none 0 0, .bool false, .int .u64 0, .int .u64 0, .int .u64 0, .int .u64 0] 64 := by
    have := Blk.new (w.alloc (.cells #[.slice a n c, .bool has, .int .u64 lg, .int .u64 0, .int .u64 lt, .int .u64 top] 64)) #[.slice none 0 0, .bool false, .int .u64 0, .int .u64 0, .int .u64 0, .int .u64 0] 64
    simpa using this
  have b0 : Below w.heap.size w ((w.alloc (.cells #[.slice a n c, .bool has, .int .u64 lg, .int .u64 0, .int .u64 lt, .int .u64 top] 64)).alloc (.cells #[.slice none 0 0, .bool false, .int .u64 0, .int .u64 0, .int .u64 0, .int .u64 0] 64)) := (((Below.refl _ _).alloc (Nat.le_refl _) _).alloc (by simp) _)
  have z0 : ((w.alloc (.cells #[.slice a n c, .bool has, .int .u64 lg, .int .u64 0, .int .u64 lt, .int .u64 top] 64)).alloc (.cells #[.slice none 0 0, .bool false, .int .u64 0, .int .u64 0, .int .u64 0, .int .u64 0] 64)).heap.size = w.heap.size + 1 + 1 := by simp
  obtain ⟨w1, hw1⟩ : ∃ z, (w.alloc (.cells #[.slice a n c, .bool has, .int .u64 lg, .int .u64 0, .int .u64 lt, .int .u64 top] 64)).alloc (.cells #[.slice none 0 0, .bool false, .int .u64 0, .int .u64 0, .int .u64 0, .int .u64 0] 64) = z := ⟨_, rfl⟩
  rw [hw1] at x0 x1 b0 z0 ⊢
  obtain ⟨q1, hq1⟩ : ∃ z, w.heap.size + 1 = z := ⟨_, rfl⟩
  rw [hq1] at x1 z0 ⊢
  obtain ⟨q0, hq0⟩ : ∃ z, w.heap.size = z := ⟨_, rfl⟩
  have hn01 : ¬ q0 = q1 := by omega
  rw [hq0] at x0 hq1 HNQ ⊢
  have l0 : q0 < w1.heap.size := by omega
  have l1 : q1 < w1.heap.size := by omega
  have HQ : Hid (w.heap.size ≤ q0 ∧ w.heap.size ≤ q1 ∧ w.heap.size ≤ w1.heap.size) := Lib.hid (by omega)
  have HP1 := Lib.hid (HP.out.below b0)
  have HB0 := Lib.hid b0
  have HLI : Hid (LInv w1 w1 q0 a n c has lg lt top now delay L 0 none 0 0 none 0 0) := Lib.hid ⟨⟨rfl, rfl, OwnS.nil _ _ _ _, OwnS.nil _ _ _ _, by simp⟩, x0⟩
  have X1 := Lib.hid x1
  have e0 := x0.cell 0 _ rfl
  clear x0 x1 hw1 b0 HP z0 hq0 hq1
  go_loopw [8, 9, 10, 11, 12, 13] (fun o l' i _ _ _ wr => ∃ (k : Nat) (ao : Option Addr) (no co : Nat) (al : Option Addr) (nl cl : Nat), i = .int .i64 k ∧ o = .slice ao no co ∧ l' = .slice al nl cl ∧ k ≤ n ∧ Only (· = q0) w1 wr ∧ Hid (LInv w1 wr q0 a n c has lg lt top now delay L k ao no co al nl cl)) (fun _ _ i _ _ _ _ => n - (intOf i).toNat)
  case atStart => exact ⟨0, none, 0, 0, none, 0, 0, rfl, rfl, rfl, by omega, Only.refl _ _, HLI⟩
  case round =>
    clear e0 HLI
    obtain ⟨k, ao, no, co, al, nl, cl, rfl, rfl, rfl, hk, ow, hok⟩ := hrel
    have hxq := hok.out.2
    obtain ⟨z, hz⟩ : ∃ z, lossOf has lg delay ((L.take k).filter fun p => !lostQ has lg now delay p) = z := ⟨_, rfl⟩
    have hzb : 0 ≤ z ∧ z ≤ 9223372036854775808 := by
      rw [← hz]
      exact loss_bnd hd _ 0 (fun q hq => by
        have hm := List.mem_of_mem_take (List.mem_filter.1 hq).1
        have h1 := HP1.out.ok q hm
        have h2 := HAT.out q hm
        exact ⟨h1.2.1.1, h2⟩) (by omega)
    rw [hz] at hxq
    have HXQ := Lib.hid hxq
    have HZ := Lib.hid hz
    have e0 := hxq.cell 0 _ rfl
    have hno : no ≤ 1000 ∧ nl ≤ 1000 := by
      have h1 := hok.out.1.1
      have h2 := hok.out.1.2.1
      have h3 := List.length_filter_le (lostQ has lg now delay) (L.take k)
      have h4 := List.length_filter_le (fun p => !lostQ has lg now delay p) (L.take k)
      rw [List.length_take] at h3 h4
      have h5 := Nat.min_le_left k L.length
      omega
    clear hxq hz
    by_cases hlt : k < n
    · have hkL : k < L.length := by have := HN.out; omega
      obtain ⟨gb, go, hga, hgb, pp, hpe, hpm, d0, d1, d2, d3, d4, d5, i0, i1, i2, i4⟩ := (HP1.out.only2 ow (fun x hx h0 => HNQ.out x hx h0)).at_ hkL
      subst hga
      have hpat := HAT.out pp hpm
      have HPE := Lib.hid hpe
      have e1 := HXQ.out.cell 1 _ rfl
      have e2 := HXQ.out.cell 2 _ rfl
      have e3 := HXQ.out.cell 3 _ rfl
      have lq : q0 < wr.heap.size := by have := ow.size; omega
      have OW := Lib.hid ow
      have hwr : w1.heap.size ≤ wr.heap.size := ow.size
      have hbA : Below wr.heap.size wr ((wr.alloc (.cells #[.int .u64 pp.pn, .int .u64 pp.at_, .int .u64 pp.size, .bool pp.el, .int .u64 pp.after, .slice pp.fa pp.fn pp.fc] 69)).alloc (.cells #[.int .u64 pp.pn, .int .u64 pp.at_, .int .u64 pp.size, .bool pp.el, .int .u64 pp.after, .slice pp.fa pp.fn pp.fc] 69)) := ((Below.refl _ _).alloc (Nat.le_refl _) _).alloc (by simp) _
      have HBA := Lib.hid hbA
      clear hpe hpm ow hbA
      cases has with
      | false =>
        have HQV : Hid (lostQ false lg now delay pp = false) := Lib.hid (by simp [lostQ])
        by_cases g3 : pp.at_ + delay = 0
        · have g3' : (pp.at_ + delay == 0) = true := by simpa using g3
          go_wp2_with (at_builtin; refine Stop.mk ?_)
          refine Stop.out ?_
          refine wpList_app pk_et rfl rfl (base := w1.heap.size) rfl rfl ((hok.out.1.2.2.2.1.below ((Below.refl _ _).alloc (Nat.le_refl _) _)).below ((Below.refl _ _).alloc (Nat.le_refl _) _)) (news := cellsP [pp]) (by have h9 := SrcAt.pk (wr.alloc (.cells #[.int .u64 pp.pn, .int .u64 pp.at_, .int .u64 pp.size, .bool pp.el, .int .u64 pp.after, .slice pp.fa pp.fn pp.fc] 69)) pp 69; simpa using h9) (by simp only [maxLen]; omega) (by omega) (by simp; omega) ?_
          intro a5 c5 w5 ho5 on5 at5
          have o5 : Only (· = q0) w1 w5 := (OW.out.trans (only_of_below HBA.out (· = q0))).onto on5 (by rintro z hz ⟨y, hy, rfl⟩; have := (hok.out.1.2.2.2.1.block hy).1; omega)
          obtain ⟨hr1, hr2, hr3⟩ := LInv.goLeft hok.out hkL HPE.out HQV.out HBA.out l0 ho5 on5 at5
          rw [HZ.out] at hr2 hr3
          have hst : lossStep false lg delay z pp = z := by simp [lossStep]
          rw [hst] at hr3
          have HR1 := Lib.hid hr1
          have HR2 := Lib.hid hr2
          have HR3 := Lib.hid hr3
          have O5 := Lib.hid o5
          have e3' := hr2.cell 3 _ rfl
          have f3' := hr2.free 3
          have xpp : Blk w5 wr.heap.size #[.int .u64 pp.pn, .int .u64 pp.at_, .int .u64 pp.size, .bool pp.el, .int .u64 pp.after, .slice pp.fa pp.fn pp.fc] 69 := by skip; exact on5.blk ((Blk.new wr #[.int .u64 pp.pn, .int .u64 pp.at_, .int .u64 pp.size, .bool pp.el, .int .u64 pp.after, .slice pp.fa pp.fn pp.fc] 69).alloc _) (by rintro ⟨y, hy, he⟩; have := (hok.out.1.2.2.2.1.block hy).2.1; omega)
          have XPP := Lib.hid xpp
          clear ho5 on5 at5 o5 e0 e1 e2 e3 d0 d1 d2 d3 d4 d5 hr1 hr2 hr3 hst xpp
          go_wp2_with (fail)
          exact ⟨⟨k + 1, ao, no, co, a5, nl + 1, c5, by go_num, rfl, rfl, by omega, O5.out, Lib.hid ⟨HR1.out, by rw [HR3.out]; exact HR2.out⟩⟩, by simp [intOf]; omega⟩
        · have g3' : (pp.at_ + delay == 0) = false := by simpa using g3
          go_wp2_with (at_builtin; refine Stop.mk ?_)
          refine Stop.out ?_
          refine wpList_app pk_et rfl rfl (base := w1.heap.size) rfl rfl ((hok.out.1.2.2.2.1.below ((Below.refl _ _).alloc (Nat.le_refl _) _)).below ((Below.refl _ _).alloc (Nat.le_refl _) _)) (news := cellsP [pp]) (by have h9 := SrcAt.pk (wr.alloc (.cells #[.int .u64 pp.pn, .int .u64 pp.at_, .int .u64 pp.size, .bool pp.el, .int .u64 pp.after, .slice pp.fa pp.fn pp.fc] 69)) pp 69; simpa using h9) (by simp only [maxLen]; omega) (by omega) (by simp; omega) ?_
          intro a5 c5 w5 ho5 on5 at5
          have o5 : Only (· = q0) w1 w5 := (OW.out.trans (only_of_below HBA.out (· = q0))).onto on5 (by rintro z hz ⟨y, hy, rfl⟩; have := (hok.out.1.2.2.2.1.block hy).1; omega)
          obtain ⟨hr1, hr2, hr3⟩ := LInv.goLeft hok.out hkL HPE.out HQV.out HBA.out l0 ho5 on5 at5
          rw [HZ.out] at hr2 hr3
          have hst : lossStep false lg delay z pp = z := by simp [lossStep]
          rw [hst] at hr3
          have HR1 := Lib.hid hr1
          have HR2 := Lib.hid hr2
          have HR3 := Lib.hid hr3
          have O5 := Lib.hid o5
          have e3' := hr2.cell 3 _ rfl
          have f3' := hr2.free 3
          have xpp : Blk w5 wr.heap.size #[.int .u64 pp.pn, .int .u64 pp.at_, .int .u64 pp.size, .bool pp.el, .int .u64 pp.after, .slice pp.fa pp.fn pp.fc] 69 := by skip; exact on5.blk ((Blk.new wr #[.int .u64 pp.pn, .int .u64 pp.at_, .int .u64 pp.size, .bool pp.el, .int .u64 pp.after, .slice pp.fa pp.fn pp.fc] 69).alloc _) (by rintro ⟨y, hy, he⟩; have := (hok.out.1.2.2.2.1.block hy).2.1; omega)
          have XPP := Lib.hid xpp
          clear ho5 on5 at5 o5 e0 e1 e2 e3 d0 d1 d2 d3 d4 d5 hr1 hr2 hr3 hst xpp
          go_wp2_with (fail)
          exact ⟨⟨k + 1, ao, no, co, a5, nl + 1, c5, by go_num, rfl, rfl, by omega, O5.out, Lib.hid ⟨HR1.out, by rw [HR3.out]; exact HR2.out⟩⟩, by simp [intOf]; omega⟩
      | true =>
        by_cases g1 : pp.pn < lg
        · by_cases g2 : 3 ≤ pp.after
          · have HQV : Hid (lostQ true lg now delay pp = true) := Lib.hid (by simp [lostQ, g1, g2])
            go_wp2_with (at_builtin; refine Stop.mk ?_)
            refine Stop.out ?_
            refine wpList_app pk_et rfl rfl (base := w1.heap.size) rfl rfl ((hok.out.1.2.2.1.below ((Below.refl _ _).alloc (Nat.le_refl _) _)).below ((Below.refl _ _).alloc (Nat.le_refl _) _)) (news := cellsP [pp]) (by have h9 := SrcAt.pk (wr.alloc (.cells #[.int .u64 pp.pn, .int .u64 pp.at_, .int .u64 pp.size, .bool pp.el, .int .u64 pp.after, .slice pp.fa pp.fn pp.fc] 69)) pp 69; simpa using h9) (by simp only [maxLen]; omega) (by omega) (by simp; omega) ?_
            intro a5 c5 w5 ho5 on5 at5
            have o5 : Only (· = q0) w1 w5 := (OW.out.trans (only_of_below HBA.out (· = q0))).onto on5 (by rintro z hz ⟨y, hy, rfl⟩; have := (hok.out.1.2.2.1.block hy).1; omega)
            have HRI := Lib.hid (LInv.goOut hok.out hkL HPE.out HQV.out HBA.out l0 ho5 on5 at5)
            have O5 := Lib.hid o5
            clear ho5 on5 at5 o5 e0 e1 e2 e3 d0 d1 d2 d3 d4 d5
            go_wp2_with (fail)
            exact ⟨⟨k + 1, a5, no + 1, c5, al, nl, cl, by go_num, rfl, rfl, by omega, O5.out, HRI⟩, by simp [intOf]; omega⟩
          · by_cases g4 : pp.at_ + delay ≤ now
            · have HQV : Hid (lostQ true lg now delay pp = true) := Lib.hid (by simp [lostQ, g1, g4])
              go_wp2_with (at_builtin; refine Stop.mk ?_)
              refine Stop.out ?_
              refine wpList_app pk_et rfl rfl (base := w1.heap.size) rfl rfl ((hok.out.1.2.2.1.below ((Below.refl _ _).alloc (Nat.le_refl _) _)).below ((Below.refl _ _).alloc (Nat.le_refl _) _)) (news := cellsP [pp]) (by have h9 := SrcAt.pk (wr.alloc (.cells #[.int .u64 pp.pn, .int .u64 pp.at_, .int .u64 pp.size, .bool pp.el, .int .u64 pp.after, .slice pp.fa pp.fn pp.fc] 69)) pp 69; simpa using h9) (by simp only [maxLen]; omega) (by omega) (by simp; omega) ?_
              intro a5 c5 w5 ho5 on5 at5
              have o5 : Only (· = q0) w1 w5 := (OW.out.trans (only_of_below HBA.out (· = q0))).onto on5 (by rintro z hz ⟨y, hy, rfl⟩; have := (hok.out.1.2.2.1.block hy).1; omega)
              have HRI := Lib.hid (LInv.goOut hok.out hkL HPE.out HQV.out HBA.out l0 ho5 on5 at5)
              have O5 := Lib.hid o5
              clear ho5 on5 at5 o5 e0 e1 e2 e3 d0 d1 d2 d3 d4 d5
              go_wp2_with (fail)
              exact ⟨⟨k + 1, a5, no + 1, c5, al, nl, cl, by go_num, rfl, rfl, by omega, O5.out, HRI⟩, by simp [intOf]; omega⟩
            · have HQV : Hid (lostQ true lg now delay pp = false) := Lib.hid (by simp [lostQ, g2, g4])
              have g5' : (pp.at_ + delay == 0) = false := by simp; omega
              have hmx : maxAt pp delay = pp.at_ + delay := by unfold maxAt; omega
              have HMX := Lib.hid hmx
              clear hmx
              by_cases g6 : z = 0
              · have g6' : (z == 0) = true := by simpa using g6
                go_wp2_with (at_builtin; refine Stop.mk ?_)
                refine Stop.out ?_
                refine wpList_app pk_et rfl rfl (base := w1.heap.size) rfl rfl ((hok.out.1.2.2.2.1.below ((Below.refl _ _).alloc (Nat.le_refl _) _)).below ((Below.refl _ _).alloc (Nat.le_refl _) _)) (news := cellsP [pp]) (by have h9 := SrcAt.pk (wr.alloc (.cells #[.int .u64 pp.pn, .int .u64 pp.at_, .int .u64 pp.size, .bool pp.el, .int .u64 pp.after, .slice pp.fa pp.fn pp.fc] 69)) pp 69; simpa using h9) (by simp only [maxLen]; omega) (by omega) (by simp; omega) ?_
                intro a5 c5 w5 ho5 on5 at5
                have o5 : Only (· = q0) w1 w5 := (OW.out.trans (only_of_below HBA.out (· = q0))).onto on5 (by rintro z hz ⟨y, hy, rfl⟩; have := (hok.out.1.2.2.2.1.block hy).1; omega)
                obtain ⟨hr1, hr2, hr3⟩ := LInv.goLeft hok.out hkL HPE.out HQV.out HBA.out l0 ho5 on5 at5
                rw [HZ.out] at hr2 hr3
                have hst : lossStep true lg delay z pp = pp.at_ + delay := by unfold lossStep; rw [HMX.out]; simp [g1, g6]
                rw [hst] at hr3
                have HR1 := Lib.hid hr1
                have HR2 := Lib.hid hr2
                have HR3 := Lib.hid hr3
                have O5 := Lib.hid o5
                have e3' := hr2.cell 3 _ rfl
                have f3' := hr2.free 3
                have xpp : Blk w5 wr.heap.size #[.int .u64 pp.pn, .int .u64 pp.at_, .int .u64 pp.size, .bool pp.el, .int .u64 pp.after, .slice pp.fa pp.fn pp.fc] 69 := by skip; exact on5.blk ((Blk.new wr #[.int .u64 pp.pn, .int .u64 pp.at_, .int .u64 pp.size, .bool pp.el, .int .u64 pp.after, .slice pp.fa pp.fn pp.fc] 69).alloc _) (by rintro ⟨y, hy, he⟩; have := (hok.out.1.2.2.2.1.block hy).2.1; omega)
                have XPP := Lib.hid xpp
                clear ho5 on5 at5 o5 e0 e1 e2 e3 d0 d1 d2 d3 d4 d5 hr1 hr2 hr3 hst xpp
                go_wp2_with (fail)
                exact ⟨⟨k + 1, ao, no, co, a5, nl + 1, c5, by go_num, rfl, rfl, by omega, O5.out.set 3 (.int .u64 (pp.at_ + delay)), Lib.hid ⟨(by obtain ⟨g1, g2, g3, g4, g5⟩ := HR1.out; have on3 : Only (· = q0) w5 (w5.setCell ⟨q0, 3, none⟩ (.int .u64 (pp.at_ + delay))) := (Only.refl _ _).set 3 _; exact ⟨g1, g2, g3.only on3 (fun x hx he => by have := (g3.block hx).1; omega), g4.only on3 (fun x hx he => by have := (g4.block hx).1; omega), g5⟩), by rw [HR3.out]; exact (HR2.out.set 3 (.int .u64 (pp.at_ + delay))).congr (by simp)⟩⟩, by simp [intOf]; omega⟩
              · have g6' : (z == 0) = false := by simpa using g6
                by_cases g7 : pp.at_ + delay < z
                · skip
                  go_wp2_with (at_builtin; refine Stop.mk ?_)
                  refine Stop.out ?_
                  refine wpList_app pk_et rfl rfl (base := w1.heap.size) rfl rfl ((hok.out.1.2.2.2.1.below ((Below.refl _ _).alloc (Nat.le_refl _) _)).below ((Below.refl _ _).alloc (Nat.le_refl _) _)) (news := cellsP [pp]) (by have h9 := SrcAt.pk (wr.alloc (.cells #[.int .u64 pp.pn, .int .u64 pp.at_, .int .u64 pp.size, .bool pp.el, .int .u64 pp.after, .slice pp.fa pp.fn pp.fc] 69)) pp 69; simpa using h9) (by simp only [maxLen]; omega) (by omega) (by simp; omega) ?_
                  intro a5 c5 w5 ho5 on5 at5
                  have o5 : Only (· = q0) w1 w5 := (OW.out.trans (only_of_below HBA.out (· = q0))).onto on5 (by rintro z hz ⟨y, hy, rfl⟩; have := (hok.out.1.2.2.2.1.block hy).1; omega)
                  obtain ⟨hr1, hr2, hr3⟩ := LInv.goLeft hok.out hkL HPE.out HQV.out HBA.out l0 ho5 on5 at5
                  rw [HZ.out] at hr2 hr3
                  have hst : lossStep true lg delay z pp = pp.at_ + delay := by unfold lossStep; rw [HMX.out]; simp [g1, g6, g7]
                  rw [hst] at hr3
                  have HR1 := Lib.hid hr1
                  have HR2 := Lib.hid hr2
                  have HR3 := Lib.hid hr3
                  have O5 := Lib.hid o5
                  have e3' := hr2.cell 3 _ rfl
                  have f3' := hr2.free 3
                  have xpp : Blk w5 wr.heap.size #[.int .u64 pp.pn, .int .u64 pp.at_, .int .u64 pp.size, .bool pp.el, .int .u64 pp.after, .slice pp.fa pp.fn pp.fc] 69 := by skip; exact on5.blk ((Blk.new wr #[.int .u64 pp.pn, .int .u64 pp.at_, .int .u64 pp.size, .bool pp.el, .int .u64 pp.after, .slice pp.fa pp.fn pp.fc] 69).alloc _) (by rintro ⟨y, hy, he⟩; have := (hok.out.1.2.2.2.1.block hy).2.1; omega)
                  have XPP := Lib.hid xpp
                  clear ho5 on5 at5 o5 e0 e1 e2 e3 d0 d1 d2 d3 d4 d5 hr1 hr2 hr3 hst xpp
                  go_wp2_with (fail)
                  exact ⟨⟨k + 1, ao, no, co, a5, nl + 1, c5, by go_num, rfl, rfl, by omega, O5.out.set 3 (.int .u64 (pp.at_ + delay)), Lib.hid ⟨(by obtain ⟨g1, g2, g3, g4, g5⟩ := HR1.out; have on3 : Only (· = q0) w5 (w5.setCell ⟨q0, 3, none⟩ (.int .u64 (pp.at_ + delay))) := (Only.refl _ _).set 3 _; exact ⟨g1, g2, g3.only on3 (fun x hx he => by have := (g3.block hx).1; omega), g4.only on3 (fun x hx he => by have := (g4.block hx).1; omega), g5⟩), by rw [HR3.out]; exact (HR2.out.set 3 (.int .u64 (pp.at_ + delay))).congr (by simp)⟩⟩, by simp [intOf]; omega⟩
                · skip
                  go_wp2_with (at_builtin; refine Stop.mk ?_)
                  refine Stop.out ?_
                  refine wpList_app pk_et rfl rfl (base := w1.heap.size) rfl rfl ((hok.out.1.2.2.2.1.below ((Below.refl _ _).alloc (Nat.le_refl _) _)).below ((Below.refl _ _).alloc (Nat.le_refl _) _)) (news := cellsP [pp]) (by have h9 := SrcAt.pk (wr.alloc (.cells #[.int .u64 pp.pn, .int .u64 pp.at_, .int .u64 pp.size, .bool pp.el, .int .u64 pp.after, .slice pp.fa pp.fn pp.fc] 69)) pp 69; simpa using h9) (by simp only [maxLen]; omega) (by omega) (by simp; omega) ?_
                  intro a5 c5 w5 ho5 on5 at5
                  have o5 : Only (· = q0) w1 w5 := (OW.out.trans (only_of_below HBA.out (· = q0))).onto on5 (by rintro z hz ⟨y, hy, rfl⟩; have := (hok.out.1.2.2.2.1.block hy).1; omega)
                  obtain ⟨hr1, hr2, hr3⟩ := LInv.goLeft hok.out hkL HPE.out HQV.out HBA.out l0 ho5 on5 at5
                  rw [HZ.out] at hr2 hr3
                  have hst : lossStep true lg delay z pp = z := by unfold lossStep; rw [HMX.out]; exact if_neg (by simp [g1, g6]; omega)
                  rw [hst] at hr3
                  have HR1 := Lib.hid hr1
                  have HR2 := Lib.hid hr2
                  have HR3 := Lib.hid hr3
                  have O5 := Lib.hid o5
                  have e3' := hr2.cell 3 _ rfl
                  have f3' := hr2.free 3
                  have xpp : Blk w5 wr.heap.size #[.int .u64 pp.pn, .int .u64 pp.at_, .int .u64 pp.size, .bool pp.el, .int .u64 pp.after, .slice pp.fa pp.fn pp.fc] 69 := by skip; exact on5.blk ((Blk.new wr #[.int .u64 pp.pn, .int .u64 pp.at_, .int .u64 pp.size, .bool pp.el, .int .u64 pp.after, .slice pp.fa pp.fn pp.fc] 69).alloc _) (by rintro ⟨y, hy, he⟩; have := (hok.out.1.2.2.2.1.block hy).2.1; omega)
                  have XPP := Lib.hid xpp
                  clear ho5 on5 at5 o5 e0 e1 e2 e3 d0 d1 d2 d3 d4 d5 hr1 hr2 hr3 hst xpp
                  go_wp2_with (fail)
                  exact ⟨⟨k + 1, ao, no, co, a5, nl + 1, c5, by go_num, rfl, rfl, by omega, O5.out, Lib.hid ⟨HR1.out, by rw [HR3.out]; exact HR2.out⟩⟩, by simp [intOf]; omega⟩
        · have HQV : Hid (lostQ true lg now delay pp = false) := Lib.hid (by simp [lostQ, g1])
          by_cases g3 : pp.at_ + delay = 0
          · have g3' : (pp.at_ + delay == 0) = true := by simpa using g3
            go_wp2_with (at_builtin; refine Stop.mk ?_)
            refine Stop.out ?_
            refine wpList_app pk_et rfl rfl (base := w1.heap.size) rfl rfl ((hok.out.1.2.2.2.1.below ((Below.refl _ _).alloc (Nat.le_refl _) _)).below ((Below.refl _ _).alloc (Nat.le_refl _) _)) (news := cellsP [pp]) (by have h9 := SrcAt.pk (wr.alloc (.cells #[.int .u64 pp.pn, .int .u64 pp.at_, .int .u64 pp.size, .bool pp.el, .int .u64 pp.after, .slice pp.fa pp.fn pp.fc] 69)) pp 69; simpa using h9) (by simp only [maxLen]; omega) (by omega) (by simp; omega) ?_
            intro a5 c5 w5 ho5 on5 at5
            have o5 : Only (· = q0) w1 w5 := (OW.out.trans (only_of_below HBA.out (· = q0))).onto on5 (by rintro z hz ⟨y, hy, rfl⟩; have := (hok.out.1.2.2.2.1.block hy).1; omega)
            obtain ⟨hr1, hr2, hr3⟩ := LInv.goLeft hok.out hkL HPE.out HQV.out HBA.out l0 ho5 on5 at5
            rw [HZ.out] at hr2 hr3
            have hst : lossStep true lg delay z pp = z := by unfold lossStep; exact if_neg (by have h9 : decide (pp.pn < lg) = false := decide_eq_false (by omega); rw [h9]; simp)
            rw [hst] at hr3
            have HR1 := Lib.hid hr1
            have HR2 := Lib.hid hr2
            have HR3 := Lib.hid hr3
            have O5 := Lib.hid o5
            have e3' := hr2.cell 3 _ rfl
            have f3' := hr2.free 3
            have xpp : Blk w5 wr.heap.size #[.int .u64 pp.pn, .int .u64 pp.at_, .int .u64 pp.size, .bool pp.el, .int .u64 pp.after, .slice pp.fa pp.fn pp.fc] 69 := by skip; exact on5.blk ((Blk.new wr #[.int .u64 pp.pn, .int .u64 pp.at_, .int .u64 pp.size, .bool pp.el, .int .u64 pp.after, .slice pp.fa pp.fn pp.fc] 69).alloc _) (by rintro ⟨y, hy, he⟩; have := (hok.out.1.2.2.2.1.block hy).2.1; omega)
            have XPP := Lib.hid xpp
            clear ho5 on5 at5 o5 e0 e1 e2 e3 d0 d1 d2 d3 d4 d5 hr1 hr2 hr3 hst xpp
            go_wp2_with (fail)
            exact ⟨⟨k + 1, ao, no, co, a5, nl + 1, c5, by go_num, rfl, rfl, by omega, O5.out, Lib.hid ⟨HR1.out, by rw [HR3.out]; exact HR2.out⟩⟩, by simp [intOf]; omega⟩
          · have g3' : (pp.at_ + delay == 0) = false := by simpa using g3
            go_wp2_with (at_builtin; refine Stop.mk ?_)
            refine Stop.out ?_
            refine wpList_app pk_et rfl rfl (base := w1.heap.size) rfl rfl ((hok.out.1.2.2.2.1.below ((Below.refl _ _).alloc (Nat.le_refl _) _)).below ((Below.refl _ _).alloc (Nat.le_refl _) _)) (news := cellsP [pp]) (by have h9 := SrcAt.pk (wr.alloc (.cells #[.int .u64 pp.pn, .int .u64 pp.at_, .int .u64 pp.size, .bool pp.el, .int .u64 pp.after, .slice pp.fa pp.fn pp.fc] 69)) pp 69; simpa using h9) (by simp only [maxLen]; omega) (by omega) (by simp; omega) ?_
            intro a5 c5 w5 ho5 on5 at5
            have o5 : Only (· = q0) w1 w5 := (OW.out.trans (only_of_below HBA.out (· = q0))).onto on5 (by rintro z hz ⟨y, hy, rfl⟩; have := (hok.out.1.2.2.2.1.block hy).1; omega)
            obtain ⟨hr1, hr2, hr3⟩ := LInv.goLeft hok.out hkL HPE.out HQV.out HBA.out l0 ho5 on5 at5
            rw [HZ.out] at hr2 hr3
            have hst : lossStep true lg delay z pp = z := by unfold lossStep; exact if_neg (by have h9 : decide (pp.pn < lg) = false := decide_eq_false (by omega); rw [h9]; simp)
            rw [hst] at hr3
            have HR1 := Lib.hid hr1
            have HR2 := Lib.hid hr2
            have HR3 := Lib.hid hr3
            have O5 := Lib.hid o5
            have e3' := hr2.cell 3 _ rfl
            have f3' := hr2.free 3
            have xpp : Blk w5 wr.heap.size #[.int .u64 pp.pn, .int .u64 pp.at_, .int .u64 pp.size, .bool pp.el, .int .u64 pp.after, .slice pp.fa pp.fn pp.fc] 69 := by skip; exact on5.blk ((Blk.new wr #[.int .u64 pp.pn, .int .u64 pp.at_, .int .u64 pp.size, .bool pp.el, .int .u64 pp.after, .slice pp.fa pp.fn pp.fc] 69).alloc _) (by rintro ⟨y, hy, he⟩; have := (hok.out.1.2.2.2.1.block hy).2.1; omega)
            have XPP := Lib.hid xpp
            clear ho5 on5 at5 o5 e0 e1 e2 e3 d0 d1 d2 d3 d4 d5 hr1 hr2 hr3 hst xpp
            go_wp2_with (fail)
            exact ⟨⟨k + 1, ao, no, co, a5, nl + 1, c5, by go_num, rfl, rfl, by omega, O5.out, Lib.hid ⟨HR1.out, by rw [HR3.out]; exact HR2.out⟩⟩, by simp [intOf]; omega⟩
    · obtain rfl : k = n := by omega
      have hok2 := hok.out.1
      unfold TakeInv at hok2
      have hz2 := HZ.out
      rw [show L.take k = L by rw [HN.out, List.take_length]] at hok2 hz2
      obtain ⟨r1, r2, r3, r4, r5⟩ := hok2
      have x1 := ow.blk X1.out (by omega)
      have s1 := HXQ.out.cell 1 _ rfl
      have s2 := HXQ.out.cell 2 _ rfl
      have s3 := HXQ.out.cell 3 _ rfl
      have s4 := HXQ.out.cell 4 _ rfl
      have s5 := HXQ.out.cell 5 _ rfl
      have s0f := HXQ.out.free 0
      have y0 := x1.cell 0 _ rfl
      have y1 := x1.cell 1 _ rfl
      have y2 := x1.cell 2 _ rfl
      have y3 := x1.cell 3 _ rfl
      have y4 := x1.cell 4 _ rfl
      have y5 := x1.cell 5 _ rfl
      have f0 := x1.free 0
      have f1 := x1.free 1
      have f2 := x1.free 2
      have f3 := x1.free 3
      have f4 := x1.free 4
      have f5 := x1.free 5
      have XF1 := Lib.hid x1
      have R1 := Lib.hid r1
      have R2 := Lib.hid r2
      have R3 := Lib.hid r3
      have R4 := Lib.hid r4
      have OW := Lib.hid ow
      have HZ2 := Lib.hid hz2
      have hszf := ow.size
      clear r1 r2 r3 r4 r5 hok ow x1 hz2
      go_wp2_with (fail)
      have hu0 := ((Only.refl (· = q0) wr).set 0 (.slice al nl cl)).blk XF1.out (by omega)
      have hu1 := hu0.set 0 (.slice al nl cl)
      have hu2 := hu1.set 1 (.bool has)
      have hu3 := hu2.set 2 (.int .u64 lg)
      have hu4 := hu3.set 3 (.int .u64 z)
      have hu5 := hu4.set 4 (.int .u64 lt)
      have hu6 := hu5.set 5 (.int .u64 top)
      have hu7 : Blk _ q1 #[.slice al nl cl, .bool has, .int .u64 lg, .int .u64 z, .int .u64 lt, .int .u64 top] 64 := hu6.congr (by simp)
      have on9 := ((((((((Only.refl (fun z => z = q0 ∨ z = q1) wr).setCell (p := ⟨q0, 0, none⟩) (.inl (.inl rfl)) (.slice al nl cl)).setCell (p := ⟨q1, 0, none⟩) (.inl (.inr rfl)) (.slice al nl cl)).setCell (p := ⟨q1, 1, none⟩) (.inl (.inr rfl)) (.bool has)).setCell (p := ⟨q1, 2, none⟩) (.inl (.inr rfl)) (.int .u64 lg)).setCell (p := ⟨q1, 3, none⟩) (.inl (.inr rfl)) (.int .u64 z)).setCell (p := ⟨q1, 4, none⟩) (.inl (.inr rfl)) (.int .u64 lt)).setCell (p := ⟨q1, 5, none⟩) (.inl (.inr rfl)) (.int .u64 top))
      have b9 := ((((((((below_onto HB0.out OW.out HQ.out.2.2 (by intro z hz h; have := HQ.out; omega)).setCell (p := ⟨q0, 0, none⟩) HQ.out.1 (.slice al nl cl)).setCell (p := ⟨q1, 0, none⟩) HQ.out.2.1 (.slice al nl cl)).setCell (p := ⟨q1, 1, none⟩) HQ.out.2.1 (.bool has)).setCell (p := ⟨q1, 2, none⟩) HQ.out.2.1 (.int .u64 lg)).setCell (p := ⟨q1, 3, none⟩) HQ.out.2.1 (.int .u64 z)).setCell (p := ⟨q1, 4, none⟩) HQ.out.2.1 (.int .u64 lt)).setCell (p := ⟨q1, 5, none⟩) HQ.out.2.1 (.int .u64 top))
      obtain ⟨w9, hw9⟩ : ∃ ww, (((((((wr.setCell ⟨q0, 0, none⟩ (.slice al nl cl)).setCell ⟨q1, 0, none⟩ (.slice al nl cl)).setCell ⟨q1, 1, none⟩ (.bool has)).setCell ⟨q1, 2, none⟩ (.int .u64 lg)).setCell ⟨q1, 3, none⟩ (.int .u64 z)).setCell ⟨q1, 4, none⟩ (.int .u64 lt)).setCell ⟨q1, 5, none⟩ (.int .u64 top)) = ww := ⟨_, rfl⟩
      rw [hw9] at hu7 on9 b9 ⊢
      clear hu0 hu1 hu2 hu3 hu4 hu5 hu6 hw9
      have t0 := hu7.cell 0 _ rfl
      have t1 := hu7.cell 1 _ rfl
      have t2 := hu7.cell 2 _ rfl
      have t3 := hu7.cell 3 _ rfl
      have t4 := hu7.cell 4 _ rfl
      have t5 := hu7.cell 5 _ rfl
      try simp only [Exit.inBlock, Exit.then]
      refine bodyPost_ret (by simp [results, Try.results51, go_sem, t0, t1, t2, t3, t4, t5]; try rfl) rfl ?_
      have hL1 : ∀ x, ao = some x → w1.heap.size ≤ x.block := fun x hx => by have := (R3.out.block hx).1; omega
      have hL2 : ∀ x, al = some x → w1.heap.size ≤ x.block := fun x hx => by have := (R4.out.block hx).1; omega
      refine ⟨b9, ao, no, co, al, nl, cl, by rw [HZ2.out]; rfl, R1.out, R2.out, ?_, ?_, fun x hx => by have := hL1 x hx; have := HQ.out; omega, fun x hx => by have := hL2 x hx; have := HQ.out; omega⟩
      · exact (R3.out.ps (fun q hq => HP1.out.ok q (List.mem_filter.1 hq).1)).2.only on9 (fun x hx he => by have := hL1 x hx; omega)
      · exact (R4.out.ps (fun q hq => HP1.out.ok q (List.mem_filter.1 hq).1)).2.only on9 (fun x hx he => by have := hL2 x hx; omega)
end Go.Proofs.Ytidfimpchbkppaa
