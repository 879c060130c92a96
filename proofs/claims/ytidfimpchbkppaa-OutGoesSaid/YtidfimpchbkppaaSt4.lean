/- Sent: take. -/
import Derived.Test.YtidfimpchbkppaaSt2
namespace Go.Proofs.Ytidfimpchbkppaa
open Go.RowKit
set_option linter.unusedVariables false

theorem SrcAt.pk (w : World) (p : Pk) (t : TypeId) : SrcAt (w.alloc (.cells #[.int .u64 p.pn, .int .u64 p.at_, .int .u64 p.size, .bool p.el, .int .u64 p.after, .slice p.fa p.fn p.fc] t)) (some ⟨w.heap.size, 0, none⟩) 1 1 6 (cellsP [p]) := by
  have := SrcAt.cells w #[.int .u64 p.pn, .int .u64 p.at_, .int .u64 p.size, .bool p.el, .int .u64 p.after, .slice p.fa p.fn p.fc] t 1 6 rfl (by simp [Value.oneCell'])
  exact this
theorem take_succ_filter {L : List Pk} {k : Nat} (hk : k < L.length) (q : Pk → Bool) : (L.take (k + 1)).filter q = (L.take k).filter q ++ (if q (L.getD k default) = true then [L.getD k default] else []) := by
  rw [List.take_add_one, List.getElem?_eq_getElem hk, List.filter_append]
  congr 1
  simp [List.filter_cons, hk]

def entersB (P : Program) (f : FuncId) : Bool := match P.funcs[f]? with
  | some fn => !(fn.name == "runtime.NumGoroutine") && !fn.body.isNone
  | none => false
theorem run_enters {P : Program} {f : FuncId} (h : entersB P f = true) (args : Array Value) (w : World) : (callFunc f args).run P w = .ok (.enter f args) w := by
  unfold entersB at h
  split at h
  · rename_i fn hfn
    simp only [Bool.and_eq_true, Bool.not_eq_true'] at h
    have hb : ¬ fn.body = none := by intro e; rw [e] at h; simp at h
    have hnm : ¬ fn.name = "runtime.NumGoroutine" := by simpa using h.1
    simp [callFunc, program, Sem.run, hfn, hnm, hb]
  · cases h

/-- What take leaves. -/
def TakeInv (w wr : World) (q : Pk → Bool) (L : List Pk) (k : Nat) (ao : Option Addr) (no co : Nat) (al : Option Addr) (nl cl : Nat) : Prop :=
  no = ((L.take k).filter q).length ∧ nl = ((L.take k).filter fun p => !q p).length ∧ OwnS wr w.heap.size 69 6 ao no co (cellsP ((L.take k).filter q)) ∧ OwnS wr w.heap.size 69 6 al nl cl (cellsP ((L.take k).filter fun p => !q p)) ∧
  (∀ x y, ao = some x → al = some y → x.block ≠ y.block)

set_option maxRecDepth 100000 in
set_option maxHeartbeats 4000000 in
theorem take_any (F : Nat) (caps : Array Value) (q : Pk → Bool) (b : Nat) (L : List Pk) (a : Option Addr) (n c : Nat) (has : Bool) (lg la lt top : Int) (w : World) (h : SB w b a n c has lg la lt top) (hn : n = L.length) (hP : Ps w a c L) (hl : L.length ≤ 1000)
    (hE : entersB Try.prog F = true) (hF : ∀ W p, Below w.heap.size w W → p ∈ L → Calls Try.prog F (#[pkV p] ++ caps) W fun e W' => Below W.heap.size W W' ∧ e = .returned (.bool (q p))) :
    Calls Try.prog 76 #[.pointer (some ⟨b, 0, none⟩), .func (.func F) #[] caps] w fun e w' => Only (· = b) w w' ∧
      ∃ (ao : Option Addr) (no co : Nat) (al : Option Addr) (nl cl : Nat), e = .returned (.slice ao no co) ∧ SB w' b al nl cl has lg la lt top ∧ TakeInv w w' q L L.length ao no co al nl cl := by
  subst hn
  have hblt := h.lt
  have c0 := Blk.cell h 0 _ rfl
  obtain ⟨n, hn⟩ : ∃ n, L.length = n := ⟨_, rfl⟩
  have HB := Lib.hid h
  rw [hn] at c0 hl HB ⊢
  have HN := Lib.hid hn
  have HP := Lib.hid hP
  have HF := Lib.hid hF
  clear h hn hP hF
  go_enter Try.func76, Try.ntmps76
  go_wp2_with (fail)
  go_loopw [5, 6, 8, 15] (fun o l _ i wr => ∃ (k : Nat) (ao : Option Addr) (no co : Nat) (al : Option Addr) (nl cl : Nat), i = .int .i64 k ∧ o = .slice ao no co ∧ l = .slice al nl cl ∧ k ≤ n ∧ Below w.heap.size w wr ∧ Hid (TakeInv w wr q L k ao no co al nl cl)) (fun _ _ _ i _ => n - (intOf i).toNat)
  case atStart => exact ⟨0, none, 0, 0, none, 0, 0, rfl, rfl, rfl, by omega, Below.refl _ _, Lib.hid ⟨rfl, rfl, OwnS.nil _ _ _ _, OwnS.nil _ _ _ _, by simp⟩⟩
  case round =>
    obtain ⟨k, ao, no, co, al, nl, cl, rfl, rfl, rfl, hk, bw, hok⟩ := hrel
    by_cases hlt : k < n
    · have hkL : k < L.length := by have := HN.out; omega
      obtain ⟨b', off, ha, hb', p, hpe, hpm, d0, d1, d2, d3, d4, d5, i0, i1, i2, i4⟩ := (HP.out.below bw).at_ hkL
      subst ha
      have hlen : ((L.take k).filter q).length ≤ k ∧ ((L.take k).filter fun p => !q p).length ≤ k := by
        have h1 := List.length_filter_le q (L.take k)
        have h2 := List.length_filter_le (fun p => !q p) (L.take k)
        simp at h1 h2; omega
      have hsz1 : ((L.take (k + 1)).filter q) = _ := take_succ_filter hkL q
      have hsz2 : ((L.take (k + 1)).filter fun p => !q p) = _ := take_succ_filter hkL fun p => !q p
      rw [hpe] at hsz1 hsz2
      obtain ⟨e1, e2, o1, o2, hd⟩ := hok.out
      rw [← e1, ← e2] at hlen
      have E1 := Lib.hid e1
      have E2 := Lib.hid e2
      have O1 := Lib.hid o1
      have O2 := Lib.hid o2
      have HD := Lib.hid hd
      have HS1 := Lib.hid hsz1
      have HS2 := Lib.hid hsz2
      have b1 : Below w.heap.size w (wr.alloc (.cells #[.int .u64 p.pn, .int .u64 p.at_, .int .u64 p.size, .bool p.el, .int .u64 p.after, .slice p.fa p.fn p.fc] 69)) := bw.alloc bw.size _
      have hf := HF.out _ p b1 hpm
      have HFF := Lib.hid hf
      clear e1 e2 o1 o2 hd hsz1 hsz2 hok hf hpe
      obtain ⟨pn, at_, size, el, after, fa, fn, fc⟩ := p
      simp only [pkV] at *
      go_wp2_with (fail)
      rw [run_enters hE]
      refine HFF.out.mono ?_
      rintro e w2 ⟨hb2, rfl⟩
      have b2 := below_on b1 hb2 b1.size
      obtain ⟨v, hv⟩ : ∃ v, q ⟨pn, at_, size, el, after, fa, fn, fc⟩ = v := ⟨_, rfl⟩
      have HV := Lib.hid hv
      rw [hv]
      have HO1 := Lib.hid ((O1.out.below ((Below.refl _ _).alloc (Nat.le_refl _) (.cells #[.int .u64 pn, .int .u64 at_, .int .u64 size, .bool el, .int .u64 after, .slice fa fn fc] 69))).below hb2)
      have HO2 := Lib.hid ((O2.out.below ((Below.refl _ _).alloc (Nat.le_refl _) (.cells #[.int .u64 pn, .int .u64 at_, .int .u64 size, .bool el, .int .u64 after, .slice fa fn fc] 69))).below hb2)
      have hk0 := (Blk.new wr #[.int .u64 pn, .int .u64 at_, .int .u64 size, .bool el, .int .u64 after, .slice fa fn fc] 69).below hb2
      have g0 := hk0.cell 0 _ rfl
      have g1 := hk0.cell 1 _ rfl
      have g2 := hk0.cell 2 _ rfl
      have g3 := hk0.cell 3 _ rfl
      have g4 := hk0.cell 4 _ rfl
      have g5 := hk0.cell 5 _ rfl
      clear hv hk0
      cases v with
      | true =>
        have hs1 : (L.take (k + 1)).filter q = (L.take k).filter q ++ [⟨pn, at_, size, el, after, fa, fn, fc⟩] := by rw [HS1.out, HV.out]; simp
        have hs2 : ((L.take (k + 1)).filter fun p => !q p) = (L.take k).filter fun p => !q p := by rw [HS2.out, HV.out]; simp
        have HT1 := Lib.hid hs1
        have HT2 := Lib.hid hs2
        clear hs1 hs2
        go_wp2_with (at_builtin; refine Stop.mk ?_)
        refine Stop.out ?_
        refine wpList_app pk_et rfl rfl (base := w.heap.size) rfl rfl (HO1.out.below ((Below.refl _ _).alloc (Nat.le_refl _) _)) (SrcAt.pk w2 ⟨pn, at_, size, el, after, fa, fn, fc⟩ _) (by simp only [maxLen]; omega) (by omega) (by have := b2.size; simp; omega) ?_
        intro a5 c5 w5 ho5 on5 hat
        have b5 : Below w.heap.size w w5 := below_onto (b2.alloc b2.size _) on5 (by have := b2.size; simp; omega) (by rintro z hz ⟨y, hy, rfl⟩; have := (HO1.out.block hy).1; omega)
        rw [← cellsP_append, ← HT1.out] at ho5
        have ho6 := (HO2.out.below ((Below.refl _ _).alloc (Nat.le_refl _) (.cells #[.int .u64 pn, .int .u64 at_, .int .u64 size, .bool el, .int .u64 after, .slice fa fn fc] 69))).only on5 (by
          rintro x hx ⟨y, hy, he⟩
          exact HD.out y x hy hx he)
        rw [← HT2.out] at ho6
        have hd5 : ∀ x y, a5 = some x → al = some y → x.block ≠ y.block := by
          intro x y hx hy
          rcases hat x hx with ⟨z, hz, he⟩ | he
          · exact fun e => HD.out z y hz hy (he.symm.trans e)
          · have h1 := (HO2.out.block hy).2.1
            simp at he
            omega
        have HFIN := Lib.hid (And.intro ho5 (And.intro ho6 hd5))
        clear ho5 ho6 hd5 on5 hat
        go_wp2_with (fail)
        exact ⟨⟨k + 1, a5, no + 1, c5, al, nl, cl, rfl, rfl, rfl, by omega, b5, Lib.hid ⟨by rw [HT1.out, E1.out]; simp, by rw [HT2.out, E2.out], HFIN.out.1, HFIN.out.2.1, HFIN.out.2.2⟩⟩, by simp [intOf]; omega⟩
      | false =>
        have hs1 : (L.take (k + 1)).filter q = (L.take k).filter q := by rw [HS1.out, HV.out]; simp
        have hs2 : ((L.take (k + 1)).filter fun p => !q p) = ((L.take k).filter fun p => !q p) ++ [⟨pn, at_, size, el, after, fa, fn, fc⟩] := by rw [HS2.out, HV.out]; simp
        have HT1 := Lib.hid hs1
        have HT2 := Lib.hid hs2
        clear hs1 hs2
        go_wp2_with (at_builtin; refine Stop.mk ?_)
        refine Stop.out ?_
        refine wpList_app pk_et rfl rfl (base := w.heap.size) rfl rfl (HO2.out.below ((Below.refl _ _).alloc (Nat.le_refl _) _)) (SrcAt.pk w2 ⟨pn, at_, size, el, after, fa, fn, fc⟩ _) (by simp only [maxLen]; omega) (by omega) (by have := b2.size; simp; omega) ?_
        intro a5 c5 w5 ho5 on5 hat
        have b5 : Below w.heap.size w w5 := below_onto (b2.alloc b2.size _) on5 (by have := b2.size; simp; omega) (by rintro z hz ⟨y, hy, rfl⟩; have := (HO2.out.block hy).1; omega)
        rw [← cellsP_append, ← HT2.out] at ho5
        have ho6 := (HO1.out.below ((Below.refl _ _).alloc (Nat.le_refl _) (.cells #[.int .u64 pn, .int .u64 at_, .int .u64 size, .bool el, .int .u64 after, .slice fa fn fc] 69))).only on5 (by
          rintro x hx ⟨y, hy, he⟩
          exact HD.out x y hx hy he.symm)
        rw [← HT1.out] at ho6
        have hd5 : ∀ x y, ao = some x → a5 = some y → x.block ≠ y.block := by
          intro x y hx hy
          rcases hat y hy with ⟨z, hz, he⟩ | he
          · exact fun e => HD.out x z hx hz (e.trans he)
          · have h1 := (HO1.out.block hx).2.1
            simp at he
            omega
        have HFIN := Lib.hid (And.intro ho5 (And.intro ho6 hd5))
        clear ho5 ho6 hd5 on5 hat
        go_wp2_with (fail)
        exact ⟨⟨k + 1, ao, no, co, a5, nl + 1, c5, rfl, rfl, rfl, by omega, b5, Lib.hid ⟨by rw [HT1.out, E1.out], by rw [HT2.out, E2.out]; simp, HFIN.out.2.1, HFIN.out.1, HFIN.out.2.2⟩⟩, by simp [intOf]; omega⟩
    · obtain rfl : k = n := by omega
      have hbw := Blk.below HB.out bw
      have h0 := hbw.cell 0 _ rfl
      have hfr := hbw.free 0
      have HBW := Lib.hid hbw
      have HK2 := Lib.hid hok.out
      clear hbw hok
      go_wp2_with (fail)
      go_returns
      have on1 := (only_of_below bw (· = b)).set 0 (.slice al nl cl)
      refine ⟨on1, ao, no, co, al, nl, cl, rfl, Blk.set HBW.out 0 _, ?_⟩
      obtain ⟨e1, e2, o1, o2, hd⟩ := HK2.out
      have onw : Only (· = b) wr (wr.setCell ⟨b, 0, none⟩ (.slice al nl cl)) := (Only.refl _ _).set 0 _
      refine ⟨e1, e2, o1.only onw ?_, o2.only onw ?_, hd⟩
      · intro x hx he
        have := (o1.block hx).1
        omega
      · intro x hx he
        have := (o2.block hx).1
        omega
end Go.Proofs.Ytidfimpchbkppaa
