/- In: gaps. -/
import Derived.Test.YticnjdlapioppaaSo12
namespace Go.Proofs.Yticnjdlapioppaa
open Go.RowKit
set_option linter.unusedVariables false

theorem alloc_size (w : World) (o : Obj) : (w.alloc o).heap.size = w.heap.size + 1 := by simp
def GapsPost (T : List Int) (E off len : Nat) (L : List Pc) (w w' : World) (e : Ending) : Prop :=
  Below w.heap.size w w' ∧ ∃ G a' c', e = .returned (.slice a' G.length c') ∧ Qs w' a' c' G ∧ (∀ p ∈ G, GP w' T E p) ∧ G.length ≤ L.length + 1 ∧ ∀ x : Nat, off ≤ x → x < off + len → x < E ∨ CovL L x ∨ CovL G x
structure GapsInv (w0 : World) (T : List Int) (E off len base bx k at_ : Nat) (L G : List Pc) (a : Option Addr) (c : Nat) (w : World) : Prop where
  box : Blk w bx #[.slice a G.length c] 69
  own : OwnS w base 130 2 a G.length c (cellsQ G)
  gp : ∀ p ∈ G, GP w0 T E p
  cnt : G.length ≤ k
  lo : off ≤ at_
  hi : at_ ≤ 100000
  cov : ∀ x : Nat, off ≤ x → x < at_ → x < off + len → x < E ∨ CovL L x ∨ CovL G x
theorem CovL.mono {L M : List Pc} {x : Nat} (h : CovL L x) (hs : ∀ p ∈ L, p ∈ M) : CovL M x := by
  obtain ⟨p, h1, h2⟩ := h
  exact ⟨p, hs p h1, h2⟩
/-- A round. -/
theorem GapsInv.step {w0 w w' : World} {T : List Int} {E off len base bx k at_ o to at' : Nat} {L G G' : List Pc} {a a' : Option Addr} {c c' : Nat} {p : Pc} (h : GapsInv w0 T E off len base bx k at_ L G a c w)
    (hp : p ∈ L) (ho : p.off = (o : Int)) (hto : min o (off + len) = to) (hat : max at_ (o + p.n) = at') (hb : o + p.n ≤ 100000)
    (h1 : Blk w' bx #[.slice a' G'.length c'] 69) (h2 : OwnS w' base 130 2 a' G'.length c' (cellsQ G')) (h3 : PutG w0 T E off at_ to G G') : GapsInv w0 T E off len base bx (k + 1) at' L G' a' c' w' := by
  refine ⟨h1, h2, fun p hp => (h3.is p hp).elim (h.gp p) id, ?_, ?_, ?_, fun x x1 x2 x3 => ?_⟩
  · have := h3.len; have := h.cnt; omega
  · have := h.lo; omega
  · have := h.hi; omega
  · by_cases hx : x < at_
    · rcases h.cov x x1 hx x3 with h9 | h9 | h9
      · exact .inl h9
      · exact .inr (.inl h9)
      · exact .inr (.inr (h9.mono h3.old))
    · by_cases hE : x < E
      · exact .inl hE
      · by_cases hx2 : x < to
        · exact .inr (.inr (h3.cov x (by omega) x1 (by omega) hx2))
        · refine .inr (.inl ⟨p, hp, ?_, ?_⟩)
          · omega
          · omega
set_option maxRecDepth 100000 in
set_option maxHeartbeats 2000000 in
theorem gaps_any (T : List Int) (q off len vc : Nat) (va : Option Addr) (s : ISt) (L : List Pc) (w : World)
    (h : IB w q s) (hs : IOk s) (hln : s.ln = L.length) (hL : Qs w s.la s.lc L) (hLp : ∀ p ∈ L, GP w T 0 p) (hT : T.length ≤ 3000) (hol : off + len ≤ T.length) (hl : L.length ≤ 10000) (hsl : Sl .u8 w va vc (sub T off len)) :
    Calls Try.prog 52 #[.pointer (some ⟨q, 0, none⟩), .int .u64 off, .slice va len vc] w fun e w' => GapsPost T (s.rd + s.bn) off len L w w' e := by
  have lq := h.lt
  have HH := Lib.hid h
  obtain ⟨la, hla⟩ : ∃ x, s.la = x := ⟨_, rfl⟩
  rw [hla] at hL
  have HLA := Lib.hid hla
  have HL := Lib.hid hL
  have HP := Lib.hid hLp
  have HS := Lib.hid hsl
  have HIO := Lib.hid hs
  obtain ⟨E, hE⟩ : ∃ E, s.rd + s.bn = E := ⟨_, rfl⟩
  have HE := Lib.hid hE
  rw [hE]
  obtain ⟨en, hen⟩ : ∃ en, off + len = en := ⟨_, rfl⟩
  have heni : (off : Int) + (len : Int) = (en : Int) := by omega
  have henb : en ≤ 3000 := by omega
  have HEN := Lib.hid hen
  have hlb : len ≤ 3000 := by omega
  have hob : off ≤ 3000 := by omega
  clear hL hLp hs hsl hE hen
  have q2 := h.cell 2 _ rfl
  rw [hln, hla] at q2
  clear h hla
  go_enter Try.func52, Try.ntmps52
  go_wp2_with (fail)
  have hi : Blk ((((w.alloc (.cells #[.pointer (some ⟨q, 0, none⟩)] 98)).alloc (.cells #[.int .u64 (off : Int)] 25)).alloc (.cells #[.slice va len vc] 47)).alloc (.cells #[.slice none 0 0] 69)) w.heap.size _ _ := (((Blk.new w #[.pointer (some ⟨q, 0, none⟩)] 98).alloc _).alloc _).alloc _
  have ho : Blk ((((w.alloc (.cells #[.pointer (some ⟨q, 0, none⟩)] 98)).alloc (.cells #[.int .u64 (off : Int)] 25)).alloc (.cells #[.slice va len vc] 47)).alloc (.cells #[.slice none 0 0] 69)) (w.alloc (.cells #[.pointer (some ⟨q, 0, none⟩)] 98)).heap.size _ _ := ((Blk.new (w.alloc (.cells #[.pointer (some ⟨q, 0, none⟩)] 98)) #[.int .u64 (off : Int)] 25).alloc _).alloc _
  have hb : Blk ((((w.alloc (.cells #[.pointer (some ⟨q, 0, none⟩)] 98)).alloc (.cells #[.int .u64 (off : Int)] 25)).alloc (.cells #[.slice va len vc] 47)).alloc (.cells #[.slice none 0 0] 69)) ((w.alloc (.cells #[.pointer (some ⟨q, 0, none⟩)] 98)).alloc (.cells #[.int .u64 (off : Int)] 25)).heap.size _ _ := (Blk.new ((w.alloc (.cells #[.pointer (some ⟨q, 0, none⟩)] 98)).alloc (.cells #[.int .u64 (off : Int)] 25)) #[.slice va len vc] 47).alloc _
  have hx : Blk ((((w.alloc (.cells #[.pointer (some ⟨q, 0, none⟩)] 98)).alloc (.cells #[.int .u64 (off : Int)] 25)).alloc (.cells #[.slice va len vc] 47)).alloc (.cells #[.slice none 0 0] 69)) (((w.alloc (.cells #[.pointer (some ⟨q, 0, none⟩)] 98)).alloc (.cells #[.int .u64 (off : Int)] 25)).alloc (.cells #[.slice va len vc] 47)).heap.size _ _ := Blk.new (((w.alloc (.cells #[.pointer (some ⟨q, 0, none⟩)] 98)).alloc (.cells #[.int .u64 (off : Int)] 25)).alloc (.cells #[.slice va len vc] 47)) #[.slice none 0 0] 69
  have b4 : Below w.heap.size w ((((w.alloc (.cells #[.pointer (some ⟨q, 0, none⟩)] 98)).alloc (.cells #[.int .u64 (off : Int)] 25)).alloc (.cells #[.slice va len vc] 47)).alloc (.cells #[.slice none 0 0] 69)) := by repeat first | exact Below.refl _ _ | refine Below.alloc ?_ (by simp; try omega) _
  simp only [alloc_size] at ho hb hx
  have h4s : ((((w.alloc (.cells #[.pointer (some ⟨q, 0, none⟩)] 98)).alloc (.cells #[.int .u64 (off : Int)] 25)).alloc (.cells #[.slice va len vc] 47)).alloc (.cells #[.slice none 0 0] 69)).heap.size = w.heap.size + 4 := by simp
  generalize ((((w.alloc (.cells #[.pointer (some ⟨q, 0, none⟩)] 98)).alloc (.cells #[.int .u64 (off : Int)] 25)).alloc (.cells #[.slice va len vc] 47)).alloc (.cells #[.slice none 0 0] 69)) = w4 at hi ho hb hx b4 h4s ⊢
  have HI := Lib.hid hi
  have HO := Lib.hid ho
  have HB := Lib.hid hb
  have HX := Lib.hid hx
  have B4 := Lib.hid b4
  have H4 := Lib.hid h4s
  have li := hi.lt
  have lo := ho.lt
  have lb := hb.lt
  have i0 := hi.cell 0 _ rfl
  have o0 := ho.cell 0 _ rfl
  have b0 := hb.cell 0 _ rfl
  clear hi ho hb hx b4 h4s
  go_wp2_with (fail)
  refine rg_start 8 ?_
  refine rg_same fun p hx hne hC => ?_
  refine rg_quiet 0 [0,1,2,3,4,5,6,7] hC ?_
  simp only [pickD, List.map_cons, List.map_nil, List.getD_cons_zero, List.getD_cons_succ]; repeat (go_big_quiet_step (fail))
  refine wpQuiet_nil ?_
  refine rg_end ?_
  clear hx hne hC
  have q2' : w4.cell? ⟨q, 2, none⟩ = _ := (B4.out.cell (p := ⟨q, 2, none⟩) lq).trans q2
  go_wp2_with (fail)
  have hstart : GapsInv w T E off len (w.heap.size + 4) (w.heap.size + 3) 0 off L [] none 0 w4 := ⟨HX.out, OwnS.nil _ _ _ _, by simp, by simp, by omega, by omega, fun x x1 x2 => absurd x2 (by omega)⟩
  have HST := Lib.hid hstart
  clear hstart
  go_loopw [9, 12, 26] (fun av _ i wr => ∃ (k at_ : Nat) (a : Option Addr) (c : Nat) (G : List Pc), av = .int .u64 at_ ∧ i = .int .i64 k ∧ k ≤ L.length ∧ Hid (Only (fun k => k = w.heap.size + 3 ∨ w.heap.size + 4 ≤ k) w4 wr ∧ GapsInv w T E off len (w.heap.size + 4) (w.heap.size + 3) k at_ L G a c wr)) (fun _ _ i _ => L.length - (intOf i).toNat)
  case atStart => exact ⟨0, off, none, 0, [], rfl, rfl, by omega, Lib.hid ⟨(Only.refl _ _).drew, HST.out.box.drew, HST.out.own, HST.out.gp, HST.out.cnt, HST.out.lo, HST.out.hi, HST.out.cov⟩⟩
  case round =>
    obtain ⟨k, at_, a, c, G, rfl, rfl, hk, hok⟩ := hrel
    have bw : Below w.heap.size w wr := below_onto B4.out hok.out.1 B4.out.size (fun z hz h9 => by rcases h9 with h9 | h9 <;> omega)
    have BW := Lib.hid bw
    by_cases hlt : k < L.length
    · obtain ⟨gb, go, rfl, hgb, p, hpd, hpm, p0, p1, p2, p3⟩ := (HL.out.below bw).at_ hlt
      obtain ⟨o, ho1, ho2, ho3, ho4, ho5⟩ := HP.out p hpm
      have hon : o + p.n ≤ 3000 := by omega
      rw [ho1] at p0 p2 p3
      obtain ⟨po, pa, pn, pc⟩ := p
      simp only at ho1 ho3 ho4 p0 p1 p2 p3 hon
      have HPM := Lib.hid hpm
      have HO1 := Lib.hid ho1
      clear hpd hpm ho1 ho5 bw
      have hki : (k : Int) < (L.length : Int) := by omega
      obtain ⟨to, hto⟩ : ∃ to : Nat, min o en = to := ⟨_, rfl⟩
      have htoi : min (o : Int) (en : Int) = (to : Int) := by omega
      have HTO := Lib.hid hto
      have hat0 := hok.out.2.hi
      obtain ⟨at2, hat⟩ : ∃ at2 : Nat, max at_ (o + pn) = at2 := ⟨_, rfl⟩
      have hati : max (at_ : Int) ((o : Int) + (pn : Int)) = (at2 : Int) := by omega
      have HAT := Lib.hid hat
      have hatb : at2 ≤ 100000 := by omega
      clear hto hat
      go_wp2_with (fail)
      have PB : Below wr.heap.size wr (wr.alloc (.cells #[.int .u64 (o : Int), .slice pa pn pc] 130)) := (Below.refl _ _).alloc (Nat.le_refl _) _
      have PN := Blk.new wr #[.int .u64 (o : Int), .slice pa pn pc] 130
      have PS : (wr.alloc (.cells #[.int .u64 (o : Int), .slice pa pn pc] 130)).heap.size = wr.heap.size + 1 := alloc_size _ _
      have bws := hok.out.1.size
      generalize wr.alloc (.cells #[.int .u64 (o : Int), .slice pa pn pc] 130) = w5 at PB PN PS ⊢
      have hX : ∀ b cs t, b < w4.heap.size → b ≠ w.heap.size + 3 → Blk w4 b cs t → Blk w5 b cs t := fun b cs t h1 h2 h3 => (hok.out.1.blk h3 (by have := H4.out; omega)).below PB
      refine (put_any w T at_ to (w.heap.size + 1) w.heap.size (w.heap.size + 1 + 1 + 1) (w.heap.size + 1 + 1) q (w.heap.size + 4) off len vc va s G a c w5 (Blk.below HH.out (below_on BW.out PB BW.out.size)) HIO.out
        (hX _ _ _ (by have := H4.out; omega) (by omega) HO.out) (hX _ _ _ (by have := H4.out; omega) (by omega) HI.out) (hok.out.2.box.below PB) (hX _ _ _ (by have := H4.out; omega) (by omega) HB.out) (hok.out.2.own.below PB) (by have := H4.out; omega) (by omega) (by omega) (by omega) (by have := HTO.out; have := HEN.out; omega) (by omega) (by have := hok.out.2.cnt; omega) HS.out).mono ?_
      rintro e w6 ⟨rfl, on6, G', a', c', hx', ho', hg⟩
      rw [HE.out] at hg
      have PN6 : Blk w6 wr.heap.size _ _ := on6.blk PN (fun h9 => by
        rcases h9 with h9 | ⟨y, hy, h9⟩
        · have := H4.out; omega
        · have := (hok.out.2.own.block hy).2.1; omega)
      have on46 : Only (fun k => k = w.heap.size + 3 ∨ w.heap.size + 4 ≤ k) w4 w6 := hok.out.1.onto (below_only PB on6) (fun z hz h9 => by
        rcases h9 with h9 | ⟨y, hy, h9⟩
        · exact .inl (by omega)
        · exact .inr (by have := (hok.out.2.own.block hy).1; omega))
      have hinv := hok.out.2.step HPM.out HO1.out (by rw [HEN.out]; exact HTO.out) HAT.out (by simp only; omega) hx' ho' hg
      have HIN := Lib.hid hinv
      have HON := Lib.hid on46
      have r0 := PN6.cell 0 _ rfl
      have r1 := PN6.cell 1 _ rfl
      clear hinv on46 on6 hx' ho' hg PN6 PN PB hX
      go_wp2_with (fail)
      exact ⟨⟨k + 1, at2, a', c', G', rfl, by go_num, by omega, Lib.hid ⟨HON.out, HIN.out⟩⟩, by simp [intOf]; omega⟩
    · have hki : ¬ (k : Int) < (L.length : Int) := by omega
      go_wp2_with (fail)
      have hat0 := hok.out.2.hi
      have bws := hok.out.1.size
      have hX : ∀ b cs t, b < w4.heap.size → b ≠ w.heap.size + 3 → Blk w4 b cs t → Blk wr b cs t := fun b cs t h1 h2 h3 => hok.out.1.blk h3 (by have := H4.out; omega)
      refine (put_any w T at_ en (w.heap.size + 1) w.heap.size (w.heap.size + 1 + 1 + 1) (w.heap.size + 1 + 1) q (w.heap.size + 4) off len vc va s G a c wr (Blk.below HH.out BW.out) HIO.out
        (hX _ _ _ (by have := H4.out; omega) (by omega) HO.out) (hX _ _ _ (by have := H4.out; omega) (by omega) HI.out) hok.out.2.box (hX _ _ _ (by have := H4.out; omega) (by omega) HB.out) hok.out.2.own (by have := H4.out; omega) (by omega) (by omega) (by omega) (by have := HEN.out; omega) (by omega) (by have := hok.out.2.cnt; omega) HS.out).mono ?_
      rintro e w6 ⟨rfl, on6, G', a', c', hx', ho', hg⟩
      rw [HE.out] at hg
      have on46 : Only (fun k => k = w.heap.size + 3 ∨ w.heap.size + 4 ≤ k) w4 w6 := hok.out.1.trans (on6.mono fun z hz h9 => by
        rcases h9 with h9 | ⟨y, hy, h9⟩
        · exact .inl (by omega)
        · exact .inr (by have := (hok.out.2.own.block hy).1; omega))
      have b6 : Below w.heap.size w w6 := below_onto B4.out on46 B4.out.size (fun z hz h9 => by rcases h9 with h9 | h9 <;> omega)
      have hgp : ∀ p ∈ G', GP w T E p := fun p hp => (hg.is p hp).elim (hok.out.2.gp p) id
      have hres : GapsPost T E off len L w w6 (.returned (.slice a' G'.length c')) := by
        refine ⟨b6, G', a', c', rfl, (ho'.qs (fun p hp => (hgp p hp).ok (by omega))).2, fun p hp => (hgp p hp).below b6, ?_, fun x x1 x2 => ?_⟩
        · have := hg.len; have := hok.out.2.cnt; omega
        · by_cases hx : x < at_
          · rcases hok.out.2.cov x x1 hx x2 with h9 | h9 | h9
            · exact .inl h9
            · exact .inr (.inl h9)
            · exact .inr (.inr (h9.mono hg.old))
          · by_cases hE : x < E
            · exact .inl hE
            · exact .inr (.inr (hg.cov x (by omega) x1 (by omega) (by have := HEN.out; omega)))
      have HR := Lib.hid hres
      have x0 := hx'.cell 0 _ rfl
      clear hres hgp b6 on46 on6 hx' ho' hg hX
      obtain ⟨m, hm⟩ : ∃ m, G'.length = m := ⟨_, rfl⟩
      rw [hm] at x0 HR
      clear hm
      go_wp2_with (fail)
      go_returns
      exact HR.out
end Go.Proofs.Yticnjdlapioppaa
