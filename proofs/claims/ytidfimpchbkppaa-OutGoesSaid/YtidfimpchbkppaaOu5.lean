/- Out: Ack. -/
import Derived.Test.YtidfimpchbkppaaOu4
namespace Go.Proofs.Ytidfimpchbkppaa
open Go.RowKit
set_option linter.unusedVariables false

section
variable {P : Program} {t e : TypeId} {bytes : Nat}
theorem run_cut1l (hE : ET P t e 1 bytes) {av : Option Addr} {n cap : Nat} {kl : IntKind} (l : Nat) (h1 : l ≤ n) (h2 : n ≤ cap) {li : Int} (e1 : li = l) (w : World) :
    (Instr.sliceAt t (.slice av n cap) (some (.int kl li)) none none).run P w = .ok (.slice (if cap = l then av else av.map (·.add (l * 1))) (n - l) (cap - l)) w := by
  subst e1
  obtain ⟨ht, hz⟩ := hE.elem
  rw [run_sliceAt_slice (h := ht), run_slice_l (ht := ht) (h0 := by omega) (h1 := by omega), hz]
  simp [Result.andThen, sliced]
end
theorem Only.onto5 {S S2 : Nat → Prop} {a b c : World} (h : Only S a b) (h2 : Only S2 b c) (hS : ∀ z, z < a.heap.size → S2 z → S z) : Only S a c :=
  ⟨h2.os.trans h.os, h2.tape.trans h.tape, h2.output.trans h.output, Nat.le_trans h.size h2.size, fun z hz hn => (h2.block z (Nat.lt_of_lt_of_le hz h.size) (fun h3 => hn (hS z hz h3))).trans (h.block z hz hn)⟩
theorem nf_self {p : Int → Prop} {M : List Rg} (h : IsNf p M) : IsNf (MemR M) M := ⟨h.neat, fun n => Iff.rfl⟩
def BufOk (w : World) (b : Nat) (s : OSt) (Bf : List Int) : Prop := s.bn = Bf.length ∧ Sl .u8 w s.ba s.bc Bf ∧ ∀ x, s.ba = some x → 0 < Bf.length → x.block ≠ b
def AckedOk (w : World) (b : Nat) (s : OSt) (LA : List Rg) : Prop := s.an = LA.length ∧ Rs w s.aa s.ac LA ∧ ∀ x, s.aa = some x → 0 < LA.length → x.block ≠ b
/-- What Ack makes. -/
def OAckPost (w w' : World) (e : Ending) (b : Nat) (s : OSt) (Bf : List Int) (LA LL : List Rg) (off m : Int) (fv : Bool) : Prop :=
  Only (· = b) w w' ∧ e = .returned (.int .i64 0) ∧ ∃ (s' : OSt) (all MA ML : List Rg), IsNf (MemR (LA ++ [(off, off + m)])) all ∧ OB w' b s' ∧
    s' = { s with ba := s'.ba, bn := s.bn - (gapP all s.base - s.base).toNat, bc := s'.bc, base := gapP all s.base, aa := s'.aa, an := MA.length, ac := s'.ac, la := s'.la, ln := ML.length, lc := s'.lc, ack := s.ack || fv } ∧
    BufOk w' b s' (Bf.drop (gapP all s.base - s.base).toNat) ∧ AckedOk w' b s' MA ∧ LostOk w' b s' ML ∧
    IsNf (fun x => (inB all x && !inB [(0, gapP all s.base)] x) = true) MA ∧ IsNf (fun x => (inB LL x && !inB (all ++ [(0, gapP all s.base)]) x) = true) ML
set_option maxRecDepth 100000 in
set_option maxHeartbeats 8000000 in
theorem oack_any (b : Nat) (s : OSt) (Bf : List Int) (LA LL : List Rg) (off m : Int) (fv : Bool) (w : World) (h : OB w b s) (hs : OOk s) (hBf : BufOk w b s Bf) (hA : AckedOk w b s LA) (hL : LostOk w b s LL) (hla : LA.length ≤ 10000) (hll : LL.length ≤ 10000)
    (h1 : 0 ≤ off) (h2 : 0 ≤ m) (h3 : off + m ≤ s.next) (h4 : fv = true → s.sent = true ∧ off + m = s.base + s.bn)
    (hgap : ∀ all, IsNf (MemR (LA ++ [(off, off + m)])) all → s.base ≤ gapP all s.base ∧ gapP all s.base ≤ s.base + s.bn) :
    Calls Try.prog 62 #[.pointer (some ⟨b, 0, none⟩), .int .u64 off, .int .u64 m, .bool fv] w fun e w' => OAckPost w w' e b s Bf LA LL off m fv := by
  have HW := Lib.hid (owrong_any b s off m fv w h hs h1 h2 h3 h4)
  unfold OB at *
  obtain ⟨ba, bn, bc, base, next, mx, aa, an, ac, la, ln, lc, fin, sent, ack⟩ := s
  obtain ⟨g1, g2, g3, g4⟩ := hs
  obtain ⟨hbn, hbuf, hbb⟩ := hBf
  obtain ⟨han, hRA, hab⟩ := hA
  obtain ⟨hln, hRL, hlb⟩ := hL
  simp only at *
  have c9 := h.cell 9 _ rfl
  have lb := h.lt
  have hom : off ≤ 100000 ∧ m ≤ 100000 := by omega
  have HH := Lib.hid h
  have GAP := Lib.hid hgap
  have HBN := Lib.hid hbn
  have HBU := Lib.hid hbuf
  have HBB := Lib.hid hbb
  have HAN := Lib.hid han
  have HRA := Lib.hid hRA
  have HLN := Lib.hid hln
  have HRL := Lib.hid hRL
  have HLB := Lib.hid hlb
  clear h hgap hbn hbuf hbb han hRA hab hln hRL hlb h4
  go_enter Try.func62, Try.ntmps62
  go_wp2_with (fail)
  refine HW.out.mono ?_
  rintro e w1 ⟨hb1, rfl⟩
  have hB1 := HH.out.below hb1
  have c4 := hB1.cell 4 _ rfl
  have lb1 : b < w1.heap.size := hB1.lt
  have nb1 : ¬ b = w1.heap.size := by omega
  have x1 := Blk.new w1 #[.int .u64 off, .int .u64 (off + m)] 31
  have bA : Below w.heap.size w (w1.alloc (.cells #[.int .u64 off, .int .u64 (off + m)] 31)) := hb1.alloc hb1.size _
  have hadd := add_any aa (some ⟨w1.heap.size, 0, none⟩) an 1 ac 1 LA [(off, off + m)] _ HAN.out rfl (HRA.out.below bA) (one_rs x1 (by omega) (by omega)) (by omega) (by simp)
  have HADD := Lib.hid hadd
  have BA := Lib.hid bA
  clear hb1 hB1 x1 bA hadd HW
  go_wp2_with (fail)
  refine HADD.out.mono ?_
  rintro e w2 ⟨hb2, am, cm, all, rfl, ho2, hbM, hnM, hlM⟩
  have b2 := below_on BA.out hb2 BA.out.size
  have hall : all.length ≤ 10001 := by simp at hlM; omega
  obtain ⟨n2, hn2⟩ : ∃ n, all.length = n := ⟨_, rfl⟩
  rw [hn2] at ho2 hall ⊢
  have hrs2 := (OwnS.rs ho2 hbM).2
  have hgp := gap_any am n2 cm all base w2 hn2.symm (by omega) hrs2 (by omega)
  have hown2 := ho2.base_le (base' := w.heap.size) (by have := BA.out.size; omega)
  have ham : ∀ x, am = some x → w1.heap.size < x.block ∧ x.block < w2.heap.size := fun x hx => by have h9 := (ho2.block hx).1; have h8 := (ho2.block hx).2.1; simp at h9; omega
  have hB2 := HH.out.below b2
  have c1 := hB2.cell 1 _ rfl
  have lb2 : b < w2.heap.size := hB2.lt
  have HGP := Lib.hid hgp
  have B2 := Lib.hid b2
  have OW2 := Lib.hid hown2
  have AM := Lib.hid ham
  have N2 := Lib.hid hn2
  have NF := Lib.hid hnM
  have BM := Lib.hid hbM
  clear c4 hb2 b2 ho2 hlM hrs2 hgp hown2 ham hB2 hn2 hnM hbM HADD
  go_wp2_with (fail)
  refine HGP.out.mono ?_
  rintro e w3 ⟨hb3, G, hG, rfl⟩
  obtain rfl : G = all := hG.unique (nf_self NF.out)
  have hgb := GAP.out G NF.out
  obtain ⟨bp, hbp⟩ : ∃ x, gapP G base = x := ⟨_, rfl⟩
  rw [hbp] at hgb ⊢
  have HBP := Lib.hid hbp
  have b3 := below_on B2.out hb3 B2.out.size
  have B3 := Lib.hid b3
  have hsz23 : w2.heap.size ≤ w3.heap.size := hb3.size
  have OW3 := Lib.hid (OW2.out.below hb3)
  have hB3 := HH.out.below b3
  have lb3 : b < w3.heap.size := hB3.lt
  have d0 := hB3.cell 0 _ rfl
  have d1 := hB3.cell 1 _ rfl
  obtain ⟨l, hl⟩ : ∃ l : Nat, bp - base = l := ⟨(bp - base).toNat, by omega⟩
  have hcut := fun W => run_cut1l (P := Try.prog) u8_et (av := ba) (n := bn) (cap := bc) (kl := .u64) l (by omega) (by have := HBU.out.le; have := HBN.out; omega) (li := bp - base) hl W
  have hsl := HBU.out.cut l bn (by omega) (by have := HBN.out; omega)
  have hslb := fun y hy => Sl.cut_block (a := ba) (cap := bc) l y hy
  obtain ⟨a4, ha4⟩ : ∃ x, (if bc = l then ba else ba.map (·.add (l * 1))) = x := ⟨_, rfl⟩
  obtain ⟨k4, hk4⟩ : ∃ x, bc - l = x := ⟨_, rfl⟩
  obtain ⟨n4, hn4⟩ : ∃ x, bn - l = x := ⟨_, rfl⟩
  have hD : (Bf.drop l).take (bn - l) = Bf.drop l := List.take_of_length_le (by have := HBN.out; simp; omega)
  rw [hD] at hsl
  rw [ha4, hk4] at hsl
  rw [ha4, hk4, hn4] at hcut
  have HSL := Lib.hid hsl
  have HN4 : Hid (n4 = (Bf.drop l).length) := Lib.hid (by have := HBN.out; simp; omega)
  have hn4b : n4 ≤ 100000 := by omega
  have HNN := Lib.hid hn4
  have HLL := Lib.hid hl
  clear hb3 b3 hG hbp hB3 hl hsl hslb hD ha4 hk4 hn4 c1 HGP OW2
  go_wp2_with (fail)
  refine rg_start 19 ?_
  refine rg_below fun p hx hne hC hbel => ?_
  have j0 : ∀ z : Wd p, z.w.cell? ⟨b, 0, none⟩ = some (.slice ba bn bc) := fun z => (hx z _ _ _ lb3).trans d0
  have j1 : ∀ z : Wd p, z.w.cell? ⟨b, 1, none⟩ = some (.int .u64 base) := fun z => (hx z _ _ _ lb3).trans d1
  refine rg_quiet 5 [0,1,2,3,4,5,6,7,8,9,10,11,12,13] hC ?_
  simp only [pickD, List.map_cons, List.map_nil, List.getD_cons_zero, List.getD_cons_succ]; repeat (go_big_quiet_step (fail))
  refine wpQuiet_nil ?_
  refine rg_act 14 ?_
  go_wp2_with (fail)
  refine (bclone_any a4 n4 k4 (Bf.drop l) _ HN4.out (HSL.out.below (below_on B3.out (Below.refl w3.heap.size w3).drew B3.out.size)) (by have := HN4.out; omega)).mono ?_
  rintro e w4 ⟨hb4, a5, k5, rfl, ho5⟩
  have b4' : Below w3.heap.size w3 w4 := below_on ((Below.refl _ _).drew) hb4 (Nat.le_refl _)
  have hC4 := hbel _ ⟨b4'.os, b4'.tape, b4'.output, b4'.size, b4'.block⟩
  have b4 := below_on B3.out b4' B3.out.size
  have B4 := Lib.hid b4
  have hsz34 : w3.heap.size ≤ w4.heap.size := b4'.size
  have OW4 := Lib.hid (OW3.out.below b4')
  have hB4 := HH.out.below b4
  have e0 := hB4.cell 0 _ rfl
  have m0 := hB4.free 0
  have e1 := hB4.cell 1 _ rfl
  have m1 := hB4.free 1
  have lb4 : b < w4.heap.size := hB4.lt
  have hO5 : ∀ x, a5 = some x → x.block ≠ b ∧ w3.heap.size ≤ x.block := fun x hx => by
    have h9 : w3.heap.size ≤ x.block := (ho5.block hx).1
    omega
  have hwfB : ∀ x ∈ Bf.drop l, (Lit.int .u8 x).wf = true := fun x hx => HBU.out.wf x (List.mem_of_mem_drop hx)
  have SL5 := Lib.hid (OwnS.sl (L := Bf.drop l) ho5 hwfB).2
  have F5 := Lib.hid hO5
  clear hb4 b4' b4 ho5 hO5 hwfB d0 d1 OW3
  go_wp2_with (fail)
  refine ⟨hC4, ?_⟩
  refine rg_quiet 1 [15,16,17] hC4 ?_
  simp only [pickD, List.map_cons, List.map_nil, List.getD_cons_zero, List.getD_cons_succ]; repeat (go_big_quiet_step (fail))
  refine wpQuiet_nil ?_
  refine rg_cut 18 ?_
  go_wp2
  refine rg_end0 ?_
  clear hx hne hC hbel hC4 j0 j1
  have hset := ((hB4.set 0 (.slice a5 n4 k5)).set 1 (.int .u64 bp)).congr (cs' := #[.slice a5 n4 k5, .int .u64 bp, .int .u64 next, .int .u64 mx, .slice aa an ac, .slice la ln lc, .bool fin, .bool sent, .bool ack, .bool false, .int .u64 0, .bool false, .bool false, .bool false]) (by simp)
  have on5 := ((Only.refl (· = b) w4).set 0 (.slice a5 n4 k5)).set 1 (.int .u64 bp)
  have nbA : ∀ x, am = some x → ¬ x.block = b := fun x hx => by have := (AM.out x hx).1; omega
  have OW5 := Lib.hid (OW4.out.only on5 nbA)
  have SL6 := Lib.hid (SL5.out.only on5 (fun x hx _ => (F5.out x hx).1))
  have ON5 := Lib.hid ((only_of_below B4.out (· = b)).trans on5)
  have S5 := Lib.hid hset
  have hsz5 : ((w4.setCell ⟨b, 0, none⟩ (.slice a5 n4 k5)).setCell ⟨b, 1, none⟩ (.int .u64 bp)).heap.size = w4.heap.size := by simp
  have x5 := Blk.new ((w4.setCell ⟨b, 0, none⟩ (.slice a5 n4 k5)).setCell ⟨b, 1, none⟩ (.int .u64 bp)) #[.int .u64 0, .int .u64 bp] 31
  rw [hsz5] at x5
  have hcutA := cut_any am (some ⟨w4.heap.size, 0, none⟩) n2 1 cm 1 G [(0, bp)] _ N2.out.symm rfl ((OwnS.rs OW5.out BM.out).2.below ((Below.refl _ _).alloc (Nat.le_refl _) _)) (one_rs x5 (by omega) (by omega)) (by have := N2.out; omega) (by simp)
  have HCA := Lib.hid hcutA
  clear hB4 hset on5 x5 hcutA OW4 SL5 hcut
  go_wp2_with (fail)
  refine HCA.out.mono ?_
  rintro e w6 ⟨hb6, a6, k6, MA, rfl, ho6, hbA, hnA, hlA⟩
  clear e0 m0 e1 m1
  obtain ⟨w5, hw5⟩ : ∃ z, (w4.setCell ⟨b, 0, none⟩ (.slice a5 n4 k5)).setCell ⟨b, 1, none⟩ (.int .u64 bp) = z := ⟨_, rfl⟩
  rw [hw5] at hb6 ho6 OW5 SL6 ON5 S5 hsz5
  have b56 : Below w5.heap.size w5 w6 := below_on ((Below.refl _ _).alloc (Nat.le_refl _) (.cells #[.int .u64 0, .int .u64 bp] 31)) hb6 (by simp)
  have hF6 : ∀ x, a6 = some x → x.block ≠ b ∧ w5.heap.size < x.block := fun x hx => by
    have h9 := (ho6.block hx).1
    simp at h9
    omega
  obtain ⟨nA, hnAl⟩ : ∃ n, MA.length = n := ⟨_, rfl⟩
  rw [hnAl] at ho6 ⊢
  have hB6 := S5.out.below b56
  have e4 := hB6.cell 4 _ rfl
  have m4 := hB6.free 4
  have lb6 : b < w6.heap.size := hB6.lt
  have on7 := (Only.refl (· = b) w6).set 4 (.slice a6 nA k6)
  have hset := (hB6.set 4 (.slice a6 nA k6)).congr (cs' := #[.slice a5 n4 k5, .int .u64 bp, .int .u64 next, .int .u64 mx, .slice a6 nA k6, .slice la ln lc, .bool fin, .bool sent, .bool ack, .bool false, .int .u64 0, .bool false, .bool false, .bool false]) (by simp)
  have SL7 := Lib.hid ((SL6.out.below b56).only on7 (fun x hx _ => (F5.out x hx).1))
  have RA7 := Lib.hid ((OwnS.rs ho6 hbA).2.only on7 (fun x hx _ => (hF6 x hx).1))
  have OW7 := Lib.hid ((OW5.out.below b56).only on7 nbA)
  have ON7 := Lib.hid ((ON5.out.trans (only_of_below b56 _)).trans on7)
  have S7 := Lib.hid hset
  have F6 := Lib.hid hF6
  have NA := Lib.hid hnAl
  have NFA := Lib.hid hnA
  clear hw5 hb6 ho6 hbA hnA hlA hF6 hnAl hB6 on7 hset SL6 OW5 ON5 S5 HCA b56
  go_wp2_with (fail)
  clear e4 m4
  obtain ⟨w7, hw7⟩ : ∃ z, w6.setCell ⟨b, 4, none⟩ (.slice a6 nA k6) = z := ⟨_, rfl⟩
  rw [hw7] at SL7 RA7 OW7 ON7 S7 ⊢
  clear hw7
  have e5 := S7.out.cell 5 _ rfl
  have lb7 : b < w7.heap.size := S7.out.lt
  refine rg_start 16 ?_
  refine rg_besides (fun z => ∃ y, am = some y ∧ y.block = z) fun p hx hne hC hbel => ?_
  have hbS : ¬ ∃ y, am = some y ∧ y.block = b := by rintro ⟨y, hy, he⟩; exact nbA y hy he
  have j5 : ∀ z : Wd p, z.w.cell? ⟨b, 5, none⟩ = some (.slice la ln lc) := fun z => (hx z _ _ _ lb7 hbS).trans e5
  refine rg_quiet 7 [0,1,2,3,4,5,6,7,8] hC ?_
  simp only [pickD, List.map_cons, List.map_nil, List.getD_cons_zero, List.getD_cons_succ]; repeat (go_big_quiet_step (fail))
  refine wpQuiet_nil ?_
  refine rg_act 9 ?_
  go_wp2_with (fail)
  refine ⟨hbel _ (fun k hk _ => (((Below.refl w7.heap.size w7).alloc (Nat.le_refl _) (.cells #[.int .u64 0, .int .u64 bp] 31))).block k hk), ?_⟩
  refine rg_act 10 ?_
  go_wp2_with (at_builtin; refine Stop.mk ?_)
  refine Stop.out ?_
  have x8 := (Blk.new w7 #[.int .u64 0, .int .u64 bp] 31).drew
  have b78 : Below w7.heap.size w7 (w7.alloc (.cells #[.int .u64 0, .int .u64 bp] 31)).drew := ((Below.refl _ _).alloc (Nat.le_refl _) _).drew
  refine wpList_app rg_et rfl rfl (base := w.heap.size) rfl rfl (OW7.out.below b78) (SrcAt.blk2 (r := ((0 : Int), bp)) x8) (by simp only [maxLen]; omega) (by omega) (by have := ON7.out.size; simp; omega) ?_
  intro a8 k8 w8 ho8 on8 at8
  have on78 : Only (fun z => ∃ y, am = some y ∧ y.block = z) w7 w8 := Only.trans (only_of_below b78 _) on8
  have hC8 := hbel w8 on78.block
  rw [show cellsR G ++ cellsR [((0 : Int), bp)] = cellsR (G ++ [(0, bp)]) by rw [cellsR_append]] at ho8
  have hbG : Bnd (G ++ [((0 : Int), bp)]) := fun r hr => by
    rcases List.mem_append.1 hr with hr | hr
    · exact BM.out r hr
    · rw [List.mem_singleton.1 hr]; exact ⟨by omega, by omega⟩
  have RG8 := Lib.hid (OwnS.rs ho8 hbG).2
  have RL8 := Lib.hid ((HRL.out.only ON7.out HLB.out).only on78 (fun x hx h0 => fun ⟨y, hy, he⟩ => by have h9 := HRL.out.lt x hx h0; have h8 := (AM.out y hy).1; have h7 := BA.out.size; simp at h7; omega))
  have S8 := Lib.hid (on78.blk S7.out hbS)
  have SL8 := Lib.hid (SL7.out.only on78 (fun x hx _ => fun ⟨y, hy, he⟩ => by have h9 := (F5.out x hx).2; have h8 := (AM.out y hy).2; omega))
  have RA8 := Lib.hid (RA7.out.only on78 (fun x hx _ => fun ⟨y, hy, he⟩ => by have h9 := (F6.out x hx).2; have h8 := (AM.out y hy).2; omega))
  have ON8 : Hid (Only (· = b) w w8) := Lib.hid (ON7.out.onto5 on78 (fun z hz ⟨y, hy, he⟩ => by have h8 := (AM.out y hy).1; have h7 := BA.out.size; simp at h7; omega))
  have hcutL := cut_any la a8 ln (n2 + 1) lc k8 LL (G ++ [(0, bp)]) w8 HLN.out (by have := N2.out; simp; omega) RL8.out RG8.out (by omega) (by have := N2.out; simp; omega)
  have HCL := Lib.hid hcutL
  have hsz78 := on78.size
  have O78 := Lib.hid on78
  clear ho8 on8 at8 hbG x8 b78 hcutL SL7 RA7 OW7 ON7 S7 e5 on78
  go_wp2_with (fail)
  refine ⟨hC8, ?_⟩
  refine rg_act 11 ?_
  go_wp2_with (fail)
  refine HCL.out.mono ?_
  rintro e w9 ⟨hb9, a9, k9, ML, rfl, ho9, hbL, hnL, hlL⟩
  have hC9 := hbel w9 (fun k hk hS => (hb9.block k (Nat.lt_of_lt_of_le hk hsz78)).trans (O78.out.block k hk hS))
  have hF9 : ∀ x, a9 = some x → x.block ≠ b := fun x hx => by
    have h9 := (ho9.block hx).1
    have h8 : b < w8.heap.size := by omega
    omega
  have hB9 := S8.out.below hb9
  have e5 := hB9.cell 5 _ rfl
  have m5 := hB9.free 5
  have e8 := hB9.cell 8 _ rfl
  have m8 := hB9.free 8
  have lb9 : b < w9.heap.size := hB9.lt
  have RL9 := Lib.hid (OwnS.rs ho9 hbL).2
  have SL9 := Lib.hid (SL8.out.below hb9)
  have RA9 := Lib.hid (RA8.out.below hb9)
  have ON9 := Lib.hid (ON8.out.trans (only_of_below hb9 _))
  have S9 := Lib.hid hB9
  have F9 := Lib.hid hF9
  obtain ⟨nL, hnl⟩ : ∃ n, ML.length = n := ⟨_, rfl⟩
  rw [hnl]
  have NL := Lib.hid hnl
  have NFL := Lib.hid hnL
  clear ho9 hbL hnL hlL hb9 hB9 hF9 hnl HCL RG8 RL8 S8 SL8 RA8 ON8
  go_wp2_with (fail)
  refine ⟨hC9, ?_⟩
  refine rg_quiet 1 [12,13,14] hC9 ?_
  simp only [pickD, List.map_cons, List.map_nil, List.getD_cons_zero, List.getD_cons_succ]; repeat (go_big_quiet_step (fail))
  refine wpQuiet_nil ?_
  refine rg_cut 15 ?_
  go_wp2
  refine rg_end0 ?_
  clear hx hne hC hbel hC8 hC9 j5
  have hfin : ∀ v : Bool, v = (ack || fv) → OAckPost w ((w9.setCell ⟨b, 5, none⟩ (.slice a9 nL k9)).setCell ⟨b, 8, none⟩ (.bool v)) (.returned (.int .i64 0)) b ⟨ba, bn, bc, base, next, mx, aa, an, ac, la, ln, lc, fin, sent, ack⟩ Bf LA LL off m fv := by
    rintro v rfl
    have on9 := ((Only.refl (· = b) w9).set 5 (.slice a9 nL k9)).set 8 (.bool (ack || fv))
    refine ⟨ON9.out.trans on9, rfl, ⟨a5, n4, k5, bp, next, mx, a6, nA, k6, a9, nL, k9, fin, sent, ack || fv⟩, G, MA, ML, NF.out, ((S9.out.set 5 (.slice a9 nL k9)).set 8 (.bool (ack || fv))).congr (by simp), ?_, ?_, ?_, ?_, ?_, ?_⟩
    · simp only [HBP.out, NA.out, NL.out]
      rw [show (bp - base).toNat = l by have := HLL.out; omega, HNN.out]
    · simp only [HBP.out]
      rw [show (bp - base).toNat = l by have := HLL.out; omega]
      exact ⟨HN4.out, SL9.out.only on9 (fun x hx _ => (F5.out x hx).1), fun x hx _ => (F5.out x hx).1⟩
    · exact ⟨NA.out.symm, RA9.out.only on9 (fun x hx _ => (F6.out x hx).1), fun x hx _ => (F6.out x hx).1⟩
    · exact ⟨NL.out.symm, RL9.out.only on9 (fun x hx _ => F9.out x hx), fun x hx _ => F9.out x hx⟩
    · simp only [HBP.out]; exact NFA.out
    · simp only [HBP.out]; exact NFL.out
  have FIN := Lib.hid hfin
  clear hfin
  cases ack with
  | true =>
    go_wp2_with (fail)
    go_returns
    exact FIN.out true rfl
  | false =>
    go_wp2_with (fail)
    go_returns
    exact FIN.out fv rfl
end Go.Proofs.Ytidfimpchbkppaa
