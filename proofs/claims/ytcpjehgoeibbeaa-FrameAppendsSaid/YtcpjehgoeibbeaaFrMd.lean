import Derived.Test.YtcpjehgoeibbeaaFrMa
import Derived.Test.YtcpjehgoeibbeaaFrW5
import Derived.Test.YtcpjehgoeibbeaaFrMc
/- The reader: numbers, bytes. -/
namespace Go.Proofs.Ytcpjehgoeibbeaa
open Go.RowKit
set_option linter.unusedVariables false
namespace Frm
open Var
/-- The reader's block: what is left. -/
def RdB (w : World) (rb : Nat) (L : List Int) : Prop := ∃ A cap m, Blk w rb #[.slice A m cap] 60 ∧ m = L.length ∧ Sl .u8 w A cap L ∧ ∀ x, A = some x → 0 < L.length → x.block + 2 ≤ rb
theorem RdB.lt {w : World} {rb : Nat} {L : List Int} (h : RdB w rb L) : rb < w.heap.size := by obtain ⟨A, cap, m, h1, _⟩ := h; exact Blk.lt h1
theorem RdB.only' {S : Nat → Prop} {w w' : World} {rb : Nat} {L : List Int} (h : RdB w rb L) (hb : Only S w w') (hs : ¬ S rb) (hs2 : ∀ k, k + 2 ≤ rb → ¬ S k) : RdB w' rb L := by
  obtain ⟨A, cap, m, h1, h2, h3, h4⟩ := h
  exact ⟨A, cap, m, hb.blk h1 hs, h2, h3.only hb (fun x hx h0 => hs2 _ (h4 x hx h0)), h4⟩
theorem RdB.only {S : Nat → Prop} {w w' : World} {rb : Nat} {L : List Int} (h : RdB w rb L) (hb : Only S w w') (hs : ∀ k, k ≤ rb → ¬ S k) : RdB w' rb L := h.only' hb (hs _ (Nat.le_refl _)) (fun k hk => hs k (by omega))
theorem RdB.below {w w' : World} {rb : Nat} {L : List Int} (h : RdB w rb L) (hb : Below w.heap.size w w') : RdB w' rb L := by
  obtain ⟨A, cap, m, h1, h2, h3, h4⟩ := h
  exact ⟨A, cap, m, Blk.below h1 hb, h2, h3.below hb, h4⟩
theorem RdB.byte {w : World} {rb : Nat} {L : List Int} (h : RdB w rb L) : ∀ x ∈ L, Byte x := by
  obtain ⟨A, cap, m, h1, h2, h3, h4⟩ := h
  exact sl_byte h3
theorem tkR_some {L : List Int} {x : Int × Nat} (h : takeF L = some x) : tk L = some (x.1, L.drop x.2) := by simp [tk, h]
theorem tkR_none {L : List Int} (h : takeF L = none) : tk L = none := by simp [tk, h]
theorem takeF_le {L : List Int} {x : Int × Nat} (h : takeF L = some x) : x.2 ≤ L.length := by
  cases L with
  | nil => cases h
  | cons y r =>
    rw [show takeF (y :: r) = (if r.length + 1 < 2 ^ (y / 64).toNat then none else some ((r.take (2 ^ (y / 64).toNat - 1)).foldl (fun a c => a * 256 + c) (y % 64), 2 ^ (y / 64).toNat)) from rfl] at h
    by_cases hc : r.length + 1 < 2 ^ (y / 64).toNat
    · rw [if_pos hc] at h; cases h
    · rw [if_neg hc] at h
      cases h
      simp only [List.length_cons]
      omega
set_option maxHeartbeats 1000000 in
theorem rn_any (rb : Nat) (L : List Int) (w : World) (h : RdB w rb L) :
    Calls Try.prog 42 #[.pointer (some ⟨rb, 0, none⟩)] w fun e w' => Only (· = rb) w w' ∧ (∀ x, tk L = some x → e = .returned (.int .u64 x.1) ∧ Hid (RdB w' rb x.2)) ∧ (tk L = none → e = failE) := by
  obtain ⟨A, cap, m, hb, hm, hs, hne⟩ := h
  have hlen := hs.len
  unfold maxLen at hlen
  have c0 := Blk.cell hb 0 _ rfl
  have f0 := Blk.free hb 0
  have HB := Lib.hid hb
  have HM := Lib.hid hm
  have HS := Lib.hid hs
  have HNE := Lib.hid hne
  have hml : m ≤ 9223372036854775807 := by omega
  clear hb hm hs hne hlen
  cases ht : takeF L with
  | none =>
    have HT := Lib.hid (tkR_none ht)
    have hN := Lib.hid (show takeN L = 0 by simp [takeN, ht])
    have hU := Lib.hid (show takeU L = 0 by simp [takeU, ht])
    have hI := Lib.hid (show (takeF L).isSome = false by rw [ht]; rfl)
    clear ht
    go_enter Try.func42, Try.ntmps42
    go_wp2_with (fail)
    refine (take_any A m cap L _ HM.out HS.out).mono ?_
    rintro e w2 ⟨rfl, rfl⟩
    rw [hN.out, hU.out, hI.out]
    go_wp2_with (fail)
    refine (must_false _).mono ?_
    rintro e w2 ⟨he, rfl⟩
    rw [failE] at he
    subst he
    go_wp2_with (fail)
    exact ⟨rfl, Only.refl _ _, (fun x hx => by rw [HT.out] at hx; cases hx), (fun _ => rfl)⟩
  | some x =>
    have HT := Lib.hid (tkR_some ht)
    obtain ⟨v, u⟩ := x
    have hle := takeF_le ht
    have hN := Lib.hid (show takeN L = v by simp [takeN, ht])
    have hU := Lib.hid (show takeU L = u by simp [takeU, ht])
    have hI := Lib.hid (show (takeF L).isSome = true by rw [ht]; rfl)
    have HLE := Lib.hid hle
    clear ht
    go_enter Try.func42, Try.ntmps42
    go_wp2_with (fail)
    refine (take_any A m cap L _ HM.out HS.out).mono ?_
    rintro e w2 ⟨rfl, rfl⟩
    rw [hN.out, hU.out, hI.out]
    go_wp2_with (fail)
    refine (must_true _).mono ?_
    rintro e w2 ⟨rfl, rfl⟩
    go_wp2_with (with_reducible refine stop_cut ?_)
    refine Stop.out ?_
    refine wpList_cut_l bytes_et rfl rfl rfl rfl HM.out HS.out u rfl HLE.out ?_
    intro a2 hs2 hb2
    obtain ⟨m2, hm2⟩ : ∃ m2, (L.drop u).length = m2 := ⟨_, rfl⟩
    rw [hm2]
    have HM2 := Lib.hid hm2
    have HS2 := Lib.hid hs2
    have HB2 := Lib.hid (show ∀ y, a2 = some y → 0 < (L.drop u).length → y.block + 2 ≤ rb from fun y hy h0 => by obtain ⟨z, hz, e⟩ := hb2 y hy; rw [e]; exact HNE.out z hz (by rw [List.length_drop] at h0; omega))
    clear hm2 hs2 hb2 hle
    go_wp2_with (fail)
    go_returns
    refine ⟨(Only.refl _ _).set _ _, fun x hx => ?_, (fun h => by rw [HT.out] at h; cases h)⟩
    rw [HT.out] at hx
    cases hx
    have ho := (Only.refl (· = rb) w).set 0 (.slice a2 m2 (cap - u))
    exact ⟨rfl, Lib.hid ⟨a2, cap - u, m2, (Blk.set HB.out 0 _).congr rfl, HM2.out.symm, HS2.out.only ho (fun y hy h0 => by have := HB2.out y hy h0; omega), HB2.out⟩⟩
set_option maxRecDepth 100000 in
theorem bclone_any (a : Option Addr) (n c : Nat) (L : List Int) (w : World) (hn : n = L.length) (h : Sl .u8 w a c L) (hl : L.length ≤ 1000000) :
    Calls Try.prog 59 #[.slice a n c] w fun e w' => Below w.heap.size w w' ∧ ∃ a' c', e = .returned (.slice a' n c') ∧ Hid (OwB w' w.heap.size a' c' L) := by
  have hq : ∀ (w : World) (a : Option Addr) (n c n' c' : Nat), (binOp .eql 23 (.slice a n c) (.slice none n' c')).run Try.prog w = .ok (.bool a.isNone) w := fun w a n c n' c' => Lib.run_eql_slice_nil w _ _ a n c n' c' Try.underlying23
  have hn1 : n ≤ 1000000 := by omega
  have hby := sl_byte h
  cases a with
  | none =>
    have h0 := h.nul rfl
    have hle := h.le
    have hL : L = [] := List.length_eq_zero_iff.1 (by omega)
    subst hL
    simp at hn
    subst hn h0
    clear h hl hle
    go_enter Try.func59, Try.ntmps59
    go_wp2_with (fail)
    go_returns
    exact ⟨Below.refl _ _, none, 0, rfl, Lib.hid ⟨OwnS.nil _ _ _ _, hby⟩⟩
  | some x =>
    have HS := Lib.hid h
    have HN := Lib.hid hn
    have HBY := Lib.hid hby
    clear h hn hl hby
    go_enter Try.func59, Try.ntmps59
    go_wp2_with (at_builtin; refine Stop.mk ?_)
    refine Stop.out ?_
    refine wpList_app bytes_et rfl rfl (base := w.heap.size) (xs := []) rfl rfl (OwnS.new w w.heap.size (Nat.le_refl _) 5 1 0 #[] (by simp [maxLen]) rfl) (by have h9 := (HS.out.below ((Below.refl _ _).alloc (Nat.le_refl _) (.cells #[] 5))).src; rw [← HN.out] at h9; exact h9) (by simp only [maxLen]; omega) (by omega) (by simp) ?_
    intro a2 c2 w2 ho2 on2 _
    have b2 : Below w.heap.size w w2 := below_onto ((Below.refl _ _).alloc (Nat.le_refl _) _) on2 (by simp) (by rintro z hz ⟨y, hy, rfl⟩; cases hy; simp at hz)
    rw [Nat.zero_add, List.nil_append] at ho2
    have HO := Lib.hid (show OwB w2 w.heap.size a2 c2 L from ⟨by rw [← HN.out]; exact ho2, HBY.out⟩)
    clear ho2 on2
    simp only [Nat.zero_add]
    go_wp2_with (fail)
    go_returns
    exact ⟨b2, a2, c2, rfl, HO⟩
set_option maxHeartbeats 1000000 in
theorem rsome_any (rb : Nat) (L : List Int) (n : Int) (w : World) (h : RdB w rb L) (h0 : 0 ≤ n) (h1 : n ≤ 18446744073709551615) (hl : L.length ≤ 1000000) :
    Calls Try.prog 46 #[.pointer (some ⟨rb, 0, none⟩), .int .u64 n] w fun e w' => Only (· = rb) w w' ∧ (∀ x, someB n L = some x → ∃ a' c' m, e = .returned (.slice a' m c') ∧ Hid (m = x.1.length) ∧ Hid (OwB w' w.heap.size a' c' x.1) ∧ Hid (RdB w' rb x.2)) ∧ (someB n L = none → e = failE) := by
  obtain ⟨A, cap, m, hb, hm, hs, hne⟩ := h
  have c0 := Blk.cell hb 0 _ rfl
  have f0 := Blk.free hb 0
  have lrb := Blk.lt hb
  have HB := Lib.hid hb
  have HM := Lib.hid hm
  have HS := Lib.hid hs
  have HNE := Lib.hid hne
  have hml : m ≤ 1000000 := by omega
  clear hb hm hs hne
  by_cases hle : n ≤ m
  · have HT := Lib.hid (show someB n L = some (L.take n.toNat, L.drop n.toNat) by unfold someB; rw [if_pos (by have := HM.out; omega)])
    have hd : decide (n ≤ (m : Int)) = true := by simp; omega
    obtain ⟨N, hN⟩ : ∃ N : Nat, n = N := ⟨n.toNat, by omega⟩
    subst hN
    rw [Int.toNat_natCast] at HT
    have hNm : N ≤ L.length := by have := HM.out; omega
    have HNM := Lib.hid hNm
    clear hNm hl
    go_enter Try.func46, Try.ntmps46
    go_wp2_with (fail)
    refine (must_true _).mono ?_
    rintro e w2 ⟨rfl, rfl⟩
    go_wp2_with (with_reducible refine stop_cut ?_)
    refine Stop.out ?_
    refine wpList_cut_h bytes_et rfl rfl rfl rfl HS.out N rfl HNM.out ?_
    intro a2 hs2 _
    have HS2 := Lib.hid hs2
    have HT2 := Lib.hid (show N = (L.take N).length by rw [List.length_take, Nat.min_eq_left HNM.out])
    clear hs2
    go_wp2_with (fail)
    refine (bclone_any a2 N cap (L.take N) _ HT2.out HS2.out (by have := HT2.out; omega)).mono ?_
    rintro e w3 ⟨b3, a3, c3, rfl, O3⟩
    have hB3 := Blk.below HB.out b3
    have c3' := Blk.cell hB3 0 _ rfl
    have f3 := Blk.free hB3 0
    have HB3 := Lib.hid hB3
    have K3 := Lib.hid b3
    clear hB3 b3
    go_wp2_with (with_reducible refine stop_cut ?_)
    refine Stop.out ?_
    refine wpList_cut_l bytes_et rfl rfl rfl rfl HM.out (HS.out.below K3.out) N rfl HNM.out ?_
    intro a4 hs4 hb4
    obtain ⟨m4, hm4⟩ : ∃ m2, (L.drop N).length = m2 := ⟨_, rfl⟩
    rw [hm4]
    have HM4 := Lib.hid hm4
    have HS4 := Lib.hid hs4
    have HB4 := Lib.hid (show ∀ y, a4 = some y → 0 < (L.drop N).length → y.block + 2 ≤ rb from fun y hy h0 => by obtain ⟨z, hz, e⟩ := hb4 y hy; rw [e]; exact HNE.out z hz (by rw [List.length_drop] at h0; omega))
    clear hm4 hs4 hb4
    go_wp2_with (fail)
    go_returns
    have ho := (Only.refl (· = rb) w3).set 0 (.slice a4 m4 (cap - N))
    refine ⟨(only_of_below K3.out _).trans ho, fun x hx => ?_, (fun h => by rw [HT.out] at h; cases h)⟩
    rw [HT.out] at hx
    cases hx
    exact ⟨a3, c3, N, rfl, HT2, Lib.hid ⟨O3.out.1.only ho (fun y hy => by have := (O3.out.1.block hy).1; omega), O3.out.2⟩, Lib.hid ⟨a4, cap - N, m4, (Blk.set HB3.out 0 _).congr rfl, HM4.out.symm, HS4.out.only ho (fun y hy h0 => by have := HB4.out y hy h0; omega), HB4.out⟩⟩
  · have HT := Lib.hid (show someB n L = none by unfold someB; rw [if_neg (by have := HM.out; omega)])
    have hd : decide (n ≤ (m : Int)) = false := by simp; omega
    clear hl hle
    go_enter Try.func46, Try.ntmps46
    go_wp2_with (fail)
    refine (must_false _).mono ?_
    rintro e w2 ⟨he, rfl⟩
    rw [failE] at he
    subst he
    go_wp2_with (fail)
    exact ⟨rfl, Only.refl _ _, (fun x hx => by rw [HT.out] at hx; cases hx), (fun _ => rfl)⟩
theorem tk_bnd {L : List Int} (hL : ∀ x ∈ L, Byte x) {x : Int × List Int} (h : tk L = some x) : 0 ≤ x.1 ∧ x.1 ≤ 4611686018427387903 := by
  obtain ⟨_, n, _, h1, h2, _⟩ := tk_gives L x.1 x.2 h hL
  exact ⟨h1, h2⟩
theorem tk_le {L : List Int} {x : Int × List Int} (h : tk L = some x) : x.2.length ≤ L.length := by
  obtain ⟨u, _, h2⟩ := tk_some (n := x.1) (r := x.2) h
  rw [h2, List.length_drop]; omega
theorem someB_le {n : Int} {L : List Int} {x : List Int × List Int} (h : someB n L = some x) : x.2.length ≤ L.length ∧ x.1.length ≤ L.length := by
  unfold someB at h
  split at h
  · cases h; simp; omega
  · cases h
theorem rb_none {α β : Type} {F : Rd α} {G : α → Rd β} {b : List Int} (h : F b = none) : rb F G b = none := by unfold rb; rw [h]
theorem rb_go {α β : Type} {F : Rd α} {G : α → Rd β} {b : List Int} {x : α × List Int} (h : F b = some x) : rb F G b = G x.1 x.2 := by unfold rb; rw [h]
set_option maxHeartbeats 1000000 in
theorem rszd_any (rb : Nat) (L : List Int) (w : World) (h : RdB w rb L) (hl : L.length ≤ 1000000) :
    Calls Try.prog 45 #[.pointer (some ⟨rb, 0, none⟩)] w fun e w' => Only (· = rb) w w' ∧ (∀ x, szd L = some x → ∃ a' c' m, e = .returned (.slice a' m c') ∧ Hid (m = x.1.length) ∧ Hid (OwB w' w.heap.size a' c' x.1) ∧ Hid (RdB w' rb x.2)) ∧ (szd L = none → e = failE) := by
  have HR := Lib.hid h
  have hby := h.byte
  clear h
  cases h1 : tk L with
  | none =>
    have HT := Lib.hid (show szd L = none from rb_none h1)
    have H1 := Lib.hid h1
    clear h1
    go_enter Try.func45, Try.ntmps45
    go_wp2_with (fail)
    refine (rn_any rb L _ HR.out).mono ?_
    rintro e w2 ⟨o2, hy2, hn2⟩
    have he := hn2 H1.out
    rw [failE] at he
    subst he
    go_wp2_with (fail)
    exact ⟨rfl, o2, (fun x hx => by rw [HT.out] at hx; cases hx), (fun _ => rfl)⟩
  | some x =>
    obtain ⟨v, L2⟩ := x
    have hvb := tk_bnd hby h1
    have hle := tk_le h1
    simp only at hvb hle
    have HT := Lib.hid (show szd L = someB v L2 from rb_go h1)
    have H1 := Lib.hid h1
    have HL2 := Lib.hid (show L2.length ≤ 1000000 by omega)
    clear h1 hle hl
    go_enter Try.func45, Try.ntmps45
    go_wp2_with (fail)
    refine (rn_any rb L _ HR.out).mono ?_
    rintro e w2 ⟨o2, hy2, hn2⟩
    obtain ⟨rfl, HR2⟩ := hy2 _ H1.out
    have O2 := Lib.hid o2
    clear hy2 hn2 o2
    go_wp2_with (fail)
    refine (rsome_any rb L2 v _ HR2.out hvb.1 (by omega) HL2.out).mono ?_
    rintro e w3 ⟨o3, hy3, hn3⟩
    have O3 := Lib.hid (O2.out.trans o3)
    have HY3 := Lib.hid hy3
    have HN3 := Lib.hid hn3
    clear hy3 hn3 o3
    cases h3 : someB v L2 with
    | none =>
      have he := HN3.out h3
      rw [failE] at he
      subst he
      have H3 := Lib.hid h3
      clear h3
      go_wp2_with (fail)
      exact ⟨rfl, O3.out, (fun x hx => by rw [HT.out, H3.out] at hx; cases hx), (fun _ => rfl)⟩
    | some y =>
      obtain ⟨a3, c3, m3, rfl, M3, B3, R3⟩ := HY3.out _ h3
      have H3 := Lib.hid h3
      clear h3
      go_wp2_with (fail)
      go_returns
      refine ⟨O3.out, fun x hx => ?_, (fun h => by rw [HT.out, H3.out] at h; cases h)⟩
      rw [HT.out, H3.out] at hx
      cases hx
      exact ⟨a3, c3, m3, rfl, M3, Lib.hid ⟨B3.out.1.base_le O2.out.size, B3.out.2⟩, R3⟩
end Frm
end Go.Proofs.Ytcpjehgoeibbeaa

/- The reader: a stream (written by gen_frr2.py). -/
namespace Go.Proofs.Ytcpjehgoeibbeaa
open Go.RowKit
set_option linter.unusedVariables false
namespace Frm
open Var
/-- What the slices of a frame lie in is not older than this. -/
def FM.fresh (q : FM) (B : Nat) : Prop := (∀ x, q.da = some x → B ≤ x.block) ∧ (∀ x, q.ca = some x → B ≤ x.block) ∧ (∀ x, q.aa = some x → B ≤ x.block)
/-- What is in the reader and the frame behind a call that read a part. -/
structure RQ (w' : World) (rb fb B : Nat) (f : Fr) (L : List Int) : Prop where
  ex : ∃ q : FM, q.f = f ∧ FB w' fb q ∧ q.f.cid.length ≤ 1000000 ∧ Sl .u8 w' q.da q.dc q.f.data ∧ Sl .u8 w' q.ca q.cc q.f.cid ∧ Rs w' q.aa q.ac q.f.acks ∧ q.fresh B
  rd : RdB w' rb L
theorem sl_nil0 (w : World) : Sl .u8 w none 0 [] := Sl.nil _ _
theorem OwB.far {w : World} {base : Nat} {a : Option Addr} {cap : Nat} {L : List Int} (h : OwB w base a cap L) : ∀ x, a = some x → base ≤ x.block := fun x hx => (h.1.block hx).1

set_option maxHeartbeats 2000000 in
set_option maxRecDepth 100000 in
theorem rstream_0 (rb fb : Nat) (L : List Int) (k : Int) (w : World) (h : RdB w rb L) (hl : L.length ≤ 1000000) (hf : FB w fb (fm0 k)) (hlt : rb < fb) :
    Calls Try.prog 47 #[.pointer (some ⟨rb, 0, none⟩), .pointer (some ⟨fb, 0, none⟩), .int .u64 0] w fun e w' => Only (fun z => z = rb ∨ z = fb) w w' ∧ (∀ x, readStream 0 L = some x → e = .returned (.tuple #[]) ∧ Hid (RQ w' rb fb w.heap.size x.1 x.2)) ∧ (readStream 0 L = none → e = failE) := by
  have HR := Lib.hid h
  have HF := Lib.hid hf
  have hby := h.byte
  have HLT := Lib.hid hlt
  have hne : fb ≠ rb := by omega
  obtain ⟨RS, hRS⟩ : ∃ RS, readStream 0 L = RS := ⟨_, rfl⟩
  have HRS := Lib.hid hRS
  rw [hRS]
  clear h hf hRS
  have t1' : bits BinOp.and IntKind.u64 0 1 = 0 := by rfl
  have t2' : bits BinOp.and IntKind.u64 0 2 = 0 := by rfl
  have t4' : bits BinOp.and IntKind.u64 0 4 = 0 := by rfl
  go_enter Try.func47, Try.ntmps47
  go_wp2_with (fail)
  refine (rn_any rb L _ HR.out).mono ?_
  rintro e w2 ⟨o2, hy2, hn2⟩
  have HY2 := Lib.hid hy2
  have HN2 := Lib.hid hn2
  have O2 := Lib.hid o2
  clear hy2 hn2 o2
  cases h2 : tk L with
  | none =>
    have he := HN2.out h2
    rw [failE] at he
    subst he
    have HT := Lib.hid (show RS = none by rw [← HRS.out]; unfold readStream; exact rb_none h2)
    clear h2
    go_wp2_with (fail)
    exact ⟨rfl, O2.out.mono (fun k _ h => Or.inl h), (fun x hx => by rw [HT.out] at hx; cases hx), (fun _ => rfl)⟩
  | some x =>
    obtain ⟨vid, L2⟩ := x
    obtain ⟨rfl, HR2⟩ := HY2.out _ h2
    have H2 := Lib.hid h2
    have HB2 := Lib.hid (tk_bnd hby h2)
    have HL2 := Lib.hid (show L2.length ≤ 1000000 by have := tk_le h2; simp only at this; omega)
    have hf2 := HF.out.only O2.out hne
    have cc2 := hf2.fc rfl
    have p0 := cc2.c0
    have p1 := cc2.c1
    have p6 := cc2.c6
    have p7 := cc2.c7
    have g0 := cc2.free 0
    have g1 := cc2.free 1
    have g2 := cc2.free 2
    have g6 := cc2.free 6
    have g7 := cc2.free 7
    have p2 := cc2.c2
    have HF2 := Lib.hid hf2
    clear h2 hf2 cc2
    obtain ⟨A, cap, m, rb1, rm, rs, rx⟩ := HR2.out
    replace rm : m = L2.length := rm
    have r0 := Blk.cell rb1 0 _ rfl
    have hmb : m ≤ 1000000 := by have := HL2.out; omega
    have RM := Lib.hid rm
    clear rb1 rm rs rx
    go_wp2_with (fail)
    have OO3 := Lib.hid (O2.out.mono (fun k _ h => Or.inl h) : Only (fun z => z = rb ∨ z = fb) w w2)
    have HR4' := Lib.hid (HR2.out.only ((((Only.refl (· = fb) w2).set 0 (.int .u64 8)).set 1 (.int .u64 vid)).set 6 (.bool false)) (fun z hz => by have := HLT.out; omega))
    refine (rsome_any rb L2 m _ HR4'.out (by omega) (by omega) HL2.out).mono ?_
    rintro e w4 ⟨o4, hy4, hn4⟩
    have hsb : someB (m : Int) L2 = some (L2, []) := by
      unfold someB
      rw [if_pos (by have := RM.out; omega), RM.out]
      simp
    obtain ⟨a4, c4, m4, rfl, M4, OB4, RR4⟩ := hy4 _ hsb
    have O4 := Lib.hid o4
    clear hy4 hn4 o4 hsb r0
    have HT := Lib.hid (show RS = some ({ fr0 8 with id := vid, off := 0, fin := false, data := L2 }, []) by rw [← HRS.out]; unfold readStream; rw [rb_go H2.out]; rw [if_neg (by decide)]; rw [rb_go (x := (0, L2)) rfl]; rw [if_pos (by decide)]; rfl)
    have F5 := Lib.hid (FB.only (((HF2.out.kind 8).id vid).fin false) O4.out hne)
    have cc5 := F5.out.fc rfl
    have y7 := cc5.c7
    have z7 := cc5.free 7
    have OO5 := Lib.hid ((OO3.out.trans (((((Only.refl (· = fb) w2).set 0 (.int .u64 8)).set 1 (.int .u64 vid)).set 6 (.bool false)).mono (fun k _ h => Or.inr h))).trans (O4.out.mono (fun k _ h => Or.inl h)))
    clear cc5
    go_wp2_with (fail)
    go_returns
    have HOB := Lib.hid (OB4.out.below (Below.refl _ _))
    have ho5 := (Only.refl (· = fb) w4).set 7 (.slice a4 m4 c4)
    refine ⟨OO5.out.trans (ho5.mono (fun k _ h => Or.inr h)), fun x hx => ?_, (fun h => by rw [HT.out] at h; cases h)⟩
    rw [HT.out] at hx
    cases hx
    have hfd := F5.out.data a4 c4 L2
    rw [← M4.out] at hfd
    have hsz : w.heap.size ≤ w2.heap.size := by have := OO3.out.size; omega
    have FAR := OB4.out.far
    try simp only [World.size_setCell] at FAR
    have hw4 : fb < w4.heap.size := Blk.lt F5.out
    have hsl : Sl .u8 (w4.setCell ⟨fb, 7, none⟩ (.slice a4 m4 c4)) a4 c4 L2 := by
      have hlf : fb < w2.heap.size := by have := Blk.lt HF2.out; omega
      exact OB4.out.sl.only ho5 (fun y hy _ => by have := FAR y hy; omega)
    exact ⟨rfl, Lib.hid ⟨⟨_, rfl, hfd, Nat.zero_le _, hsl, Sl.nil _ _, Rs.nil _, fun y hy => Nat.le_trans hsz (FAR y hy), (fun y hy => by cases hy), (fun y hy => by cases hy)⟩, RR4.out.only ho5 (fun z hz => by have := HLT.out; omega)⟩⟩

set_option maxHeartbeats 2000000 in
set_option maxRecDepth 100000 in
theorem rstream_1 (rb fb : Nat) (L : List Int) (k : Int) (w : World) (h : RdB w rb L) (hl : L.length ≤ 1000000) (hf : FB w fb (fm0 k)) (hlt : rb < fb) :
    Calls Try.prog 47 #[.pointer (some ⟨rb, 0, none⟩), .pointer (some ⟨fb, 0, none⟩), .int .u64 1] w fun e w' => Only (fun z => z = rb ∨ z = fb) w w' ∧ (∀ x, readStream 1 L = some x → e = .returned (.tuple #[]) ∧ Hid (RQ w' rb fb w.heap.size x.1 x.2)) ∧ (readStream 1 L = none → e = failE) := by
  have HR := Lib.hid h
  have HF := Lib.hid hf
  have hby := h.byte
  have HLT := Lib.hid hlt
  have hne : fb ≠ rb := by omega
  obtain ⟨RS, hRS⟩ : ∃ RS, readStream 1 L = RS := ⟨_, rfl⟩
  have HRS := Lib.hid hRS
  rw [hRS]
  clear h hf hRS
  have t1' : bits BinOp.and IntKind.u64 1 1 = 1 := by rfl
  have t2' : bits BinOp.and IntKind.u64 1 2 = 0 := by rfl
  have t4' : bits BinOp.and IntKind.u64 1 4 = 0 := by rfl
  go_enter Try.func47, Try.ntmps47
  go_wp2_with (fail)
  refine (rn_any rb L _ HR.out).mono ?_
  rintro e w2 ⟨o2, hy2, hn2⟩
  have HY2 := Lib.hid hy2
  have HN2 := Lib.hid hn2
  have O2 := Lib.hid o2
  clear hy2 hn2 o2
  cases h2 : tk L with
  | none =>
    have he := HN2.out h2
    rw [failE] at he
    subst he
    have HT := Lib.hid (show RS = none by rw [← HRS.out]; unfold readStream; exact rb_none h2)
    clear h2
    go_wp2_with (fail)
    exact ⟨rfl, O2.out.mono (fun k _ h => Or.inl h), (fun x hx => by rw [HT.out] at hx; cases hx), (fun _ => rfl)⟩
  | some x =>
    obtain ⟨vid, L2⟩ := x
    obtain ⟨rfl, HR2⟩ := HY2.out _ h2
    have H2 := Lib.hid h2
    have HB2 := Lib.hid (tk_bnd hby h2)
    have HL2 := Lib.hid (show L2.length ≤ 1000000 by have := tk_le h2; simp only at this; omega)
    have hf2 := HF.out.only O2.out hne
    have cc2 := hf2.fc rfl
    have p0 := cc2.c0
    have p1 := cc2.c1
    have p6 := cc2.c6
    have p7 := cc2.c7
    have g0 := cc2.free 0
    have g1 := cc2.free 1
    have g2 := cc2.free 2
    have g6 := cc2.free 6
    have g7 := cc2.free 7
    have p2 := cc2.c2
    have HF2 := Lib.hid hf2
    clear h2 hf2 cc2
    obtain ⟨A, cap, m, rb1, rm, rs, rx⟩ := HR2.out
    replace rm : m = L2.length := rm
    have r0 := Blk.cell rb1 0 _ rfl
    have hmb : m ≤ 1000000 := by have := HL2.out; omega
    have RM := Lib.hid rm
    clear rb1 rm rs rx
    go_wp2_with (fail)
    have OO3 := Lib.hid (O2.out.mono (fun k _ h => Or.inl h) : Only (fun z => z = rb ∨ z = fb) w w2)
    have HR4' := Lib.hid (HR2.out.only ((((Only.refl (· = fb) w2).set 0 (.int .u64 8)).set 1 (.int .u64 vid)).set 6 (.bool true)) (fun z hz => by have := HLT.out; omega))
    refine (rsome_any rb L2 m _ HR4'.out (by omega) (by omega) HL2.out).mono ?_
    rintro e w4 ⟨o4, hy4, hn4⟩
    have hsb : someB (m : Int) L2 = some (L2, []) := by
      unfold someB
      rw [if_pos (by have := RM.out; omega), RM.out]
      simp
    obtain ⟨a4, c4, m4, rfl, M4, OB4, RR4⟩ := hy4 _ hsb
    have O4 := Lib.hid o4
    clear hy4 hn4 o4 hsb r0
    have HT := Lib.hid (show RS = some ({ fr0 8 with id := vid, off := 0, fin := true, data := L2 }, []) by rw [← HRS.out]; unfold readStream; rw [rb_go H2.out]; rw [if_neg (by decide)]; rw [rb_go (x := (0, L2)) rfl]; rw [if_pos (by decide)]; rfl)
    have F5 := Lib.hid (FB.only (((HF2.out.kind 8).id vid).fin true) O4.out hne)
    have cc5 := F5.out.fc rfl
    have y7 := cc5.c7
    have z7 := cc5.free 7
    have OO5 := Lib.hid ((OO3.out.trans (((((Only.refl (· = fb) w2).set 0 (.int .u64 8)).set 1 (.int .u64 vid)).set 6 (.bool true)).mono (fun k _ h => Or.inr h))).trans (O4.out.mono (fun k _ h => Or.inl h)))
    clear cc5
    go_wp2_with (fail)
    go_returns
    have HOB := Lib.hid (OB4.out.below (Below.refl _ _))
    have ho5 := (Only.refl (· = fb) w4).set 7 (.slice a4 m4 c4)
    refine ⟨OO5.out.trans (ho5.mono (fun k _ h => Or.inr h)), fun x hx => ?_, (fun h => by rw [HT.out] at h; cases h)⟩
    rw [HT.out] at hx
    cases hx
    have hfd := F5.out.data a4 c4 L2
    rw [← M4.out] at hfd
    have hsz : w.heap.size ≤ w2.heap.size := by have := OO3.out.size; omega
    have FAR := OB4.out.far
    try simp only [World.size_setCell] at FAR
    have hw4 : fb < w4.heap.size := Blk.lt F5.out
    have hsl : Sl .u8 (w4.setCell ⟨fb, 7, none⟩ (.slice a4 m4 c4)) a4 c4 L2 := by
      have hlf : fb < w2.heap.size := by have := Blk.lt HF2.out; omega
      exact OB4.out.sl.only ho5 (fun y hy _ => by have := FAR y hy; omega)
    exact ⟨rfl, Lib.hid ⟨⟨_, rfl, hfd, Nat.zero_le _, hsl, Sl.nil _ _, Rs.nil _, fun y hy => Nat.le_trans hsz (FAR y hy), (fun y hy => by cases hy), (fun y hy => by cases hy)⟩, RR4.out.only ho5 (fun z hz => by have := HLT.out; omega)⟩⟩

set_option maxHeartbeats 2000000 in
set_option maxRecDepth 100000 in
theorem rstream_2 (rb fb : Nat) (L : List Int) (k : Int) (w : World) (h : RdB w rb L) (hl : L.length ≤ 1000000) (hf : FB w fb (fm0 k)) (hlt : rb < fb) :
    Calls Try.prog 47 #[.pointer (some ⟨rb, 0, none⟩), .pointer (some ⟨fb, 0, none⟩), .int .u64 2] w fun e w' => Only (fun z => z = rb ∨ z = fb) w w' ∧ (∀ x, readStream 2 L = some x → e = .returned (.tuple #[]) ∧ Hid (RQ w' rb fb w.heap.size x.1 x.2)) ∧ (readStream 2 L = none → e = failE) := by
  have HR := Lib.hid h
  have HF := Lib.hid hf
  have hby := h.byte
  have HLT := Lib.hid hlt
  have hne : fb ≠ rb := by omega
  obtain ⟨RS, hRS⟩ : ∃ RS, readStream 2 L = RS := ⟨_, rfl⟩
  have HRS := Lib.hid hRS
  rw [hRS]
  clear h hf hRS
  have t1' : bits BinOp.and IntKind.u64 2 1 = 0 := by rfl
  have t2' : bits BinOp.and IntKind.u64 2 2 = 2 := by rfl
  have t4' : bits BinOp.and IntKind.u64 2 4 = 0 := by rfl
  go_enter Try.func47, Try.ntmps47
  go_wp2_with (fail)
  refine (rn_any rb L _ HR.out).mono ?_
  rintro e w2 ⟨o2, hy2, hn2⟩
  have HY2 := Lib.hid hy2
  have HN2 := Lib.hid hn2
  have O2 := Lib.hid o2
  clear hy2 hn2 o2
  cases h2 : tk L with
  | none =>
    have he := HN2.out h2
    rw [failE] at he
    subst he
    have HT := Lib.hid (show RS = none by rw [← HRS.out]; unfold readStream; exact rb_none h2)
    clear h2
    go_wp2_with (fail)
    exact ⟨rfl, O2.out.mono (fun k _ h => Or.inl h), (fun x hx => by rw [HT.out] at hx; cases hx), (fun _ => rfl)⟩
  | some x =>
    obtain ⟨vid, L2⟩ := x
    obtain ⟨rfl, HR2⟩ := HY2.out _ h2
    have H2 := Lib.hid h2
    have HB2 := Lib.hid (tk_bnd hby h2)
    have HL2 := Lib.hid (show L2.length ≤ 1000000 by have := tk_le h2; simp only at this; omega)
    have hf2 := HF.out.only O2.out hne
    have cc2 := hf2.fc rfl
    have p0 := cc2.c0
    have p1 := cc2.c1
    have p6 := cc2.c6
    have p7 := cc2.c7
    have g0 := cc2.free 0
    have g1 := cc2.free 1
    have g2 := cc2.free 2
    have g6 := cc2.free 6
    have g7 := cc2.free 7
    have p2 := cc2.c2
    have HF2 := Lib.hid hf2
    clear h2 hf2 cc2
    go_wp2_with (fail)
    have OO3 := Lib.hid (O2.out.mono (fun k _ h => Or.inl h) : Only (fun z => z = rb ∨ z = fb) w w2)
    have HR4' := Lib.hid (HR2.out.only ((((Only.refl (· = fb) w2).set 0 (.int .u64 8)).set 1 (.int .u64 vid)).set 6 (.bool false)) (fun z hz => by have := HLT.out; omega))
    refine (rszd_any rb L2 _ HR4'.out HL2.out).mono ?_
    rintro e w4 ⟨o4, hy4, hn4⟩
    have HY4 := Lib.hid hy4
    have HN4 := Lib.hid hn4
    have O4 := Lib.hid o4
    clear hy4 hn4 o4
    cases h4 : szd L2 with
    | none =>
      have he := HN4.out h4
      rw [failE] at he
      subst he
      have HT := Lib.hid (show RS = none by rw [← HRS.out]; unfold readStream; rw [rb_go H2.out]; rw [if_neg (by decide)]; rw [rb_go (x := (0, L2)) rfl]; exact rb_none h4)
      clear h4
      go_wp2_with (fail)
      exact ⟨rfl, (OO3.out.trans (((((Only.refl (· = fb) w2).set 0 (.int .u64 8)).set 1 (.int .u64 vid)).set 6 (.bool false)).mono (fun k _ h => Or.inr h))).trans (O4.out.mono (fun k _ h => Or.inl h)), (fun x hx => by rw [HT.out] at hx; cases hx), (fun _ => rfl)⟩
    | some x =>
      obtain ⟨d, L5⟩ := x
      obtain ⟨a4, c4, m4, rfl, M4, OB4, RR4⟩ := HY4.out _ h4
      have HT := Lib.hid (show RS = some ({ fr0 8 with id := vid, off := 0, fin := false, data := d }, L5) by rw [← HRS.out]; unfold readStream; rw [rb_go H2.out]; rw [if_neg (by decide)]; rw [rb_go (x := (0, L2)) rfl]; rw [if_neg (by decide), rb_go h4]; rfl)
      clear h4
      have F5 := Lib.hid (FB.only (((HF2.out.kind 8).id vid).fin false) O4.out hne)
      have cc5 := F5.out.fc rfl
      have y7 := cc5.c7
      have z7 := cc5.free 7
      have OO5 := Lib.hid ((OO3.out.trans (((((Only.refl (· = fb) w2).set 0 (.int .u64 8)).set 1 (.int .u64 vid)).set 6 (.bool false)).mono (fun k _ h => Or.inr h))).trans (O4.out.mono (fun k _ h => Or.inl h)))
      clear cc5
      go_wp2_with (fail)
      go_end0
      have HOB := Lib.hid (OB4.out.below (Below.refl _ _))
      have ho5 := (Only.refl (· = fb) w4).set 7 (.slice a4 m4 c4)
      refine ⟨OO5.out.trans (ho5.mono (fun k _ h => Or.inr h)), fun x hx => ?_, (fun h => by rw [HT.out] at h; cases h)⟩
      rw [HT.out] at hx
      cases hx
      have hfd := F5.out.data a4 c4 d
      rw [← M4.out] at hfd
      have hsz : w.heap.size ≤ w2.heap.size := by have := OO3.out.size; omega
      have FAR := OB4.out.far
      try simp only [World.size_setCell] at FAR
      have hw4 : fb < w4.heap.size := Blk.lt F5.out
      have hsl : Sl .u8 (w4.setCell ⟨fb, 7, none⟩ (.slice a4 m4 c4)) a4 c4 d := by
        have hlf : fb < w2.heap.size := by have := Blk.lt HF2.out; omega
        exact OB4.out.sl.only ho5 (fun y hy _ => by have := FAR y hy; omega)
      exact ⟨rfl, Lib.hid ⟨⟨_, rfl, hfd, Nat.zero_le _, hsl, Sl.nil _ _, Rs.nil _, fun y hy => Nat.le_trans hsz (FAR y hy), (fun y hy => by cases hy), (fun y hy => by cases hy)⟩, RR4.out.only ho5 (fun z hz => by have := HLT.out; omega)⟩⟩

set_option maxHeartbeats 2000000 in
set_option maxRecDepth 100000 in
theorem rstream_3 (rb fb : Nat) (L : List Int) (k : Int) (w : World) (h : RdB w rb L) (hl : L.length ≤ 1000000) (hf : FB w fb (fm0 k)) (hlt : rb < fb) :
    Calls Try.prog 47 #[.pointer (some ⟨rb, 0, none⟩), .pointer (some ⟨fb, 0, none⟩), .int .u64 3] w fun e w' => Only (fun z => z = rb ∨ z = fb) w w' ∧ (∀ x, readStream 3 L = some x → e = .returned (.tuple #[]) ∧ Hid (RQ w' rb fb w.heap.size x.1 x.2)) ∧ (readStream 3 L = none → e = failE) := by
  have HR := Lib.hid h
  have HF := Lib.hid hf
  have hby := h.byte
  have HLT := Lib.hid hlt
  have hne : fb ≠ rb := by omega
  obtain ⟨RS, hRS⟩ : ∃ RS, readStream 3 L = RS := ⟨_, rfl⟩
  have HRS := Lib.hid hRS
  rw [hRS]
  clear h hf hRS
  have t1' : bits BinOp.and IntKind.u64 3 1 = 1 := by rfl
  have t2' : bits BinOp.and IntKind.u64 3 2 = 2 := by rfl
  have t4' : bits BinOp.and IntKind.u64 3 4 = 0 := by rfl
  go_enter Try.func47, Try.ntmps47
  go_wp2_with (fail)
  refine (rn_any rb L _ HR.out).mono ?_
  rintro e w2 ⟨o2, hy2, hn2⟩
  have HY2 := Lib.hid hy2
  have HN2 := Lib.hid hn2
  have O2 := Lib.hid o2
  clear hy2 hn2 o2
  cases h2 : tk L with
  | none =>
    have he := HN2.out h2
    rw [failE] at he
    subst he
    have HT := Lib.hid (show RS = none by rw [← HRS.out]; unfold readStream; exact rb_none h2)
    clear h2
    go_wp2_with (fail)
    exact ⟨rfl, O2.out.mono (fun k _ h => Or.inl h), (fun x hx => by rw [HT.out] at hx; cases hx), (fun _ => rfl)⟩
  | some x =>
    obtain ⟨vid, L2⟩ := x
    obtain ⟨rfl, HR2⟩ := HY2.out _ h2
    have H2 := Lib.hid h2
    have HB2 := Lib.hid (tk_bnd hby h2)
    have HL2 := Lib.hid (show L2.length ≤ 1000000 by have := tk_le h2; simp only at this; omega)
    have hf2 := HF.out.only O2.out hne
    have cc2 := hf2.fc rfl
    have p0 := cc2.c0
    have p1 := cc2.c1
    have p6 := cc2.c6
    have p7 := cc2.c7
    have g0 := cc2.free 0
    have g1 := cc2.free 1
    have g2 := cc2.free 2
    have g6 := cc2.free 6
    have g7 := cc2.free 7
    have p2 := cc2.c2
    have HF2 := Lib.hid hf2
    clear h2 hf2 cc2
    go_wp2_with (fail)
    have OO3 := Lib.hid (O2.out.mono (fun k _ h => Or.inl h) : Only (fun z => z = rb ∨ z = fb) w w2)
    have HR4' := Lib.hid (HR2.out.only ((((Only.refl (· = fb) w2).set 0 (.int .u64 8)).set 1 (.int .u64 vid)).set 6 (.bool true)) (fun z hz => by have := HLT.out; omega))
    refine (rszd_any rb L2 _ HR4'.out HL2.out).mono ?_
    rintro e w4 ⟨o4, hy4, hn4⟩
    have HY4 := Lib.hid hy4
    have HN4 := Lib.hid hn4
    have O4 := Lib.hid o4
    clear hy4 hn4 o4
    cases h4 : szd L2 with
    | none =>
      have he := HN4.out h4
      rw [failE] at he
      subst he
      have HT := Lib.hid (show RS = none by rw [← HRS.out]; unfold readStream; rw [rb_go H2.out]; rw [if_neg (by decide)]; rw [rb_go (x := (0, L2)) rfl]; exact rb_none h4)
      clear h4
      go_wp2_with (fail)
      exact ⟨rfl, (OO3.out.trans (((((Only.refl (· = fb) w2).set 0 (.int .u64 8)).set 1 (.int .u64 vid)).set 6 (.bool true)).mono (fun k _ h => Or.inr h))).trans (O4.out.mono (fun k _ h => Or.inl h)), (fun x hx => by rw [HT.out] at hx; cases hx), (fun _ => rfl)⟩
    | some x =>
      obtain ⟨d, L5⟩ := x
      obtain ⟨a4, c4, m4, rfl, M4, OB4, RR4⟩ := HY4.out _ h4
      have HT := Lib.hid (show RS = some ({ fr0 8 with id := vid, off := 0, fin := true, data := d }, L5) by rw [← HRS.out]; unfold readStream; rw [rb_go H2.out]; rw [if_neg (by decide)]; rw [rb_go (x := (0, L2)) rfl]; rw [if_neg (by decide), rb_go h4]; rfl)
      clear h4
      have F5 := Lib.hid (FB.only (((HF2.out.kind 8).id vid).fin true) O4.out hne)
      have cc5 := F5.out.fc rfl
      have y7 := cc5.c7
      have z7 := cc5.free 7
      have OO5 := Lib.hid ((OO3.out.trans (((((Only.refl (· = fb) w2).set 0 (.int .u64 8)).set 1 (.int .u64 vid)).set 6 (.bool true)).mono (fun k _ h => Or.inr h))).trans (O4.out.mono (fun k _ h => Or.inl h)))
      clear cc5
      go_wp2_with (fail)
      go_end0
      have HOB := Lib.hid (OB4.out.below (Below.refl _ _))
      have ho5 := (Only.refl (· = fb) w4).set 7 (.slice a4 m4 c4)
      refine ⟨OO5.out.trans (ho5.mono (fun k _ h => Or.inr h)), fun x hx => ?_, (fun h => by rw [HT.out] at h; cases h)⟩
      rw [HT.out] at hx
      cases hx
      have hfd := F5.out.data a4 c4 d
      rw [← M4.out] at hfd
      have hsz : w.heap.size ≤ w2.heap.size := by have := OO3.out.size; omega
      have FAR := OB4.out.far
      try simp only [World.size_setCell] at FAR
      have hw4 : fb < w4.heap.size := Blk.lt F5.out
      have hsl : Sl .u8 (w4.setCell ⟨fb, 7, none⟩ (.slice a4 m4 c4)) a4 c4 d := by
        have hlf : fb < w2.heap.size := by have := Blk.lt HF2.out; omega
        exact OB4.out.sl.only ho5 (fun y hy _ => by have := FAR y hy; omega)
      exact ⟨rfl, Lib.hid ⟨⟨_, rfl, hfd, Nat.zero_le _, hsl, Sl.nil _ _, Rs.nil _, fun y hy => Nat.le_trans hsz (FAR y hy), (fun y hy => by cases hy), (fun y hy => by cases hy)⟩, RR4.out.only ho5 (fun z hz => by have := HLT.out; omega)⟩⟩

set_option maxHeartbeats 2000000 in
set_option maxRecDepth 100000 in
theorem rstream_4 (rb fb : Nat) (L : List Int) (k : Int) (w : World) (h : RdB w rb L) (hl : L.length ≤ 1000000) (hf : FB w fb (fm0 k)) (hlt : rb < fb) :
    Calls Try.prog 47 #[.pointer (some ⟨rb, 0, none⟩), .pointer (some ⟨fb, 0, none⟩), .int .u64 4] w fun e w' => Only (fun z => z = rb ∨ z = fb) w w' ∧ (∀ x, readStream 4 L = some x → e = .returned (.tuple #[]) ∧ Hid (RQ w' rb fb w.heap.size x.1 x.2)) ∧ (readStream 4 L = none → e = failE) := by
  have HR := Lib.hid h
  have HF := Lib.hid hf
  have hby := h.byte
  have HLT := Lib.hid hlt
  have hne : fb ≠ rb := by omega
  obtain ⟨RS, hRS⟩ : ∃ RS, readStream 4 L = RS := ⟨_, rfl⟩
  have HRS := Lib.hid hRS
  rw [hRS]
  clear h hf hRS
  have t1' : bits BinOp.and IntKind.u64 4 1 = 0 := by rfl
  have t2' : bits BinOp.and IntKind.u64 4 2 = 0 := by rfl
  have t4' : bits BinOp.and IntKind.u64 4 4 = 4 := by rfl
  go_enter Try.func47, Try.ntmps47
  go_wp2_with (fail)
  refine (rn_any rb L _ HR.out).mono ?_
  rintro e w2 ⟨o2, hy2, hn2⟩
  have HY2 := Lib.hid hy2
  have HN2 := Lib.hid hn2
  have O2 := Lib.hid o2
  clear hy2 hn2 o2
  cases h2 : tk L with
  | none =>
    have he := HN2.out h2
    rw [failE] at he
    subst he
    have HT := Lib.hid (show RS = none by rw [← HRS.out]; unfold readStream; exact rb_none h2)
    clear h2
    go_wp2_with (fail)
    exact ⟨rfl, O2.out.mono (fun k _ h => Or.inl h), (fun x hx => by rw [HT.out] at hx; cases hx), (fun _ => rfl)⟩
  | some x =>
    obtain ⟨vid, L2⟩ := x
    obtain ⟨rfl, HR2⟩ := HY2.out _ h2
    have H2 := Lib.hid h2
    have HB2 := Lib.hid (tk_bnd hby h2)
    have HL2 := Lib.hid (show L2.length ≤ 1000000 by have := tk_le h2; simp only at this; omega)
    have hf2 := HF.out.only O2.out hne
    have cc2 := hf2.fc rfl
    have p0 := cc2.c0
    have p1 := cc2.c1
    have p6 := cc2.c6
    have p7 := cc2.c7
    have g0 := cc2.free 0
    have g1 := cc2.free 1
    have g2 := cc2.free 2
    have g6 := cc2.free 6
    have g7 := cc2.free 7
    have p2 := cc2.c2
    have HF2 := Lib.hid hf2
    clear h2 hf2 cc2
    go_wp2_with (fail)
    have HR2' := Lib.hid (HR2.out.only (((Only.refl (· = fb) w2).set 0 (.int .u64 8)).set 1 (.int .u64 vid)) (fun z hz => by have := HLT.out; omega))
    have hby2 := HR2.out.byte
    refine (rn_any rb L2 _ HR2'.out).mono ?_
    rintro e w3 ⟨o3, hy3, hn3⟩
    have HY3 := Lib.hid hy3
    have HN3 := Lib.hid hn3
    have O3 := Lib.hid o3
    have F3 := Lib.hid (FB.only ((HF2.out.kind 8).id vid) o3 hne)
    have OO3 := Lib.hid ((((O2.out.mono (fun k _ h => Or.inl h) : Only (fun z => z = rb ∨ z = fb) w w2).trans ((((Only.refl (· = fb) w2).set 0 (.int .u64 8)).set 1 (.int .u64 vid)).mono (fun k _ h => Or.inr h))).trans (o3.mono (fun k _ h => Or.inl h))))
    clear hy3 hn3 o3
    cases h3 : tk L2 with
    | none =>
      have he := HN3.out h3
      rw [failE] at he
      subst he
      have HT := Lib.hid (show RS = none by rw [← HRS.out]; unfold readStream; rw [rb_go H2.out]; exact rb_none h3)
      clear h3
      go_wp2_with (fail)
      exact ⟨rfl, OO3.out, (fun x hx => by rw [HT.out] at hx; cases hx), (fun _ => rfl)⟩
    | some x =>
      obtain ⟨voff, L3⟩ := x
      obtain ⟨rfl, HR3⟩ := HY3.out _ h3
      have H3 := Lib.hid h3
      have HL3 := Lib.hid (show L3.length ≤ 1000000 by have h5 := tk_le h3; have := HL2.out; dsimp only at h5; omega)
      have cc3 := F3.out.fc rfl
      have t2 := cc3.c2
      have t6 := cc3.c6
      have t7 := cc3.c7
      have u2 := cc3.free 2
      have u6 := cc3.free 6
      have u7 := cc3.free 7
      clear h3 cc3 p0 p1 p2 p6 p7 g0 g1 g2 g6 g7
      obtain ⟨A, cap, m, rb1, rm, rs, rx⟩ := HR3.out
      replace rm : m = L3.length := rm
      have r0 := Blk.cell rb1 0 _ rfl
      have hmb : m ≤ 1000000 := by have := HL3.out; omega
      have RM := Lib.hid rm
      clear rb1 rm rs rx
      go_wp2_with (fail)
      have HR4' := Lib.hid (HR3.out.only (((Only.refl (· = fb) w3).set 2 (.int .u64 voff)).set 6 (.bool false)) (fun z hz => by have := HLT.out; omega))
      refine (rsome_any rb L3 m _ HR4'.out (by omega) (by omega) HL3.out).mono ?_
      rintro e w4 ⟨o4, hy4, hn4⟩
      have hsb : someB (m : Int) L3 = some (L3, []) := by
        unfold someB
        rw [if_pos (by have := RM.out; omega), RM.out]
        simp
      obtain ⟨a4, c4, m4, rfl, M4, OB4, RR4⟩ := hy4 _ hsb
      have O4 := Lib.hid o4
      clear hy4 hn4 o4 hsb r0
      have HT := Lib.hid (show RS = some ({ fr0 8 with id := vid, off := voff, fin := false, data := L3 }, []) by rw [← HRS.out]; unfold readStream; rw [rb_go H2.out]; rw [if_pos (by decide), rb_go H3.out]; rw [if_pos (by decide)]; rfl)
      have F5 := Lib.hid (FB.only ((F3.out.off voff).fin false) O4.out hne)
      have cc5 := F5.out.fc rfl
      have y7 := cc5.c7
      have z7 := cc5.free 7
      have OO5 := Lib.hid ((OO3.out.trans ((((Only.refl (· = fb) w3).set 2 (.int .u64 voff)).set 6 (.bool false)).mono (fun k _ h => Or.inr h))).trans (O4.out.mono (fun k _ h => Or.inl h)))
      clear cc5
      go_wp2_with (fail)
      go_returns
      have HOB := Lib.hid (OB4.out.below (Below.refl _ _))
      have ho5 := (Only.refl (· = fb) w4).set 7 (.slice a4 m4 c4)
      refine ⟨OO5.out.trans (ho5.mono (fun k _ h => Or.inr h)), fun x hx => ?_, (fun h => by rw [HT.out] at h; cases h)⟩
      rw [HT.out] at hx
      cases hx
      have hfd := F5.out.data a4 c4 L3
      rw [← M4.out] at hfd
      have hsz : w.heap.size ≤ w3.heap.size := by have := OO3.out.size; omega
      have FAR := OB4.out.far
      try simp only [World.size_setCell] at FAR
      have hw4 : fb < w4.heap.size := Blk.lt F5.out
      have hsl : Sl .u8 (w4.setCell ⟨fb, 7, none⟩ (.slice a4 m4 c4)) a4 c4 L3 := by
        have hlf : fb < w3.heap.size := by have := Blk.lt F3.out; omega
        exact OB4.out.sl.only ho5 (fun y hy _ => by have := FAR y hy; omega)
      exact ⟨rfl, Lib.hid ⟨⟨_, rfl, hfd, Nat.zero_le _, hsl, Sl.nil _ _, Rs.nil _, fun y hy => Nat.le_trans hsz (FAR y hy), (fun y hy => by cases hy), (fun y hy => by cases hy)⟩, RR4.out.only ho5 (fun z hz => by have := HLT.out; omega)⟩⟩

set_option maxHeartbeats 2000000 in
set_option maxRecDepth 100000 in
theorem rstream_5 (rb fb : Nat) (L : List Int) (k : Int) (w : World) (h : RdB w rb L) (hl : L.length ≤ 1000000) (hf : FB w fb (fm0 k)) (hlt : rb < fb) :
    Calls Try.prog 47 #[.pointer (some ⟨rb, 0, none⟩), .pointer (some ⟨fb, 0, none⟩), .int .u64 5] w fun e w' => Only (fun z => z = rb ∨ z = fb) w w' ∧ (∀ x, readStream 5 L = some x → e = .returned (.tuple #[]) ∧ Hid (RQ w' rb fb w.heap.size x.1 x.2)) ∧ (readStream 5 L = none → e = failE) := by
  have HR := Lib.hid h
  have HF := Lib.hid hf
  have hby := h.byte
  have HLT := Lib.hid hlt
  have hne : fb ≠ rb := by omega
  obtain ⟨RS, hRS⟩ : ∃ RS, readStream 5 L = RS := ⟨_, rfl⟩
  have HRS := Lib.hid hRS
  rw [hRS]
  clear h hf hRS
  have t1' : bits BinOp.and IntKind.u64 5 1 = 1 := by rfl
  have t2' : bits BinOp.and IntKind.u64 5 2 = 0 := by rfl
  have t4' : bits BinOp.and IntKind.u64 5 4 = 4 := by rfl
  go_enter Try.func47, Try.ntmps47
  go_wp2_with (fail)
  refine (rn_any rb L _ HR.out).mono ?_
  rintro e w2 ⟨o2, hy2, hn2⟩
  have HY2 := Lib.hid hy2
  have HN2 := Lib.hid hn2
  have O2 := Lib.hid o2
  clear hy2 hn2 o2
  cases h2 : tk L with
  | none =>
    have he := HN2.out h2
    rw [failE] at he
    subst he
    have HT := Lib.hid (show RS = none by rw [← HRS.out]; unfold readStream; exact rb_none h2)
    clear h2
    go_wp2_with (fail)
    exact ⟨rfl, O2.out.mono (fun k _ h => Or.inl h), (fun x hx => by rw [HT.out] at hx; cases hx), (fun _ => rfl)⟩
  | some x =>
    obtain ⟨vid, L2⟩ := x
    obtain ⟨rfl, HR2⟩ := HY2.out _ h2
    have H2 := Lib.hid h2
    have HB2 := Lib.hid (tk_bnd hby h2)
    have HL2 := Lib.hid (show L2.length ≤ 1000000 by have := tk_le h2; simp only at this; omega)
    have hf2 := HF.out.only O2.out hne
    have cc2 := hf2.fc rfl
    have p0 := cc2.c0
    have p1 := cc2.c1
    have p6 := cc2.c6
    have p7 := cc2.c7
    have g0 := cc2.free 0
    have g1 := cc2.free 1
    have g2 := cc2.free 2
    have g6 := cc2.free 6
    have g7 := cc2.free 7
    have p2 := cc2.c2
    have HF2 := Lib.hid hf2
    clear h2 hf2 cc2
    go_wp2_with (fail)
    have HR2' := Lib.hid (HR2.out.only (((Only.refl (· = fb) w2).set 0 (.int .u64 8)).set 1 (.int .u64 vid)) (fun z hz => by have := HLT.out; omega))
    have hby2 := HR2.out.byte
    refine (rn_any rb L2 _ HR2'.out).mono ?_
    rintro e w3 ⟨o3, hy3, hn3⟩
    have HY3 := Lib.hid hy3
    have HN3 := Lib.hid hn3
    have O3 := Lib.hid o3
    have F3 := Lib.hid (FB.only ((HF2.out.kind 8).id vid) o3 hne)
    have OO3 := Lib.hid ((((O2.out.mono (fun k _ h => Or.inl h) : Only (fun z => z = rb ∨ z = fb) w w2).trans ((((Only.refl (· = fb) w2).set 0 (.int .u64 8)).set 1 (.int .u64 vid)).mono (fun k _ h => Or.inr h))).trans (o3.mono (fun k _ h => Or.inl h))))
    clear hy3 hn3 o3
    cases h3 : tk L2 with
    | none =>
      have he := HN3.out h3
      rw [failE] at he
      subst he
      have HT := Lib.hid (show RS = none by rw [← HRS.out]; unfold readStream; rw [rb_go H2.out]; exact rb_none h3)
      clear h3
      go_wp2_with (fail)
      exact ⟨rfl, OO3.out, (fun x hx => by rw [HT.out] at hx; cases hx), (fun _ => rfl)⟩
    | some x =>
      obtain ⟨voff, L3⟩ := x
      obtain ⟨rfl, HR3⟩ := HY3.out _ h3
      have H3 := Lib.hid h3
      have HL3 := Lib.hid (show L3.length ≤ 1000000 by have h5 := tk_le h3; have := HL2.out; dsimp only at h5; omega)
      have cc3 := F3.out.fc rfl
      have t2 := cc3.c2
      have t6 := cc3.c6
      have t7 := cc3.c7
      have u2 := cc3.free 2
      have u6 := cc3.free 6
      have u7 := cc3.free 7
      clear h3 cc3 p0 p1 p2 p6 p7 g0 g1 g2 g6 g7
      obtain ⟨A, cap, m, rb1, rm, rs, rx⟩ := HR3.out
      replace rm : m = L3.length := rm
      have r0 := Blk.cell rb1 0 _ rfl
      have hmb : m ≤ 1000000 := by have := HL3.out; omega
      have RM := Lib.hid rm
      clear rb1 rm rs rx
      go_wp2_with (fail)
      have HR4' := Lib.hid (HR3.out.only (((Only.refl (· = fb) w3).set 2 (.int .u64 voff)).set 6 (.bool true)) (fun z hz => by have := HLT.out; omega))
      refine (rsome_any rb L3 m _ HR4'.out (by omega) (by omega) HL3.out).mono ?_
      rintro e w4 ⟨o4, hy4, hn4⟩
      have hsb : someB (m : Int) L3 = some (L3, []) := by
        unfold someB
        rw [if_pos (by have := RM.out; omega), RM.out]
        simp
      obtain ⟨a4, c4, m4, rfl, M4, OB4, RR4⟩ := hy4 _ hsb
      have O4 := Lib.hid o4
      clear hy4 hn4 o4 hsb r0
      have HT := Lib.hid (show RS = some ({ fr0 8 with id := vid, off := voff, fin := true, data := L3 }, []) by rw [← HRS.out]; unfold readStream; rw [rb_go H2.out]; rw [if_pos (by decide), rb_go H3.out]; rw [if_pos (by decide)]; rfl)
      have F5 := Lib.hid (FB.only ((F3.out.off voff).fin true) O4.out hne)
      have cc5 := F5.out.fc rfl
      have y7 := cc5.c7
      have z7 := cc5.free 7
      have OO5 := Lib.hid ((OO3.out.trans ((((Only.refl (· = fb) w3).set 2 (.int .u64 voff)).set 6 (.bool true)).mono (fun k _ h => Or.inr h))).trans (O4.out.mono (fun k _ h => Or.inl h)))
      clear cc5
      go_wp2_with (fail)
      go_returns
      have HOB := Lib.hid (OB4.out.below (Below.refl _ _))
      have ho5 := (Only.refl (· = fb) w4).set 7 (.slice a4 m4 c4)
      refine ⟨OO5.out.trans (ho5.mono (fun k _ h => Or.inr h)), fun x hx => ?_, (fun h => by rw [HT.out] at h; cases h)⟩
      rw [HT.out] at hx
      cases hx
      have hfd := F5.out.data a4 c4 L3
      rw [← M4.out] at hfd
      have hsz : w.heap.size ≤ w3.heap.size := by have := OO3.out.size; omega
      have FAR := OB4.out.far
      try simp only [World.size_setCell] at FAR
      have hw4 : fb < w4.heap.size := Blk.lt F5.out
      have hsl : Sl .u8 (w4.setCell ⟨fb, 7, none⟩ (.slice a4 m4 c4)) a4 c4 L3 := by
        have hlf : fb < w3.heap.size := by have := Blk.lt F3.out; omega
        exact OB4.out.sl.only ho5 (fun y hy _ => by have := FAR y hy; omega)
      exact ⟨rfl, Lib.hid ⟨⟨_, rfl, hfd, Nat.zero_le _, hsl, Sl.nil _ _, Rs.nil _, fun y hy => Nat.le_trans hsz (FAR y hy), (fun y hy => by cases hy), (fun y hy => by cases hy)⟩, RR4.out.only ho5 (fun z hz => by have := HLT.out; omega)⟩⟩

set_option maxHeartbeats 2000000 in
set_option maxRecDepth 100000 in
theorem rstream_6 (rb fb : Nat) (L : List Int) (k : Int) (w : World) (h : RdB w rb L) (hl : L.length ≤ 1000000) (hf : FB w fb (fm0 k)) (hlt : rb < fb) :
    Calls Try.prog 47 #[.pointer (some ⟨rb, 0, none⟩), .pointer (some ⟨fb, 0, none⟩), .int .u64 6] w fun e w' => Only (fun z => z = rb ∨ z = fb) w w' ∧ (∀ x, readStream 6 L = some x → e = .returned (.tuple #[]) ∧ Hid (RQ w' rb fb w.heap.size x.1 x.2)) ∧ (readStream 6 L = none → e = failE) := by
  have HR := Lib.hid h
  have HF := Lib.hid hf
  have hby := h.byte
  have HLT := Lib.hid hlt
  have hne : fb ≠ rb := by omega
  obtain ⟨RS, hRS⟩ : ∃ RS, readStream 6 L = RS := ⟨_, rfl⟩
  have HRS := Lib.hid hRS
  rw [hRS]
  clear h hf hRS
  have t1' : bits BinOp.and IntKind.u64 6 1 = 0 := by rfl
  have t2' : bits BinOp.and IntKind.u64 6 2 = 2 := by rfl
  have t4' : bits BinOp.and IntKind.u64 6 4 = 4 := by rfl
  go_enter Try.func47, Try.ntmps47
  go_wp2_with (fail)
  refine (rn_any rb L _ HR.out).mono ?_
  rintro e w2 ⟨o2, hy2, hn2⟩
  have HY2 := Lib.hid hy2
  have HN2 := Lib.hid hn2
  have O2 := Lib.hid o2
  clear hy2 hn2 o2
  cases h2 : tk L with
  | none =>
    have he := HN2.out h2
    rw [failE] at he
    subst he
    have HT := Lib.hid (show RS = none by rw [← HRS.out]; unfold readStream; exact rb_none h2)
    clear h2
    go_wp2_with (fail)
    exact ⟨rfl, O2.out.mono (fun k _ h => Or.inl h), (fun x hx => by rw [HT.out] at hx; cases hx), (fun _ => rfl)⟩
  | some x =>
    obtain ⟨vid, L2⟩ := x
    obtain ⟨rfl, HR2⟩ := HY2.out _ h2
    have H2 := Lib.hid h2
    have HB2 := Lib.hid (tk_bnd hby h2)
    have HL2 := Lib.hid (show L2.length ≤ 1000000 by have := tk_le h2; simp only at this; omega)
    have hf2 := HF.out.only O2.out hne
    have cc2 := hf2.fc rfl
    have p0 := cc2.c0
    have p1 := cc2.c1
    have p6 := cc2.c6
    have p7 := cc2.c7
    have g0 := cc2.free 0
    have g1 := cc2.free 1
    have g2 := cc2.free 2
    have g6 := cc2.free 6
    have g7 := cc2.free 7
    have p2 := cc2.c2
    have HF2 := Lib.hid hf2
    clear h2 hf2 cc2
    go_wp2_with (fail)
    have HR2' := Lib.hid (HR2.out.only (((Only.refl (· = fb) w2).set 0 (.int .u64 8)).set 1 (.int .u64 vid)) (fun z hz => by have := HLT.out; omega))
    have hby2 := HR2.out.byte
    refine (rn_any rb L2 _ HR2'.out).mono ?_
    rintro e w3 ⟨o3, hy3, hn3⟩
    have HY3 := Lib.hid hy3
    have HN3 := Lib.hid hn3
    have O3 := Lib.hid o3
    have F3 := Lib.hid (FB.only ((HF2.out.kind 8).id vid) o3 hne)
    have OO3 := Lib.hid ((((O2.out.mono (fun k _ h => Or.inl h) : Only (fun z => z = rb ∨ z = fb) w w2).trans ((((Only.refl (· = fb) w2).set 0 (.int .u64 8)).set 1 (.int .u64 vid)).mono (fun k _ h => Or.inr h))).trans (o3.mono (fun k _ h => Or.inl h))))
    clear hy3 hn3 o3
    cases h3 : tk L2 with
    | none =>
      have he := HN3.out h3
      rw [failE] at he
      subst he
      have HT := Lib.hid (show RS = none by rw [← HRS.out]; unfold readStream; rw [rb_go H2.out]; exact rb_none h3)
      clear h3
      go_wp2_with (fail)
      exact ⟨rfl, OO3.out, (fun x hx => by rw [HT.out] at hx; cases hx), (fun _ => rfl)⟩
    | some x =>
      obtain ⟨voff, L3⟩ := x
      obtain ⟨rfl, HR3⟩ := HY3.out _ h3
      have H3 := Lib.hid h3
      have HL3 := Lib.hid (show L3.length ≤ 1000000 by have h5 := tk_le h3; have := HL2.out; dsimp only at h5; omega)
      have cc3 := F3.out.fc rfl
      have t2 := cc3.c2
      have t6 := cc3.c6
      have t7 := cc3.c7
      have u2 := cc3.free 2
      have u6 := cc3.free 6
      have u7 := cc3.free 7
      clear h3 cc3 p0 p1 p2 p6 p7 g0 g1 g2 g6 g7
      go_wp2_with (fail)
      have HR4' := Lib.hid (HR3.out.only (((Only.refl (· = fb) w3).set 2 (.int .u64 voff)).set 6 (.bool false)) (fun z hz => by have := HLT.out; omega))
      refine (rszd_any rb L3 _ HR4'.out HL3.out).mono ?_
      rintro e w4 ⟨o4, hy4, hn4⟩
      have HY4 := Lib.hid hy4
      have HN4 := Lib.hid hn4
      have O4 := Lib.hid o4
      clear hy4 hn4 o4
      cases h4 : szd L3 with
      | none =>
        have he := HN4.out h4
        rw [failE] at he
        subst he
        have HT := Lib.hid (show RS = none by rw [← HRS.out]; unfold readStream; rw [rb_go H2.out]; rw [if_pos (by decide), rb_go H3.out]; exact rb_none h4)
        clear h4
        go_wp2_with (fail)
        exact ⟨rfl, (OO3.out.trans ((((Only.refl (· = fb) w3).set 2 (.int .u64 voff)).set 6 (.bool false)).mono (fun k _ h => Or.inr h))).trans (O4.out.mono (fun k _ h => Or.inl h)), (fun x hx => by rw [HT.out] at hx; cases hx), (fun _ => rfl)⟩
      | some x =>
        obtain ⟨d, L5⟩ := x
        obtain ⟨a4, c4, m4, rfl, M4, OB4, RR4⟩ := HY4.out _ h4
        have HT := Lib.hid (show RS = some ({ fr0 8 with id := vid, off := voff, fin := false, data := d }, L5) by rw [← HRS.out]; unfold readStream; rw [rb_go H2.out]; rw [if_pos (by decide), rb_go H3.out]; rw [if_neg (by decide), rb_go h4]; rfl)
        clear h4
        have F5 := Lib.hid (FB.only ((F3.out.off voff).fin false) O4.out hne)
        have cc5 := F5.out.fc rfl
        have y7 := cc5.c7
        have z7 := cc5.free 7
        have OO5 := Lib.hid ((OO3.out.trans ((((Only.refl (· = fb) w3).set 2 (.int .u64 voff)).set 6 (.bool false)).mono (fun k _ h => Or.inr h))).trans (O4.out.mono (fun k _ h => Or.inl h)))
        clear cc5
        go_wp2_with (fail)
        go_end0
        have HOB := Lib.hid (OB4.out.below (Below.refl _ _))
        have ho5 := (Only.refl (· = fb) w4).set 7 (.slice a4 m4 c4)
        refine ⟨OO5.out.trans (ho5.mono (fun k _ h => Or.inr h)), fun x hx => ?_, (fun h => by rw [HT.out] at h; cases h)⟩
        rw [HT.out] at hx
        cases hx
        have hfd := F5.out.data a4 c4 d
        rw [← M4.out] at hfd
        have hsz : w.heap.size ≤ w3.heap.size := by have := OO3.out.size; omega
        have FAR := OB4.out.far
        try simp only [World.size_setCell] at FAR
        have hw4 : fb < w4.heap.size := Blk.lt F5.out
        have hsl : Sl .u8 (w4.setCell ⟨fb, 7, none⟩ (.slice a4 m4 c4)) a4 c4 d := by
          have hlf : fb < w3.heap.size := by have := Blk.lt F3.out; omega
          exact OB4.out.sl.only ho5 (fun y hy _ => by have := FAR y hy; omega)
        exact ⟨rfl, Lib.hid ⟨⟨_, rfl, hfd, Nat.zero_le _, hsl, Sl.nil _ _, Rs.nil _, fun y hy => Nat.le_trans hsz (FAR y hy), (fun y hy => by cases hy), (fun y hy => by cases hy)⟩, RR4.out.only ho5 (fun z hz => by have := HLT.out; omega)⟩⟩

set_option maxHeartbeats 2000000 in
set_option maxRecDepth 100000 in
theorem rstream_7 (rb fb : Nat) (L : List Int) (k : Int) (w : World) (h : RdB w rb L) (hl : L.length ≤ 1000000) (hf : FB w fb (fm0 k)) (hlt : rb < fb) :
    Calls Try.prog 47 #[.pointer (some ⟨rb, 0, none⟩), .pointer (some ⟨fb, 0, none⟩), .int .u64 7] w fun e w' => Only (fun z => z = rb ∨ z = fb) w w' ∧ (∀ x, readStream 7 L = some x → e = .returned (.tuple #[]) ∧ Hid (RQ w' rb fb w.heap.size x.1 x.2)) ∧ (readStream 7 L = none → e = failE) := by
  have HR := Lib.hid h
  have HF := Lib.hid hf
  have hby := h.byte
  have HLT := Lib.hid hlt
  have hne : fb ≠ rb := by omega
  obtain ⟨RS, hRS⟩ : ∃ RS, readStream 7 L = RS := ⟨_, rfl⟩
  have HRS := Lib.hid hRS
  rw [hRS]
  clear h hf hRS
  have t1' : bits BinOp.and IntKind.u64 7 1 = 1 := by rfl
  have t2' : bits BinOp.and IntKind.u64 7 2 = 2 := by rfl
  have t4' : bits BinOp.and IntKind.u64 7 4 = 4 := by rfl
  go_enter Try.func47, Try.ntmps47
  go_wp2_with (fail)
  refine (rn_any rb L _ HR.out).mono ?_
  rintro e w2 ⟨o2, hy2, hn2⟩
  have HY2 := Lib.hid hy2
  have HN2 := Lib.hid hn2
  have O2 := Lib.hid o2
  clear hy2 hn2 o2
  cases h2 : tk L with
  | none =>
    have he := HN2.out h2
    rw [failE] at he
    subst he
    have HT := Lib.hid (show RS = none by rw [← HRS.out]; unfold readStream; exact rb_none h2)
    clear h2
    go_wp2_with (fail)
    exact ⟨rfl, O2.out.mono (fun k _ h => Or.inl h), (fun x hx => by rw [HT.out] at hx; cases hx), (fun _ => rfl)⟩
  | some x =>
    obtain ⟨vid, L2⟩ := x
    obtain ⟨rfl, HR2⟩ := HY2.out _ h2
    have H2 := Lib.hid h2
    have HB2 := Lib.hid (tk_bnd hby h2)
    have HL2 := Lib.hid (show L2.length ≤ 1000000 by have := tk_le h2; simp only at this; omega)
    have hf2 := HF.out.only O2.out hne
    have cc2 := hf2.fc rfl
    have p0 := cc2.c0
    have p1 := cc2.c1
    have p6 := cc2.c6
    have p7 := cc2.c7
    have g0 := cc2.free 0
    have g1 := cc2.free 1
    have g2 := cc2.free 2
    have g6 := cc2.free 6
    have g7 := cc2.free 7
    have p2 := cc2.c2
    have HF2 := Lib.hid hf2
    clear h2 hf2 cc2
    go_wp2_with (fail)
    have HR2' := Lib.hid (HR2.out.only (((Only.refl (· = fb) w2).set 0 (.int .u64 8)).set 1 (.int .u64 vid)) (fun z hz => by have := HLT.out; omega))
    have hby2 := HR2.out.byte
    refine (rn_any rb L2 _ HR2'.out).mono ?_
    rintro e w3 ⟨o3, hy3, hn3⟩
    have HY3 := Lib.hid hy3
    have HN3 := Lib.hid hn3
    have O3 := Lib.hid o3
    have F3 := Lib.hid (FB.only ((HF2.out.kind 8).id vid) o3 hne)
    have OO3 := Lib.hid ((((O2.out.mono (fun k _ h => Or.inl h) : Only (fun z => z = rb ∨ z = fb) w w2).trans ((((Only.refl (· = fb) w2).set 0 (.int .u64 8)).set 1 (.int .u64 vid)).mono (fun k _ h => Or.inr h))).trans (o3.mono (fun k _ h => Or.inl h))))
    clear hy3 hn3 o3
    cases h3 : tk L2 with
    | none =>
      have he := HN3.out h3
      rw [failE] at he
      subst he
      have HT := Lib.hid (show RS = none by rw [← HRS.out]; unfold readStream; rw [rb_go H2.out]; exact rb_none h3)
      clear h3
      go_wp2_with (fail)
      exact ⟨rfl, OO3.out, (fun x hx => by rw [HT.out] at hx; cases hx), (fun _ => rfl)⟩
    | some x =>
      obtain ⟨voff, L3⟩ := x
      obtain ⟨rfl, HR3⟩ := HY3.out _ h3
      have H3 := Lib.hid h3
      have HL3 := Lib.hid (show L3.length ≤ 1000000 by have h5 := tk_le h3; have := HL2.out; dsimp only at h5; omega)
      have cc3 := F3.out.fc rfl
      have t2 := cc3.c2
      have t6 := cc3.c6
      have t7 := cc3.c7
      have u2 := cc3.free 2
      have u6 := cc3.free 6
      have u7 := cc3.free 7
      clear h3 cc3 p0 p1 p2 p6 p7 g0 g1 g2 g6 g7
      go_wp2_with (fail)
      have HR4' := Lib.hid (HR3.out.only (((Only.refl (· = fb) w3).set 2 (.int .u64 voff)).set 6 (.bool true)) (fun z hz => by have := HLT.out; omega))
      refine (rszd_any rb L3 _ HR4'.out HL3.out).mono ?_
      rintro e w4 ⟨o4, hy4, hn4⟩
      have HY4 := Lib.hid hy4
      have HN4 := Lib.hid hn4
      have O4 := Lib.hid o4
      clear hy4 hn4 o4
      cases h4 : szd L3 with
      | none =>
        have he := HN4.out h4
        rw [failE] at he
        subst he
        have HT := Lib.hid (show RS = none by rw [← HRS.out]; unfold readStream; rw [rb_go H2.out]; rw [if_pos (by decide), rb_go H3.out]; exact rb_none h4)
        clear h4
        go_wp2_with (fail)
        exact ⟨rfl, (OO3.out.trans ((((Only.refl (· = fb) w3).set 2 (.int .u64 voff)).set 6 (.bool true)).mono (fun k _ h => Or.inr h))).trans (O4.out.mono (fun k _ h => Or.inl h)), (fun x hx => by rw [HT.out] at hx; cases hx), (fun _ => rfl)⟩
      | some x =>
        obtain ⟨d, L5⟩ := x
        obtain ⟨a4, c4, m4, rfl, M4, OB4, RR4⟩ := HY4.out _ h4
        have HT := Lib.hid (show RS = some ({ fr0 8 with id := vid, off := voff, fin := true, data := d }, L5) by rw [← HRS.out]; unfold readStream; rw [rb_go H2.out]; rw [if_pos (by decide), rb_go H3.out]; rw [if_neg (by decide), rb_go h4]; rfl)
        clear h4
        have F5 := Lib.hid (FB.only ((F3.out.off voff).fin true) O4.out hne)
        have cc5 := F5.out.fc rfl
        have y7 := cc5.c7
        have z7 := cc5.free 7
        have OO5 := Lib.hid ((OO3.out.trans ((((Only.refl (· = fb) w3).set 2 (.int .u64 voff)).set 6 (.bool true)).mono (fun k _ h => Or.inr h))).trans (O4.out.mono (fun k _ h => Or.inl h)))
        clear cc5
        go_wp2_with (fail)
        go_end0
        have HOB := Lib.hid (OB4.out.below (Below.refl _ _))
        have ho5 := (Only.refl (· = fb) w4).set 7 (.slice a4 m4 c4)
        refine ⟨OO5.out.trans (ho5.mono (fun k _ h => Or.inr h)), fun x hx => ?_, (fun h => by rw [HT.out] at h; cases h)⟩
        rw [HT.out] at hx
        cases hx
        have hfd := F5.out.data a4 c4 d
        rw [← M4.out] at hfd
        have hsz : w.heap.size ≤ w3.heap.size := by have := OO3.out.size; omega
        have FAR := OB4.out.far
        try simp only [World.size_setCell] at FAR
        have hw4 : fb < w4.heap.size := Blk.lt F5.out
        have hsl : Sl .u8 (w4.setCell ⟨fb, 7, none⟩ (.slice a4 m4 c4)) a4 c4 d := by
          have hlf : fb < w3.heap.size := by have := Blk.lt F3.out; omega
          exact OB4.out.sl.only ho5 (fun y hy _ => by have := FAR y hy; omega)
        exact ⟨rfl, Lib.hid ⟨⟨_, rfl, hfd, Nat.zero_le _, hsl, Sl.nil _ _, Rs.nil _, fun y hy => Nat.le_trans hsz (FAR y hy), (fun y hy => by cases hy), (fun y hy => by cases hy)⟩, RR4.out.only ho5 (fun z hz => by have := HLT.out; omega)⟩⟩

end Frm
end Go.Proofs.Ytcpjehgoeibbeaa

/- The reader: an ACK (written by gen_frr3.py). -/
namespace Go.Proofs.Ytcpjehgoeibbeaa
open Go.RowKit
set_option linter.unusedVariables false
namespace Frm
open Var
theorem tk_lt {L : List Int} (hL : ∀ x ∈ L, Byte x) {x : Int × List Int} (h : tk L = some x) : x.2.length + 1 ≤ L.length := by
  obtain ⟨u, h1, h2⟩ := tk_some (n := x.1) (r := x.2) h
  cases L with
  | nil => cases h1
  | cons y r =>
    have := take_bd y r (hL y (by simp)) (fun z hz => hL z (by simp [hz])) _ _ h1
    rw [h2, List.length_drop, List.length_cons]
    omega
/-- The numbers of a range that is read. -/
def AccOk (acc : List Rg) : Prop := ∀ r ∈ acc, 0 ≤ r.1 ∧ r.1 ≤ 4611686018427387903 ∧ 0 ≤ r.2 ∧ r.2 ≤ 4611686018427387904
theorem AccOk.bnd {acc : List Rg} (h : AccOk acc) : Bnd acc := fun r hr => by have := h r hr; exact ⟨⟨this.1, by omega⟩, ⟨this.2.2.1, by omega⟩⟩
theorem accok_rev {acc : List Rg} (h : AccOk acc) : Bnd acc.reverse := fun r hr => h.bnd r (by simpa using hr)
/-- What was made since may have turned too. -/
theorem _root_.Go.Proofs.Ytcpjehgoeibbeaa.Only.trans' {S T : Nat → Prop} {a b c : World} (h : Only S a b) (k : Only T b c) (hs : ∀ z, z < a.heap.size → T z → S z) : Only S a c :=
  ⟨k.os.trans h.os, k.tape.trans h.tape, k.output.trans h.output, Nat.le_trans h.size k.size, fun i hi hn => (k.block i (Nat.lt_of_lt_of_le hi h.size) (fun ht => hn (hs i hi ht))).trans (h.block i hi hn)⟩
theorem OwnS.rsm {w : World} {base : Nat} {e : TypeId} {a : Option Addr} {m cap : Nat} {L : List Rg} (h : OwnS w base e 2 a m cap (cellsR L)) (hw : Bnd L) : Rs w a cap L := (h.rs hw).2
def ackEnd (k dl : Int) (l : List Rg) : Rd Fr := if k = 3 then rb tk fun x => rb tk fun y => rb tk fun z => rp { fr0 k with acks := l, delay := dl, e0 := x, e1 := y, e2 := z } else rp { fr0 k with acks := l, delay := dl }
theorem readAck_go (k : Int) {L L2 L3 L4 L5 : List Int} {top dl more less : Int} (h2 : tk L = some (top, L2)) (h3 : tk L2 = some (dl, L3)) (h4 : tk L3 = some (more, L4)) (h5 : tk L4 = some (less, L5)) (hle : less ≤ top) :
    readAck k L = rb (ackG more.toNat [(top - less, top + 1)]) (ackEnd k dl) L5 := by
  unfold readAck
  rw [rb_go h2, rb_go h3, rb_go h4, rb_go h5, if_pos hle]
  rfl
theorem ackG_none1 (j : Nat) (acc : List Rg) {LL : List Int} (h : tk LL = none) : ackG (j + 1) acc LL = none := by
  unfold ackG; exact rb_none h
theorem ackG_none2 (j : Nat) (acc : List Rg) {LL L7 : List Int} {gap : Int} (h : tk LL = some (gap, L7)) (h2 : tk L7 = none) : ackG (j + 1) acc LL = none := by
  unfold ackG; rw [rb_go h]; exact rb_none h2
theorem ackG_step (j : Nat) (ab at_ : Int) (racc : List Rg) (LL : List Int) (gap ls : Int) (L7 L8 : List Int) (h7 : tk LL = some (gap, L7)) (h8 : tk L7 = some (ls, L8)) :
    ackG (j + 1) ((ab, at_) :: racc) LL = if 2 ≤ ab ∧ gap ≤ ab - 2 ∧ ls ≤ ab - 2 - gap then ackG j ((ab - 2 - gap - ls, ab - 1 - gap) :: (ab, at_) :: racc) L8 else none := by
  conv => lhs; unfold ackG
  rw [rb_go h7, rb_go h8]
  dsimp only
  split <;> rfl

set_option maxHeartbeats 4000000 in
set_option maxRecDepth 100000 in
theorem racks_2 (rb fb : Nat) (L : List Int) (w : World) (h : RdB w rb L) (hl : L.length ≤ 1000000) (hf : FB w fb (fm0 2)) (hlt : rb < fb) :
    Calls Try.prog 44 #[.pointer (some ⟨rb, 0, none⟩), .pointer (some ⟨fb, 0, none⟩)] w fun e w' => Only (fun z => z = rb ∨ z = fb) w w' ∧ (∀ x, readAck 2 L = some x → e = .returned (.tuple #[]) ∧ Hid (RQ w' rb fb w.heap.size x.1 x.2)) ∧ (readAck 2 L = none → e = failE) := by
  have HR := Lib.hid h
  have HF := Lib.hid hf
  have HLT := Lib.hid hlt
  have hne : fb ≠ rb := by omega
  have hfw : fb < w.heap.size := Blk.lt hf
  obtain ⟨RS, hRS⟩ : ∃ RS, readAck 2 L = RS := ⟨_, rfl⟩
  have HRS := Lib.hid hRS
  rw [hRS]
  clear h hf hRS
  go_enter Try.func44, Try.ntmps44
  go_wp2_with (fail)
  have hby2 := HR.out.byte
  refine (rn_any rb L _ HR.out).mono ?_
  rintro e w2 ⟨o2, hy2, hn2⟩
  have HY2 := Lib.hid hy2
  have HN2 := Lib.hid hn2
  have O2 := Lib.hid o2
  clear hy2 hn2 o2
  cases h2 : tk L with
  | none =>
    have he := HN2.out h2
    rw [failE] at he
    subst he
    have HT := Lib.hid (show RS = none by rw [← HRS.out]; unfold readAck; exact rb_none h2)
    clear h2
    go_wp2_with (fail)
    exact ⟨rfl, O2.out.mono (fun k _ h => Or.inl h), (fun x hx => by rw [HT.out] at hx; cases hx), (fun _ => rfl)⟩
  | some x =>
    obtain ⟨top, L2⟩ := x
    obtain ⟨rfl, HR2⟩ := HY2.out _ h2
    have H2 := Lib.hid h2
    have vb2 := tk_bnd hby2 h2
    have ll2 := tk_lt hby2 h2
    dsimp only at vb2 ll2
    replace HR2 : Hid (RdB w2 rb L2) := HR2
    clear h2 hby2 HY2 HN2
    go_wp2_with (fail)
    have hby3 := HR2.out.byte
    refine (rn_any rb L2 _ HR2.out).mono ?_
    rintro e w3 ⟨o3, hy3, hn3⟩
    have HY3 := Lib.hid hy3
    have HN3 := Lib.hid hn3
    have O3 := Lib.hid o3
    clear hy3 hn3 o3
    cases h3 : tk L2 with
    | none =>
      have he := HN3.out h3
      rw [failE] at he
      subst he
      have HT := Lib.hid (show RS = none by rw [← HRS.out]; unfold readAck; rw [rb_go H2.out]; exact rb_none h3)
      clear h3
      go_wp2_with (fail)
      exact ⟨rfl, (O2.out.trans O3.out).mono (fun k _ h => Or.inl h), (fun x hx => by rw [HT.out] at hx; cases hx), (fun _ => rfl)⟩
    | some x =>
      obtain ⟨dl, L3⟩ := x
      obtain ⟨rfl, HR3⟩ := HY3.out _ h3
      have H3 := Lib.hid h3
      have vb3 := tk_bnd hby3 h3
      have ll3 := tk_lt hby3 h3
      dsimp only at vb3 ll3
      replace HR3 : Hid (RdB w3 rb L3) := HR3
      clear h3 hby3 HY3 HN3
      have hf3 := HF.out.only (O2.out.trans O3.out) hne
      have cc3 := hf3.fc rfl
      have p26 := cc3.c26
      have g26 := cc3.free 26
      have HF3 := Lib.hid (hf3.delay rfl dl)
      have onl := Lib.hid ((Only.refl (· = fb) w3).set 26 (.int .u64 dl))
      have HR3' := Lib.hid (HR3.out.only onl.out (fun z hz => by have := HLT.out; omega))
      have OO3 := Lib.hid (((O2.out.trans O3.out).mono (fun k _ h => Or.inl h) : Only (fun z => z = rb ∨ z = fb) w w3).trans (onl.out.mono (fun k _ h => Or.inr h)))
      clear hf3 cc3
      go_wp2_with (fail)
      have hby4 := HR3'.out.byte
      refine (rn_any rb L3 _ HR3'.out).mono ?_
      rintro e w4 ⟨o4, hy4, hn4⟩
      have HY4 := Lib.hid hy4
      have HN4 := Lib.hid hn4
      have O4 := Lib.hid o4
      clear hy4 hn4 o4
      cases h4 : tk L3 with
      | none =>
        have he := HN4.out h4
        rw [failE] at he
        subst he
        have HT := Lib.hid (show RS = none by rw [← HRS.out]; unfold readAck; rw [rb_go H2.out, rb_go H3.out]; exact rb_none h4)
        clear h4
        go_wp2_with (fail)
        exact ⟨rfl, OO3.out.trans (O4.out.mono (fun k _ h => Or.inl h)), (fun x hx => by rw [HT.out] at hx; cases hx), (fun _ => rfl)⟩
      | some x =>
        obtain ⟨more, L4⟩ := x
        obtain ⟨rfl, HR4⟩ := HY4.out _ h4
        have H4 := Lib.hid h4
        have vb4 := tk_bnd hby4 h4
        have ll4 := tk_lt hby4 h4
        dsimp only at vb4 ll4
        replace HR4 : Hid (RdB w4 rb L4) := HR4
        clear h4 hby4 HY4 HN4
        go_wp2_with (fail)
        have hby5 := HR4.out.byte
        refine (rn_any rb L4 _ HR4.out).mono ?_
        rintro e w5 ⟨o5, hy5, hn5⟩
        have HY5 := Lib.hid hy5
        have HN5 := Lib.hid hn5
        have O5 := Lib.hid o5
        clear hy5 hn5 o5
        cases h5 : tk L4 with
        | none =>
          have he := HN5.out h5
          rw [failE] at he
          subst he
          have HT := Lib.hid (show RS = none by rw [← HRS.out]; unfold readAck; rw [rb_go H2.out, rb_go H3.out, rb_go H4.out]; exact rb_none h5)
          clear h5
          go_wp2_with (fail)
          exact ⟨rfl, OO3.out.trans ((O4.out.trans O5.out).mono (fun k _ h => Or.inl h)), (fun x hx => by rw [HT.out] at hx; cases hx), (fun _ => rfl)⟩
        | some x =>
          obtain ⟨less, L5⟩ := x
          obtain ⟨rfl, HR5⟩ := HY5.out _ h5
          have H5 := Lib.hid h5
          have vb5 := tk_bnd hby5 h5
          have ll5 := tk_lt hby5 h5
          dsimp only at vb5 ll5
          replace HR5 : Hid (RdB w5 rb L5) := HR5
          clear h5 hby5 HY5 HN5
          have OO5 := Lib.hid (OO3.out.trans ((O4.out.trans O5.out).mono (fun k _ h => Or.inl h)))
          have HF5 := Lib.hid (FB.only HF3.out (O4.out.trans O5.out) hne)
          by_cases hlt5 : less ≤ top
          case neg =>
            have HT := Lib.hid (show RS = none by rw [← HRS.out]; unfold readAck; rw [rb_go H2.out, rb_go H3.out, rb_go H4.out, rb_go H5.out, if_neg hlt5]; rfl)
            have hd : decide (less ≤ top) = false := decide_eq_false hlt5
            clear hlt5
            go_wp2_with (fail)
            refine (must_false _).mono ?_
            rintro e w6 ⟨he, rfl⟩
            rw [failE] at he
            subst he
            go_wp2_with (fail)
            exact ⟨rfl, OO5.out, (fun x hx => by rw [HT.out] at hx; cases hx), (fun _ => rfl)⟩
          have hd : decide (less ≤ top) = true := decide_eq_true hlt5
          go_wp2_with (fail)
          refine (must_true _).mono ?_
          rintro e w6 ⟨rfl, rfl⟩
          have HLE5 := Lib.hid hlt5
          obtain ⟨mN, hmN⟩ : ∃ mN : Nat, more = mN := ⟨more.toNat, by omega⟩
          have HT1 := Lib.hid (show RS = Frm.rb (ackG mN [(top - less, top + 1)]) (ackEnd 2 dl) L5 by
            rw [← HRS.out, readAck_go 2 H2.out H3.out H4.out H5.out HLE5.out, hmN, Int.toNat_natCast])
          subst hmN
          have z5 := O5.out.size
          have lw5 : fb < w5.heap.size := Blk.lt HF5.out
          have hs0 : AccOk [(top - less, top + 1)] := by intro r hr; simp at hr; subst hr; dsimp only; omega
          have HS0 := Lib.hid hs0
          have HL5 := Lib.hid (show L5.length + 1 ≤ 1000000 by omega)
          have hsz5 := Lib.hid (show w.heap.size ≤ w5.heap.size from OO5.out.size)
          clear hs0
          go_wp2_with (fail)
          go_loopw [5, 7, 8, 9, 10, 11] (fun mo l _ _ _ _ wr => ∃ (j lm : Nat) (acc : List Rg) (LL : List Int) (la : Option Addr) (lc : Nat), mo = .int .u64 j ∧ l = .slice la lm lc ∧ (j : Int) ≤ 4611686018427387903 ∧ 1 ≤ lm ∧ lm ≤ 1000000 ∧ Hid (lm = acc.length) ∧ Hid (AccOk acc) ∧ Hid (acc.length + LL.length ≤ L5.length + 1) ∧ Hid (OwnS wr w5.heap.size 55 2 la lm lc (cellsR acc.reverse)) ∧ Hid (RdB wr rb LL) ∧ Hid (FB wr fb ((fm0 2).setDelay dl)) ∧ Hid (Only (fun z => z = rb ∨ z = fb) w wr) ∧ Hid (ackG mN [(top - less, top + 1)] L5 = ackG j acc LL) ∧ w5.heap.size ≤ wr.heap.size) (fun mo _ _ _ _ _ _ => (intOf mo).toNat)
          case atStart =>
            have ho := OwnS.new w5 w5.heap.size (Nat.le_refl _) 55 2 1 #[.int .u64 (top - less), .int .u64 (top + 1)] (by simp [maxLen]) rfl
            have kb := (Below.refl w5.heap.size w5).alloc (Nat.le_refl _) (.cells #[.int .u64 (top - less), .int .u64 (top + 1)] 55)
            exact ⟨mN, 1, [(top - less, top + 1)], L5, _, 1, rfl, rfl, by omega, by omega, by omega, Lib.hid rfl, HS0, Lib.hid (by simp; omega), Lib.hid ho, Lib.hid (HR5.out.below kb), Lib.hid (FB.below HF5.out kb), Lib.hid (OO5.out.trans (only_of_below kb _)), Lib.hid rfl, by simp⟩
          case round =>
            obtain ⟨j, lm, acc, LL, la, lc, rfl, rfl, hj, hlm1, hlm2, hlm, hacc, hlen, ho, hrd, hfb, hon, hspec, hzr⟩ := hrel
            rcases Nat.eq_zero_or_pos j with rfl | hj0
            · rw [show ((0 : Nat) : Int) = 0 from rfl]
              have HT2 := Lib.hid (show RS = ackEnd 2 dl acc LL by rw [HT1.out]; unfold Frm.rb; rw [hspec.out]; rfl)
              have hrs := (ho.out.rs (accok_rev hacc.out)).2
              obtain ⟨lb, hla, hlb0, hlb1⟩ : ∃ g, la = some ⟨g, 0, none⟩ ∧ w5.heap.size ≤ g ∧ g < wr.heap.size := by
                obtain ⟨g, h1, h2, h3, _⟩ := ho.out.at_ (i := 0) (by rw [cellsR_length, List.length_reverse]; have := hlm.out; omega)
                exact ⟨g, h1, h2, h3⟩
              subst hla
              have HRS2 := Lib.hid hrs
              have hfw2 : fb < wr.heap.size := by omega
              clear hrs hspec ho hlen
              obtain ⟨wb, hwb⟩ : ∃ wb, wr = wb := ⟨_, rfl⟩
              rw [hwb] at hlb1 hfw2 hzr
              have HWB : Hid (wr.heap.size = wb.heap.size) := Lib.hid (by rw [hwb])
              clear hwb
              go_wp2_with (fail)
              go_loopw [12, 82] (fun _ c wr => ∃ (i : Nat) (fa : Option Addr) (fc : Nat), c = .int .i64 i ∧ i ≤ lm ∧ Hid (OwnS wr wb.heap.size 55 2 fa i fc (cellsR (acc.take i))) ∧ Hid (FB wr fb (((fm0 2).setDelay dl).setAcks fa fc (acc.take i))) ∧ Hid (Rs wr (some ⟨lb, 0, none⟩) lc acc.reverse) ∧ Hid (RdB wr rb LL) ∧ Hid (Only (fun z => z = rb ∨ z = fb) w wr) ∧ wb.heap.size ≤ wr.heap.size) (fun _ c _ => lm - (intOf c).toNat)
              case atStart => exact ⟨0, none, 0, rfl, by omega, Lib.hid (OwnS.nil _ _ _ _), Lib.hid hfb.out, HRS2, hrd, hon, by rw [HWB.out]; exact Nat.le_refl _⟩
              case round =>
                obtain ⟨i, fa, fc, rfl, hi, hof, hff, hrl, hrdx, honx, hzx⟩ := hrel
                have htl : (acc.take i).length = i := by rw [List.length_take, Nat.min_eq_left (by have := hlm.out; omega)]
                by_cases hil : i < lm
                · have hial : i < acc.length := by have := hlm.out; omega
                  obtain ⟨t, ht⟩ : ∃ t, lm = t + 1 + i := ⟨lm - 1 - i, by omega⟩
                  obtain ⟨b1, o1, e1, hb1, c1, c2⟩ := hrl.out.at_ (i := t) (by rw [List.length_reverse]; have := hlm.out; omega)
                  cases e1
                  have hg : acc.reverse.getD t default = acc.getD i default := by
                    have hm := hlm.out
                    rw [List.getD_eq_getElem?_getD, List.getElem?_reverse (by omega), List.getD_eq_getElem?_getD, show acc.length - 1 - t = i by omega]
                  rw [hg, Nat.zero_add] at c1 c2
                  have hstep := Lib.hid (show acc.take (i + 1) = acc.take i ++ [acc.getD i default] by
                    rw [List.take_succ_eq_append_getElem hial, List.getD_eq_getElem?_getD, List.getElem?_eq_getElem hial]; rfl)
                  have hxb := hacc.out.bnd (acc.getD i default) (by rw [List.getD_eq_getElem?_getD, List.getElem?_eq_getElem hial]; exact List.getElem_mem hial)
                  obtain ⟨x1, hx1⟩ : ∃ x, (acc.getD i default).1 = x := ⟨_, rfl⟩
                  obtain ⟨y1, hy1⟩ : ∃ x, (acc.getD i default).2 = x := ⟨_, rfl⟩
                  rw [hx1] at c1 hxb
                  rw [hy1] at c2 hxb
                  have HXY := Lib.hid (show acc.getD i default = (x1, y1) from Prod.ext hx1 hy1)
                  have cc := FB.fc hff.out rfl
                  have q25 : wr.cell? ⟨fb, 25, none⟩ = some (.slice fa i fc) := by have := cc.c25; dsimp only [FM.setAcks] at this; rw [htl] at this; exact this
                  have fS : ∀ z, z < wb.heap.size → ¬ (∃ y, fa = some y ∧ y.block = z) := by rintro z hz ⟨y, hy, rfl⟩; have := (hof.out.block hy).1; omega
                  have FS := Lib.hid fS
                  have lfx : fb < wr.heap.size := by omega
                  have him : (lm : Int) - 1 - i = t := by omega
                  have HIM := Lib.hid ht
                  have htlm : t < lm := by omega
                  clear hx1 hy1 hg hial ht cc fS
                  go_wp2_with (fail)
                  refine rg_start 18 ?_
                  refine rg_besides (fun b => ∃ y, fa = some y ∧ y.block = b) fun K hx hnK hC hbes => ?_
                  have k25 := fun z : Wd K => (hx z _ 25 none lfx (FS.out fb hfw2)).trans q25
                  have k1 := fun z : Wd K => (hx z _ _ none (by show lb < wr.heap.size; omega) (FS.out lb hlb1)).trans c1
                  have k2 := fun z : Wd K => (hx z _ _ none (by show lb < wr.heap.size; omega) (FS.out lb hlb1)).trans c2
                  clear hx
                  refine rg_quiet 5 [0,1,2,3,4,5,6,7,8,9,10,11,12] hC ?_
                  simp only [pickD, List.map_cons, List.map_nil, List.getD_cons_zero, List.getD_cons_succ]; repeat (go_big_quiet_step (fail))
                  refine wpQuiet_nil ?_
                  refine rg_act 13 ?_
                  go_wp2_with (fail)
                  have b1 : Below wr.heap.size wr (wr.alloc (.cells #[.int .u64 x1, .int .u64 y1] 55)).drew := ((Below.refl _ wr).alloc (Nat.le_refl _) _).drew
                  refine ⟨hbes _ (fun z hz _ => b1.block z hz), ?_⟩
                  refine rg_act 14 ?_
                  go_wp2_with (at_builtin; refine Stop.mk ?_)
                  refine Stop.out ?_
                  refine wpList_app rg_et rfl rfl rfl rfl (hof.out.below b1) (SrcAt.cells wr.drew #[.int .u64 x1, .int .u64 y1] 55 1 2 rfl (by simp [Value.oneCell'])) (by unfold maxLen; omega) (by omega) (by have := b1.size; omega) ?_
                  intro a9 c9 w9 ho9 on9 at9
                  have hbS : ∀ z, z < wr.heap.size → ¬ (∃ y, fa = some y ∧ y.block = z) → w9.heap[z]? = wr.heap[z]? := fun z hz hs => (on9.block z (Nat.lt_of_lt_of_le hz b1.size) hs).trans (b1.block z hz)
                  have e9 : cellsR (acc.take i) ++ [Value.int .u64 x1, .int .u64 y1] = cellsR (acc.take (i + 1)) := by
                    rw [hstep.out, cellsR_append, HXY.out]; rfl
                  have HO9 : Hid (OwnS w9 wb.heap.size 55 2 a9 (i + 1) c9 (cellsR (acc.take (i + 1)))) := Lib.hid (by rw [← e9]; exact ho9)
                  have oS : ∀ z, z < wb.heap.size → ¬ (∃ y, fa = some y ∧ y.block = z) := FS.out
                  have hf9 : FB w9 fb (((fm0 2).setDelay dl).setAcks fa fc (acc.take i)) := on9.blk (Blk.below hff.out b1) (oS fb hfw2)
                  have HF9 := Lib.hid hf9
                  have HR9 := Lib.hid ((hrl.out.below b1).only on9 (fun x hx _ => by cases hx; exact oS lb hlb1))
                  have HD9 := Lib.hid ((hrdx.out.below b1).only on9 (fun z hz => oS z (by omega)))
                  have ON9 := Lib.hid (show Only (fun z => z = rb ∨ z = fb) w w9 from (honx.out.trans (only_of_below b1 _)).trans' on9 (fun z hz hs => absurd hs (oS z (by have := hsz5.out; omega))))
                  have hz9 : wb.heap.size ≤ w9.heap.size := by have := on9.size; have := b1.size; omega
                  have cc9 := FB.fc hf9 rfl
                  have g25 := cc9.free 25
                  have p25 : w9.cell? ⟨fb, 25, none⟩ = some (.slice fa i fc) := by have := cc9.c25; dsimp only [FM.setAcks] at this; rw [htl] at this; exact this
                  have hbes9 := hbes w9 (fun z hz hs => hbS z hz hs)
                  clear ho9 on9 at9 e9 hf9 cc9 oS hbS b1
                  go_wp2_with (fail)
                  refine ⟨hbes9, ?_⟩
                  refine rg_quiet 1 [15,16] hbes9 ?_
                  simp only [pickD, List.map_cons, List.map_nil, List.getD_cons_zero, List.getD_cons_succ]; repeat (go_big_quiet_step (fail))
                  refine wpQuiet_nil ?_
                  refine rg_cut 17 ?_
                  go_wp2_with (fail)
                  refine rg_end0 ?_
                  have ho10 := (Only.refl (· = fb) w9).set 25 (.slice a9 (i + 1) c9)
                  have hl9 : (acc.take (i + 1)).length = i + 1 := by rw [List.length_take, Nat.min_eq_left (by have := hlm.out; omega)]
                  have HF10 := Lib.hid (HF9.out.acks rfl a9 c9 (acc.take (i + 1)))
                  rw [hl9] at HF10
                  have HO10 := Lib.hid (HO9.out.only ho10 (fun x hx => by have := (HO9.out.block hx).1; show ¬ x.block = fb; omega))
                  have HR10 := Lib.hid (HR9.out.only ho10 (fun x hx _ => by cases hx; show ¬ lb = fb; omega))
                  have HD10 := Lib.hid (HD9.out.only ho10 (fun z hz => by have := HLT.out; show ¬ z = fb; omega))
                  have ON10 := Lib.hid (ON9.out.trans (ho10.mono (fun z _ h => Or.inr h)))
                  have hz10 : wb.heap.size ≤ (w9.setCell ⟨fb, 25, none⟩ (.slice a9 (i + 1) c9)).heap.size := by have := ho10.size; omega
                  clear hbes hbes9 hC hnK k25 k1 k2 g25 p25 ho10 hl9
                  go_wp2_with (fail)
                  exact ⟨⟨i + 1, a9, c9, by go_num, by omega, HO10, HF10, HR10, HD10, ON10, hz10⟩, by simp [intOf]; omega⟩
                · have hiE : i = lm := by omega
                  have htA : acc.take i = acc := List.take_of_length_le (by have := hlm.out; omega)
                  rw [htA] at hff hof
                  have hcc := FB.fc hff.out rfl
                  have q0 := hcc.c0
                  have hrsA := (hof.out.rs (hacc.out.bnd)).2
                  have HRSA := Lib.hid hrsA
                  have HFAR := Lib.hid (show ∀ x, fa = some x → wb.heap.size ≤ x.block from fun x hx => (hof.out.block hx).1)
                  have HSZ := Lib.hid (show w.heap.size ≤ wb.heap.size by have := hsz5.out; omega)
                  clear hiE htA hrsA
                  have HT3 := Lib.hid (show RS = some ({ fr0 2 with acks := acc, delay := dl }, LL) from HT2.out)
                  clear hcc
                  go_wp2_with (fail)
                  go_end0
                  refine ⟨honx.out, ?_, (fun h => by rw [HT3.out] at h; cases h)⟩
                  rw [HT3.out]
                  intro x y hx
                  cases hx
                  exact ⟨rfl, Lib.hid ⟨⟨_, rfl, hff.out, Nat.zero_le _, Sl.nil _ _, Sl.nil _ _, HRSA.out, (fun y hy => by cases hy), (fun y hy => by cases hy), fun y hy => Nat.le_trans HSZ.out (HFAR.out y hy)⟩, hrdx.out⟩⟩

            · obtain ⟨j, rfl⟩ : ∃ i, j = i + 1 := ⟨j - 1, by omega⟩
              obtain ⟨ab, at_, racc, hcons⟩ : ∃ ab at_ racc, acc = (ab, at_) :: racc := by
                cases acc with
                | nil => have := hlm.out; simp at this; omega
                | cons x r => exact ⟨x.1, x.2, r, rfl⟩
              obtain ⟨lb, rfl, hlb0, hlb1, hcl⟩ : ∃ g, la = some ⟨g, 0, none⟩ ∧ w5.heap.size ≤ g ∧ g < wr.heap.size ∧ wr.cell? ⟨g, (lm - 1) * 2, none⟩ = some (.int .u64 ab) := by
                have hm := hlm.out
                obtain ⟨g, h1, h2, h3, h4, _⟩ := ho.out.at_ (i := (lm - 1) * 2) (by rw [cellsR_length, List.length_reverse]; omega)
                refine ⟨g, h1, h2, h3, ?_⟩
                rw [h4, hcons]
                have e1 : cellsR ((ab, at_) :: racc).reverse = cellsR racc.reverse ++ encR (ab, at_) := by rw [List.reverse_cons, cellsR_append]; rfl
                have e2 : (lm - 1) * 2 = (cellsR racc.reverse).length := by rw [cellsR_length, List.length_reverse]; rw [hcons] at hm; simp at hm; omega
                rw [e1, e2, List.getElem?_append_right (Nat.le_refl _), Nat.sub_self]
                rfl
              have hab := hacc.out (ab, at_) (by rw [hcons]; simp)
              dsimp only at hab
              obtain ⟨l1, hl1⟩ : ∃ l1, lm = l1 + 1 := ⟨lm - 1, by omega⟩
              rw [hl1] at hcl
              rw [Nat.add_sub_cancel] at hcl
              have HCONS := Lib.hid hcons
              clear hcons
              subst hl1
              go_wp2_with (fail)
              have hby7 := hrd.out.byte
              refine (rn_any rb LL _ hrd.out).mono ?_
              rintro e w7 ⟨o7, hy7, hn7⟩
              have HY7 := Lib.hid hy7
              have HN7 := Lib.hid hn7
              have O7 := Lib.hid o7
              clear hy7 hn7 o7
              cases h7 : tk LL with
              | none =>
                have he := HN7.out h7
                rw [failE] at he
                subst he
                have HT := Lib.hid (show RS = none by rw [← HRS.out]; rw [HRS.out]; exact HT1.out.trans (rb_none (hspec.out.trans (ackG_none1 _ _ h7))))
                clear h7
                go_wp2_with (fail)
                exact ⟨rfl, hon.out.trans (O7.out.mono (fun k _ h => Or.inl h)), (fun x hx => by rw [HT.out] at hx; cases hx), (fun _ => rfl)⟩
              | some x =>
                obtain ⟨gap, L7⟩ := x
                obtain ⟨rfl, HR7⟩ := HY7.out _ h7
                have H7 := Lib.hid h7
                have vb7 := tk_bnd hby7 h7
                have ll7 := tk_lt hby7 h7
                dsimp only at vb7 ll7
                replace HR7 : Hid (RdB w7 rb L7) := HR7
                clear h7 hby7 HY7 HN7
                go_wp2_with (fail)
                have hby8 := HR7.out.byte
                refine (rn_any rb L7 _ HR7.out).mono ?_
                rintro e w8 ⟨o8, hy8, hn8⟩
                have HY8 := Lib.hid hy8
                have HN8 := Lib.hid hn8
                have O8 := Lib.hid o8
                clear hy8 hn8 o8
                cases h8 : tk L7 with
                | none =>
                  have he := HN8.out h8
                  rw [failE] at he
                  subst he
                  have HT := Lib.hid (show RS = none by rw [← HRS.out]; rw [HRS.out]; exact HT1.out.trans (rb_none (hspec.out.trans (ackG_none2 _ _ H7.out h8))))
                  clear h8
                  go_wp2_with (fail)
                  exact ⟨rfl, hon.out.trans ((O7.out.trans O8.out).mono (fun k _ h => Or.inl h)), (fun x hx => by rw [HT.out] at hx; cases hx), (fun _ => rfl)⟩
                | some x =>
                  obtain ⟨ls, L8⟩ := x
                  obtain ⟨rfl, HR8⟩ := HY8.out _ h8
                  have H8 := Lib.hid h8
                  have vb8 := tk_bnd hby8 h8
                  have ll8 := tk_lt hby8 h8
                  dsimp only at vb8 ll8
                  replace HR8 : Hid (RdB w8 rb L8) := HR8
                  clear h8 hby8 HY8 HN8
                  have ON8 := Lib.hid (hon.out.trans ((O7.out.trans O8.out).mono (fun k _ h => Or.inl h)))
                  have HA8 := Lib.hid (ackG_step j ab at_ racc LL gap ls L7 L8 H7.out H8.out)
                  rw [HCONS.out] at hspec
                  by_cases c1 : 2 ≤ ab
                  case neg =>
                    have e1 : decide (2 ≤ ab) = false := decide_eq_false c1
                    have HT := Lib.hid (show RS = none from HT1.out.trans (rb_none (hspec.out.trans (HA8.out.trans (if_neg (by omega))))))
                    clear c1
                    go_wp2_with (fail)
                    refine (must_false _).mono ?_
                    rintro e w9 ⟨he, rfl⟩
                    rw [failE] at he
                    subst he
                    go_wp2_with (fail)
                    exact ⟨rfl, ON8.out, (fun x hx => by rw [HT.out] at hx; cases hx), (fun _ => rfl)⟩
                  have e1 : decide (2 ≤ ab) = true := decide_eq_true c1
                  by_cases c2 : gap ≤ ab - 2
                  case neg =>
                    have e2 : decide (gap ≤ ab - 2) = false := decide_eq_false c2
                    have HT := Lib.hid (show RS = none from HT1.out.trans (rb_none (hspec.out.trans (HA8.out.trans (if_neg (by omega))))))
                    clear c2
                    go_wp2_with (fail)
                    refine (must_false _).mono ?_
                    rintro e w9 ⟨he, rfl⟩
                    rw [failE] at he
                    subst he
                    go_wp2_with (fail)
                    exact ⟨rfl, ON8.out, (fun x hx => by rw [HT.out] at hx; cases hx), (fun _ => rfl)⟩
                  have e2 : decide (gap ≤ ab - 2) = true := decide_eq_true c2
                  by_cases c3 : ls ≤ ab - 2 - gap
                  case neg =>
                    have e3 : decide (ls ≤ ab - 2 - gap) = false := decide_eq_false c3
                    have HT := Lib.hid (show RS = none from HT1.out.trans (rb_none (hspec.out.trans (HA8.out.trans (if_neg (by omega))))))
                    clear c3
                    go_wp2_with (fail)
                    refine (must_false _).mono ?_
                    rintro e w9 ⟨he, rfl⟩
                    rw [failE] at he
                    subst he
                    go_wp2_with (fail)
                    exact ⟨rfl, ON8.out, (fun x hx => by rw [HT.out] at hx; cases hx), (fun _ => rfl)⟩
                  have e3 : decide (ls ≤ ab - 2 - gap) = true := decide_eq_true c3
                  have HS8 := Lib.hid (hspec.out.trans (HA8.out.trans (if_pos ⟨c1, c2, c3⟩)))
                  go_wp2_with (fail)
                  refine (must_true _).mono ?_
                  rintro e w9 ⟨rfl, rfl⟩
                  go_wp2_with (at_builtin; refine Stop.mk ?_)
                  refine Stop.out ?_
                  have o78 := O7.out.trans O8.out
                  have ho8 := ho.out.only o78 (fun x hx => by cases hx; have := HLT.out; show ¬ lb = rb; omega)
                  have hz8 := o78.size
                  have kb := (Below.refl w8.heap.size w8).alloc (Nat.le_refl _) (.cells #[.int .u64 (ab - 1 - gap - 1 - ls), .int .u64 (ab - 1 - gap)] 55)
                  have hl2 : l1 + 1 + 1 ≤ 1000000 := by have := hlen.out; have := hlm.out; have := HL5.out; omega
                  refine wpList_app rg_et rfl rfl rfl rfl (ho8.below kb) (SrcAt.cells w8 #[.int .u64 (ab - 1 - gap - 1 - ls), .int .u64 (ab - 1 - gap)] 55 1 2 rfl (by simp [Value.oneCell'])) (by unfold maxLen; omega) (by omega) (by simp; omega) ?_
                  intro a9 c9 w9 ho9 on9 at9
                  have e9 : cellsR acc.reverse ++ [Value.int .u64 (ab - 1 - gap - 1 - ls), .int .u64 (ab - 1 - gap)] = cellsR ((ab - 2 - gap - ls, ab - 1 - gap) :: acc).reverse := by
                    rw [List.reverse_cons, cellsR_append, show ab - 1 - gap - 1 - ls = ab - 2 - gap - ls by omega]; rfl
                  have hnS : ∀ z, z ≤ fb → ¬ (∃ y, (some ⟨lb, 0, none⟩ : Option Addr) = some y ∧ y.block = z) := by
                    rintro z hz ⟨y, hy, rfl⟩; cases hy; dsimp only at hz; omega
                  have HO9 : Hid (OwnS w9 w5.heap.size 55 2 a9 (l1 + 1 + 1) c9 (cellsR ((ab - 2 - gap - ls, ab - 1 - gap) :: acc).reverse)) := Lib.hid (by rw [← e9]; exact ho9)
                  have HR9 := Lib.hid ((HR8.out.below kb).only on9 (fun z hz => hnS z (by omega)))
                  have HF9 := Lib.hid (show FB w9 fb _ from on9.blk (Blk.below (FB.only hfb.out o78 hne) kb) (hnS fb (Nat.le_refl _)))
                  have ON9 := Lib.hid (show Only (fun z => z = rb ∨ z = fb) w w9 from (ON8.out.trans (only_of_below kb _)).trans' on9 (fun z hz hs => by obtain ⟨y, hy, h2⟩ := hs; cases hy; dsimp only at h2; have := hsz5.out; omega))
                  have HLM9 := Lib.hid (show l1 + 1 + 1 = ((ab - 2 - gap - ls, ab - 1 - gap) :: acc).length by rw [List.length_cons, ← hlm.out])
                  have HAC9 := Lib.hid (show AccOk ((ab - 2 - gap - ls, ab - 1 - gap) :: acc) from fun r hr => by
                    rcases List.mem_cons.1 hr with rfl | hr
                    · dsimp only; omega
                    · exact hacc.out r hr)
                  have HLN9 := Lib.hid (show ((ab - 2 - gap - ls, ab - 1 - gap) :: acc).length + L8.length ≤ L5.length + 1 by rw [List.length_cons]; have := hlen.out; omega)
                  have HSP9 := Lib.hid (show ackG mN [(top - less, top + 1)] L5 = ackG j ((ab - 2 - gap - ls, ab - 1 - gap) :: acc) L8 by rw [HCONS.out]; exact HS8.out)
                  have hz9 : w5.heap.size ≤ w9.heap.size := by have := on9.size; simp at this; omega
                  clear ho9 on9 at9 e9 hnS kb ho8 o78
                  go_wp2_with (fail)
                  exact ⟨⟨j, l1 + 1 + 1, _, L8, a9, c9, by go_num, rfl, by omega, by omega, hl2, HLM9, HAC9, HLN9, HO9, HR9, HF9, ON9, HSP9, hz9⟩, by simp [intOf]⟩

set_option maxHeartbeats 4000000 in
set_option maxRecDepth 100000 in
theorem racks_3 (rb fb : Nat) (L : List Int) (w : World) (h : RdB w rb L) (hl : L.length ≤ 1000000) (hf : FB w fb (fm0 3)) (hlt : rb < fb) :
    Calls Try.prog 44 #[.pointer (some ⟨rb, 0, none⟩), .pointer (some ⟨fb, 0, none⟩)] w fun e w' => Only (fun z => z = rb ∨ z = fb) w w' ∧ (∀ x, readAck 3 L = some x → e = .returned (.tuple #[]) ∧ Hid (RQ w' rb fb w.heap.size x.1 x.2)) ∧ (readAck 3 L = none → e = failE) := by
  have HR := Lib.hid h
  have HF := Lib.hid hf
  have HLT := Lib.hid hlt
  have hne : fb ≠ rb := by omega
  have hfw : fb < w.heap.size := Blk.lt hf
  obtain ⟨RS, hRS⟩ : ∃ RS, readAck 3 L = RS := ⟨_, rfl⟩
  have HRS := Lib.hid hRS
  rw [hRS]
  clear h hf hRS
  go_enter Try.func44, Try.ntmps44
  go_wp2_with (fail)
  have hby2 := HR.out.byte
  refine (rn_any rb L _ HR.out).mono ?_
  rintro e w2 ⟨o2, hy2, hn2⟩
  have HY2 := Lib.hid hy2
  have HN2 := Lib.hid hn2
  have O2 := Lib.hid o2
  clear hy2 hn2 o2
  cases h2 : tk L with
  | none =>
    have he := HN2.out h2
    rw [failE] at he
    subst he
    have HT := Lib.hid (show RS = none by rw [← HRS.out]; unfold readAck; exact rb_none h2)
    clear h2
    go_wp2_with (fail)
    exact ⟨rfl, O2.out.mono (fun k _ h => Or.inl h), (fun x hx => by rw [HT.out] at hx; cases hx), (fun _ => rfl)⟩
  | some x =>
    obtain ⟨top, L2⟩ := x
    obtain ⟨rfl, HR2⟩ := HY2.out _ h2
    have H2 := Lib.hid h2
    have vb2 := tk_bnd hby2 h2
    have ll2 := tk_lt hby2 h2
    dsimp only at vb2 ll2
    replace HR2 : Hid (RdB w2 rb L2) := HR2
    clear h2 hby2 HY2 HN2
    go_wp2_with (fail)
    have hby3 := HR2.out.byte
    refine (rn_any rb L2 _ HR2.out).mono ?_
    rintro e w3 ⟨o3, hy3, hn3⟩
    have HY3 := Lib.hid hy3
    have HN3 := Lib.hid hn3
    have O3 := Lib.hid o3
    clear hy3 hn3 o3
    cases h3 : tk L2 with
    | none =>
      have he := HN3.out h3
      rw [failE] at he
      subst he
      have HT := Lib.hid (show RS = none by rw [← HRS.out]; unfold readAck; rw [rb_go H2.out]; exact rb_none h3)
      clear h3
      go_wp2_with (fail)
      exact ⟨rfl, (O2.out.trans O3.out).mono (fun k _ h => Or.inl h), (fun x hx => by rw [HT.out] at hx; cases hx), (fun _ => rfl)⟩
    | some x =>
      obtain ⟨dl, L3⟩ := x
      obtain ⟨rfl, HR3⟩ := HY3.out _ h3
      have H3 := Lib.hid h3
      have vb3 := tk_bnd hby3 h3
      have ll3 := tk_lt hby3 h3
      dsimp only at vb3 ll3
      replace HR3 : Hid (RdB w3 rb L3) := HR3
      clear h3 hby3 HY3 HN3
      have hf3 := HF.out.only (O2.out.trans O3.out) hne
      have cc3 := hf3.fc rfl
      have p26 := cc3.c26
      have g26 := cc3.free 26
      have HF3 := Lib.hid (hf3.delay rfl dl)
      have onl := Lib.hid ((Only.refl (· = fb) w3).set 26 (.int .u64 dl))
      have HR3' := Lib.hid (HR3.out.only onl.out (fun z hz => by have := HLT.out; omega))
      have OO3 := Lib.hid (((O2.out.trans O3.out).mono (fun k _ h => Or.inl h) : Only (fun z => z = rb ∨ z = fb) w w3).trans (onl.out.mono (fun k _ h => Or.inr h)))
      clear hf3 cc3
      go_wp2_with (fail)
      have hby4 := HR3'.out.byte
      refine (rn_any rb L3 _ HR3'.out).mono ?_
      rintro e w4 ⟨o4, hy4, hn4⟩
      have HY4 := Lib.hid hy4
      have HN4 := Lib.hid hn4
      have O4 := Lib.hid o4
      clear hy4 hn4 o4
      cases h4 : tk L3 with
      | none =>
        have he := HN4.out h4
        rw [failE] at he
        subst he
        have HT := Lib.hid (show RS = none by rw [← HRS.out]; unfold readAck; rw [rb_go H2.out, rb_go H3.out]; exact rb_none h4)
        clear h4
        go_wp2_with (fail)
        exact ⟨rfl, OO3.out.trans (O4.out.mono (fun k _ h => Or.inl h)), (fun x hx => by rw [HT.out] at hx; cases hx), (fun _ => rfl)⟩
      | some x =>
        obtain ⟨more, L4⟩ := x
        obtain ⟨rfl, HR4⟩ := HY4.out _ h4
        have H4 := Lib.hid h4
        have vb4 := tk_bnd hby4 h4
        have ll4 := tk_lt hby4 h4
        dsimp only at vb4 ll4
        replace HR4 : Hid (RdB w4 rb L4) := HR4
        clear h4 hby4 HY4 HN4
        go_wp2_with (fail)
        have hby5 := HR4.out.byte
        refine (rn_any rb L4 _ HR4.out).mono ?_
        rintro e w5 ⟨o5, hy5, hn5⟩
        have HY5 := Lib.hid hy5
        have HN5 := Lib.hid hn5
        have O5 := Lib.hid o5
        clear hy5 hn5 o5
        cases h5 : tk L4 with
        | none =>
          have he := HN5.out h5
          rw [failE] at he
          subst he
          have HT := Lib.hid (show RS = none by rw [← HRS.out]; unfold readAck; rw [rb_go H2.out, rb_go H3.out, rb_go H4.out]; exact rb_none h5)
          clear h5
          go_wp2_with (fail)
          exact ⟨rfl, OO3.out.trans ((O4.out.trans O5.out).mono (fun k _ h => Or.inl h)), (fun x hx => by rw [HT.out] at hx; cases hx), (fun _ => rfl)⟩
        | some x =>
          obtain ⟨less, L5⟩ := x
          obtain ⟨rfl, HR5⟩ := HY5.out _ h5
          have H5 := Lib.hid h5
          have vb5 := tk_bnd hby5 h5
          have ll5 := tk_lt hby5 h5
          dsimp only at vb5 ll5
          replace HR5 : Hid (RdB w5 rb L5) := HR5
          clear h5 hby5 HY5 HN5
          have OO5 := Lib.hid (OO3.out.trans ((O4.out.trans O5.out).mono (fun k _ h => Or.inl h)))
          have HF5 := Lib.hid (FB.only HF3.out (O4.out.trans O5.out) hne)
          by_cases hlt5 : less ≤ top
          case neg =>
            have HT := Lib.hid (show RS = none by rw [← HRS.out]; unfold readAck; rw [rb_go H2.out, rb_go H3.out, rb_go H4.out, rb_go H5.out, if_neg hlt5]; rfl)
            have hd : decide (less ≤ top) = false := decide_eq_false hlt5
            clear hlt5
            go_wp2_with (fail)
            refine (must_false _).mono ?_
            rintro e w6 ⟨he, rfl⟩
            rw [failE] at he
            subst he
            go_wp2_with (fail)
            exact ⟨rfl, OO5.out, (fun x hx => by rw [HT.out] at hx; cases hx), (fun _ => rfl)⟩
          have hd : decide (less ≤ top) = true := decide_eq_true hlt5
          go_wp2_with (fail)
          refine (must_true _).mono ?_
          rintro e w6 ⟨rfl, rfl⟩
          have HLE5 := Lib.hid hlt5
          obtain ⟨mN, hmN⟩ : ∃ mN : Nat, more = mN := ⟨more.toNat, by omega⟩
          have HT1 := Lib.hid (show RS = Frm.rb (ackG mN [(top - less, top + 1)]) (ackEnd 3 dl) L5 by
            rw [← HRS.out, readAck_go 3 H2.out H3.out H4.out H5.out HLE5.out, hmN, Int.toNat_natCast])
          subst hmN
          have z5 := O5.out.size
          have lw5 : fb < w5.heap.size := Blk.lt HF5.out
          have hs0 : AccOk [(top - less, top + 1)] := by intro r hr; simp at hr; subst hr; dsimp only; omega
          have HS0 := Lib.hid hs0
          have HL5 := Lib.hid (show L5.length + 1 ≤ 1000000 by omega)
          have hsz5 := Lib.hid (show w.heap.size ≤ w5.heap.size from OO5.out.size)
          clear hs0
          go_wp2_with (fail)
          go_loopw [5, 7, 8, 9, 10, 11] (fun mo l _ _ _ _ wr => ∃ (j lm : Nat) (acc : List Rg) (LL : List Int) (la : Option Addr) (lc : Nat), mo = .int .u64 j ∧ l = .slice la lm lc ∧ (j : Int) ≤ 4611686018427387903 ∧ 1 ≤ lm ∧ lm ≤ 1000000 ∧ Hid (lm = acc.length) ∧ Hid (AccOk acc) ∧ Hid (acc.length + LL.length ≤ L5.length + 1) ∧ Hid (OwnS wr w5.heap.size 55 2 la lm lc (cellsR acc.reverse)) ∧ Hid (RdB wr rb LL) ∧ Hid (FB wr fb ((fm0 3).setDelay dl)) ∧ Hid (Only (fun z => z = rb ∨ z = fb) w wr) ∧ Hid (ackG mN [(top - less, top + 1)] L5 = ackG j acc LL) ∧ w5.heap.size ≤ wr.heap.size) (fun mo _ _ _ _ _ _ => (intOf mo).toNat)
          case atStart =>
            have ho := OwnS.new w5 w5.heap.size (Nat.le_refl _) 55 2 1 #[.int .u64 (top - less), .int .u64 (top + 1)] (by simp [maxLen]) rfl
            have kb := (Below.refl w5.heap.size w5).alloc (Nat.le_refl _) (.cells #[.int .u64 (top - less), .int .u64 (top + 1)] 55)
            exact ⟨mN, 1, [(top - less, top + 1)], L5, _, 1, rfl, rfl, by omega, by omega, by omega, Lib.hid rfl, HS0, Lib.hid (by simp; omega), Lib.hid ho, Lib.hid (HR5.out.below kb), Lib.hid (FB.below HF5.out kb), Lib.hid (OO5.out.trans (only_of_below kb _)), Lib.hid rfl, by simp⟩
          case round =>
            obtain ⟨j, lm, acc, LL, la, lc, rfl, rfl, hj, hlm1, hlm2, hlm, hacc, hlen, ho, hrd, hfb, hon, hspec, hzr⟩ := hrel
            rcases Nat.eq_zero_or_pos j with rfl | hj0
            · rw [show ((0 : Nat) : Int) = 0 from rfl]
              have HT2 := Lib.hid (show RS = ackEnd 3 dl acc LL by rw [HT1.out]; unfold Frm.rb; rw [hspec.out]; rfl)
              have hrs := (ho.out.rs (accok_rev hacc.out)).2
              obtain ⟨lb, hla, hlb0, hlb1⟩ : ∃ g, la = some ⟨g, 0, none⟩ ∧ w5.heap.size ≤ g ∧ g < wr.heap.size := by
                obtain ⟨g, h1, h2, h3, _⟩ := ho.out.at_ (i := 0) (by rw [cellsR_length, List.length_reverse]; have := hlm.out; omega)
                exact ⟨g, h1, h2, h3⟩
              subst hla
              have HRS2 := Lib.hid hrs
              have hfw2 : fb < wr.heap.size := by omega
              clear hrs hspec ho hlen
              obtain ⟨wb, hwb⟩ : ∃ wb, wr = wb := ⟨_, rfl⟩
              rw [hwb] at hlb1 hfw2 hzr
              have HWB : Hid (wr.heap.size = wb.heap.size) := Lib.hid (by rw [hwb])
              clear hwb
              go_wp2_with (fail)
              go_loopw [12, 82] (fun _ c wr => ∃ (i : Nat) (fa : Option Addr) (fc : Nat), c = .int .i64 i ∧ i ≤ lm ∧ Hid (OwnS wr wb.heap.size 55 2 fa i fc (cellsR (acc.take i))) ∧ Hid (FB wr fb (((fm0 3).setDelay dl).setAcks fa fc (acc.take i))) ∧ Hid (Rs wr (some ⟨lb, 0, none⟩) lc acc.reverse) ∧ Hid (RdB wr rb LL) ∧ Hid (Only (fun z => z = rb ∨ z = fb) w wr) ∧ wb.heap.size ≤ wr.heap.size) (fun _ c _ => lm - (intOf c).toNat)
              case atStart => exact ⟨0, none, 0, rfl, by omega, Lib.hid (OwnS.nil _ _ _ _), Lib.hid hfb.out, HRS2, hrd, hon, by rw [HWB.out]; exact Nat.le_refl _⟩
              case round =>
                obtain ⟨i, fa, fc, rfl, hi, hof, hff, hrl, hrdx, honx, hzx⟩ := hrel
                have htl : (acc.take i).length = i := by rw [List.length_take, Nat.min_eq_left (by have := hlm.out; omega)]
                by_cases hil : i < lm
                · have hial : i < acc.length := by have := hlm.out; omega
                  obtain ⟨t, ht⟩ : ∃ t, lm = t + 1 + i := ⟨lm - 1 - i, by omega⟩
                  obtain ⟨b1, o1, e1, hb1, c1, c2⟩ := hrl.out.at_ (i := t) (by rw [List.length_reverse]; have := hlm.out; omega)
                  cases e1
                  have hg : acc.reverse.getD t default = acc.getD i default := by
                    have hm := hlm.out
                    rw [List.getD_eq_getElem?_getD, List.getElem?_reverse (by omega), List.getD_eq_getElem?_getD, show acc.length - 1 - t = i by omega]
                  rw [hg, Nat.zero_add] at c1 c2
                  have hstep := Lib.hid (show acc.take (i + 1) = acc.take i ++ [acc.getD i default] by
                    rw [List.take_succ_eq_append_getElem hial, List.getD_eq_getElem?_getD, List.getElem?_eq_getElem hial]; rfl)
                  have hxb := hacc.out.bnd (acc.getD i default) (by rw [List.getD_eq_getElem?_getD, List.getElem?_eq_getElem hial]; exact List.getElem_mem hial)
                  obtain ⟨x1, hx1⟩ : ∃ x, (acc.getD i default).1 = x := ⟨_, rfl⟩
                  obtain ⟨y1, hy1⟩ : ∃ x, (acc.getD i default).2 = x := ⟨_, rfl⟩
                  rw [hx1] at c1 hxb
                  rw [hy1] at c2 hxb
                  have HXY := Lib.hid (show acc.getD i default = (x1, y1) from Prod.ext hx1 hy1)
                  have cc := FB.fc hff.out rfl
                  have q25 : wr.cell? ⟨fb, 25, none⟩ = some (.slice fa i fc) := by have := cc.c25; dsimp only [FM.setAcks] at this; rw [htl] at this; exact this
                  have fS : ∀ z, z < wb.heap.size → ¬ (∃ y, fa = some y ∧ y.block = z) := by rintro z hz ⟨y, hy, rfl⟩; have := (hof.out.block hy).1; omega
                  have FS := Lib.hid fS
                  have lfx : fb < wr.heap.size := by omega
                  have him : (lm : Int) - 1 - i = t := by omega
                  have HIM := Lib.hid ht
                  have htlm : t < lm := by omega
                  clear hx1 hy1 hg hial ht cc fS
                  go_wp2_with (fail)
                  refine rg_start 18 ?_
                  refine rg_besides (fun b => ∃ y, fa = some y ∧ y.block = b) fun K hx hnK hC hbes => ?_
                  have k25 := fun z : Wd K => (hx z _ 25 none lfx (FS.out fb hfw2)).trans q25
                  have k1 := fun z : Wd K => (hx z _ _ none (by show lb < wr.heap.size; omega) (FS.out lb hlb1)).trans c1
                  have k2 := fun z : Wd K => (hx z _ _ none (by show lb < wr.heap.size; omega) (FS.out lb hlb1)).trans c2
                  clear hx
                  refine rg_quiet 5 [0,1,2,3,4,5,6,7,8,9,10,11,12] hC ?_
                  simp only [pickD, List.map_cons, List.map_nil, List.getD_cons_zero, List.getD_cons_succ]; repeat (go_big_quiet_step (fail))
                  refine wpQuiet_nil ?_
                  refine rg_act 13 ?_
                  go_wp2_with (fail)
                  have b1 : Below wr.heap.size wr (wr.alloc (.cells #[.int .u64 x1, .int .u64 y1] 55)).drew := ((Below.refl _ wr).alloc (Nat.le_refl _) _).drew
                  refine ⟨hbes _ (fun z hz _ => b1.block z hz), ?_⟩
                  refine rg_act 14 ?_
                  go_wp2_with (at_builtin; refine Stop.mk ?_)
                  refine Stop.out ?_
                  refine wpList_app rg_et rfl rfl rfl rfl (hof.out.below b1) (SrcAt.cells wr.drew #[.int .u64 x1, .int .u64 y1] 55 1 2 rfl (by simp [Value.oneCell'])) (by unfold maxLen; omega) (by omega) (by have := b1.size; omega) ?_
                  intro a9 c9 w9 ho9 on9 at9
                  have hbS : ∀ z, z < wr.heap.size → ¬ (∃ y, fa = some y ∧ y.block = z) → w9.heap[z]? = wr.heap[z]? := fun z hz hs => (on9.block z (Nat.lt_of_lt_of_le hz b1.size) hs).trans (b1.block z hz)
                  have e9 : cellsR (acc.take i) ++ [Value.int .u64 x1, .int .u64 y1] = cellsR (acc.take (i + 1)) := by
                    rw [hstep.out, cellsR_append, HXY.out]; rfl
                  have HO9 : Hid (OwnS w9 wb.heap.size 55 2 a9 (i + 1) c9 (cellsR (acc.take (i + 1)))) := Lib.hid (by rw [← e9]; exact ho9)
                  have oS : ∀ z, z < wb.heap.size → ¬ (∃ y, fa = some y ∧ y.block = z) := FS.out
                  have hf9 : FB w9 fb (((fm0 3).setDelay dl).setAcks fa fc (acc.take i)) := on9.blk (Blk.below hff.out b1) (oS fb hfw2)
                  have HF9 := Lib.hid hf9
                  have HR9 := Lib.hid ((hrl.out.below b1).only on9 (fun x hx _ => by cases hx; exact oS lb hlb1))
                  have HD9 := Lib.hid ((hrdx.out.below b1).only on9 (fun z hz => oS z (by omega)))
                  have ON9 := Lib.hid (show Only (fun z => z = rb ∨ z = fb) w w9 from (honx.out.trans (only_of_below b1 _)).trans' on9 (fun z hz hs => absurd hs (oS z (by have := hsz5.out; omega))))
                  have hz9 : wb.heap.size ≤ w9.heap.size := by have := on9.size; have := b1.size; omega
                  have cc9 := FB.fc hf9 rfl
                  have g25 := cc9.free 25
                  have p25 : w9.cell? ⟨fb, 25, none⟩ = some (.slice fa i fc) := by have := cc9.c25; dsimp only [FM.setAcks] at this; rw [htl] at this; exact this
                  have hbes9 := hbes w9 (fun z hz hs => hbS z hz hs)
                  clear ho9 on9 at9 e9 hf9 cc9 oS hbS b1
                  go_wp2_with (fail)
                  refine ⟨hbes9, ?_⟩
                  refine rg_quiet 1 [15,16] hbes9 ?_
                  simp only [pickD, List.map_cons, List.map_nil, List.getD_cons_zero, List.getD_cons_succ]; repeat (go_big_quiet_step (fail))
                  refine wpQuiet_nil ?_
                  refine rg_cut 17 ?_
                  go_wp2_with (fail)
                  refine rg_end0 ?_
                  have ho10 := (Only.refl (· = fb) w9).set 25 (.slice a9 (i + 1) c9)
                  have hl9 : (acc.take (i + 1)).length = i + 1 := by rw [List.length_take, Nat.min_eq_left (by have := hlm.out; omega)]
                  have HF10 := Lib.hid (HF9.out.acks rfl a9 c9 (acc.take (i + 1)))
                  rw [hl9] at HF10
                  have HO10 := Lib.hid (HO9.out.only ho10 (fun x hx => by have := (HO9.out.block hx).1; show ¬ x.block = fb; omega))
                  have HR10 := Lib.hid (HR9.out.only ho10 (fun x hx _ => by cases hx; show ¬ lb = fb; omega))
                  have HD10 := Lib.hid (HD9.out.only ho10 (fun z hz => by have := HLT.out; show ¬ z = fb; omega))
                  have ON10 := Lib.hid (ON9.out.trans (ho10.mono (fun z _ h => Or.inr h)))
                  have hz10 : wb.heap.size ≤ (w9.setCell ⟨fb, 25, none⟩ (.slice a9 (i + 1) c9)).heap.size := by have := ho10.size; omega
                  clear hbes hbes9 hC hnK k25 k1 k2 g25 p25 ho10 hl9
                  go_wp2_with (fail)
                  exact ⟨⟨i + 1, a9, c9, by go_num, by omega, HO10, HF10, HR10, HD10, ON10, hz10⟩, by simp [intOf]; omega⟩
                · have hiE : i = lm := by omega
                  have htA : acc.take i = acc := List.take_of_length_le (by have := hlm.out; omega)
                  rw [htA] at hff hof
                  have hcc := FB.fc hff.out rfl
                  have q0 := hcc.c0
                  have hrsA := (hof.out.rs (hacc.out.bnd)).2
                  have HRSA := Lib.hid hrsA
                  have HFAR := Lib.hid (show ∀ x, fa = some x → wb.heap.size ≤ x.block from fun x hx => (hof.out.block hx).1)
                  have HSZ := Lib.hid (show w.heap.size ≤ wb.heap.size by have := hsz5.out; omega)
                  clear hiE htA hrsA
                  clear hcc
                  go_wp2_with (fail)
                  have hbyA := hrdx.out.byte
                  refine (rn_any rb LL _ hrdx.out).mono ?_
                  rintro e wA ⟨oA, hyA, hnA⟩
                  have HYA := Lib.hid hyA
                  have HNA := Lib.hid hnA
                  have OA := Lib.hid oA
                  clear hyA hnA oA
                  cases hA : tk LL with
                  | none =>
                    have he := HNA.out hA
                    rw [failE] at he
                    subst he
                    have HT := Lib.hid (show RS = none by rw [← HRS.out]; rw [HRS.out, HT2.out]; unfold ackEnd; rw [if_pos rfl]; exact rb_none hA)
                    clear hA
                    go_wp2_with (fail)
                    exact ⟨rfl, honx.out.trans (OA.out.mono (fun k _ h => Or.inl h)), (fun x hx => by rw [HT.out] at hx; cases hx), (fun _ => rfl)⟩
                  | some x =>
                    obtain ⟨e0, LA⟩ := x
                    obtain ⟨rfl, HRA⟩ := HYA.out _ hA
                    have HA := Lib.hid hA
                    have vbA := tk_bnd hbyA hA
                    have llA := tk_lt hbyA hA
                    dsimp only at vbA llA
                    replace HRA : Hid (RdB wA rb LA) := HRA
                    clear hA hbyA HYA HNA
                    go_wp2_with (fail)
                    have hbyB := HRA.out.byte
                    refine (rn_any rb LA _ HRA.out).mono ?_
                    rintro e wB ⟨oB, hyB, hnB⟩
                    have HYB := Lib.hid hyB
                    have HNB := Lib.hid hnB
                    have OB := Lib.hid oB
                    clear hyB hnB oB
                    cases hB : tk LA with
                    | none =>
                      have he := HNB.out hB
                      rw [failE] at he
                      subst he
                      have HT := Lib.hid (show RS = none by rw [← HRS.out]; rw [HRS.out, HT2.out]; unfold ackEnd; rw [if_pos rfl]; rw [rb_go HA.out]; exact rb_none hB)
                      clear hB
                      go_wp2_with (fail)
                      exact ⟨rfl, honx.out.trans ((OA.out.trans OB.out).mono (fun k _ h => Or.inl h)), (fun x hx => by rw [HT.out] at hx; cases hx), (fun _ => rfl)⟩
                    | some x =>
                      obtain ⟨e1, LB⟩ := x
                      obtain ⟨rfl, HRB⟩ := HYB.out _ hB
                      have HB := Lib.hid hB
                      have vbB := tk_bnd hbyB hB
                      have llB := tk_lt hbyB hB
                      dsimp only at vbB llB
                      replace HRB : Hid (RdB wB rb LB) := HRB
                      clear hB hbyB HYB HNB
                      go_wp2_with (fail)
                      have hbyC := HRB.out.byte
                      refine (rn_any rb LB _ HRB.out).mono ?_
                      rintro e wC ⟨oC, hyC, hnC⟩
                      have HYC := Lib.hid hyC
                      have HNC := Lib.hid hnC
                      have OC := Lib.hid oC
                      clear hyC hnC oC
                      cases hC : tk LB with
                      | none =>
                        have he := HNC.out hC
                        rw [failE] at he
                        subst he
                        have HT := Lib.hid (show RS = none by rw [← HRS.out]; rw [HRS.out, HT2.out]; unfold ackEnd; rw [if_pos rfl]; rw [rb_go HA.out, rb_go HB.out]; exact rb_none hC)
                        clear hC
                        go_wp2_with (fail)
                        exact ⟨rfl, honx.out.trans (((OA.out.trans OB.out).trans OC.out).mono (fun k _ h => Or.inl h)), (fun x hx => by rw [HT.out] at hx; cases hx), (fun _ => rfl)⟩
                      | some x =>
                        obtain ⟨e2, LC⟩ := x
                        obtain ⟨rfl, HRC⟩ := HYC.out _ hC
                        have HC := Lib.hid hC
                        have vbC := tk_bnd hbyC hC
                        have llC := tk_lt hbyC hC
                        dsimp only at vbC llC
                        replace HRC : Hid (RdB wC rb LC) := HRC
                        clear hC hbyC HYC HNC
                        have oABC := (OA.out.trans OB.out).trans OC.out
                        have hfC := FB.only hff.out oABC hne
                        have HT3 := Lib.hid (show RS = some ({ fr0 3 with acks := acc, delay := dl, e0 := e0, e1 := e1, e2 := e2 }, LC) by rw [HT2.out]; unfold ackEnd; rw [if_pos rfl, rb_go HA.out, rb_go HB.out, rb_go HC.out]; rfl)
                        have HFC := Lib.hid hfC
                        have OABC := Lib.hid oABC
                        clear hfC oABC
                        go_wp2_with (with_reducible refine stop_ste ?_)
                        refine Stop.out ?_
                        refine wpList_storePart rfl rfl (((fm0 3).setDelay dl).setAcks fa fc acc).list [.int .u64 e0, .int .u64 e1, .int .u64 e2] rfl rfl HFC.out ecn_size (by rw [FM.length _ rfl]; simp) (by simp [Value.oneCell']) ?_
                        intro wD hbD oD
                        have hfD := FB.stEcn (p := (((fm0 3).setDelay dl).setAcks fa fc acc)) rfl e0 e1 e2 hbD
                        have HFD := Lib.hid hfD
                        have hcn : ¬ (fun x => x = fb) rb := fun h => hne h.symm
                        have HRD := Lib.hid (HRC.out.only oD (fun z hz => by have := HLT.out; omega))
                        have hltB : ∀ x, fa = some x → 0 < acc.length → ¬ (x.block = rb) := fun x hx _ => by have := HFAR.out x hx; have := HLT.out; omega
                        have hltC : ∀ x, fa = some x → 0 < acc.length → ¬ (x.block = fb) := fun x hx _ => by have := HFAR.out x hx; omega
                        have HRSD := Lib.hid ((HRSA.out.only OABC.out hltB).only oD hltC)
                        have OND := Lib.hid ((honx.out.trans (OABC.out.mono (fun k _ h => Or.inl h))).trans (oD.mono (fun z _ h => Or.inr h)))
                        clear hbD oD hfD hltB hltC
                        go_wp2_with (fail)
                        go_end0
                        refine ⟨OND.out, ?_, (fun h => by rw [HT3.out] at h; cases h)⟩
                        rw [HT3.out]
                        intro x y hx
                        cases hx
                        exact ⟨rfl, Lib.hid ⟨⟨_, rfl, HFD.out, Nat.zero_le _, Sl.nil _ _, Sl.nil _ _, HRSD.out, (fun y hy => by cases hy), (fun y hy => by cases hy), fun y hy => Nat.le_trans HSZ.out (HFAR.out y hy)⟩, HRD.out⟩⟩

            · obtain ⟨j, rfl⟩ : ∃ i, j = i + 1 := ⟨j - 1, by omega⟩
              obtain ⟨ab, at_, racc, hcons⟩ : ∃ ab at_ racc, acc = (ab, at_) :: racc := by
                cases acc with
                | nil => have := hlm.out; simp at this; omega
                | cons x r => exact ⟨x.1, x.2, r, rfl⟩
              obtain ⟨lb, rfl, hlb0, hlb1, hcl⟩ : ∃ g, la = some ⟨g, 0, none⟩ ∧ w5.heap.size ≤ g ∧ g < wr.heap.size ∧ wr.cell? ⟨g, (lm - 1) * 2, none⟩ = some (.int .u64 ab) := by
                have hm := hlm.out
                obtain ⟨g, h1, h2, h3, h4, _⟩ := ho.out.at_ (i := (lm - 1) * 2) (by rw [cellsR_length, List.length_reverse]; omega)
                refine ⟨g, h1, h2, h3, ?_⟩
                rw [h4, hcons]
                have e1 : cellsR ((ab, at_) :: racc).reverse = cellsR racc.reverse ++ encR (ab, at_) := by rw [List.reverse_cons, cellsR_append]; rfl
                have e2 : (lm - 1) * 2 = (cellsR racc.reverse).length := by rw [cellsR_length, List.length_reverse]; rw [hcons] at hm; simp at hm; omega
                rw [e1, e2, List.getElem?_append_right (Nat.le_refl _), Nat.sub_self]
                rfl
              have hab := hacc.out (ab, at_) (by rw [hcons]; simp)
              dsimp only at hab
              obtain ⟨l1, hl1⟩ : ∃ l1, lm = l1 + 1 := ⟨lm - 1, by omega⟩
              rw [hl1] at hcl
              rw [Nat.add_sub_cancel] at hcl
              have HCONS := Lib.hid hcons
              clear hcons
              subst hl1
              go_wp2_with (fail)
              have hby7 := hrd.out.byte
              refine (rn_any rb LL _ hrd.out).mono ?_
              rintro e w7 ⟨o7, hy7, hn7⟩
              have HY7 := Lib.hid hy7
              have HN7 := Lib.hid hn7
              have O7 := Lib.hid o7
              clear hy7 hn7 o7
              cases h7 : tk LL with
              | none =>
                have he := HN7.out h7
                rw [failE] at he
                subst he
                have HT := Lib.hid (show RS = none by rw [← HRS.out]; rw [HRS.out]; exact HT1.out.trans (rb_none (hspec.out.trans (ackG_none1 _ _ h7))))
                clear h7
                go_wp2_with (fail)
                exact ⟨rfl, hon.out.trans (O7.out.mono (fun k _ h => Or.inl h)), (fun x hx => by rw [HT.out] at hx; cases hx), (fun _ => rfl)⟩
              | some x =>
                obtain ⟨gap, L7⟩ := x
                obtain ⟨rfl, HR7⟩ := HY7.out _ h7
                have H7 := Lib.hid h7
                have vb7 := tk_bnd hby7 h7
                have ll7 := tk_lt hby7 h7
                dsimp only at vb7 ll7
                replace HR7 : Hid (RdB w7 rb L7) := HR7
                clear h7 hby7 HY7 HN7
                go_wp2_with (fail)
                have hby8 := HR7.out.byte
                refine (rn_any rb L7 _ HR7.out).mono ?_
                rintro e w8 ⟨o8, hy8, hn8⟩
                have HY8 := Lib.hid hy8
                have HN8 := Lib.hid hn8
                have O8 := Lib.hid o8
                clear hy8 hn8 o8
                cases h8 : tk L7 with
                | none =>
                  have he := HN8.out h8
                  rw [failE] at he
                  subst he
                  have HT := Lib.hid (show RS = none by rw [← HRS.out]; rw [HRS.out]; exact HT1.out.trans (rb_none (hspec.out.trans (ackG_none2 _ _ H7.out h8))))
                  clear h8
                  go_wp2_with (fail)
                  exact ⟨rfl, hon.out.trans ((O7.out.trans O8.out).mono (fun k _ h => Or.inl h)), (fun x hx => by rw [HT.out] at hx; cases hx), (fun _ => rfl)⟩
                | some x =>
                  obtain ⟨ls, L8⟩ := x
                  obtain ⟨rfl, HR8⟩ := HY8.out _ h8
                  have H8 := Lib.hid h8
                  have vb8 := tk_bnd hby8 h8
                  have ll8 := tk_lt hby8 h8
                  dsimp only at vb8 ll8
                  replace HR8 : Hid (RdB w8 rb L8) := HR8
                  clear h8 hby8 HY8 HN8
                  have ON8 := Lib.hid (hon.out.trans ((O7.out.trans O8.out).mono (fun k _ h => Or.inl h)))
                  have HA8 := Lib.hid (ackG_step j ab at_ racc LL gap ls L7 L8 H7.out H8.out)
                  rw [HCONS.out] at hspec
                  by_cases c1 : 2 ≤ ab
                  case neg =>
                    have e1 : decide (2 ≤ ab) = false := decide_eq_false c1
                    have HT := Lib.hid (show RS = none from HT1.out.trans (rb_none (hspec.out.trans (HA8.out.trans (if_neg (by omega))))))
                    clear c1
                    go_wp2_with (fail)
                    refine (must_false _).mono ?_
                    rintro e w9 ⟨he, rfl⟩
                    rw [failE] at he
                    subst he
                    go_wp2_with (fail)
                    exact ⟨rfl, ON8.out, (fun x hx => by rw [HT.out] at hx; cases hx), (fun _ => rfl)⟩
                  have e1 : decide (2 ≤ ab) = true := decide_eq_true c1
                  by_cases c2 : gap ≤ ab - 2
                  case neg =>
                    have e2 : decide (gap ≤ ab - 2) = false := decide_eq_false c2
                    have HT := Lib.hid (show RS = none from HT1.out.trans (rb_none (hspec.out.trans (HA8.out.trans (if_neg (by omega))))))
                    clear c2
                    go_wp2_with (fail)
                    refine (must_false _).mono ?_
                    rintro e w9 ⟨he, rfl⟩
                    rw [failE] at he
                    subst he
                    go_wp2_with (fail)
                    exact ⟨rfl, ON8.out, (fun x hx => by rw [HT.out] at hx; cases hx), (fun _ => rfl)⟩
                  have e2 : decide (gap ≤ ab - 2) = true := decide_eq_true c2
                  by_cases c3 : ls ≤ ab - 2 - gap
                  case neg =>
                    have e3 : decide (ls ≤ ab - 2 - gap) = false := decide_eq_false c3
                    have HT := Lib.hid (show RS = none from HT1.out.trans (rb_none (hspec.out.trans (HA8.out.trans (if_neg (by omega))))))
                    clear c3
                    go_wp2_with (fail)
                    refine (must_false _).mono ?_
                    rintro e w9 ⟨he, rfl⟩
                    rw [failE] at he
                    subst he
                    go_wp2_with (fail)
                    exact ⟨rfl, ON8.out, (fun x hx => by rw [HT.out] at hx; cases hx), (fun _ => rfl)⟩
                  have e3 : decide (ls ≤ ab - 2 - gap) = true := decide_eq_true c3
                  have HS8 := Lib.hid (hspec.out.trans (HA8.out.trans (if_pos ⟨c1, c2, c3⟩)))
                  go_wp2_with (fail)
                  refine (must_true _).mono ?_
                  rintro e w9 ⟨rfl, rfl⟩
                  go_wp2_with (at_builtin; refine Stop.mk ?_)
                  refine Stop.out ?_
                  have o78 := O7.out.trans O8.out
                  have ho8 := ho.out.only o78 (fun x hx => by cases hx; have := HLT.out; show ¬ lb = rb; omega)
                  have hz8 := o78.size
                  have kb := (Below.refl w8.heap.size w8).alloc (Nat.le_refl _) (.cells #[.int .u64 (ab - 1 - gap - 1 - ls), .int .u64 (ab - 1 - gap)] 55)
                  have hl2 : l1 + 1 + 1 ≤ 1000000 := by have := hlen.out; have := hlm.out; have := HL5.out; omega
                  refine wpList_app rg_et rfl rfl rfl rfl (ho8.below kb) (SrcAt.cells w8 #[.int .u64 (ab - 1 - gap - 1 - ls), .int .u64 (ab - 1 - gap)] 55 1 2 rfl (by simp [Value.oneCell'])) (by unfold maxLen; omega) (by omega) (by simp; omega) ?_
                  intro a9 c9 w9 ho9 on9 at9
                  have e9 : cellsR acc.reverse ++ [Value.int .u64 (ab - 1 - gap - 1 - ls), .int .u64 (ab - 1 - gap)] = cellsR ((ab - 2 - gap - ls, ab - 1 - gap) :: acc).reverse := by
                    rw [List.reverse_cons, cellsR_append, show ab - 1 - gap - 1 - ls = ab - 2 - gap - ls by omega]; rfl
                  have hnS : ∀ z, z ≤ fb → ¬ (∃ y, (some ⟨lb, 0, none⟩ : Option Addr) = some y ∧ y.block = z) := by
                    rintro z hz ⟨y, hy, rfl⟩; cases hy; dsimp only at hz; omega
                  have HO9 : Hid (OwnS w9 w5.heap.size 55 2 a9 (l1 + 1 + 1) c9 (cellsR ((ab - 2 - gap - ls, ab - 1 - gap) :: acc).reverse)) := Lib.hid (by rw [← e9]; exact ho9)
                  have HR9 := Lib.hid ((HR8.out.below kb).only on9 (fun z hz => hnS z (by omega)))
                  have HF9 := Lib.hid (show FB w9 fb _ from on9.blk (Blk.below (FB.only hfb.out o78 hne) kb) (hnS fb (Nat.le_refl _)))
                  have ON9 := Lib.hid (show Only (fun z => z = rb ∨ z = fb) w w9 from (ON8.out.trans (only_of_below kb _)).trans' on9 (fun z hz hs => by obtain ⟨y, hy, h2⟩ := hs; cases hy; dsimp only at h2; have := hsz5.out; omega))
                  have HLM9 := Lib.hid (show l1 + 1 + 1 = ((ab - 2 - gap - ls, ab - 1 - gap) :: acc).length by rw [List.length_cons, ← hlm.out])
                  have HAC9 := Lib.hid (show AccOk ((ab - 2 - gap - ls, ab - 1 - gap) :: acc) from fun r hr => by
                    rcases List.mem_cons.1 hr with rfl | hr
                    · dsimp only; omega
                    · exact hacc.out r hr)
                  have HLN9 := Lib.hid (show ((ab - 2 - gap - ls, ab - 1 - gap) :: acc).length + L8.length ≤ L5.length + 1 by rw [List.length_cons]; have := hlen.out; omega)
                  have HSP9 := Lib.hid (show ackG mN [(top - less, top + 1)] L5 = ackG j ((ab - 2 - gap - ls, ab - 1 - gap) :: acc) L8 by rw [HCONS.out]; exact HS8.out)
                  have hz9 : w5.heap.size ≤ w9.heap.size := by have := on9.size; simp at this; omega
                  clear ho9 on9 at9 e9 hnS kb ho8 o78
                  go_wp2_with (fail)
                  exact ⟨⟨j, l1 + 1 + 1, _, L8, a9, c9, by go_num, rfl, by omega, by omega, hl2, HLM9, HAC9, HLN9, HO9, HR9, HF9, ON9, HSP9, hz9⟩, by simp [intOf]⟩

end Frm
end Go.Proofs.Ytcpjehgoeibbeaa
