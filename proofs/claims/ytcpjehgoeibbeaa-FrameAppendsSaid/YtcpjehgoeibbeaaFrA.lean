/- Frames that came in as arguments. -/
import Derived.Test.YtcpjehgoeibbeaaFrK
import Derived.Test.YtcpjehgoeibbeaaArgs
import Derived.Test.YtcpjehgoeibbeaaArgSl
namespace Go.Proofs.Ytcpjehgoeibbeaa
open Go.RowKit
set_option linter.unusedVariables false
namespace Frm
open Var
section
variable {H : Type} {enc : TypeId × Value → H} {w : World} {base : Nat} {v : Value} {d : DataW H} {p : List MemPlace}
theorem qf_fr : (Try.prog).cellsOf 36 = 30 := by kernel_rfl
theorem qf_rg : (Try.prog).cellsOf 55 = 2 := by kernel_rfl
theorem qf_rs : (Try.prog).cellsOf 33 = 1 := by kernel_rfl
theorem qf_8 : (Try.prog).cellsOf 5 = 1 := by kernel_rfl
theorem qf_64 : (Try.prog).cellsOf 30 = 1 := by kernel_rfl
theorem qf_bo : (Try.prog).cellsOf 4 = 1 := by kernel_rfl
theorem qf_b : (Try.prog).cellsOf 23 = 1 := by kernel_rfl
theorem qf_tk : (Try.prog).cellsOf 32 = 16 := by kernel_rfl
theorem qf_3 : (Try.prog).cellsOf 34 = 3 := by kernel_rfl
theorem yf_8 : 1 ≤ (Try.prog).bytesOf 5 := of_decide_eq_true (by kernel_rfl)
theorem yf_rg : 1 ≤ (Try.prog).bytesOf 55 := of_decide_eq_true (by kernel_rfl)
theorem yf_fr : 1 ≤ (Try.prog).bytesOf 36 := of_decide_eq_true (by kernel_rfl)
theorem le_reach {a b n : Nat} (h1 : a ≤ b) (h2 : 1 ≤ n) (h3 : b * n ≤ reachBytes) : a ≤ 140737488355328 := by
  have h4 : b * 1 ≤ b * n := Nat.mul_le_mul_left b h2
  unfold reachBytes at h3
  omega
theorem u64W {n : Int} (h : (Lit.int .u64 n).wf = true) : U64 n := u64_bd h
theorem open_by {fuel : Nat} {v : Value} {z : DataW H × List MemPlace} (h : DataW.trod enc Try.prog w 0 (fun _ => true) true fuel 23 [v] = some z) (hz : Sized Try.prog 23 z.1) :
    ∃ a L cap, v = .slice a L.length cap ∧ Sl .u8 w a cap L ∧ (∀ x ∈ L, Byte x) ∧ L.length ≤ 140737488355328 := by
  obtain ⟨a, L, cap, rfl, h1, h2, h3, h4, h5⟩ := open_ints_z Try.underlying23 Try.underlying5 qf_8 h hz
  exact ⟨a, L, cap, rfl, ⟨h5, h4, h1, h2⟩, fun x hx => bounds_u8 (h5.wf x hx), le_reach h1 yf_8 h3⟩
theorem open_rg {fuel : Nat} {v : Value} {z : DataW H × List MemPlace} (h : DataW.trod enc Try.prog w 0 (fun _ => true) true fuel 33 [v] = some z) (hz : Sized Try.prog 33 z.1) :
    ∃ a L cap, v = .slice a L.length cap ∧ Rs w a cap L ∧ (∀ r ∈ L, U64 r.1 ∧ U64 r.2) ∧ L.length ≤ 140737488355328 := by
  obtain ⟨a, L, cap, hcs, h1, h2, h3, h4, h5⟩ := open_slof (α := Rg) (fun r cs => cs = [.int .u64 r.1, .int .u64 r.2] ∧ (Lit.int .u64 r.1).wf = true ∧ (Lit.int .u64 r.2).wf = true) Try.underlying33 qf_rg (by omega) (fun n cs y hl ht' hz' => by
    have D := open_fields Try.underlying55 rfl (by kernel_rfl) ht' hz' hl
    obtain ⟨u0, n0, z0, e0, r0, _⟩ := D 0 _ rfl
    obtain ⟨u1, n1, z1, e1, r1, _⟩ := D 1 _ rfl
    obtain ⟨m0, j0, _, w0⟩ := DataW.trod_int Try.underlying30 r0
    obtain ⟨m1, j1, _, w1⟩ := DataW.trod_int Try.underlying30 r1
    simp only [List.cons.injEq, and_true] at j0 j1
    subst j0 j1
    exact ⟨(m0, m1), list2 hl e0 e1, w0, w1⟩) h hz
  cases hcs
  have hI : IntsAt .u64 w a (flat L) := fun i hi => by
    rw [flat_length] at hi
    obtain ⟨b, off, cs, ha, hb, _, hc, rfl, f0, f1⟩ := h5 (i / 2) (by omega)
    have k0 := hc 0 _ rfl
    have k1 := hc 1 _ rfl
    have e := flat_getD L (i / 2)
    have eg : L.getD (i / 2) (0, 0) = L[i / 2]'(by omega) := by simp [show i / 2 < L.length by omega]
    rw [eg] at e
    rcases Nat.mod_two_eq_zero_or_one i with h7 | h7
    · have hi2 : 2 * (i / 2) = i := by omega
      have := e.1
      rw [hi2] at this
      rw [this]
      refine ⟨b, off, ha, hb, ?_, f0⟩
      rw [show off + i = off + i / 2 * 2 by omega]; exact k0
    · have hi2 : 2 * (i / 2) + 1 = i := by omega
      have := e.2
      rw [hi2] at this
      rw [this]
      refine ⟨b, off, ha, hb, ?_, f1⟩
      rw [show off + i = off + i / 2 * 2 + 1 by omega]; exact k1
  refine ⟨a, L, cap, rfl, ⟨hI, h4, h1, h2⟩, fun r hr => ?_, le_reach h1 yf_rg h3⟩
  obtain ⟨i, hi, rfl⟩ := List.getElem_of_mem hr
  obtain ⟨b, off, cs, ha, hb, _, hc, rfl, f0, f1⟩ := h5 i hi
  exact ⟨u64W f0, u64W f1⟩
theorem ofn {T : Type} {n : Nat} {P : Nat → T → Prop} [Inhabited T] (h : ∀ i, i < n → ∃ t, P i t) : ∃ L : List T, L.length = n ∧ ∀ i (hi : i < L.length), P i L[i] := by
  obtain ⟨F, hF⟩ := Deep.choose_lt h
  exact ⟨(List.range n).map F, by simp, fun i hi => by simpa using hF i (by simpa using hi)⟩
/-- A frame that came in: its cells, and what lies behind its slices. -/
structure FrIn (w : World) (p : FM) (cs : List Value) : Prop where
  cs : cs = p.list
  ok : p.ok w
  d : p.f.data.length ≤ 140737488355328
  c : p.f.cid.length ≤ 140737488355328
  a : p.f.acks.length ≤ 140737488355328
theorem open_arr {t e : TypeId} {k : IntKind} {m fuel : Nat} {cs : List Value} {y : DataW H × List MemPlace} (ht : Try.prog.underlying t = some (.array m e)) (he : Try.prog.underlying e = some (.int k)) (hc : Try.prog.cellsOf e = 1) (hl : cs.length = m)
    (h : DataW.trod enc Try.prog w 0 (fun _ => true) true fuel t cs = some y) : ∃ L : List Int, L.length = m ∧ cs = L.map (Value.int k) ∧ ∀ n ∈ L, (Lit.int k n).wf = true := by
  obtain ⟨ys, m', _, _, hyl, hyn, hyf⟩ := DataW.trod_array ht h
  have TK : ∀ i, i < m → ∃ t : Int, cs[i]? = some (.int k t) ∧ (Lit.int k t).wf = true := by
    intro i hi
    have h1 := hyf i hi
    rw [hc, Nat.mul_one, List.getElem?_eq_getElem (by omega : i < ys.length)] at h1
    rw [Deep.take1_drop _ _ undef (by omega)] at h1
    obtain ⟨t, h2, _, h3⟩ := DataW.trod_int he h1
    refine ⟨t, ?_, h3⟩
    have := (List.cons.inj h2).1
    rw [← this]
    simp [hl, hi]
  obtain ⟨L, hL, hP⟩ := ofn TK
  refine ⟨L, hL, ?_, fun n hn => ?_⟩
  · apply List.ext_getElem? 
    intro i
    by_cases hi : i < L.length
    · rw [(hP i hi).1]; simp [hi]
    · rw [List.getElem?_eq_none (by omega), List.getElem?_eq_none (by simp; omega)]
  · obtain ⟨i, hi, rfl⟩ := List.getElem_of_mem hn
    exact (hP i hi).2
set_option maxRecDepth 100000 in
set_option maxHeartbeats 4000000 in
theorem open_fr1 {fuel : Nat} {cs : List Value} {y : DataW H × List MemPlace} (hl : cs.length = 30) (ht' : DataW.trod enc Try.prog w 0 (fun _ => true) true fuel 36 cs = some y) (hz' : Sized Try.prog 36 y.1) : ∃ p, FrIn w p cs := by
  obtain ⟨xs, n', _, hy, _, hxl, hfld⟩ := DataW.trod_struct Try.underlying36 ht'
  have F : ∀ (i : Nat) (f : Field), (match (Try.prog).underlying 36 with | some (.struct fs) => fs | _ => #[])[i]? = some f → ∃ x, DataW.trod enc Try.prog w 0 (fun _ => true) true n' f.type ((cs.drop f.offset).take ((Try.prog).cellsOf f.type)) = some x ∧ Sized Try.prog f.type x.1 := by
    intro i f hi
    have hil : i < xs.length := by rw [hxl]; exact (Array.getElem?_eq_some_iff.1 hi).1
    refine ⟨xs[i], by rw [hfld i f hi, List.getElem?_eq_getElem hil], ?_⟩
    have hz2 := hz'
    rw [hy] at hz2
    exact hz2.field Try.underlying36 hi (by simp [hil])
  have G : ∀ k, k < 30 → (cs.drop k).take 1 = [cs.getD k undef] := fun k hk => Deep.take1_drop cs k undef (by omega)
  obtain ⟨x0, t0, _⟩ := F 0 _ rfl
  replace t0 : DataW.trod enc Try.prog w 0 (fun _ => true) true n' 30 ((cs.drop 0).take ((Try.prog).cellsOf 30)) = some x0 := t0
  rw [qf_64, G 0 (by omega)] at t0
  obtain ⟨f0, e0, _, w0⟩ := DataW.trod_int Try.underlying30 t0
  obtain ⟨x1, t1, _⟩ := F 1 _ rfl
  replace t1 : DataW.trod enc Try.prog w 0 (fun _ => true) true n' 30 ((cs.drop 1).take ((Try.prog).cellsOf 30)) = some x1 := t1
  rw [qf_64, G 1 (by omega)] at t1
  obtain ⟨f1, e1, _, w1⟩ := DataW.trod_int Try.underlying30 t1
  obtain ⟨x2, t2, _⟩ := F 2 _ rfl
  replace t2 : DataW.trod enc Try.prog w 0 (fun _ => true) true n' 30 ((cs.drop 2).take ((Try.prog).cellsOf 30)) = some x2 := t2
  rw [qf_64, G 2 (by omega)] at t2
  obtain ⟨f2, e2, _, w2⟩ := DataW.trod_int Try.underlying30 t2
  obtain ⟨x3, t3, _⟩ := F 3 _ rfl
  replace t3 : DataW.trod enc Try.prog w 0 (fun _ => true) true n' 30 ((cs.drop 3).take ((Try.prog).cellsOf 30)) = some x3 := t3
  rw [qf_64, G 3 (by omega)] at t3
  obtain ⟨f3, e3, _, w3⟩ := DataW.trod_int Try.underlying30 t3
  obtain ⟨x4, t4, _⟩ := F 4 _ rfl
  replace t4 : DataW.trod enc Try.prog w 0 (fun _ => true) true n' 30 ((cs.drop 4).take ((Try.prog).cellsOf 30)) = some x4 := t4
  rw [qf_64, G 4 (by omega)] at t4
  obtain ⟨f4, e4, _, w4⟩ := DataW.trod_int Try.underlying30 t4
  obtain ⟨x5, t5, _⟩ := F 5 _ rfl
  replace t5 : DataW.trod enc Try.prog w 0 (fun _ => true) true n' 30 ((cs.drop 5).take ((Try.prog).cellsOf 30)) = some x5 := t5
  rw [qf_64, G 5 (by omega)] at t5
  obtain ⟨f5, e5, _, w5⟩ := DataW.trod_int Try.underlying30 t5
  obtain ⟨x6, t6, _⟩ := F 6 _ rfl
  replace t6 : DataW.trod enc Try.prog w 0 (fun _ => true) true n' 4 ((cs.drop 6).take ((Try.prog).cellsOf 4)) = some x6 := t6
  rw [qf_bo, G 6 (by omega)] at t6
  obtain ⟨f6, e6, _⟩ := DataW.trod_bool Try.underlying4 t6
  obtain ⟨x7, t7, s7⟩ := F 7 _ rfl
  replace t7 : DataW.trod enc Try.prog w 0 (fun _ => true) true n' 23 ((cs.drop 7).take ((Try.prog).cellsOf 23)) = some x7 := t7
  rw [qf_b, G 7 (by omega)] at t7
  obtain ⟨a7, L7, c7, e7, sl7, by7, le7⟩ := open_by t7 s7
  obtain ⟨x8, t8, s8⟩ := F 8 _ rfl
  replace t8 : DataW.trod enc Try.prog w 0 (fun _ => true) true n' 23 ((cs.drop 8).take ((Try.prog).cellsOf 23)) = some x8 := t8
  rw [qf_b, G 8 (by omega)] at t8
  obtain ⟨a8, L8, c8, e8, sl8, by8, le8⟩ := open_by t8 s8
  obtain ⟨x9, t9, _⟩ := F 9 _ rfl
  replace t9 : DataW.trod enc Try.prog w 0 (fun _ => true) true n' 32 ((cs.drop 9).take ((Try.prog).cellsOf 32)) = some x9 := t9
  rw [qf_tk] at t9
  obtain ⟨T, hT, eT, wT⟩ := open_arr Try.underlying32 Try.underlying5 qf_8 (by simp; omega) t9
  obtain ⟨x10, t10, s10⟩ := F 10 _ rfl
  replace t10 : DataW.trod enc Try.prog w 0 (fun _ => true) true n' 33 ((cs.drop 25).take ((Try.prog).cellsOf 33)) = some x10 := t10
  rw [qf_rs, G 25 (by omega)] at t10
  obtain ⟨aA, LA, cA, eA, slA, byA, leA⟩ := open_rg t10 s10
  obtain ⟨x11, t11, _⟩ := F 11 _ rfl
  replace t11 : DataW.trod enc Try.prog w 0 (fun _ => true) true n' 30 ((cs.drop 26).take ((Try.prog).cellsOf 30)) = some x11 := t11
  rw [qf_64, G 26 (by omega)] at t11
  obtain ⟨f26, e26, _, w26⟩ := DataW.trod_int Try.underlying30 t11
  obtain ⟨x12, t12, _⟩ := F 12 _ rfl
  replace t12 : DataW.trod enc Try.prog w 0 (fun _ => true) true n' 34 ((cs.drop 27).take ((Try.prog).cellsOf 34)) = some x12 := t12
  rw [qf_3] at t12
  obtain ⟨E, hE, eE, wE⟩ := open_arr Try.underlying34 Try.underlying30 qf_64 (by simp; omega) t12
  obtain ⟨g0, g1, g2, rfl⟩ : ∃ a b c, E = [a, b, c] := by
    match E, hE with
    | [a, b, c], _ => exact ⟨a, b, c, rfl⟩
  simp only [List.cons.injEq, and_true] at e0 e1 e2 e3 e4 e5 e6 e26
  refine ⟨⟨⟨f0, f1, f2, f3, f4, f5, f6, L7, L8, T, LA, f26, g0, g1, g2⟩, a7, c7, a8, c8, aA, cA⟩, ?_, ⟨⟨u64W w0, u64W w1, u64W w2, u64W w3, u64W w4, u64W w5, by7, by8, fun x hx => bounds_u8 (wT x hx), hT, byA, u64W w26, u64W (wE _ (by simp)), u64W (wE _ (by simp)), u64W (wE _ (by simp))⟩, sl7, sl8, slA⟩, le7, le8, leA⟩
  have s1 : cs = cs.take 9 ++ ((cs.drop 9).take 16 ++ ((cs.drop 25).take 2 ++ (cs.drop 27).take 3)) := by
    conv => lhs; rw [← List.take_append_drop 9 cs, ← List.take_append_drop 16 (cs.drop 9), ← List.take_append_drop 2 ((cs.drop 9).drop 16)]
    rw [List.drop_drop, List.drop_drop]
    congr 3
    rw [List.take_of_length_le (by simp; omega)]
  have s2 : cs.take 9 = [cs.getD 0 undef, cs.getD 1 undef, cs.getD 2 undef, cs.getD 3 undef, cs.getD 4 undef, cs.getD 5 undef, cs.getD 6 undef, cs.getD 7 undef, cs.getD 8 undef] := by
    match cs, hl with
    | c0 :: c1 :: c2 :: c3 :: c4 :: c5 :: c6 :: c7 :: c8 :: r, _ => rfl
  have s3 : (cs.drop 25).take 2 = [cs.getD 25 undef, cs.getD 26 undef] := by
    have h1 := Deep.take1_drop cs 25 undef (by omega)
    have h2 := Deep.take1_drop cs 26 undef (by omega)
    rw [show (2 : Nat) = 1 + 1 from rfl, List.take_add, List.drop_drop, h1, h2]
    rfl
  rw [s1, s2, s3, eT, eE, e0, e1, e2, e3, e4, e5, e6, e7, e8, eA, e26]
  rfl
set_option maxRecDepth 100000 in
theorem open_frames (o : Value.okWide Try.prog w .any base 22 v) (h : DataW.Trod enc Try.prog w 0 (fun _ => true) true 22 v d p) (z : Sized Try.prog 22 d) :
    ∃ (a : Option Addr) (L : List FM) (cap : Nat), v = .slice a L.length cap ∧ Fs w a cap L ∧ L.length ≤ 140737488355328 ∧ ∀ m ∈ L, m.f.data.length ≤ 140737488355328 ∧ m.f.cid.length ≤ 140737488355328 ∧ m.f.acks.length ≤ 140737488355328 := by
  obtain ⟨a0, len, cap0, rfl⟩ := WideShapes.okWide_slice Try.underlying22 o
  obtain ⟨fuel, hf⟩ := h
  have hf' : DataW.trod enc Try.prog w 0 (fun _ => true) true fuel 22 [.slice a0 len cap0] = some (d, p) := by simpa [Value.cells] using hf
  obtain ⟨a, L, cap, hcs, h1, h2, h3, h4, h5⟩ := open_slof (α := FM) (FrIn w) Try.underlying22 qf_fr (by omega) (fun n cs y hl ht' hz' => open_fr1 hl ht' hz') hf' z
  cases hcs
  refine ⟨_, L, _, rfl, ⟨fun i hi => ?_, fun m hm => ?_, h4, h1, h2⟩, le_reach h1 yf_fr h3, fun m hm => ?_⟩
  · obtain ⟨b, off, cs, ha, hb, hl, hc, g⟩ := h5 i hi
    exact ⟨b, off, ha, hb, fun j v hj => hc j v (by rw [g.cs]; exact hj)⟩
  · obtain ⟨i, hi, rfl⟩ := List.getElem_of_mem hm
    obtain ⟨b, off, cs, ha, hb, hl, hc, g⟩ := h5 i hi
    exact g.ok
  · obtain ⟨i, hi, rfl⟩ := List.getElem_of_mem hm
    obtain ⟨b, off, cs, ha, hb, hl, hc, g⟩ := h5 i hi
    exact ⟨g.d, g.c, g.a⟩
set_option maxRecDepth 100000 in
theorem open_frame (o : Value.okWide Try.prog w .any base 36 v) (h : DataW.Trod enc Try.prog w 0 (fun _ => true) true 36 v d p) (z : Sized Try.prog 36 d) :
    ∃ m : FM, v = .agg m.vals ∧ m.ok w ∧ m.f.data.length ≤ 140737488355328 ∧ m.f.cid.length ≤ 140737488355328 ∧ m.f.acks.length ≤ 140737488355328 := by
  obtain ⟨cs, rfl, hcs⟩ := WideShapes.okWide_struct Try.underlying36 o
  obtain ⟨fuel, hf⟩ := h
  rw [qf_fr] at hcs
  have hf' : DataW.trod enc Try.prog w 0 (fun _ => true) true fuel 36 cs.toList = some (d, p) := by simpa [Value.cells] using hf
  obtain ⟨m, g⟩ := open_fr1 (by simpa using hcs) hf' z
  refine ⟨m, ?_, g.ok, g.d, g.c, g.a⟩
  congr 1
  apply Array.toList_inj.1
  rw [g.cs]
  rfl
theorem open_bys (o : Value.okWide Try.prog w .any base 23 v) (h : DataW.Trod enc Try.prog w 0 (fun _ => true) true 23 v d p) (z : Sized Try.prog 23 d) :
    ∃ (a : Option Addr) (L : List Int) (cap : Nat), v = .slice a L.length cap ∧ Sl .u8 w a cap L ∧ L.length ≤ 140737488355328 := by
  obtain ⟨a0, len, cap0, rfl⟩ := WideShapes.okWide_slice Try.underlying23 o
  obtain ⟨fuel, hf⟩ := h
  have hf' : DataW.trod enc Try.prog w 0 (fun _ => true) true fuel 23 [.slice a0 len cap0] = some (d, p) := by simpa [Value.cells] using hf
  obtain ⟨a, L, cap, e, h1, h2, h3⟩ := open_by hf' z
  exact ⟨a, L, cap, e, h1, h3⟩
end
end Frm
end Go.Proofs.Ytcpjehgoeibbeaa
