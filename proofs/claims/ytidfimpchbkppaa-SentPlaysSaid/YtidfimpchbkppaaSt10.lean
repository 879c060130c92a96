/- Sent: the scripts that come in; Heavy. -/
import Derived.Test.YtidfimpchbkppaaSt9
import Derived.Test.YtidfimpchbkppaaSpW10
namespace Go.Proofs.Ytidfimpchbkppaa
open Go.RowKit
set_option linter.unusedVariables false

structure DoS where
  kind : Int
  p : Pk
  l : List Rg
  la : Option Addr
  lc : Nat
  now : Int
  delay : Int
  fs : List Value
def encD (d : DoS) : List Value := [.int .u8 d.kind, .int .u64 d.p.pn, .int .u64 d.p.at_, .int .u64 d.p.size, .bool d.p.el, .int .u64 d.p.after, .slice d.p.fa d.p.fn d.p.fc, .slice d.la d.l.length d.lc, .int .u64 d.now, .int .u64 d.delay]
structure DoOk (w : World) (d : DoS) : Prop where
  kind : 0 ≤ d.kind ∧ d.kind ≤ 255
  pk : PkOk d.p
  rs : Rs w d.la d.lc d.l
  src : SrcUp w d.p.fa d.p.fn d.p.fc 30 d.fs
  now : u64b' d.now
  delay : u64b' d.delay
  lsm : d.l.length ≤ 140737488355328
  fsm : d.p.fn ≤ 140737488355328
theorem DoOk.below {w w' : World} {d : DoS} (h : DoOk w d) (hb : Below w.heap.size w w') : DoOk w' d := ⟨h.kind, h.pk, h.rs.below hb, h.src.on hb, h.now, h.delay, h.lsm, h.fsm⟩
/-- The slice at a is this script. -/
def DoAt15 (w : World) (a : Option Addr) (D : List DoS) : Prop := SlOf w a 10 (fun d cs => cs = encD d ∧ DoOk w d) D
theorem DoAt15.below {w w' : World} {a : Option Addr} {D : List DoS} (h : DoAt15 w a D) (hb : Below w.heap.size w w') : DoAt15 w' a D := SlOf.below h hb fun x cs hx => ⟨hx.1, hx.2.below hb⟩
theorem DoAt15.get {w : World} {a : Option Addr} {D : List DoS} (h : DoAt15 w a D) (i : Nat) (hi : i < D.length) : ∃ b off d, D[i]? = some d ∧ a = some ⟨b, off, none⟩ ∧ b < w.heap.size ∧ DoOk w d ∧
    w.cell? ⟨b, off + i * 10, none⟩ = some (.int .u8 d.kind) ∧ w.cell? ⟨b, off + i * 10 + 1, none⟩ = some (.int .u64 d.p.pn) ∧ w.cell? ⟨b, off + i * 10 + 2, none⟩ = some (.int .u64 d.p.at_) ∧ w.cell? ⟨b, off + i * 10 + 3, none⟩ = some (.int .u64 d.p.size) ∧
    w.cell? ⟨b, off + i * 10 + 4, none⟩ = some (.bool d.p.el) ∧ w.cell? ⟨b, off + i * 10 + 5, none⟩ = some (.int .u64 d.p.after) ∧ w.cell? ⟨b, off + i * 10 + 6, none⟩ = some (.slice d.p.fa d.p.fn d.p.fc) ∧
    w.cell? ⟨b, off + i * 10 + 7, none⟩ = some (.slice d.la d.l.length d.lc) ∧ w.cell? ⟨b, off + i * 10 + 8, none⟩ = some (.int .u64 d.now) ∧ w.cell? ⟨b, off + i * 10 + 9, none⟩ = some (.int .u64 d.delay) := by
  obtain ⟨b, off, cs, ha, hb, _, hc, rfl, hok⟩ := h i hi
  exact ⟨b, off, D[i], by simp [hi], ha, hb, hok, hc 0 _ rfl, hc 1 _ rfl, hc 2 _ rfl, hc 3 _ rfl, hc 4 _ rfl, hc 5 _ rfl, hc 6 _ rfl, hc 7 _ rfl, hc 8 _ rfl, hc 9 _ rfl⟩

/-- A call that is not too heavy. -/
def DoLight (d : DoS) : Prop := d.l.length ≤ 600 ∧ d.p.fn ≤ 600 ∧ d.p.at_ ≤ 4611686018427387904 ∧ d.now ≤ 4611686018427387904 ∧ d.delay ≤ 4611686018427387904 ∧ d.p.size ≤ 1099511627776
def HeavyOk15 (v : Bool) (D : List DoS) : Prop := v = false → D.length ≤ 600 ∧ ∀ d ∈ D, DoLight d
def HeavyPost15 (e : Ending) (D : List DoS) : Prop := ∃ v, e = .returned (.bool v) ∧ HeavyOk15 v D
set_option maxRecDepth 100000 in
set_option maxHeartbeats 4000000 in
theorem heavy15_any (a : Option Addr) (n cap : Nat) (D : List DoS) (w : World) (hn : n = D.length) (hm : D.length ≤ 140737488355328) (hD : DoAt15 w a D) :
    Calls Try.prog 37 #[.slice a n cap] w fun e w' => Below w.heap.size w w' ∧ HeavyPost15 e D := by
  have HN := Lib.hid hn
  have HD := Lib.hid hD
  have hnm : n ≤ 140737488355328 := by omega
  clear hn hm hD
  go_enter Try.func37, Try.ntmps37
  go_wp2_with (fail)
  go_loopw [3, 5, 8] (fun s _ i wr => ∃ (k : Nat) (z : Int), i = .int .i64 k ∧ s = .int .i64 z ∧ (k : Int) ≤ z ∧ z ≤ 600 ∧ k ≤ n ∧ Below w.heap.size w wr ∧ Hid (∀ d ∈ D.take k, DoLight d)) (fun _ _ i _ => n - (intOf i).toNat)
  case atStart => exact ⟨0, 0, rfl, rfl, by omega, by omega, by omega, Below.refl _ _, Lib.hid (by simp)⟩
  case round =>
    obtain ⟨k, z, rfl, rfl, hkz, hz6, hk, bw, hok⟩ := hrel
    by_cases hlt : k < n
    · have hkD : k < D.length := by have := HN.out; omega
      obtain ⟨b, off, d, hd, ha, hb, dok, c0, c1, c2, c3, c4, c5, c6, c7, c8, c9⟩ := (HD.out.below bw).get k hkD
      subst ha
      obtain ⟨kind, ⟨pn, at_, size, el, after, fa, fn, fc⟩, l, la, lc, now, delay, fs⟩ := d
      obtain ⟨h1, ⟨h2, h3, h4, h5⟩, h6, h7, h8, h9, h10, h11⟩ := dok
      simp only at *
      obtain ⟨nl, hnl⟩ : ∃ n, l.length = n := ⟨_, rfl⟩
      rw [hnl] at c7 h10
      have hts : D.take (k + 1) = D.take k ++ [⟨kind, ⟨pn, at_, size, el, after, fa, fn, fc⟩, l, la, lc, now, delay, fs⟩] := by
        rw [List.take_add_one, hd]; rfl
      have HTS := Lib.hid hts
      have HNL := Lib.hid hnl
      unfold u64b' at *
      have b1 : Below w.heap.size w (wr.alloc (.cells #[.int .u8 kind, .int .u64 pn, .int .u64 at_, .int .u64 size, .bool el, .int .u64 after, .slice fa fn fc, .slice la nl lc, .int .u64 now, .int .u64 delay] 71)) := bw.alloc bw.size _
      clear hts hd h6 h7 hnl
      by_cases g0 : 600 < z + (1 + nl + fn)
      · go_wp2_with (fail)
        go_returns
        exact ⟨b1, true, rfl, fun h => by cases h⟩
      · by_cases g1 : 4611686018427387904 < at_
        · go_wp2_with (fail)
          go_returns
          exact ⟨b1, true, rfl, fun h => by cases h⟩
        · by_cases g2 : 4611686018427387904 < now
          · go_wp2_with (fail)
            go_returns
            exact ⟨b1, true, rfl, fun h => by cases h⟩
          · by_cases g3 : 4611686018427387904 < delay
            · go_wp2_with (fail)
              go_returns
              exact ⟨b1, true, rfl, fun h => by cases h⟩
            · by_cases g4 : 1099511627776 < size
              · go_wp2_with (fail)
                go_returns
                exact ⟨b1, true, rfl, fun h => by cases h⟩
              · go_wp2_with (fail)
                refine ⟨⟨k + 1, z + (1 + nl + fn), by go_num, by go_num, by omega, by omega, by omega, b1, Lib.hid (fun d hd => ?_)⟩, by simp [intOf]; omega⟩
                rw [HTS.out] at hd
                rcases List.mem_append.1 hd with hd | hd
                · exact hok.out d hd
                · rw [List.mem_singleton.1 hd]
                  unfold DoLight
                  simp only
                  have := HNL.out
                  omega
    · obtain rfl : k = n := by omega
      have hok2 := hok.out
      rw [show D.take k = D by rw [HN.out, List.take_length]] at hok2
      have HOK := Lib.hid hok2
      clear hok hok2
      go_wp2_with (fail)
      go_returns
      exact ⟨bw, false, rfl, fun _ => ⟨by have := HN.out; omega, HOK.out⟩⟩

theorem flat_at {α : Type} (k : Nat) (hk : 0 < k) : ∀ (L : List (List α)), (∀ x ∈ L, x.length = k) → ∀ (j : Nat) (u : α), L.flatten[j]? = some u → ∃ i, ∃ h : i < L.length, ∃ r, j = i * k + r ∧ r < k ∧ L[i][r]? = some u
  | [], _, j, u, h => by simp at h
  | x :: L, hx, j, u, h => by
    have h1 := hx x (by simp)
    rw [List.flatten_cons] at h
    by_cases hj : j < k
    · rw [List.getElem?_append_left (by omega)] at h
      exact ⟨0, by simp, j, by omega, hj, h⟩
    · rw [List.getElem?_append_right (by omega), h1] at h
      obtain ⟨i, hi, r, e, hr, hu⟩ := flat_at k hk L (fun y hy => hx y (by simp [hy])) _ u h
      refine ⟨i + 1, by simpa using hi, r, ?_, hr, by simpa using hu⟩
      rw [Nat.succ_mul]
      omega
theorem flat_len {α : Type} (k : Nat) : ∀ (L : List (List α)), (∀ x ∈ L, x.length = k) → L.flatten.length = L.length * k
  | [], _ => by simp
  | x :: L, hx => by
    rw [List.flatten_cons, List.length_append, hx x (by simp), flat_len k L (fun y hy => hx y (by simp [hy])), List.length_cons, Nat.succ_mul]
    omega
theorem SlOf.srcUp {w : World} {a : Option Addr} {size cap : Nat} (hs : 0 < size) {L : List (List Value)} (h : SlOf w a size (fun l cs => cs = l ∧ ∀ u ∈ cs, u.oneCell' = true) L) (hn : a = none → cap = 0) (hl : L.length ≤ cap) : SrcUp w a L.length cap size L.flatten := by
  have hlen : ∀ x ∈ L, x.length = size := fun x hx => by
    obtain ⟨i, hi, rfl⟩ := List.getElem_of_mem hx
    obtain ⟨b, off, cs, _, _, h1, _, rfl, _⟩ := h i hi
    exact h1
  intro w' hb
  refine ⟨flat_len size L hlen, fun ha => ⟨by have := hn ha; omega, hn ha⟩, fun x hx j u hj => ?_, fun u hu => ?_⟩
  · obtain ⟨i, hi, r, rfl, hr, hu⟩ := flat_at size hs L hlen j u hj
    obtain ⟨b, off, cs, ha, hlt, h1, hc, rfl, _⟩ := h i hi
    rw [ha] at hx
    cases hx
    rw [addr_add, show off + (i * size + r) = off + i * size + r by omega]
    exact (hb.cell (p := ⟨b, off + i * size + r, none⟩) hlt).trans (hc r u hu)
  · obtain ⟨l, hl2, hu2⟩ := List.mem_flatten.1 hu
    obtain ⟨i, hi, rfl⟩ := List.getElem_of_mem hl2
    obtain ⟨b, off, cs, _, _, _, _, rfl, h2⟩ := h i hi
    exact h2 u hu2

section
variable {H : Type} {enc : TypeId × Value → H} {w : World} {base : Nat} {v : Value} {d : DataW H} {p : List MemPlace}
theorem q_pk : (Try.prog).cellsOf 69 = 6 := by kernel_rfl
theorem q_fr : (Try.prog).cellsOf 51 = 30 := by kernel_rfl
theorem q_rg : (Try.prog).cellsOf 31 = 2 := by kernel_rfl
theorem q_do : (Try.prog).cellsOf 71 = 10 := by kernel_rfl
theorem q_8 : (Try.prog).cellsOf 5 = 1 := by kernel_rfl
theorem q_64 : (Try.prog).cellsOf 28 = 1 := by kernel_rfl
theorem q_lr : (Try.prog).cellsOf 22 = 1 := by kernel_rfl
theorem y_fr : 1 ≤ (Try.prog).bytesOf 51 := of_decide_eq_true (by kernel_rfl)
theorem y_rg : 1 ≤ (Try.prog).bytesOf 31 := of_decide_eq_true (by kernel_rfl)
theorem y_do : 1 ≤ (Try.prog).bytesOf 71 := of_decide_eq_true (by kernel_rfl)
theorem one_fr : oneB Try.prog 3 51 = true := by kernel_rfl
theorem le_reach {a b n : Nat} (h1 : a ≤ b) (h2 : 1 ≤ n) (h3 : b * n ≤ reachBytes) : a ≤ 140737488355328 := by
  have h4 : b * 1 ≤ b * n := Nat.mul_le_mul_left b h2
  unfold reachBytes at h3
  omega
theorem open_frames {fuel : Nat} {v : Value} {z : DataW H × List MemPlace} (h : DataW.trod enc Try.prog w 0 (fun _ => true) true fuel 67 [v] = some z) (hz : Sized Try.prog 67 z.1) :
    ∃ a n cap fs, v = .slice a n cap ∧ n ≤ 140737488355328 ∧ SrcUp w a n cap 30 fs := by
  obtain ⟨a, L, cap, hcs, h1, h2, h3, h4, h5⟩ := open_slof (α := List Value) (fun l cs => cs = l ∧ ∀ u ∈ cs, u.oneCell' = true) Try.underlying67 q_fr (by omega) (fun n cs y hl ht' _ => ⟨cs, rfl, trod_one 3 one_fr ht'⟩) h hz
  cases hcs
  exact ⟨a, L.length, cap, L.flatten, rfl, le_reach h1 y_fr h3, SlOf.srcUp (by omega) h5 h4 h1⟩
theorem open_ranges {fuel : Nat} {v : Value} {z : DataW H × List MemPlace} (h : DataW.trod enc Try.prog w 0 (fun _ => true) true fuel 22 [v] = some z) (hz : Sized Try.prog 22 z.1) :
    ∃ a l cap, v = .slice a l.length cap ∧ l.length ≤ 140737488355328 ∧ Rs w a cap l := by
  obtain ⟨a, L, cap, hcs, h1, h2, h3, h4, h5⟩ := open_slof (α := Rg) (fun r cs => cs = [.int .u64 r.1, .int .u64 r.2] ∧ (Lit.int .u64 r.1).wf = true ∧ (Lit.int .u64 r.2).wf = true) Try.underlying22 q_rg (by omega) (fun n cs y hl ht' hz' => by
    have F := open_fields Try.underlying31 rfl (by kernel_rfl) ht' hz' hl
    obtain ⟨v0, n0, z0, e0, t0, _⟩ := F 0 _ rfl
    obtain ⟨v1, n1, z1, e1, t1, _⟩ := F 1 _ rfl
    obtain ⟨m0, k0, _, w0⟩ := DataW.trod_int Try.underlying28 t0
    obtain ⟨m1, k1, _, w1⟩ := DataW.trod_int Try.underlying28 t1
    cases k0
    cases k1
    exact ⟨(m0, m1), list2 hl e0 e1, w0, w1⟩) h hz
  cases hcs
  refine ⟨a, L, cap, rfl, le_reach h1 y_rg h3, fun i hi => ?_, h4, h1, h2⟩
  rw [flat_length] at hi
  obtain ⟨b, off, cs, ha, hb, _, hc, rfl, w0, w1⟩ := h5 (i / 2) (by omega)
  have k0 := hc 0 _ rfl
  have k1 := hc 1 _ rfl
  have e := flat_getD L (i / 2)
  have eg : L.getD (i / 2) default = L[i / 2]'(by omega) := by simp [show i / 2 < L.length by omega]
  rcases Nat.mod_two_eq_zero_or_one i with h7 | h7
  · have hi2 : 2 * (i / 2) = i := by omega
    have := e.1
    rw [hi2] at this
    refine ⟨b, off, ha, hb, ?_, ?_⟩
    · rw [this]
      rw [show off + i = off + i / 2 * 2 + 0 by omega]
      exact (show _ = some (Value.int .u64 (L[i / 2]'(by omega)).1) from k0).trans (by rw [← eg]; rfl)
    · rw [this]
      have w0' := w0
      rw [← eg] at w0'
      exact w0'
  · have hi2 : 2 * (i / 2) + 1 = i := by omega
    have := e.2
    rw [hi2] at this
    refine ⟨b, off, ha, hb, ?_, ?_⟩
    · rw [this]
      rw [show off + i = off + i / 2 * 2 + 1 by omega]
      exact (show _ = some (Value.int .u64 (L[i / 2]'(by omega)).2) from k1).trans (by rw [← eg]; rfl)
    · rw [this]
      have w1' := w1
      rw [← eg] at w1'
      exact w1'
theorem open_pk {fuel : Nat} {cs : List Value} {y : DataW H × List MemPlace} (hl : cs.length = 6) (h : DataW.trod enc Try.prog w 0 (fun _ => true) true fuel 69 cs = some y) (hz : Sized Try.prog 69 y.1) :
    ∃ (q : Pk) (fs : List Value), cs = encP q ∧ PkOk q ∧ q.fn ≤ 140737488355328 ∧ SrcUp w q.fa q.fn q.fc 30 fs := by
  have F := open_fields Try.underlying69 rfl (by kernel_rfl) h hz hl
  obtain ⟨v0, n0, z0, e0, t0, _⟩ := F 0 _ rfl
  obtain ⟨v1, n1, z1, e1, t1, _⟩ := F 1 _ rfl
  obtain ⟨v2, n2, z2, e2, t2, _⟩ := F 2 _ rfl
  obtain ⟨v3, n3, z3, e3, t3, _⟩ := F 3 _ rfl
  obtain ⟨v4, n4, z4, e4, t4, _⟩ := F 4 _ rfl
  obtain ⟨v5, n5, z5, e5, t5, s5⟩ := F 5 _ rfl
  obtain ⟨m0, k0, _, w0⟩ := DataW.trod_int Try.underlying28 t0
  obtain ⟨m1, k1, _, w1⟩ := DataW.trod_int Try.underlying28 t1
  obtain ⟨m2, k2, _, w2⟩ := DataW.trod_int Try.underlying28 t2
  obtain ⟨m3, k3, _⟩ := DataW.trod_bool Try.underlying4 t3
  obtain ⟨m4, k4, _, w4⟩ := DataW.trod_int Try.underlying28 t4
  obtain ⟨a, n, cap, fs, rfl, g1, g2⟩ := open_frames t5 s5
  cases k0
  cases k1
  cases k2
  cases k3
  cases k4
  refine ⟨⟨m0, m1, m2, m3, m4, a, n, cap⟩, fs, ?_, ⟨u64_bd w0, u64_bd w1, u64_bd w2, u64_bd w4⟩, g1, g2⟩
  refine List.ext_getElem? fun i => ?_
  match i with
  | 0 => rw [e0]; rfl
  | 1 => rw [e1]; rfl
  | 2 => rw [e2]; rfl
  | 3 => rw [e3]; rfl
  | 4 => rw [e4]; rfl
  | 5 => rw [e5]; rfl
  | i + 6 => rw [List.getElem?_eq_none (by omega), List.getElem?_eq_none (by simp [encP])]
set_option maxRecDepth 100000 in
set_option maxHeartbeats 4000000 in
theorem open_do15 (h : DataW.Trod enc Try.prog w 0 (fun _ => true) true 59 v d p) (z : Sized Try.prog 59 d) (o : Value.okWide Try.prog w .any base 59 v) : ∃ (a : Option Addr) (D : List DoS) (cap : Nat), v = .slice a D.length cap ∧ D.length ≤ 140737488355328 ∧ DoAt15 w a D := by
  obtain ⟨a0, len, cap0, rfl⟩ := WideShapes.okWide_slice Try.underlying59 o
  obtain ⟨fuel, hf⟩ := h
  have hf' : DataW.trod enc Try.prog w 0 (fun _ => true) true fuel 59 [.slice a0 len cap0] = some (d, p) := by simpa [Value.cells] using hf
  obtain ⟨a, L, cap, hcs, h1, h2, h3, h4, h5⟩ := open_slof (α := DoS) (fun q cs => cs = encD q ∧ DoOk w q) Try.underlying59 q_do (by omega) (fun n cs y hl ht' hz' => by
    obtain ⟨xs, n', _, hy, _, hxl, hfld⟩ := DataW.trod_struct Try.underlying71 ht'
    have F : ∀ (i : Nat) (f : Field), (match (Try.prog).underlying 71 with | some (.struct fs) => fs | _ => #[])[i]? = some f → ∃ x, DataW.trod enc Try.prog w 0 (fun _ => true) true n' f.type ((cs.drop f.offset).take ((Try.prog).cellsOf f.type)) = some x ∧ Sized Try.prog f.type x.1 := by
      intro i f hi
      have hil : i < xs.length := by rw [hxl]; exact (Array.getElem?_eq_some_iff.1 hi).1
      refine ⟨xs[i], by rw [hfld i f hi, List.getElem?_eq_getElem hil], ?_⟩
      have hz2 := hz'
      rw [hy] at hz2
      exact hz2.field Try.underlying71 hi (by simp [hil])
    obtain ⟨x0, t0, s0⟩ := F 0 _ rfl
    obtain ⟨x1, t1, s1⟩ := F 1 _ rfl
    obtain ⟨x2, t2, s2⟩ := F 2 _ rfl
    obtain ⟨x3, t3, s3⟩ := F 3 _ rfl
    obtain ⟨x4, t4, s4⟩ := F 4 _ rfl
    replace t0 : DataW.trod enc Try.prog w 0 (fun _ => true) true n' 5 ((cs.drop 0).take ((Try.prog).cellsOf 5)) = some x0 := t0
    replace t1 : DataW.trod enc Try.prog w 0 (fun _ => true) true n' 69 ((cs.drop 1).take ((Try.prog).cellsOf 69)) = some x1 := t1
    replace t2 : DataW.trod enc Try.prog w 0 (fun _ => true) true n' 22 ((cs.drop 7).take ((Try.prog).cellsOf 22)) = some x2 := t2
    replace t3 : DataW.trod enc Try.prog w 0 (fun _ => true) true n' 28 ((cs.drop 8).take ((Try.prog).cellsOf 28)) = some x3 := t3
    replace t4 : DataW.trod enc Try.prog w 0 (fun _ => true) true n' 28 ((cs.drop 9).take ((Try.prog).cellsOf 28)) = some x4 := t4
    have G : ∀ k, k < 10 → (cs.drop k).take 1 = [cs.getD k undef] := fun k hk => Deep.take1_drop cs k undef (by omega)
    rw [q_8, G 0 (by omega)] at t0
    rw [q_pk] at t1
    rw [q_lr, G 7 (by omega)] at t2
    rw [q_64, G 8 (by omega)] at t3
    rw [q_64, G 9 (by omega)] at t4
    obtain ⟨m0, k0, _, w0⟩ := DataW.trod_int Try.underlying5 t0
    obtain ⟨q, fs, k1, hq, hqf, hqs⟩ := open_pk (by simp; omega) t1 s1
    obtain ⟨la, l, lc, k2, hl2, hrs⟩ := open_ranges t2 s2
    obtain ⟨m3, k3, _, w3⟩ := DataW.trod_int Try.underlying28 t3
    obtain ⟨m4, k4, _, w4⟩ := DataW.trod_int Try.underlying28 t4
    simp only [List.cons.injEq, and_true] at k0 k2 k3 k4
    have b0 := bounds_u8 w0
    refine ⟨⟨m0, q, l, la, lc, m3, m4, fs⟩, ?_, b0, hq, hrs, hqs, u64_bd w3, u64_bd w4, hl2, hqf⟩
    have e1 : cs = cs.take 1 ++ ((cs.drop 1).take 6 ++ ((cs.drop 7).take 1 ++ ((cs.drop 8).take 1 ++ (cs.drop 9).take 1))) := by
      refine List.ext_getElem? fun i => ?_
      match cs, hl with
      | [a0, a1, a2, a3, a4, a5, a6, a7, a8, a9], _ => rfl
    have e0 : cs.take 1 = [cs.getD 0 undef] := by simpa using G 0 (by omega)
    rw [e1, e0, k1, G 7 (by omega), G 8 (by omega), G 9 (by omega), k0, k2, k3, k4]
    rfl) hf' z
  cases hcs
  exact ⟨_, L, _, rfl, le_reach h1 y_do h3, h5⟩
end
end Go.Proofs.Ytidfimpchbkppaa
