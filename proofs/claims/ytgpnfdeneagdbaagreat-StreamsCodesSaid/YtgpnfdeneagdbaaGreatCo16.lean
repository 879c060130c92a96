/- A set of streams: the closure of Take; a row's stream is stored anew. -/
import Derived.Test.YtgpnfdeneagdbaaGreatCo15
namespace Go.Proofs.YtgpnfdeneagdbaaGreat
open Go.RowKit
set_option linter.unusedVariables false
theorem fr_size : (Tryz.prog.info? 45).map (·.size) = some 30 := by kernel_rfl
section
variable {P : Program} {ops : Array Oper} {rest : List Oper} {o : Oper} {a : Act} {w : World} {Q : Exit → Act → World → Prop}
theorem stop_ldf {d : Option Tmp} {x : Operand} {ty : TypeId} {pos : String} {aft : Array Edge} {g : Option (Nat × Bool)}
    (h : Stop (wpList P ops Q (⟨d, .load 45 x, ty, pos, aft, g⟩ :: rest) a w)) : wpList P ops Q (⟨d, .load 45 x, ty, pos, aft, g⟩ :: rest) a w := h
end
/-- What the closure holds. -/
structure ClAt (w : World) (s bs bf bc : Nat) (fc : List Value) : Prop where
  pt : w.cell? ⟨bs, 0, none⟩ = some (.pointer (some ⟨s, 0, none⟩))
  f : Blk w bf fc.toArray 45
  c : Blk w bc #[.int .u64 0] 23
  ls : bs < w.heap.size
  ne : bc ≠ s ∧ bs ≠ s ∧ bf ≠ s ∧ bs ≠ bc ∧ bf ≠ bc
theorem ClAt.only {w w' : World} {s bs bf bc q : Nat} {fc : List Value} (h : ClAt w s bs bf bc fc) (ho : Only (fun k => k = s ∨ k = q) w w') (hq : bs ≠ q ∧ bf ≠ q ∧ bc ≠ q) : ClAt w' s bs bf bc fc := by
  obtain ⟨n1, n2, n3, n4, n5⟩ := h.ne
  obtain ⟨m1, m2, m3⟩ := hq
  exact ⟨(ho.cell (p := ⟨bs, 0, none⟩) h.ls (by rintro (e | e) <;> simp at e <;> omega)).trans h.pt, ho.blk h.f (by rintro (e | e) <;> omega), ho.blk h.c (by rintro (e | e) <;> omega), Nat.lt_of_lt_of_le h.ls ho.size, h.ne⟩
theorem ClAt.below {w w' : World} {s bs bf bc : Nat} {fc : List Value} (h : ClAt w s bs bf bc fc) (hb : Below w.heap.size w w') : ClAt w' s bs bf bc fc :=
  ⟨(hb.cell (p := ⟨bs, 0, none⟩) h.ls).trans h.pt, h.f.below hb, h.c.below hb, Nat.lt_of_lt_of_le h.ls hb.size, h.ne⟩
def TakePost (s q bs bf bc : Nat) (fc : List Value) (cs : Array Value) (x : Strm) (w : World) (e : Ending) (w' : World) : Prop :=
  e = .returned (.tuple #[]) ∧ Only (fun k => k = s ∨ k = q ∨ k = bc) w w' ∧ Blk w' s cs 54 ∧ ClAt w' s bs bf bc fc ∧ ∃ u : Nat, SdAt w' q { x with urg := u }
set_option maxRecDepth 100000 in
set_option maxHeartbeats 4000000 in
theorem takeC_any (s q bs bf bc : Nat) (cs : Array Value) (sv : Bool) (may cn : Nat → Nat) (fc : List Value) (kd id mx : Nat) (x : Strm) (w : World) (hb : Blk w s cs 54) (hI : StI cs sv may cn) (hx : SdAt w q x) (hsq : s ≠ q) (hf : FrC fc kd id mx) (hk : kd = 8 ∨ kd = 17 ∨ kd = 21)
    (hc : ClAt w s bs bf bc fc) (hq : bs ≠ q ∧ bf ≠ q ∧ bc ≠ q) :
    Calls Tryz.prog 35 #[.pointer (some ⟨q, 0, none⟩), .pointer (some ⟨bs, 0, none⟩), .pointer (some ⟨bf, 0, none⟩), .pointer (some ⟨bc, 0, none⟩)] w fun e w' => TakePost s q bs bf bc fc cs x w e w' := by
  have HD := Lib.hid (does_any s q cs sv may cn fc kd id mx x w hb hI hx hsq hf hk)
  have HF := Lib.hid hf
  have HC := Lib.hid hc
  have HQ := Lib.hid hq
  have h1 := hc.pt
  clear hb hI hx hf hk hc hq hsq
  go_enter Tryz.func35, Tryz.ntmps35
  go_wp2_with (with_reducible refine stop_ldf ?_)
  refine Stop.out ?_
  refine wpList_loadPart fc Tryz.underlying45 rfl (by rw [HF.out.len]; exact fr_size) rfl rfl rfl (fun j v hv => by rw [Nat.zero_add]; exact HC.out.f.cell j v (arr_get hv)) ?_
  go_wp2_with (fail)
  refine HD.out.mono ?_
  rintro e w1 ⟨rfl, on1, hb1, hx1⟩
  have hc1 := HC.out.only on1 HQ.out
  have f1 := hc1.c.free 0
  have c1 := hc1.c.cell 0 _ rfl
  have ON1 := Lib.hid on1
  have HB1 := Lib.hid hb1
  have HX1 := Lib.hid hx1
  have HC1 := Lib.hid hc1
  clear on1 hb1 hx1 hc1 h1
  go_wp2_with (fail)
  go_returns
  obtain ⟨n1, n2, n3, n4, n5⟩ := HC1.out.ne
  have o2 : Only (· = bc) w1 (w1.setCell ⟨bc, 0, none⟩ (.int .u64 0)) := (Only.refl _ _).set _ _
  refine ⟨rfl, (ON1.out.mono (fun k _ h => h.imp (fun z => z) .inl)).trans (o2.mono (fun k _ h => .inr (.inr h))), o2.blk HB1.out (fun h => n1 h.symm), ⟨?_, o2.blk HC1.out.f n5, (HC1.out.c.set 0 _).congr rfl, by simpa using HC1.out.ls, HC1.out.ne⟩, ?_⟩
  · exact (o2.cell (p := ⟨bs, 0, none⟩) HC1.out.ls n4).trans HC1.out.pt
  · obtain ⟨u, hu⟩ := HX1.out
    exact ⟨u, o2.blk hu (fun h => HQ.out.2.2 h.symm)⟩
/-- A stream of a row is stored anew: its sending part, then its receiving part. -/
def outV (x : Strm) : List Value := [.slice none 0 0, .int .u64 0, .int .u64 0, .int .u64 x.urg, .slice none 0 0, .slice none 0 0, .bool false, .bool false, .bool false, .bool false, .int .u64 0, .bool false, .bool false, .bool false]
def inV' (x : Strm) : List Value := [.slice none 0 0, .int .u64 0, .slice none 0 0, .int .u64 0, .int .u64 x.served, .bool false, .int .u64 0, .bool false, .bool false, .int .u64 0, .bool false, .int .u64 0, .bool false]
theorem ssV_parts (x : Strm) : ssV x = .int .u64 x.id :: (outV x ++ inV' x) := rfl
theorem sdV_parts (x : Strm) : sdV x = outV x ++ inV' x := rfl
theorem row_put {L : List Strm} {i n : Nat} {x : Strm} {u : Nat} {cur : List Value} (hx : L[i]? = some x) (hn : n = L.length) (hcur : cur.take (n * 28) = L.flatMap ssV) (hle : n * 28 ≤ cur.length) :
    let c1 := cur.take (i * 28 + 1) ++ outV { x with urg := u } ++ cur.drop (i * 28 + 1 + (outV { x with urg := u }).length)
    let c2 := c1.take (i * 28 + 15) ++ inV' { x with urg := u } ++ c1.drop (i * 28 + 15 + (inV' { x with urg := u }).length)
    c2.take (n * 28) = (L.set i { x with urg := u }).flatMap ssV ∧ c1.length = cur.length ∧ c2.length = cur.length := by
  obtain ⟨A, B, hL, hA⟩ : ∃ A B, L = A ++ x :: B ∧ A.length = i := by
    refine ⟨L.take i, L.drop (i + 1), ?_, ?_⟩
    · have hi := (List.getElem?_eq_some_iff.1 hx).1
      have hxe : L[i] = x := (List.getElem?_eq_some_iff.1 hx).2
      rw [← hxe, List.getElem_cons_drop, List.take_append_drop]
    · have hi := (List.getElem?_eq_some_iff.1 hx).1
      simp; omega
  subst hL
  obtain ⟨R, hR⟩ : ∃ R, cur = (A ++ x :: B).flatMap ssV ++ R := ⟨cur.drop (n * 28), by rw [← hcur, List.take_append_drop]⟩
  subst hR
  have hAl : (A.flatMap ssV).length = i * 28 := by rw [flat_len ssV_len, hA]
  have e0 : (A ++ x :: B).flatMap ssV ++ R = A.flatMap ssV ++ (ssV x ++ (B.flatMap ssV ++ R)) := by simp
  have hset : (A ++ x :: B).set i { x with urg := u } = A ++ { x with urg := u } :: B := by
    rw [List.set_append_right _ _ (by omega)]; simp [hA]
  have hn' : n * 28 = ((A ++ { x with urg := u } :: B).flatMap ssV).length := by rw [flat_len ssV_len, hn]; simp
  intro c1 c2
  have h1 : c1 = A.flatMap ssV ++ (.int .u64 x.id :: (outV { x with urg := u } ++ (inV' x ++ (B.flatMap ssV ++ R)))) := by
    show ((A ++ x :: B).flatMap ssV ++ R).take (i * 28 + 1) ++ outV { x with urg := u } ++ ((A ++ x :: B).flatMap ssV ++ R).drop (i * 28 + 1 + 14) = _
    rw [e0, ← hAl, List.take_length_add_append, Nat.add_assoc, List.drop_length_add_append]
    simp [ssV_parts, outV]
  have h2 : c2 = A.flatMap ssV ++ (ssV { x with urg := u } ++ (B.flatMap ssV ++ R)) := by
    show c1.take (i * 28 + 15) ++ inV' { x with urg := u } ++ c1.drop (i * 28 + 15 + 13) = _
    rw [h1, ← hAl, List.take_length_add_append, Nat.add_assoc, List.drop_length_add_append]
    simp [ssV_parts, outV, inV']
  have h3 : c2 = (A ++ { x with urg := u } :: B).flatMap ssV ++ R := by rw [h2]; simp
  refine ⟨?_, ?_, ?_⟩
  · rw [h3, hset, hn', List.take_left']; rfl
  · rw [h1, e0]; simp [ssV_parts, outV, inV']
  · rw [h2, e0]; simp [ssV_parts, outV, inV']
theorem OwnS.blkS {w : World} {base n cap g : Nat} {e : TypeId} {xs : List Value} (h : OwnS w base e 28 (some ⟨g, 0, none⟩) n cap xs) : ∃ cur : List Value, Blk w g cur.toArray e ∧ cur.take (n * 28) = xs ∧ cur.length = cap * 28 ∧ n ≤ cap ∧ cap ≤ maxLen ∧ base ≤ g := by
  rcases h.2 with ⟨h1, h2⟩ | ⟨g', c, cur, h1, h3, h4, h5, h6, h7, h8⟩
  · cases h1
  · cases h1
    exact ⟨cur.toList, by simpa [Blk] using h4, h8, by simpa using h7, h5, h6, h3⟩
theorem OwnS.ofBlk {w : World} {base n cap g : Nat} {e : TypeId} {xs cur : List Value} (h1 : Blk w g cur.toArray e) (h2 : cur.take (n * 28) = xs) (h3 : cur.length = cap * 28) (h4 : n ≤ cap) (h5 : cap ≤ maxLen) (h6 : base ≤ g) : OwnS w base e 28 (some ⟨g, 0, none⟩) n cap xs := by
  refine ⟨by rw [← h2, List.length_take, h3]; omega, .inr ⟨g, cap, cur.toArray, rfl, h6, h1, h4, h5, by simpa using h3, by simpa using h2⟩⟩
theorem outV_one (x : Strm) : ∀ v ∈ outV x, v.oneCell' = true := by
  have h : (outV x).all (fun u => u.oneCell') = true := rfl
  exact List.all_eq_true.1 h
theorem inV_one (x : Strm) : ∀ v ∈ inV' x, v.oneCell' = true := by
  have h : (inV' x).all (fun u => u.oneCell') = true := rfl
  exact List.all_eq_true.1 h
theorem SdAt.out {w : World} {q : Nat} {x : Strm} (h : SdAt w q x) : ∀ j v, (outV x)[j]? = some v → w.cell? ⟨q, 0 + j, none⟩ = some v := fun j v hv => by
  have hj : j < 14 := (List.getElem?_eq_some_iff.1 hv).1
  rw [Nat.zero_add]
  refine Blk.cell h j v ?_
  rw [sdV_parts, List.getElem?_toArray, List.getElem?_append_left hj, hv]
theorem SdAt.in_ {w : World} {q : Nat} {x : Strm} (h : SdAt w q x) : ∀ j v, (inV' x)[j]? = some v → w.cell? ⟨q, 14 + j, none⟩ = some v := fun j v hv => by
  refine Blk.cell h (14 + j) v ?_
  rw [sdV_parts, List.getElem?_toArray, List.getElem?_append_right (by show 14 ≤ 14 + j; omega), show 14 + j - (outV x).length = j by show 14 + j - 14 = j; omega, hv]
end Go.Proofs.YtgpnfdeneagdbaaGreat
