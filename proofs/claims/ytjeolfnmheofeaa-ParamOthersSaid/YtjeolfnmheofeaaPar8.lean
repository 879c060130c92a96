/- Layer 4: a value is taken. -/
import Derived.Test.YtjeolfnmheofeaaPar7
import Derived.Test.YtjeolfnmheofeaaTold
import Derived.Laws.CopyOwn
namespace Go.Proofs.Ytjeolfnmheofeaa
open Go.RowKit
set_option linter.unusedVariables false
namespace Par
open Var (Byte takeF takeN takeU take_any wf_byte take_ok)

def PV.setNum (p : PV) (k : Nat) (v : Int) : PV :=
  match k with
  | 2 => { p with f2 := v }
  | 3 => { p with f3 := v }
  | 4 => { p with f4 := v }
  | 5 => { p with f5 := v }
  | 6 => { p with f6 := v }
  | 7 => { p with f7 := v }
  | 8 => { p with f8 := v }
  | 9 => { p with f9 := v }
  | 10 => { p with f10 := v }
  | _ => p
theorem setNum_vals (p : PV) (k : Nat) (v : Int) (h2 : 2 ≤ k) (h10 : k ≤ 10) : (p.setNum k v).vals = p.vals.setIfInBounds k (.int .u64 v) := by
  rcases (by omega : k = 2 ∨ k = 3 ∨ k = 4 ∨ k = 5 ∨ k = 6 ∨ k = 7 ∨ k = 8 ∨ k = 9 ∨ k = 10) with rfl | rfl | rfl | rfl | rfl | rfl | rfl | rfl | rfl <;> rfl
theorem setNum_num (p : PV) (k j : Nat) (v : Int) (h2 : 2 ≤ k) (h10 : k ≤ 10) : (p.setNum k v).num j = if j = k then v else p.num j := by
  by_cases hj : 2 ≤ j ∧ j ≤ 10
  · rcases (by omega : k = 2 ∨ k = 3 ∨ k = 4 ∨ k = 5 ∨ k = 6 ∨ k = 7 ∨ k = 8 ∨ k = 9 ∨ k = 10) with rfl | rfl | rfl | rfl | rfl | rfl | rfl | rfl | rfl <;>
      rcases (by omega : j = 2 ∨ j = 3 ∨ j = 4 ∨ j = 5 ∨ j = 6 ∨ j = 7 ∨ j = 8 ∨ j = 9 ∨ j = 10) with rfl | rfl | rfl | rfl | rfl | rfl | rfl | rfl | rfl <;> rfl
  · have h0 : ∀ q : PV, q.num j = 0 := fun q => by
      unfold PV.num
      split <;> first | omega | rfl
    rw [h0, h0, if_neg (by omega)]
theorem setNum_rest (p : PV) (k : Nat) (v : Int) : (p.setNum k v).O = p.O ∧ (p.setNum k v).C = p.C ∧ (p.setNum k v).oa = p.oa ∧ (p.setNum k v).oc = p.oc ∧ (p.setNum k v).ca = p.ca ∧ (p.setNum k v).cc = p.cc ∧ (p.setNum k v).tok = p.tok ∧ (p.setNum k v).has = p.has := by
  unfold PV.setNum
  split <;> exact ⟨rfl, rfl, rfl, rfl, rfl, rfl, rfl, rfl⟩
def PV.withTok (p : PV) (T : List Int) : PV := { p with t0 := T.getD 0 0, t1 := T.getD 1 0, t2 := T.getD 2 0, t3 := T.getD 3 0, t4 := T.getD 4 0, t5 := T.getD 5 0, t6 := T.getD 6 0, t7 := T.getD 7 0, t8 := T.getD 8 0, t9 := T.getD 9 0, t10 := T.getD 10 0, t11 := T.getD 11 0, t12 := T.getD 12 0, t13 := T.getD 13 0, t14 := T.getD 14 0, t15 := T.getD 15 0 }
theorem list16 (T : List Int) (h : T.length = 16) : T = [T.getD 0 0, T.getD 1 0, T.getD 2 0, T.getD 3 0, T.getD 4 0, T.getD 5 0, T.getD 6 0, T.getD 7 0, T.getD 8 0, T.getD 9 0, T.getD 10 0, T.getD 11 0, T.getD 12 0, T.getD 13 0, T.getD 14 0, T.getD 15 0] := by
  apply List.ext_getElem (by simpa using h)
  intro i h1 h2
  rcases (by omega : i = 0 ∨ i = 1 ∨ i = 2 ∨ i = 3 ∨ i = 4 ∨ i = 5 ∨ i = 6 ∨ i = 7 ∨ i = 8 ∨ i = 9 ∨ i = 10 ∨ i = 11 ∨ i = 12 ∨ i = 13 ∨ i = 14 ∨ i = 15) with rfl | rfl | rfl | rfl | rfl | rfl | rfl | rfl | rfl | rfl | rfl | rfl | rfl | rfl | rfl | rfl <;> simp [List.getD_eq_getElem?_getD, h]
theorem withTok_tok (p : PV) (T : List Int) (h : T.length = 16) : (p.withTok T).tok = T := (list16 T h).symm
theorem withTok_vals (p : PV) (T : List Int) (h : T.length = 16) : (p.withTok T).vals.toList = p.list.take 12 ++ T.map (Value.int .u8) := by
  conv => rhs; rw [list16 T h]
  rfl

theorem u8_size : ((Try.prog).info? 5).map (·.size) = some 1 := by kernel_rfl
section
variable {P : Program} {ops : Array Oper} {rest : List Oper} {a : Act} {w : World} {Q : Exit → Act → World → Prop}
theorem stop_copy {d : Option Tmp} {xs : Array Operand} {ts : Array TypeId} {ty : TypeId} {pos : String} {aft : Array Edge} {g : Option (Nat × Bool)}
    (h : Stop (wpList P ops Q (⟨d, .call { callee := .builtin .copy, args := xs, argTypes := ts }, ty, pos, aft, g⟩ :: rest) a w)) : wpList P ops Q (⟨d, .call { callee := .builtin .copy, args := xs, argTypes := ts }, ty, pos, aft, g⟩ :: rest) a w := h
end
/-- What a value does, and whether it may stand there. -/
def updV (p : PV) (id : Int) (a : Option Addr) (cap : Nat) (V : List Int) : PV :=
  if slotF id ≠ 0 then p.setNum (slotF id) (takeN V)
  else if id = 0 then { p with oa := a, oc := cap, O := V }
  else if id = 15 then { p with ca := a, cc := cap, C := V }
  else if id = 2 then ({ p with has := true } : PV).withTok (V.take 16 ++ p.tok.drop (V.take 16).length)
  else p
def okV (id : Int) (V : List Int) : Bool :=
  if slotF id ≠ 0 then (takeF V).isSome && (decide (takeU V = V.length) && mayId id (takeN V))
  else if id = 0 ∨ id = 15 then decide (V.length ≤ 20)
  else if id = 2 then decide (V.length = 16)
  else true
theorem takeN_range {V : List Int} (h : ∀ x ∈ V, Byte x) : 0 ≤ takeN V ∧ takeN V ≤ 4611686018427387903 := by
  unfold takeN
  cases ht : takeF V with
  | none => simp
  | some v => obtain ⟨m, u⟩ := v; have := take_ok h ht; simp; omega

set_option maxHeartbeats 4000000 in
set_option maxRecDepth 100000 in
theorem value_any (p : PV) (b : Nat) (id : Int) (a : Option Addr) (n cap : Nat) (V : List Int) (w : World) (hn : n = V.length) (hb : Blk w b p.vals 46) (hV : Sl .u8 w a cap V) (ha : ∀ y, a = some y → 0 < V.length → y.block ≠ b) :
    Calls Try.prog 54 #[.pointer (some ⟨b, 0, none⟩), .int .u64 id, .slice a n cap] w fun e w' => e = .returned (.bool (okV id V)) ∧ Blk w' b (updV p id a cap V).vals 46 ∧ Only (· = b) w w' := by
  subst hn
  have hbt := Var.sl_byte hV
  have hlen := hV.len
  unfold maxLen at hlen
  have hN := takeN_range hbt
  have hU : takeU V ≤ 8 := by
    unfold takeU
    cases ht : takeF V with
    | none => simp
    | some v => obtain ⟨m, u⟩ := v; have := take_ok hbt ht; simp; omega
  have HV := Lib.hid hV
  have HB := Lib.hid hb
  have HBT := Lib.hid hbt
  have HA := Lib.hid ha
  clear hV hb hbt ha
  by_cases hs : slotF id = 0
  · have HPTR : Hid (ptrAt b (slotF id) = none) := Lib.hid (by simp [ptrAt, hs])
    by_cases h0 : id = 0
    · have hu : updV p id a cap V = { p with oa := a, oc := cap, O := V } := by unfold updV; rw [if_neg (by simpa using hs), if_pos h0]
      have hk : okV id V = decide (V.length ≤ 20) := by unfold okV; rw [if_neg (by simpa using hs), if_pos (.inl h0)]
      rw [hu, hk]
      subst h0
      clear hs hu hk
      have hc := HB.out.cell 0 (.slice p.oa p.O.length p.oc) rfl
      have hf := HB.out.free 0
      go_enter Try.func54, Try.ntmps54
      go_wp2_with (fail)
      refine (number_any _ _ _).mono ?_
      rw [HPTR.out]
      rintro e w1 ⟨rfl, rfl⟩
      go_wp2_with (fail)
      refine (cid_any _ _ _).mono ?_
      rw [if_pos rfl]
      rintro e w1 ⟨rfl, rfl⟩
      go_wp2_with (fail)
      go_returns
      exact ⟨by simp; omega, HB.out.set 0 _, (Only.refl _ _).set 0 _⟩
    · by_cases h15 : id = 15
      · have hu : updV p id a cap V = { p with ca := a, cc := cap, C := V } := by unfold updV; rw [if_neg (by simpa using hs), if_neg h0, if_pos h15]
        have hk : okV id V = decide (V.length ≤ 20) := by unfold okV; rw [if_neg (by simpa using hs), if_pos (.inr h15)]
        rw [hu, hk]
        subst h15
        clear hs hu hk
        have hc := HB.out.cell 1 (.slice p.ca p.C.length p.cc) rfl
        have hf := HB.out.free 1
        go_enter Try.func54, Try.ntmps54
        go_wp2_with (fail)
        refine (number_any _ _ _).mono ?_
        rw [HPTR.out]
        rintro e w1 ⟨rfl, rfl⟩
        go_wp2_with (fail)
        refine (cid_any _ _ _).mono ?_
        rw [if_neg (by omega), if_pos rfl]
        rintro e w1 ⟨rfl, rfl⟩
        go_wp2_with (fail)
        go_returns
        exact ⟨by simp; omega, HB.out.set 1 _, (Only.refl _ _).set 1 _⟩
      · by_cases h2 : id = 2
        · have hu : updV p id a cap V = ({ p with has := true } : PV).withTok (V.take 16 ++ p.tok.drop (V.take 16).length) := by unfold updV; rw [if_neg (by simpa using hs), if_neg h0, if_neg h15, if_pos h2]
          have hk : okV id V = decide (V.length = 16) := by unfold okV; rw [if_neg (by simpa using hs), if_neg (by omega), if_pos h2]
          rw [hu, hk]
          subst h2
          clear hs hu hk h0 h15
          have hc := HB.out.cell 11 (.bool p.has) rfl
          have hf := HB.out.free 11
          have hb2 : Blk (w.setCell ⟨b, 11, none⟩ (.bool true)) b ({ p with has := true } : PV).vals 46 := HB.out.set 11 _
          have o2 : Only (· = b) w (w.setCell ⟨b, 11, none⟩ (.bool true)) := (Only.refl _ _).set 11 _
          have hv2 := HV.out.only o2 (fun y hy h0 h => HA.out y hy h0 h)
          go_enter Try.func54, Try.ntmps54
          go_wp2_with (fail)
          refine (number_any _ _ _).mono ?_
          rw [HPTR.out]
          rintro e w1 ⟨rfl, rfl⟩
          go_wp2_with (fail)
          refine (cid_any _ _ _).mono ?_
          rw [if_neg (by omega), if_neg (by omega)]
          rintro e w1 ⟨rfl, rfl⟩
          have HB2 := Lib.hid hb2
          have HV2 := Lib.hid hv2
          clear hb2 hv2
          go_wp2_with (with_reducible refine stop_copy ?_)
          refine Stop.out ?_
          clear hc hf
          cases a with
          | none =>
            have hV0 : V = [] := by
              cases V with
              | nil => rfl
              | cons x r => obtain ⟨_, _, h, _⟩ := HV.out.ints 0 (by simp); cases h
            subst hV0
            refine wpList_copy_nothing rfl _ _ _ _ rfl 5 Try.underlying22 u8_size _ _ _ _ _ _ rfl rfl (by simp) ?_
            go_wp2_with (fail)
            go_returns
            exact ⟨by simp, HB2.out, o2⟩
          | some y =>
            have hcl : ((V.take 16).map (Value.int .u8)).length = min 16 V.length := by simp
            have hsrc : ∀ j v, ((V.take 16).map (Value.int .u8))[j]? = some v → (w.setCell ⟨b, 11, none⟩ (.bool true)).cell? (y.add j) = some v := fun j v hj => by
              refine HV2.out.src.2.2.1 y rfl j v ?_
              rw [List.map_take] at hj
              obtain ⟨h1, h2⟩ := List.getElem?_eq_some_iff.1 hj
              rw [List.getElem_take] at h2
              simp at h1
              rw [List.getElem?_eq_getElem (by simp; omega), h2]
            have hT : (V.take 16 ++ p.tok.drop (V.take 16).length).length = 16 := by
              have : p.tok.length = 16 := rfl
              simp; omega
            have hrow : (({ p with has := true } : PV).vals.toList.take 12 ++ ((V.take 16).map (Value.int .u8) ++ ({ p with has := true } : PV).vals.toList.drop (12 + ((V.take 16).map (Value.int .u8)).length))).toArray = (({ p with has := true } : PV).withTok (V.take 16 ++ p.tok.drop (V.take 16).length)).vals := by
              have e1 := withTok_vals ({ p with has := true } : PV) _ hT
              have e2 : ({ p with has := true } : PV).vals.toList.drop (12 + ((V.take 16).map (Value.int .u8)).length) = (p.tok.drop (V.take 16).length).map (Value.int .u8) := by
                rw [← List.drop_drop, List.map_drop, List.length_map]
                rfl
              rw [e2, ← List.map_append]
              apply Array.toList_inj.1
              rw [e1]
              rfl
            have hblk := setRow_heap (w.setCell ⟨b, 11, none⟩ (.bool true)) b _ (({ p with has := true } : PV).withTok (V.take 16 ++ p.tok.drop (V.take 16).length)).vals 46 (0, 0) HB2.out
            have HK := Lib.hid hblk
            have HS := Lib.hid hsrc
            have HR := Lib.hid hrow
            clear hblk hsrc hrow hT
            refine wpList_copy_own rfl _ _ _ _ rfl 5 Try.underlying22 u8_size b 12 16 16 y V.length cap rfl rfl _ 46 HB2.out ((V.take 16).map (Value.int .u8)) (by rw [hcl, Nat.min_comm]) HS.out (by rw [hcl]; have : ({ p with has := true } : PV).vals.size = 28 := rfl; omega) (by intro u hu; obtain ⟨z, _, rfl⟩ := List.mem_map.1 hu; rfl) ?_
            rw [HR.out, hcl]
            have o3 : Only (· = b) w ((w.setCell ⟨b, 11, none⟩ (.bool true)).setRow b (({ p with has := true } : PV).withTok (V.take 16 ++ p.tok.drop (V.take 16).length)).vals) :=
              ⟨o2.os, o2.tape, o2.output, by simp [World.setRow], fun k hk hs => by rw [setRow_other _ _ _ _ hs]; exact o2.block k hk hs⟩
            generalize (w.setCell ⟨b, 11, none⟩ (.bool true)).setRow b (({ p with has := true } : PV).withTok (V.take 16 ++ p.tok.drop (V.take 16).length)).vals = w5 at *
            by_cases h16 : V.length = 16
            · rw [show min 16 V.length = 16 by omega]
              go_wp2_with (fail)
              go_returns
              exact ⟨by simp [h16], HK.out, o3⟩
            · have hne : ((V.length : Int) == 16) = false := by simp; omega
              go_wp2_with (fail)
              all_goals
                go_returns
                exact ⟨by simp [h16], HK.out, o3⟩
        · have hu : updV p id a cap V = p := by unfold updV; rw [if_neg (by simpa using hs), if_neg h0, if_neg h15, if_neg h2]
          have hk : okV id V = true := by unfold okV; rw [if_neg (by simpa using hs), if_neg (by omega), if_neg h2]
          rw [hu, hk]
          clear hs hu hk
          go_enter Try.func54, Try.ntmps54
          go_wp2_with (fail)
          refine (number_any _ _ _).mono ?_
          rw [HPTR.out]
          rintro e w1 ⟨rfl, rfl⟩
          go_wp2_with (fail)
          refine (cid_any _ _ _).mono ?_
          rw [if_neg h0, if_neg h15]
          rintro e w1 ⟨rfl, rfl⟩
          go_wp2_with (fail)
          go_returns
          exact ⟨rfl, HB.out, Only.refl _ _⟩
  · have hsl := slot_le id
    have HPTR : Hid (ptrAt b (slotF id) = some ⟨b, slotF id, none⟩) := Lib.hid (by simp [ptrAt, hs])
    have hu : updV p id a cap V = p.setNum (slotF id) (takeN V) := by unfold updV; rw [if_pos hs]
    have hk : okV id V = ((takeF V).isSome && (decide (takeU V = V.length) && mayId id (takeN V))) := by unfold okV; rw [if_pos hs]
    have hset := Lib.hid (setNum_vals p (slotF id) (takeN V) (by omega) (by omega))
    have hc := HB.out.cell (slotF id) (.int .u64 (p.num (slotF id))) (by have := p.at_num (slotF id) (by omega) (by omega); simpa [PV.vals] using this)
    have hf := HB.out.free (slotF id)
    rw [hu, hk]
    clear hs hu hk hsl
    have hsl' : ∃ sl, slotF id = sl := ⟨_, rfl⟩
    obtain ⟨m, hm⟩ : ∃ m, takeN V = m := ⟨_, rfl⟩
    obtain ⟨u, hum⟩ : ∃ u, takeU V = u := ⟨_, rfl⟩
    obtain ⟨si, hsm⟩ : ∃ si, (takeF V).isSome = si := ⟨_, rfl⟩
    obtain ⟨sl, hsl⟩ := hsl'
    have hset := hset.out
    rw [hm] at hN hset
    rw [hum] at hU
    rw [hsl] at hset hc hf
    have HPTR : Hid (ptrAt b (slotF id) = some ⟨b, sl, none⟩) := Lib.hid (by rw [← hsl]; exact HPTR.out)
    rw [hm, hum, hsm, hsl]
    have HM := Lib.hid hm
    have HUM := Lib.hid hum
    have HSM := Lib.hid hsm
    have hfin : Blk (w.setCell ⟨b, sl, none⟩ (.int .u64 m)) b (p.setNum sl m).vals 46 := by rw [hset]; exact HB.out.set _ _
    have HF := Lib.hid hfin
    clear hfin hm hum hsm hsl hset
    go_enter Try.func54, Try.ntmps54
    go_wp2_with (fail)
    refine (number_any _ _ _).mono ?_
    rw [HPTR.out]
    rintro e w1 ⟨rfl, rfl⟩
    go_wp2_with (fail)
    refine (take_any a _ cap V _ rfl HV.out).mono ?_
    rw [HM.out, HUM.out, HSM.out]
    rintro e w1 ⟨rfl, rfl⟩
    cases si with
    | false =>
      go_wp2_with (fail)
      go_returns
      exact ⟨rfl, HF.out, (Only.refl _ _).set _ _⟩
    | true =>
      by_cases hl : u = V.length
      · go_wp2_with (fail)
        refine (may_any id m _ hN.1).mono ?_
        rintro e w1 ⟨rfl, rfl⟩
        go_wp2_with (fail)
        go_returns
        exact ⟨by simp [hl], HF.out, (Only.refl _ _).set _ _⟩
      · go_wp2_with (fail)
        go_returns
        exact ⟨by simp [hl], HF.out, (Only.refl _ _).set _ _⟩

end Par
end Go.Proofs.Ytjeolfnmheofeaa
