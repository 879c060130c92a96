/- In a region that draws its order: a whole struct is loaded, bytes are read as text, texts are set one behind the other and held against each other. -/
import Derived.Test.YthangjgdjhhfgaaGreatDoorReg
import Derived.Test.YthangjgdjhhfgaaGreatDoorLoad
import Derived.Test.YthangjgdjhhfgaaGreatDoorText
import Derived.BigQuiet
namespace Go.Proofs.YthangjgdjhhfgaaGreatDoor
open Go.RowKit
set_option linter.unusedVariables false
section
variable {P : Program} {ops : Array Oper} {C : World → Prop} {Q : Act → Prop} {a : Act} {o : Oper} {rest : List Oper}

theorem wpQuiet_val (hw : Region.wanted o (yielded ops a.tmps) = true) (v : Value) (h : ∀ w, C w → (execOp a.eval o).run P w = .ok (.value v) w) (hk : wpQuiet P ops C Q rest (a.put o.dst v)) : wpQuiet P ops C Q (o :: rest) a :=
  BigFrame.wpQuiet_want hw fun K hK => ⟨v, fun w hc => by unfold Oper.quietAt; rw [h w hc]; exact ⟨rfl, rfl⟩, hK _ hk⟩

theorem wpQuiet_loadAll {n : Nat} {t : TypeId} {fs : Array Field} (hu : P.underlying t = some (.struct fs)) (hi : (P.info? t).map (·.size) = some n) (hgd : Region.wanted o (yielded ops a.tmps) = true) {x : Operand} (ho : o.op = .load t x)
    {b : Nat} {cs : Array Value} {T : TypeId} (hx : a.eval x = .pointer (some ⟨b, 0, none⟩)) (hb : ∀ w, C w → Blk w b cs T) (hn : cs.size = n)
    (h : wpQuiet P ops C Q rest (a.put o.dst (.agg cs))) : wpQuiet P ops C Q (o :: rest) a :=
  wpQuiet_val hgd _ (fun w hc => by
    have hr := run_loadVar_row (P := P) w b T t cs _ _ (hb w hc) hu rfl (by rw [hn]; exact hi)
    unfold execOp
    simp only [ho, hx, Instr.loadAt, Instr.sureAddr, Sem.run_bind, Sem.run_pure, Result.andThen_ok, hr]) h

theorem run_str {src dst e : TypeId} (hsrc : P.underlying src = some (.slice e)) (he : P.underlying e = some (.int .u8)) (hd : P.underlying dst = some .string) {av : Option Addr} {n cap : Nat} {L : List Int} (hn : n = L.length) (w : World) (hs : IntsAt .u8 w av L) :
    (convert src dst (.slice av n cap)).run P w = .ok (.string (strOfNums L)) w := by
  cases L with
  | nil =>
    cases av with
    | none => exact run_convert_bytes_nil w src e hsrc he n cap dst hd
    | some y =>
      obtain ⟨b, off, sp⟩ := y
      subst hn
      rw [run_convert_bytes_string w src dst e _ _ cap hsrc he hd]
      have := run_bytesToString (P := P) w ⟨b, off, sp⟩ 0 cap [] (by simp [loadCells, loadCellsFrom, Sem.run_pure])
      simp only [List.foldl_nil] at this
      exact this
  | cons z L =>
    obtain ⟨b, off, rfl, _⟩ := hs 0 (by simp)
    exact run_convert_bytes_arg w src e hsrc he b off n cap (z :: L) hn.symm (fun i hi => by
      obtain ⟨b', off', h1, _, h2, _⟩ := hs i (by omega)
      cases h1; exact h2) dst hd
theorem wpQuiet_str {src dst e : TypeId} (hsrc : P.underlying src = some (.slice e)) (he : P.underlying e = some (.int .u8)) (hd : P.underlying dst = some .string) (hgd : Region.wanted o (yielded ops a.tmps) = true) {x : Operand} (ho : o.op = .convert src dst x)
    {av : Option Addr} {n cap : Nat} {L : List Int} (hx : a.eval x = .slice av n cap) (hn : n = L.length) (hs : ∀ w, C w → IntsAt .u8 w av L)
    (h : wpQuiet P ops C Q rest (a.put o.dst (.string (strOfNums L)))) : wpQuiet P ops C Q (o :: rest) a :=
  wpQuiet_val hgd _ (fun w hc => by
    have hr := run_str (cap := cap) hsrc he hd hn w (hs w hc)
    unfold execOp
    simp only [ho, hx, Sem.run_bind, Sem.run_pure, hr, Result.andThen_ok]) h
theorem wpQuiet_concat {t ty : TypeId} (hgd : Region.wanted o (yielded ops a.tmps) = true) {x y : Operand} (ho : o.op = .binOp .add t x y ty) {L M : List Int} (hx : a.eval x = .string (strOfNums L)) (hy : a.eval y = .string (strOfNums M)) (hl : L.length + M.length ≤ 9223372036854775807)
    (h : wpQuiet P ops C Q rest (a.put o.dst (.string (strOfNums (L ++ M))))) : wpQuiet P ops C Q (o :: rest) a :=
  wpQuiet_val hgd _ (fun w hc => by
    have hr : (binOp .add t (.string (strOfNums L)) (.string (strOfNums M))).run P w = .ok (.string (strOfNums (L ++ M))) w := by
      rw [binOp_string_add, run_string_add_sum (P := P) w _ _ (by rw [strOfNums_size, strOfNums_size]; exact hl), str_append]
    have hr2 : eqGuard .add t x y (.string (strOfNums L)) (.string (strOfNums M)) = pure () := eqGuard_at_string ..
    unfold execOp
    simp only [ho, hx, hy, hr2]
    simp [Result.andThen, hr]) h
theorem wpQuiet_same {t ty : TypeId} (hgd : Region.wanted o (yielded ops a.tmps) = true) {x y : Operand} (ho : o.op = .binOp .eql t x y ty) {s : ByteArray} (hx : a.eval x = .string s) (hy : a.eval y = .string s)
    (h : wpQuiet P ops C Q rest (a.put o.dst (.bool true))) : wpQuiet P ops C Q (o :: rest) a :=
  wpQuiet_val hgd _ (fun w hc => by
    have hr : binOp .eql t (.string s) (.string s) = pure (.bool true) := by rw [binOp_string_eql]; simp only [BEq.rfl]
    have hr2 : eqGuard .eql t x y (.string s) (.string s) = pure () := eqGuard_at_string ..
    unfold execOp
    simp only [ho, hx, hy, hr, hr2]
    simp []) h

/-- The class of the worlds in which every old block is as it was: with the blocks themselves in sight. -/
theorem rg_belowB {P : Program} {Q : Exit → Act → World → Prop} {l : List Oper} {n : Nat} {listed : Array Bool} {a : Act} {w : World}
    (h : ∀ p : World → Prop, (∀ w', Cls p w' → RowKit.Below w.heap.size w w') → (∀ x : Wd p, ∀ b o s, b < w.heap.size → x.w.cell? ⟨b, o, s⟩ = w.cell? ⟨b, o, s⟩) → Nonempty (Wd p) → Cls p w → (∀ w', RowKit.Below w.heap.size w w' → Cls p w') → RG P l.toArray Q (Cls p) [] n listed a w) :
    RG0 P l.toArray Q n listed a w := fun hcl =>
  wpAny_of_G _ _ _ _ (h (fun w' => RowKit.Below w.heap.size w w') (fun w' hc => hc.out) (fun x b o s hb => x.ok.cell (p := ⟨b, o, s⟩) hb) ⟨⟨w, RowKit.Below.refl _ _⟩⟩ (Cls.mk (RowKit.Below.refl _ _)) (fun _ h => Cls.mk h) hcl)
end
end Go.Proofs.YthangjgdjhhfgaaGreatDoor
