/- TraceKnown: the tables and errors that the row lays. -/
import Derived.Test.YtfaopoaephlenaaGreatDoorTk7
import Derived.Lib.LaidTab
import Derived.Stop.LaidErr
import Derived.Handed
import Derived.LaidLaws
import Derived.WideShapes
import Derived.SizedLaws
namespace Go.Proofs.YtfaopoaephlenaaGreatDoor
open Go.RowKit
set_option linter.unusedVariables false
section
variable {H : Type} {enc : TypeId × Value → H}
/-- The wrap of a row over a change, with what is laid and with the world's shape handed on. -/
theorem handed_shaped {a : Assume} {C : Checked} {os : Os} {f : FuncId} {fn : Func} {s : ChangeSpec} {conds : List PathCond} {apart fresh handsOn again : Bool} {X : World → Array Value → Prop}
    (hX : ∀ (w w' : World) (args : Array Value), w.heap = w'.heap → X w args → X w' args)
    (own : ownKnob C.prog.godebug = none) (started : os.Started) (noInit : C.prog.inits.idxOf? f = none) (hfn : C.prog.funcs[f]? = some fn)
    (witness : ∃ (w : World) (tape : Tape) (i : Input), w.os = os ∧ (w.forCall tape i).Shaped C.prog ∧ i.vars = [] ∧ Input.okWide C.prog (w.forCall tape i) .any w.heap.size f i ∧
      ((s.pre enc C.prog fn conds apart (w.forCall tape i).memory i.args ∧ X (w.forCall tape i).memory i.args) ∧ sizedMet enc C.prog fn (OpenSpec.ofChange s) apart (w.forCall tape i).memory i.args) ∧ a.holds C.prog (lone (Frame.enter C.prog f i.args .normal) [] (w.forCall tape i)))
    (contract : ∀ (W : World) (base : Nat) (args : Array Value) (ds gs : List (DataW H)) (before : List MemPlace),
      (∀ (j : Nat) t v, fn.params[j]? = some t → args[j]? = some v → Value.okWide C.prog W .any base t v) →
      DataW.Whole enc C.prog fn.params.toList s.vars apart W args.toList ds gs before →
      conds.all (PathCond.test C.prog ⟨fn.params.toList, ds, s.plain.varTypes C.prog, gs⟩) = true →
      (DataW.weightsEach C.prog (fn.params.toList ++ s.plain.varTypes C.prog) (ds ++ gs)).all (· ≤ reachBytes) = true → X W args → W.ShapedOpen C.prog →
      a.holds C.prog (lone (Frame.enter C.prog f args .normal) [] W) →
      Calls C.prog f args W fun e W' => ∃ v, e = .returned v ∧ s.post enc C.prog fn apart fresh handsOn again W args v W') :
    ReturnsInHanded a C os f .any (fun w args => (s.pre enc C.prog fn conds apart w args ∧ X w args) ∧ sizedMet enc C.prog fn (OpenSpec.ofChange s) apart w args) (s.post enc C.prog fn apart fresh handsOn again) := by
  refine returnsInHanded_of_calls own started noInit witness ?_
  intro w tape i _ hsh _ hok hpre hholds
  obtain ⟨_, _, _, fn', hfn', _, _, _, _, hval⟩ := hok
  have e : fn' = fn := Option.some.inj (hfn'.symm.trans hfn)
  subst e
  obtain ⟨⟨⟨ds, gs, before, hw, hc⟩, hx⟩, hz⟩ := hpre
  have hw' := DataW.Whole.of_heap (w' := w.forCall tape i) (by rfl) hw
  refine (contract (w.forCall tape i) w.heap.size i.args ds gs before hval hw' hc (hz.weights hw) (hX _ _ _ (by rfl) hx) hsh hholds).mono fun e W' ⟨v, he, hp⟩ => ?_
  subst he
  exact ChangeSpec.post_blind hp
end
theorem tab_of {W : World} {name : String} {k : IntKind} {zs : List Int} {g : Nat} (hg : Tryz.prog.globalNamed name = some g) (h : Lib.TabIs Tryz.prog W name k zs) (h0 : 0 < zs.length) : W.rangeAt g 0 (zs.map (Value.int k)) ∧ g < W.heap.size := by
  have hr : W.rangeAt g 0 (zs.map (Value.int k)) := fun j v hv => by
    have hj : j < zs.length := by simpa using (List.getElem?_eq_some_iff.1 hv).1
    rw [Nat.zero_add, h.cell hg j hj, ← hv]
    simp [hj]
  refine ⟨hr, ?_⟩
  have hc := h.cell hg 0 h0
  apply Classical.byContradiction
  intro hge
  simp [World.cell?, Array.getElem?_eq_none (Nat.le_of_not_lt hge)] at hc
theorem lt_of_cell {w : World} {a : Addr} {v : Value} (h : w.cell? a = some v) : a.block < w.heap.size := by
  apply Classical.byContradiction
  intro hge
  simp [World.cell?, Array.getElem?_eq_none (Nat.le_of_not_lt hge)] at h
theorem var_cell {W : World} {n : String} {g : Nat} {v : Value} (hg : Tryz.prog.globalNamed n = some g) (h : W.var? Tryz.prog n = some #[v]) : W.cell? ⟨g, 0, none⟩ = some v := by
  unfold World.var? at h
  rw [hg] at h
  simp only [Option.bind_some] at h
  unfold World.cell?
  simp only at h ⊢
  split at h <;> simp_all
theorem err_star : "*" ++ "errors.errorString" = "*errors.errorString" := by decide
theorem err_row (u : TypeId) (h : Tryz.prog.typeName? 3 u = some "*errors.errorString") : u = 178 :=
  typeName_ptr_named (nm := "errors.errorString") (by rw [err_star]; kernel_rfl) (by kernel_rfl) (by decide) u (by rw [err_star]; exact h)
theorem texts_laid {W : World} (h : laidMet Tryz.prog Rows.traceKnownRow.laid W) : (∀ g c, (g, c) ∈ tabs → W.rangeAt g 0 c ∧ g < W.heap.size) ∧ Pow10 W ∧ ErrAt W := by
  have e1 : (Rows.laid_math_bits_deBruijn32tab : DataW Unit) = Lib.tabData .u8 ns_laid_math_bits_deBruijn32tab := by kernel_rfl
  have e2 : (Rows.laid_math_bits_deBruijn64tab : DataW Unit) = Lib.tabData .u8 ns_laid_math_bits_deBruijn64tab := by kernel_rfl
  have e3 : (Rows.laid_internal_strconv_uint64pow10 : DataW Unit) = Lib.tabData .u64 ns_laid_internal_strconv_uint64pow10 := by kernel_rfl
  simp only [Rows.traceKnownRow] at h
  have h5 := h.tail.tail.tail.tail
  rw [e1, e2, e3] at h
  have t3 := Lib.tabIs_of_head (g:= 3) (by kernel_rfl) (by kernel_rfl) Tryz.underlying165 Tryz.underlying29 (by kernel_rfl) (by kernel_rfl) h.tail.tail
  refine ⟨?_, ?_, ?_⟩
  · intro g c hgc
    simp only [tabs, List.mem_cons, List.mem_nil_iff, or_false, Prod.mk.injEq] at hgc
    rcases hgc with ⟨rfl, rfl⟩ | ⟨rfl, rfl⟩ | ⟨rfl, rfl⟩
    · exact tab_of (by kernel_rfl) (Lib.tabIs_of_head (g:= 6) (by kernel_rfl) (by kernel_rfl) Tryz.underlying70 Tryz.underlying5 (by kernel_rfl) (by kernel_rfl) h) (by decide)
    · exact tab_of (by kernel_rfl) (Lib.tabIs_of_head (g:= 7) (by kernel_rfl) (by kernel_rfl) Tryz.underlying193 Tryz.underlying5 (by kernel_rfl) (by kernel_rfl) h.tail) (by decide)
    · exact tab_of (by kernel_rfl) t3 (by decide)
  · have : (ns_laid_internal_strconv_uint64pow10 : List Int) = Lib.pow10Tab := by kernel_rfl
    rw [this] at t3
    exact t3
  · obtain ⟨a0, sa, hva, _, _, _⟩ := laid_sentinel (ti := 49) (tp := 178) (te := 180) (ts := 9) h5 (g := 2) (by kernel_rfl) (by kernel_rfl) Tryz.underlying49 err_row Tryz.underlying178 Tryz.underlying180 rfl rfl Tryz.underlying9 (by kernel_rfl) (by kernel_rfl)
    obtain ⟨b0, sb, hvb, _, _, _⟩ := laid_sentinel (ti := 49) (tp := 178) (te := 180) (ts := 9) h5.tail (g := 1) (by kernel_rfl) (by kernel_rfl) Tryz.underlying49 err_row Tryz.underlying178 Tryz.underlying180 rfl rfl Tryz.underlying9 (by kernel_rfl) (by kernel_rfl)
    exact ⟨⟨_, var_cell (by kernel_rfl) hvb, .inr ⟨_, _, rfl⟩⟩, _, var_cell (by kernel_rfl) hva, .inr ⟨_, _, rfl⟩⟩
theorem walk_TraceKnown (H : Type) (enc : TypeId × Value → H) (w : World) (base : Nat)
    (hl : laidMet Tryz.prog Rows.traceKnownRow.laid w) (hS : w.ShapedOpen Tryz.prog) :
    Calls Tryz.prog 3 #[] w fun e w' => e = .returned (.bool true) ∧ Below w.heap.size w w' := by
  obtain ⟨hG, hp, he⟩ := texts_laid hl
  have hm := MaxLenAt.of hS
  have g1 : 3 < w.heap.size := (hG 3 (ns_laid_internal_strconv_uint64pow10.map (Value.int .u64)) (List.mem_cons_of_mem _ (List.mem_cons_of_mem _ (List.mem_cons_self ..)))).2
  have g2 : 0 < w.heap.size := by obtain ⟨m, hm⟩ := hm; exact lt_of_cell hm
  have g3 : 1 < w.heap.size ∧ 2 < w.heap.size := by
    obtain ⟨⟨_, h1, _⟩, _, h2, _⟩ := he
    exact ⟨lt_of_cell h1, lt_of_cell h2⟩
  exact known_law w hG hp hm he g1 g2 g3
end Go.Proofs.YtfaopoaephlenaaGreatDoor
