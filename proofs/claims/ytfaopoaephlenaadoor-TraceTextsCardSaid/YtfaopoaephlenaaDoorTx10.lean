/- The arguments of TraceTexts; the tables and errors that the row lays. -/
import Derived.Test.YtfaopoaephlenaaDoorTx9
import Derived.Test.YtfaopoaephlenaaDoorArgs
import Derived.Test.YtfaopoaephlenaaDoorTr6
import Derived.Handed
import Derived.LaidLaws
import Derived.WideShapes
import Derived.SizedLaws
namespace Go.Proofs.YtfaopoaephlenaaDoor
open Go.RowKit
set_option linter.unusedVariables false
section
variable {H : Type} {enc : TypeId × Value → H}
/-- The wrap of a row over a change, with what is laid and with the world's shape handed on. -/
theorem handed_shaped {a : Assume} {C : Checked} {os : Os} {f : FuncId} {fn : Func} {s : ChangeSpec} {conds : List PathCond} {apart fresh handsOn again : Bool} {X : World → Array Value → Prop}
    (hX : ∀ (w w' : World) (args : Array Value), w.heap = w'.heap → X w args → X w' args)
    (own : ownKnob C.prog.godebug = none) (started : os.Started) (noInit : C.prog.inits.idxOf? f = none) (hfn : C.prog.funcs[f]? = some fn)
    (witness : ∃ (w : World) (tape : Tape) (i : Input), w.os = os ∧ (w.forCall tape i).Shaped C.prog ∧ i.vars = [] ∧ Input.okWide C.prog (w.forCall tape i) .any w.heap.size f i ∧
      ((s.pre enc C.prog fn conds apart (w.forCall tape i).memory i.args ∧ X (w.forCall tape i).memory i.args) ∧ sizedMet enc C.prog fn (OpenSpec.ofChange s) apart (w.forCall tape i).memory i.args) ∧ a.holds C.prog (lone (Frame.enter C.prog f i.args .normal) [] (w.forCall tape i)))
    (contract : ∀ (W : World) (base : Nat) (args : Array Value) (ds gs : List (DataW H)) (before : List MemPlace),
      (∀ (j : Nat) t v, fn.params[j]? = some t → args[j]? = some v → Value.okWide C.prog W .any base t v) →
      DataW.Whole enc C.prog fn.params.toList s.vars apart W args.toList ds gs before →
      conds.all (PathCond.test C.prog ⟨fn.params.toList, ds, s.plain.varTypes C.prog, gs⟩) = true →
      (DataW.weightsEach C.prog (fn.params.toList ++ s.plain.varTypes C.prog) (ds ++ gs)).all (· ≤ reachBytes) = true → X W args → W.ShapedOpen C.prog →
      a.holds C.prog (lone (Frame.enter C.prog f args .normal) [] W) →
      Calls C.prog f args W fun e W' => ∃ v, e = .returned v ∧ s.post enc C.prog fn apart fresh handsOn again W args v W') :
    ReturnsInHanded a C os f .any (fun w args => (s.pre enc C.prog fn conds apart w args ∧ X w args) ∧ sizedMet enc C.prog fn (OpenSpec.ofChange s) apart w args) (s.post enc C.prog fn apart fresh handsOn again) := by
  refine returnsInHanded_of_calls own started noInit witness ?_
  intro w tape i _ hsh _ hok hpre hholds
  obtain ⟨_, _, _, fn', hfn', _, _, _, _, hval⟩ := hok
  have e : fn' = fn := Option.some.inj (hfn'.symm.trans hfn)
  subst e
  obtain ⟨⟨⟨ds, gs, before, hw, hc⟩, hx⟩, hz⟩ := hpre
  have hw' := DataW.Whole.of_heap (w' := w.forCall tape i) (by rfl) hw
  refine (contract (w.forCall tape i) w.heap.size i.args ds gs before hval hw' hc (hz.weights hw) (hX _ _ _ (by rfl) hx) hsh hholds).mono fun e W' ⟨v, he, hp⟩ => ?_
  subst he
  exact ChangeSpec.post_blind hp
end
theorem lt_of_cell {w : World} {a : Addr} {v : Value} (h : w.cell? a = some v) : a.block < w.heap.size := by
  apply Classical.byContradiction
  intro hge
  simp [World.cell?, Array.getElem?_eq_none (Nat.le_of_not_lt hge)] at h
theorem var_cell {W : World} {n : String} {g : Nat} {v : Value} (hg : Tryd.prog.globalNamed n = some g) (h : W.var? Tryd.prog n = some #[v]) : W.cell? ⟨g, 0, none⟩ = some v := by
  unfold World.var? at h
  rw [hg] at h
  simp only [Option.bind_some] at h
  unfold World.cell?
  simp only at h ⊢
  split at h <;> simp_all
theorem err_star : "*" ++ "errors.errorString" = "*errors.errorString" := by decide
theorem err_row (u : TypeId) (h : Tryd.prog.typeName? 3 u = some "*errors.errorString") : u = 191 :=
  typeName_ptr_named (nm := "errors.errorString") (by rw [err_star]; kernel_rfl) (by kernel_rfl) (by decide) u (by rw [err_star]; exact h)
theorem texts_laid {W : World} (h : laidMet Tryd.prog Rows.traceTextsRow.laid W) : (∀ g c, (g, c) ∈ tabs → W.rangeAt g 0 c ∧ g < W.heap.size) ∧ Pow10 W ∧ ErrAt W := by
  have e1 : (Rows.laid_math_bits_deBruijn32tab : DataW Unit) = Lib.tabData .u8 ns_laid_math_bits_deBruijn32tab := by kernel_rfl
  have e2 : (Rows.laid_math_bits_deBruijn64tab : DataW Unit) = Lib.tabData .u8 ns_laid_math_bits_deBruijn64tab := by kernel_rfl
  have e3 : (Rows.laid_internal_strconv_uint64pow10 : DataW Unit) = Lib.tabData .u64 ns_laid_internal_strconv_uint64pow10 := by kernel_rfl
  simp only [Rows.traceTextsRow] at h
  have h5 := h.tail.tail.tail.tail
  rw [e1, e2, e3] at h
  have t3 := Lib.tabIs_of_head (g:= 1) (by kernel_rfl) (by kernel_rfl) Tryd.underlying171 Tryd.underlying24 (by kernel_rfl) (by kernel_rfl) h.tail.tail
  refine ⟨?_, ?_, ?_⟩
  · intro g c hgc
    simp only [tabs, List.mem_cons, List.mem_nil_iff, or_false, Prod.mk.injEq] at hgc
    rcases hgc with ⟨rfl, rfl⟩ | ⟨rfl, rfl⟩ | ⟨rfl, rfl⟩
    · exact tab_of (by kernel_rfl) (Lib.tabIs_of_head (g:= 6) (by kernel_rfl) (by kernel_rfl) Tryd.underlying55 Tryd.underlying5 (by kernel_rfl) (by kernel_rfl) h) (by decide)
    · exact tab_of (by kernel_rfl) (Lib.tabIs_of_head (g:= 7) (by kernel_rfl) (by kernel_rfl) Tryd.underlying197 Tryd.underlying5 (by kernel_rfl) (by kernel_rfl) h.tail) (by decide)
    · exact tab_of (by kernel_rfl) t3 (by decide)
  · have : (ns_laid_internal_strconv_uint64pow10 : List Int) = Lib.pow10Tab := by kernel_rfl
    rw [this] at t3
    exact t3
  · obtain ⟨a0, sa, hva, _, _, _⟩ := laid_sentinel (ti := 99) (tp := 191) (te := 193) (ts := 9) h5 (g := 3) (by kernel_rfl) (by kernel_rfl) Tryd.underlying99 err_row Tryd.underlying191 Tryd.underlying193 rfl rfl Tryd.underlying9 (by kernel_rfl) (by kernel_rfl)
    obtain ⟨b0, sb, hvb, _, _, _⟩ := laid_sentinel (ti := 99) (tp := 191) (te := 193) (ts := 9) h5.tail (g := 2) (by kernel_rfl) (by kernel_rfl) Tryd.underlying99 err_row Tryd.underlying191 Tryd.underlying193 rfl rfl Tryd.underlying9 (by kernel_rfl) (by kernel_rfl)
    exact ⟨⟨_, var_cell (by kernel_rfl) hvb, .inr ⟨_, _, rfl⟩⟩, _, var_cell (by kernel_rfl) hva, .inr ⟨_, _, rfl⟩⟩
set_option maxRecDepth 100000 in
theorem open_string {H : Type} {enc : TypeId × Value → H} {w : World} {base : Nat} {v : Value} {d : DataW H} {p : List MemPlace} {n : Nat → Bool} {k : Bool} (o : Value.okWide Tryd.prog w .any base 9 v) (h : DataW.Trod enc Tryd.prog w 0 n k 9 v d p) : ∃ s : List UInt8, v = .string (tx s) ∧ s.length ≤ maxLen := by
  obtain ⟨s, rfl⟩ := Go.WideShapes.okWide_string Tryd.underlying9 o
  obtain ⟨m, hm⟩ := h
  obtain ⟨s', e1, _, h2⟩ := DataW.trod_string Tryd.underlying9 hm
  refine ⟨s.data.toList, by rw [← tx_of], ?_⟩
  have e2 : s = s' := by simpa [Value.cells] using e1
  rw [Array.length_toList, e2]; exact h2
set_option maxRecDepth 100000 in
theorem walk_TraceTexts (H : Type) (enc : TypeId × Value → H) (w : World) (base : Nat) (v0 : Value) (d0 : DataW H) (p0 : List MemPlace) (v1 : Value) (d1 : DataW H) (p1 : List MemPlace)
    (o0 : Value.okWide Tryd.prog w .any base 22 v0) (h0 : DataW.Trod enc Tryd.prog w 0 (fun _ => true) true 22 v0 d0 p0)
    (o1 : Value.okWide Tryd.prog w .any base 9 v1) (h1 : DataW.Trod enc Tryd.prog w 0 (fun _ => true) true 9 v1 d1 p1)
    (hl : laidMet Tryd.prog Rows.traceTextsRow.laid w) (hS : w.ShapedOpen Tryd.prog) :
    Calls Tryd.prog 3 #[v0, v1] w fun e w' => e = .returned (.bool true) ∧ Below w.heap.size w w' := by
  obtain ⟨a, L, ca, rfl, hA⟩ := open_evs o0 h0
  obtain ⟨s, rfl, hs⟩ := open_string o1 h1
  obtain ⟨hG, hp, he⟩ := texts_laid hl
  have hm := MaxLenAt.of hS
  have g1 : 1 < w.heap.size := (hG 1 (ns_laid_internal_strconv_uint64pow10.map (Value.int .u64)) (List.mem_cons_of_mem _ (List.mem_cons_of_mem _ (List.mem_cons_self ..)))).2
  have g2 : 0 < w.heap.size := by obtain ⟨m, hm⟩ := hm; exact lt_of_cell hm
  have g3 : 2 < w.heap.size ∧ 3 < w.heap.size := by
    obtain ⟨⟨_, h1, _⟩, _, h2, _⟩ := he
    exact ⟨lt_of_cell h1, lt_of_cell h2⟩
  exact texts_law a L.length ca L s w rfl hA hG hp hm he g1 g2 g3 (by simpa [maxLen] using hs)
end Go.Proofs.YtfaopoaephlenaaDoor
