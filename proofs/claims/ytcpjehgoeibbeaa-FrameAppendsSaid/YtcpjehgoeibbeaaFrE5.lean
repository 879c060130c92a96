/- The document's u, acks. -/
import Derived.Test.YtcpjehgoeibbeaaFrE4
namespace Go.Proofs.Ytcpjehgoeibbeaa
open Go.RowKit
set_option linter.unusedVariables false
namespace Frm
open Var
theorem u_any (x : Int) (w : World) (h : U64 x) :
    Calls Try.prog 33 #[.int .u64 x] w fun e w' => ∃ a' n cap', e = .returned (.slice a' n cap') ∧ n = (enc x).length ∧ n ≤ 8 ∧ OwB w' w.heap.size a' cap' (enc x) ∧ Below w.heap.size w w' := by
  have hl8 : (enc x).length ≤ 8 := by rw [enc_length _ h.1]; exact size_le _
  have HL := Lib.hid hl8
  have hby := Lib.hid (enc_bytes x h.1)
  obtain ⟨h0, h1⟩ := h
  have H0 := Lib.hid h0
  clear hl8
  go_enter Try.func33, Try.ntmps33
  go_wp2_with (fail)
  refine (rshort_any x _ h0 h1).mono ?_
  rintro e w1 ⟨a', cap', rfl, ho, hb⟩
  obtain ⟨n, hn⟩ : ∃ n, (enc x).length = n := ⟨_, rfl⟩
  have HN := Lib.hid hn
  have HO := Lib.hid (show OwB w1 w.heap.size a' cap' (enc x) from ⟨ho, hby.out⟩)
  rw [hn]
  clear ho hn
  go_wp2_with (fail)
  go_returns
  exact ⟨a', n, cap', rfl, HN.out.symm, by rw [← HN.out]; exact HL.out, HO.out, hb⟩
section
variable {ops : Array Oper} {Q : Exit → Act → World → Prop} {a : Act} {w : World} {rest : List Oper} {o : Oper}
theorem wpList_appB (hgd : o.guard = none) {s x : Operand} (ho : o.op = .call { callee := .builtin .append, args := #[s, x], argTypes := #[23, 23] })
    {base : Nat} {av ad : Option Addr} {n cap m c : Nat} {L M : List Int} (hs : a.eval s = .slice av n cap) (hx : a.eval x = .slice ad m c) (hn : n = L.length) (hm : m = M.length)
    (hL : OwB w base av cap L) (hM : Sl .u8 w ad c M) (hlen : n + m ≤ 140737488355328) (hbase : base ≤ w.heap.size)
    (h : ∀ a' cap' w', OwB w' base a' cap' (L ++ M) → Below base w w' → wpList Try.prog ops Q rest (a.put o.dst (.slice a' (n + m) cap')) w') : wpList Try.prog ops Q (o :: rest) a w := by
  subst hn hm
  refine wpList_app bytes_et hgd ho hs hx hL.1 hM.src (by unfold maxLen; omega) (by omega) hbase ?_
  intro a3 c3 w3 ho3 on3 at3
  refine h a3 c3 w3 ⟨?_, fun y hy => ?_⟩ ?_
  · have := ho3
    rw [← List.map_append, ← List.length_append] at this
    exact this
  · rcases List.mem_append.1 hy with h | h
    · exact hL.2 y h
    · exact sl_byte hM y h
  · exact below_onto (Below.refl base w) on3 hbase (by rintro z hz ⟨y, hy, rfl⟩; have := (hL.1.block hy).1; omega)
end
theorem OwB.of_eq {w : World} {base : Nat} {a : Option Addr} {cap : Nat} {L M : List Int} (h : OwB w base a cap L) (e : L = M) : OwB w base a cap M := e ▸ h
end Frm
end Go.Proofs.Ytcpjehgoeibbeaa
