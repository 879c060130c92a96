/- strings.Repeat laid; the long texts; the law TraceKnown. -/
import Derived.Shelf.Strings.Repeat
import Derived.Test.YtfaopoaephlenaaGreatDoorTk5
import Derived.Test.YtfaopoaephlenaaGreatDoorTr1
import Derived.Test.YtfaopoaephlenaaGreatDoorTr3
namespace Go.Proofs.YtfaopoaephlenaaGreatDoor
open Go.Shelf
set_option linter.unusedVariables false
def L.lays105_ren : Go.Shelf.Ren := ⟨fun | 99 => 17 | 105 => 6 | 165 => 18 | 166 => 13 | 169 => 15 | 170 => 19 | 206 => 33 | 212 => 16 | 240 => 29 | 241 => 34 | 263 => 31 | 264 => 32 | 276 => 45 | 277 => 47 | n => n, fun | 0 => 0 | 3 => 3 | 4 => 4 | 5 => 5 | 9 => 9 | 20 => 20 | 37 => 45 | 46 => 54 | 51 => 61 | 53 => 29 | 70 => 44 | 72 => 47 | 75 => 49 | 76 => 50 | 80 => 53 | 109 => 55 | 127 => 115 | 146 => 116 | 148 => 118 | 164 => 133 | n => n, fun | n => n⟩
theorem L.lays105 : Go.Proofs.Lays.n105 Tryz.prog L.lays105_ren := {
  mixed := by kernel_rfl
  f99 := Tryz.func17.trans (congrArg some (by kernel_rfl))
  f105 := Tryz.func6.trans (congrArg some (by kernel_rfl))
  f165 := Tryz.func18.trans (congrArg some (by kernel_rfl))
  f166 := Tryz.func13.trans (congrArg some (by kernel_rfl))
  f169 := Tryz.func15.trans (congrArg some (by kernel_rfl))
  f170 := Tryz.func19.trans (congrArg some (by kernel_rfl))
  f206 := Tryz.func33.trans (congrArg some (by kernel_rfl))
  f212 := Tryz.func16.trans (congrArg some (by kernel_rfl))
  f240 := Tryz.func29.trans (congrArg some (by kernel_rfl))
  f241 := Tryz.func34.trans (congrArg some (by kernel_rfl))
  f263 := Tryz.func31.trans (congrArg some (by kernel_rfl))
  f264 := Tryz.func32.trans (congrArg some (by kernel_rfl))
  f276 := Tryz.func45.trans (congrArg some (by kernel_rfl))
  f277 := Tryz.func47.trans (congrArg some (by kernel_rfl))
  t0 := Tryz.underlying0
  a0 := Tryz.isAgg0
  z0 := Tryz.sizeOf0
  v0 := Tryz.zeroValue0
  t3 := Tryz.underlying3
  a3 := Tryz.isAgg3
  z3 := Tryz.sizeOf3
  v3 := Tryz.zeroValue3
  t4 := Tryz.underlying4
  a4 := Tryz.isAgg4
  z4 := Tryz.sizeOf4
  v4 := Tryz.zeroValue4
  t5 := Tryz.underlying5
  a5 := Tryz.isAgg5
  z5 := Tryz.sizeOf5
  v5 := Tryz.zeroValue5
  t9 := Tryz.underlying9
  a9 := Tryz.isAgg9
  z9 := Tryz.sizeOf9
  v9 := Tryz.zeroValue9
  t20 := Tryz.underlying20
  a20 := Tryz.isAgg20
  z20 := Tryz.sizeOf20
  v20 := Tryz.zeroValue20
  t37 := Tryz.underlying45
  a37 := Tryz.isAgg45
  z37 := Tryz.sizeOf45
  v37 := Tryz.zeroValue45
  t46 := Tryz.underlying54
  a46 := Tryz.isAgg54
  z46 := Tryz.sizeOf54
  v46 := Tryz.zeroValue54
  t51 := Tryz.underlying61
  a51 := Tryz.isAgg61
  z51 := Tryz.sizeOf61
  v51 := Tryz.zeroValue61
  t53 := Tryz.underlying29
  a53 := Tryz.isAgg29
  z53 := Tryz.sizeOf29
  v53 := Tryz.zeroValue29
  t70 := Tryz.underlying44
  a70 := Tryz.isAgg44
  z70 := Tryz.sizeOf44
  v70 := Tryz.zeroValue44
  t72 := Tryz.underlying47
  a72 := Tryz.isAgg47
  z72 := Tryz.sizeOf47
  v72 := Tryz.zeroValue47
  t75 := Tryz.underlying49
  a75 := Tryz.isAgg49
  z75 := Tryz.sizeOf49
  v75 := Tryz.zeroValue49
  t76 := Tryz.underlying50
  a76 := Tryz.isAgg50
  z76 := Tryz.sizeOf50
  v76 := Tryz.zeroValue50
  t109 := Tryz.underlying55
  a109 := Tryz.isAgg55
  z109 := Tryz.sizeOf55
  v109 := Tryz.zeroValue55
  t127 := Tryz.underlying115
  a127 := Tryz.isAgg115
  z127 := Tryz.sizeOf115
  v127 := Tryz.zeroValue115
  t146 := Tryz.underlying116
  a146 := Tryz.isAgg116
  z146 := Tryz.sizeOf116
  v146 := Tryz.zeroValue116
  t148 := Tryz.underlying118
  a148 := Tryz.isAgg118
  z148 := Tryz.sizeOf118
  v148 := Tryz.zeroValue118
  t164 := Tryz.underlying133
  a164 := Tryz.isAgg133
  z164 := Tryz.sizeOf133
  v164 := Tryz.zeroValue133 }
theorem L.Builder_Extra_105 : Go.Proofs.Builder.Extra Tryz.prog L.lays105_ren := {
  sizeBuilder := by kernel_rfl
  liesBuilder := by kernel_rfl
  t5 := Tryz.underlying5
  a5 := Tryz.isAgg5
  z5 := Tryz.sizeOf5
  v5 := Tryz.zeroValue5
  infoByte := by kernel_rfl
  cellsByte := by kernel_rfl
  sizeByte := by kernel_rfl
  neB5 := by decide }
theorem repeat_any (l : List UInt8) (c : Nat) (w : World) (hc : c ≤ 9223372036854775807) (hlen : l.length * c ≤ 140737488355328) :
    Calls Tryz.prog 6 #[.string (tx l), .int .i64 c] w fun e w' => e = .returned (.string (tx (Lib.repeatL l c))) ∧ RowKit.Below w.heap.size w w' := by
  refine (Any.strings_Repeat L.lays105 L.Builder_Extra_105 (tx l) c w hc (by rw [tx_size]; exact hlen)).mono ?_
  rintro e w' ⟨rfl, hb⟩
  refine ⟨?_, hb⟩
  have e1 : (tx l).data.toList = l := tx_data l
  rw [e1]
end Go.Proofs.YtfaopoaephlenaaGreatDoor
