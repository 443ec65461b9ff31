/- What the walk asks of this seat's types: closed facts. Printed by program. No conditions. -/
import Derived.Test.YtnpdjaikmdagmaaDoorProg
import Derived.Test.YtnpdjaikmdagmaaDoorP00
set_option linter.unusedSimpArgs false
set_option linter.unusedVariables false
set_option linter.unusedSectionVars false
namespace Go.Sx.Ty
open Go.Proofs Go.Sx
theorem cz1 : Tryd.prog.cellsOf 1 = 1 := by kernel_rfl
theorem tk1 : tyOk Tryd.prog 1 = true := by kernel_rfl
theorem ag1 : isAg Tryd.prog 1 = false := by kernel_rfl
theorem by1 : Tryd.prog.bytesOf 1 = 8 := by kernel_rfl
theorem se1 : slEl Tryd.prog 1 = none := by kernel_rfl
theorem ae1 : arEl Tryd.prog 1 = none := by kernel_rfl
theorem if1 : isFn Tryd.prog 1 = true := by kernel_rfl
theorem zz1 : zc Tryd.prog 1 = [V.nilf] := by kernel_rfl
theorem cz2 : Tryd.prog.cellsOf 2 = 1 := by kernel_rfl
theorem tk2 : tyOk Tryd.prog 2 = true := by kernel_rfl
theorem ag2 : isAg Tryd.prog 2 = false := by kernel_rfl
theorem by2 : Tryd.prog.bytesOf 2 = 8 := by kernel_rfl
theorem se2 : slEl Tryd.prog 2 = none := by kernel_rfl
theorem ae2 : arEl Tryd.prog 2 = none := by kernel_rfl
theorem ik2 : intK Tryd.prog 2 = some .i64 := by kernel_rfl
theorem zz2 : zc Tryd.prog 2 = [V.int .i64 0] := by kernel_rfl
theorem cz3 : Tryd.prog.cellsOf 3 = 1 := by kernel_rfl
theorem tk3 : tyOk Tryd.prog 3 = true := by kernel_rfl
theorem ag3 : isAg Tryd.prog 3 = false := by kernel_rfl
theorem by3 : Tryd.prog.bytesOf 3 = 8 := by kernel_rfl
theorem se3 : slEl Tryd.prog 3 = none := by kernel_rfl
theorem ae3 : arEl Tryd.prog 3 = none := by kernel_rfl
theorem ik3 : intK Tryd.prog 3 = some .i64 := by kernel_rfl
theorem zz3 : zc Tryd.prog 3 = [V.int .i64 0] := by kernel_rfl
theorem cz4 : Tryd.prog.cellsOf 4 = 1 := by kernel_rfl
theorem tk4 : tyOk Tryd.prog 4 = true := by kernel_rfl
theorem ag4 : isAg Tryd.prog 4 = false := by kernel_rfl
theorem by4 : Tryd.prog.bytesOf 4 = 1 := by kernel_rfl
theorem se4 : slEl Tryd.prog 4 = none := by kernel_rfl
theorem ae4 : arEl Tryd.prog 4 = none := by kernel_rfl
theorem ib4 : isBool Tryd.prog 4 = true := by kernel_rfl
theorem zz4 : zc Tryd.prog 4 = [V.bool false] := by kernel_rfl
theorem cz5 : Tryd.prog.cellsOf 5 = 1 := by kernel_rfl
theorem tk5 : tyOk Tryd.prog 5 = true := by kernel_rfl
theorem ag5 : isAg Tryd.prog 5 = false := by kernel_rfl
theorem by5 : Tryd.prog.bytesOf 5 = 1 := by kernel_rfl
theorem se5 : slEl Tryd.prog 5 = none := by kernel_rfl
theorem ae5 : arEl Tryd.prog 5 = none := by kernel_rfl
theorem ik5 : intK Tryd.prog 5 = some .u8 := by kernel_rfl
theorem zz5 : zc Tryd.prog 5 = [V.int .u8 0] := by kernel_rfl
theorem cz6 : Tryd.prog.cellsOf 6 = 1 := by kernel_rfl
theorem tk6 : tyOk Tryd.prog 6 = true := by kernel_rfl
theorem ag6 : isAg Tryd.prog 6 = false := by kernel_rfl
theorem by6 : Tryd.prog.bytesOf 6 = 1 := by kernel_rfl
theorem se6 : slEl Tryd.prog 6 = none := by kernel_rfl
theorem ae6 : arEl Tryd.prog 6 = none := by kernel_rfl
theorem ik6 : intK Tryd.prog 6 = some .u8 := by kernel_rfl
theorem zz6 : zc Tryd.prog 6 = [V.int .u8 0] := by kernel_rfl
theorem cz7 : Tryd.prog.cellsOf 7 = 4 := by kernel_rfl
theorem tk7 : tyOk Tryd.prog 7 = true := by kernel_rfl
theorem ag7 : isAg Tryd.prog 7 = true := by kernel_rfl
theorem by7 : Tryd.prog.bytesOf 7 = 24 := by kernel_rfl
theorem se7 : slEl Tryd.prog 7 = none := by kernel_rfl
theorem ae7 : arEl Tryd.prog 7 = none := by kernel_rfl
theorem st7 : isSt Tryd.prog 7 = true := by kernel_rfl
theorem fo7 : fldsOk Tryd.prog 7 = true := by kernel_rfl
theorem fd7_0 : fld Tryd.prog 7 0 = some (0, 2) := by kernel_rfl
theorem fd7_1 : fld Tryd.prog 7 1 = some (1, 3) := by kernel_rfl
theorem fd7_2 : fld Tryd.prog 7 2 = some (2, 4) := by kernel_rfl
theorem fd7_3 : fld Tryd.prog 7 3 = some (3, 6) := by kernel_rfl
theorem lt7 : leafTs Tryd.prog 7 = [2, 3, 4, 6] := by kernel_rfl
theorem fe7 : flatEq Tryd.prog 7 = true := by kernel_rfl
theorem zz7 : zc Tryd.prog 7 = [V.int .i64 0, V.int .i64 0, V.bool false, V.int .u8 0] := by kernel_rfl
theorem cz8 : Tryd.prog.cellsOf 8 = 4 := by kernel_rfl
theorem tk8 : tyOk Tryd.prog 8 = true := by kernel_rfl
theorem ag8 : isAg Tryd.prog 8 = true := by kernel_rfl
theorem by8 : Tryd.prog.bytesOf 8 = 24 := by kernel_rfl
theorem se8 : slEl Tryd.prog 8 = none := by kernel_rfl
theorem ae8 : arEl Tryd.prog 8 = none := by kernel_rfl
theorem st8 : isSt Tryd.prog 8 = true := by kernel_rfl
theorem fo8 : fldsOk Tryd.prog 8 = true := by kernel_rfl
theorem fd8_0 : fld Tryd.prog 8 0 = some (0, 2) := by kernel_rfl
theorem fd8_1 : fld Tryd.prog 8 1 = some (1, 3) := by kernel_rfl
theorem fd8_2 : fld Tryd.prog 8 2 = some (2, 4) := by kernel_rfl
theorem fd8_3 : fld Tryd.prog 8 3 = some (3, 6) := by kernel_rfl
theorem lt8 : leafTs Tryd.prog 8 = [2, 3, 4, 6] := by kernel_rfl
theorem fe8 : flatEq Tryd.prog 8 = true := by kernel_rfl
theorem zz8 : zc Tryd.prog 8 = [V.int .i64 0, V.int .i64 0, V.bool false, V.int .u8 0] := by kernel_rfl
theorem cz12 : Tryd.prog.cellsOf 12 = 1 := by kernel_rfl
theorem tk12 : tyOk Tryd.prog 12 = true := by kernel_rfl
theorem ag12 : isAg Tryd.prog 12 = false := by kernel_rfl
theorem by12 : Tryd.prog.bytesOf 12 = 8 := by kernel_rfl
theorem se12 : slEl Tryd.prog 12 = none := by kernel_rfl
theorem ae12 : arEl Tryd.prog 12 = none := by kernel_rfl
theorem ik12 : intK Tryd.prog 12 = some .u64 := by kernel_rfl
theorem zz12 : zc Tryd.prog 12 = [V.int .u64 0] := by kernel_rfl
theorem cz13 : Tryd.prog.cellsOf 13 = 2 := by kernel_rfl
theorem tk13 : tyOk Tryd.prog 13 = true := by kernel_rfl
theorem ag13 : isAg Tryd.prog 13 = true := by kernel_rfl
theorem by13 : Tryd.prog.bytesOf 13 = 24 := by kernel_rfl
theorem se13 : slEl Tryd.prog 13 = none := by kernel_rfl
theorem ae13 : arEl Tryd.prog 13 = none := by kernel_rfl
theorem st13 : isSt Tryd.prog 13 = true := by kernel_rfl
theorem fo13 : fldsOk Tryd.prog 13 = true := by kernel_rfl
theorem fd13_0 : fld Tryd.prog 13 0 = some (0, 9) := by kernel_rfl
theorem fd13_1 : fld Tryd.prog 13 1 = some (1, 12) := by kernel_rfl
theorem zz13 : zc Tryd.prog 13 = [V.top, V.int .u64 0] := by kernel_rfl
theorem cz14 : Tryd.prog.cellsOf 14 = 2 := by kernel_rfl
theorem tk14 : tyOk Tryd.prog 14 = true := by kernel_rfl
theorem ag14 : isAg Tryd.prog 14 = true := by kernel_rfl
theorem by14 : Tryd.prog.bytesOf 14 = 24 := by kernel_rfl
theorem se14 : slEl Tryd.prog 14 = none := by kernel_rfl
theorem ae14 : arEl Tryd.prog 14 = none := by kernel_rfl
theorem st14 : isSt Tryd.prog 14 = true := by kernel_rfl
theorem fo14 : fldsOk Tryd.prog 14 = true := by kernel_rfl
theorem fd14_0 : fld Tryd.prog 14 0 = some (0, 9) := by kernel_rfl
theorem fd14_1 : fld Tryd.prog 14 1 = some (1, 12) := by kernel_rfl
theorem zz14 : zc Tryd.prog 14 = [V.top, V.int .u64 0] := by kernel_rfl
theorem cz15 : Tryd.prog.cellsOf 15 = 1 := by kernel_rfl
theorem tk15 : tyOk Tryd.prog 15 = true := by kernel_rfl
theorem ag15 : isAg Tryd.prog 15 = false := by kernel_rfl
theorem by15 : Tryd.prog.bytesOf 15 = 8 := by kernel_rfl
theorem se15 : slEl Tryd.prog 15 = none := by kernel_rfl
theorem ae15 : arEl Tryd.prog 15 = none := by kernel_rfl
theorem ip15 : isPtr Tryd.prog 15 = true := by kernel_rfl
theorem zz15 : zc Tryd.prog 15 = [V.nilp] := by kernel_rfl
theorem cz16 : Tryd.prog.cellsOf 16 = 1 := by kernel_rfl
theorem tk16 : tyOk Tryd.prog 16 = true := by kernel_rfl
theorem ag16 : isAg Tryd.prog 16 = false := by kernel_rfl
theorem by16 : Tryd.prog.bytesOf 16 = 8 := by kernel_rfl
theorem se16 : slEl Tryd.prog 16 = none := by kernel_rfl
theorem ae16 : arEl Tryd.prog 16 = none := by kernel_rfl
theorem ip16 : isPtr Tryd.prog 16 = true := by kernel_rfl
theorem zz16 : zc Tryd.prog 16 = [V.nilp] := by kernel_rfl
theorem cz17 : Tryd.prog.cellsOf 17 = 1 := by kernel_rfl
theorem tk17 : tyOk Tryd.prog 17 = true := by kernel_rfl
theorem ag17 : isAg Tryd.prog 17 = false := by kernel_rfl
theorem by17 : Tryd.prog.bytesOf 17 = 8 := by kernel_rfl
theorem se17 : slEl Tryd.prog 17 = none := by kernel_rfl
theorem ae17 : arEl Tryd.prog 17 = none := by kernel_rfl
theorem ip17 : isPtr Tryd.prog 17 = true := by kernel_rfl
theorem zz17 : zc Tryd.prog 17 = [V.nilp] := by kernel_rfl
theorem cz18 : Tryd.prog.cellsOf 18 = 1 := by kernel_rfl
theorem tk18 : tyOk Tryd.prog 18 = true := by kernel_rfl
theorem ag18 : isAg Tryd.prog 18 = true := by kernel_rfl
theorem by18 : Tryd.prog.bytesOf 18 = 8 := by kernel_rfl
theorem se18 : slEl Tryd.prog 18 = none := by kernel_rfl
theorem ae18 : arEl Tryd.prog 18 = none := by kernel_rfl
theorem st18 : isSt Tryd.prog 18 = true := by kernel_rfl
theorem fo18 : fldsOk Tryd.prog 18 = true := by kernel_rfl
theorem fd18_0 : fld Tryd.prog 18 0 = some (0, 17) := by kernel_rfl
theorem zz18 : zc Tryd.prog 18 = [V.nilp] := by kernel_rfl
theorem cz19 : Tryd.prog.cellsOf 19 = 1 := by kernel_rfl
theorem tk19 : tyOk Tryd.prog 19 = true := by kernel_rfl
theorem ag19 : isAg Tryd.prog 19 = true := by kernel_rfl
theorem by19 : Tryd.prog.bytesOf 19 = 8 := by kernel_rfl
theorem se19 : slEl Tryd.prog 19 = none := by kernel_rfl
theorem ae19 : arEl Tryd.prog 19 = none := by kernel_rfl
theorem st19 : isSt Tryd.prog 19 = true := by kernel_rfl
theorem fo19 : fldsOk Tryd.prog 19 = true := by kernel_rfl
theorem fd19_0 : fld Tryd.prog 19 0 = some (0, 17) := by kernel_rfl
theorem zz19 : zc Tryd.prog 19 = [V.nilp] := by kernel_rfl
theorem cz21 : Tryd.prog.cellsOf 21 = 1 := by kernel_rfl
theorem tk21 : tyOk Tryd.prog 21 = true := by kernel_rfl
theorem ag21 : isAg Tryd.prog 21 = false := by kernel_rfl
theorem by21 : Tryd.prog.bytesOf 21 = 4 := by kernel_rfl
theorem se21 : slEl Tryd.prog 21 = none := by kernel_rfl
theorem ae21 : arEl Tryd.prog 21 = none := by kernel_rfl
theorem ik21 : intK Tryd.prog 21 = some .i32 := by kernel_rfl
theorem zz21 : zc Tryd.prog 21 = [V.int .i32 0] := by kernel_rfl
theorem cz22 : Tryd.prog.cellsOf 22 = 1 := by kernel_rfl
theorem tk22 : tyOk Tryd.prog 22 = true := by kernel_rfl
theorem ag22 : isAg Tryd.prog 22 = false := by kernel_rfl
theorem by22 : Tryd.prog.bytesOf 22 = 24 := by kernel_rfl
theorem se22 : slEl Tryd.prog 22 = some 34 := by kernel_rfl
theorem ae22 : arEl Tryd.prog 22 = none := by kernel_rfl
theorem zz22 : zc Tryd.prog 22 = [V.nil] := by kernel_rfl
theorem cz23 : Tryd.prog.cellsOf 23 = 1 := by kernel_rfl
theorem tk23 : tyOk Tryd.prog 23 = true := by kernel_rfl
theorem ag23 : isAg Tryd.prog 23 = false := by kernel_rfl
theorem by23 : Tryd.prog.bytesOf 23 = 8 := by kernel_rfl
theorem se23 : slEl Tryd.prog 23 = none := by kernel_rfl
theorem ae23 : arEl Tryd.prog 23 = none := by kernel_rfl
theorem if23 : isFn Tryd.prog 23 = true := by kernel_rfl
theorem zz23 : zc Tryd.prog 23 = [V.nilf] := by kernel_rfl
theorem cz24 : Tryd.prog.cellsOf 24 = 1 := by kernel_rfl
theorem tk24 : tyOk Tryd.prog 24 = true := by kernel_rfl
theorem ag24 : isAg Tryd.prog 24 = false := by kernel_rfl
theorem by24 : Tryd.prog.bytesOf 24 = 8 := by kernel_rfl
theorem se24 : slEl Tryd.prog 24 = none := by kernel_rfl
theorem ae24 : arEl Tryd.prog 24 = none := by kernel_rfl
theorem if24 : isFn Tryd.prog 24 = true := by kernel_rfl
theorem zz24 : zc Tryd.prog 24 = [V.nilf] := by kernel_rfl
theorem cz25 : Tryd.prog.cellsOf 25 = 1 := by kernel_rfl
theorem tk25 : tyOk Tryd.prog 25 = true := by kernel_rfl
theorem ag25 : isAg Tryd.prog 25 = false := by kernel_rfl
theorem by25 : Tryd.prog.bytesOf 25 = 8 := by kernel_rfl
theorem se25 : slEl Tryd.prog 25 = none := by kernel_rfl
theorem ae25 : arEl Tryd.prog 25 = none := by kernel_rfl
theorem ik25 : intK Tryd.prog 25 = some .i64 := by kernel_rfl
theorem zz25 : zc Tryd.prog 25 = [V.int .i64 0] := by kernel_rfl
theorem cz27 : Tryd.prog.cellsOf 27 = 1 := by kernel_rfl
theorem tk27 : tyOk Tryd.prog 27 = true := by kernel_rfl
theorem ag27 : isAg Tryd.prog 27 = false := by kernel_rfl
theorem by27 : Tryd.prog.bytesOf 27 = 8 := by kernel_rfl
theorem se27 : slEl Tryd.prog 27 = none := by kernel_rfl
theorem ae27 : arEl Tryd.prog 27 = none := by kernel_rfl
theorem if27 : isFn Tryd.prog 27 = true := by kernel_rfl
theorem zz27 : zc Tryd.prog 27 = [V.nilf] := by kernel_rfl
theorem cz28 : Tryd.prog.cellsOf 28 = 1 := by kernel_rfl
theorem tk28 : tyOk Tryd.prog 28 = true := by kernel_rfl
theorem ag28 : isAg Tryd.prog 28 = false := by kernel_rfl
theorem by28 : Tryd.prog.bytesOf 28 = 8 := by kernel_rfl
theorem se28 : slEl Tryd.prog 28 = none := by kernel_rfl
theorem ae28 : arEl Tryd.prog 28 = none := by kernel_rfl
theorem if28 : isFn Tryd.prog 28 = true := by kernel_rfl
theorem zz28 : zc Tryd.prog 28 = [V.nilf] := by kernel_rfl
theorem cz29 : Tryd.prog.cellsOf 29 = 1 := by kernel_rfl
theorem tk29 : tyOk Tryd.prog 29 = true := by kernel_rfl
theorem ag29 : isAg Tryd.prog 29 = false := by kernel_rfl
theorem by29 : Tryd.prog.bytesOf 29 = 8 := by kernel_rfl
theorem se29 : slEl Tryd.prog 29 = none := by kernel_rfl
theorem ae29 : arEl Tryd.prog 29 = none := by kernel_rfl
theorem if29 : isFn Tryd.prog 29 = true := by kernel_rfl
theorem zz29 : zc Tryd.prog 29 = [V.nilf] := by kernel_rfl
theorem cz30 : Tryd.prog.cellsOf 30 = 1 := by kernel_rfl
theorem tk30 : tyOk Tryd.prog 30 = true := by kernel_rfl
theorem ag30 : isAg Tryd.prog 30 = false := by kernel_rfl
theorem by30 : Tryd.prog.bytesOf 30 = 8 := by kernel_rfl
theorem se30 : slEl Tryd.prog 30 = none := by kernel_rfl
theorem ae30 : arEl Tryd.prog 30 = none := by kernel_rfl
theorem if30 : isFn Tryd.prog 30 = true := by kernel_rfl
theorem zz30 : zc Tryd.prog 30 = [V.nilf] := by kernel_rfl
theorem cz31 : Tryd.prog.cellsOf 31 = 1 := by kernel_rfl
theorem tk31 : tyOk Tryd.prog 31 = true := by kernel_rfl
theorem ag31 : isAg Tryd.prog 31 = false := by kernel_rfl
theorem by31 : Tryd.prog.bytesOf 31 = 8 := by kernel_rfl
theorem se31 : slEl Tryd.prog 31 = none := by kernel_rfl
theorem ae31 : arEl Tryd.prog 31 = none := by kernel_rfl
theorem if31 : isFn Tryd.prog 31 = true := by kernel_rfl
theorem zz31 : zc Tryd.prog 31 = [V.nilf] := by kernel_rfl
theorem cz32 : Tryd.prog.cellsOf 32 = 1 := by kernel_rfl
theorem tk32 : tyOk Tryd.prog 32 = true := by kernel_rfl
theorem ag32 : isAg Tryd.prog 32 = false := by kernel_rfl
theorem by32 : Tryd.prog.bytesOf 32 = 24 := by kernel_rfl
theorem se32 : slEl Tryd.prog 32 = some 35 := by kernel_rfl
theorem ae32 : arEl Tryd.prog 32 = none := by kernel_rfl
theorem zz32 : zc Tryd.prog 32 = [V.nil] := by kernel_rfl
theorem cz33 : Tryd.prog.cellsOf 33 = 2 := by kernel_rfl
theorem tk33 : tyOk Tryd.prog 33 = true := by kernel_rfl
theorem ag33 : isAg Tryd.prog 33 = true := by kernel_rfl
theorem by33 : Tryd.prog.bytesOf 33 = 16 := by kernel_rfl
theorem se33 : slEl Tryd.prog 33 = none := by kernel_rfl
theorem ae33 : arEl Tryd.prog 33 = none := by kernel_rfl
theorem st33 : isSt Tryd.prog 33 = true := by kernel_rfl
theorem fo33 : fldsOk Tryd.prog 33 = true := by kernel_rfl
theorem fd33_0 : fld Tryd.prog 33 0 = some (0, 3) := by kernel_rfl
theorem fd33_1 : fld Tryd.prog 33 1 = some (1, 3) := by kernel_rfl
theorem lt33 : leafTs Tryd.prog 33 = [3, 3] := by kernel_rfl
theorem fe33 : flatEq Tryd.prog 33 = true := by kernel_rfl
theorem zz33 : zc Tryd.prog 33 = [V.int .i64 0, V.int .i64 0] := by kernel_rfl
theorem cz34 : Tryd.prog.cellsOf 34 = 2 := by kernel_rfl
theorem tk34 : tyOk Tryd.prog 34 = true := by kernel_rfl
theorem ag34 : isAg Tryd.prog 34 = true := by kernel_rfl
theorem by34 : Tryd.prog.bytesOf 34 = 16 := by kernel_rfl
theorem se34 : slEl Tryd.prog 34 = none := by kernel_rfl
theorem ae34 : arEl Tryd.prog 34 = none := by kernel_rfl
theorem st34 : isSt Tryd.prog 34 = true := by kernel_rfl
theorem fo34 : fldsOk Tryd.prog 34 = true := by kernel_rfl
theorem fd34_0 : fld Tryd.prog 34 0 = some (0, 3) := by kernel_rfl
theorem fd34_1 : fld Tryd.prog 34 1 = some (1, 3) := by kernel_rfl
theorem lt34 : leafTs Tryd.prog 34 = [3, 3] := by kernel_rfl
theorem fe34 : flatEq Tryd.prog 34 = true := by kernel_rfl
theorem zz34 : zc Tryd.prog 34 = [V.int .i64 0, V.int .i64 0] := by kernel_rfl
theorem cz35 : Tryd.prog.cellsOf 35 = 1 := by kernel_rfl
theorem tk35 : tyOk Tryd.prog 35 = true := by kernel_rfl
theorem ag35 : isAg Tryd.prog 35 = false := by kernel_rfl
theorem by35 : Tryd.prog.bytesOf 35 = 24 := by kernel_rfl
theorem se35 : slEl Tryd.prog 35 = some 34 := by kernel_rfl
theorem ae35 : arEl Tryd.prog 35 = none := by kernel_rfl
theorem zz35 : zc Tryd.prog 35 = [V.nil] := by kernel_rfl
theorem cz36 : Tryd.prog.cellsOf 36 = 1 := by kernel_rfl
theorem tk36 : tyOk Tryd.prog 36 = true := by kernel_rfl
theorem ag36 : isAg Tryd.prog 36 = false := by kernel_rfl
theorem by36 : Tryd.prog.bytesOf 36 = 24 := by kernel_rfl
theorem se36 : slEl Tryd.prog 36 = some 3 := by kernel_rfl
theorem ae36 : arEl Tryd.prog 36 = none := by kernel_rfl
theorem zz36 : zc Tryd.prog 36 = [V.nil] := by kernel_rfl
theorem cz38 : Tryd.prog.cellsOf 38 = 1 := by kernel_rfl
theorem tk38 : tyOk Tryd.prog 38 = true := by kernel_rfl
theorem ag38 : isAg Tryd.prog 38 = false := by kernel_rfl
theorem by38 : Tryd.prog.bytesOf 38 = 8 := by kernel_rfl
theorem se38 : slEl Tryd.prog 38 = none := by kernel_rfl
theorem ae38 : arEl Tryd.prog 38 = none := by kernel_rfl
theorem if38 : isFn Tryd.prog 38 = true := by kernel_rfl
theorem zz38 : zc Tryd.prog 38 = [V.nilf] := by kernel_rfl
theorem cz39 : Tryd.prog.cellsOf 39 = 1 := by kernel_rfl
theorem tk39 : tyOk Tryd.prog 39 = true := by kernel_rfl
theorem ag39 : isAg Tryd.prog 39 = false := by kernel_rfl
theorem by39 : Tryd.prog.bytesOf 39 = 24 := by kernel_rfl
theorem se39 : slEl Tryd.prog 39 = some 84 := by kernel_rfl
theorem ae39 : arEl Tryd.prog 39 = none := by kernel_rfl
theorem zz39 : zc Tryd.prog 39 = [V.nil] := by kernel_rfl
theorem cz40 : Tryd.prog.cellsOf 40 = 1 := by kernel_rfl
theorem tk40 : tyOk Tryd.prog 40 = true := by kernel_rfl
theorem ag40 : isAg Tryd.prog 40 = false := by kernel_rfl
theorem by40 : Tryd.prog.bytesOf 40 = 24 := by kernel_rfl
theorem se40 : slEl Tryd.prog 40 = some 57 := by kernel_rfl
theorem ae40 : arEl Tryd.prog 40 = none := by kernel_rfl
theorem zz40 : zc Tryd.prog 40 = [V.nil] := by kernel_rfl
theorem cz41 : Tryd.prog.cellsOf 41 = 1 := by kernel_rfl
theorem tk41 : tyOk Tryd.prog 41 = true := by kernel_rfl
theorem ag41 : isAg Tryd.prog 41 = false := by kernel_rfl
theorem by41 : Tryd.prog.bytesOf 41 = 24 := by kernel_rfl
theorem se41 : slEl Tryd.prog 41 = some 107 := by kernel_rfl
theorem ae41 : arEl Tryd.prog 41 = none := by kernel_rfl
theorem zz41 : zc Tryd.prog 41 = [V.nil] := by kernel_rfl
theorem cz42 : Tryd.prog.cellsOf 42 = 4 := by kernel_rfl
theorem tk42 : tyOk Tryd.prog 42 = true := by kernel_rfl
theorem ag42 : isAg Tryd.prog 42 = true := by kernel_rfl
theorem by42 : Tryd.prog.bytesOf 42 = 80 := by kernel_rfl
theorem se42 : slEl Tryd.prog 42 = none := by kernel_rfl
theorem ae42 : arEl Tryd.prog 42 = none := by kernel_rfl
theorem st42 : isSt Tryd.prog 42 = true := by kernel_rfl
theorem fo42 : fldsOk Tryd.prog 42 = true := by kernel_rfl
theorem fd42_0 : fld Tryd.prog 42 0 = some (0, 39) := by kernel_rfl
theorem fd42_1 : fld Tryd.prog 42 1 = some (1, 40) := by kernel_rfl
theorem fd42_2 : fld Tryd.prog 42 2 = some (2, 3) := by kernel_rfl
theorem fd42_3 : fld Tryd.prog 42 3 = some (3, 41) := by kernel_rfl
theorem zz42 : zc Tryd.prog 42 = [V.nil, V.nil, V.int .i64 0, V.nil] := by kernel_rfl
theorem cz43 : Tryd.prog.cellsOf 43 = 4 := by kernel_rfl
theorem tk43 : tyOk Tryd.prog 43 = true := by kernel_rfl
theorem ag43 : isAg Tryd.prog 43 = true := by kernel_rfl
theorem by43 : Tryd.prog.bytesOf 43 = 80 := by kernel_rfl
theorem se43 : slEl Tryd.prog 43 = none := by kernel_rfl
theorem ae43 : arEl Tryd.prog 43 = none := by kernel_rfl
theorem st43 : isSt Tryd.prog 43 = true := by kernel_rfl
theorem fo43 : fldsOk Tryd.prog 43 = true := by kernel_rfl
theorem fd43_0 : fld Tryd.prog 43 0 = some (0, 39) := by kernel_rfl
theorem fd43_1 : fld Tryd.prog 43 1 = some (1, 40) := by kernel_rfl
theorem fd43_2 : fld Tryd.prog 43 2 = some (2, 3) := by kernel_rfl
theorem fd43_3 : fld Tryd.prog 43 3 = some (3, 41) := by kernel_rfl
theorem zz43 : zc Tryd.prog 43 = [V.nil, V.nil, V.int .i64 0, V.nil] := by kernel_rfl
theorem cz44 : Tryd.prog.cellsOf 44 = 1 := by kernel_rfl
theorem tk44 : tyOk Tryd.prog 44 = true := by kernel_rfl
theorem ag44 : isAg Tryd.prog 44 = false := by kernel_rfl
theorem by44 : Tryd.prog.bytesOf 44 = 24 := by kernel_rfl
theorem se44 : slEl Tryd.prog 44 = some 109 := by kernel_rfl
theorem ae44 : arEl Tryd.prog 44 = none := by kernel_rfl
theorem zz44 : zc Tryd.prog 44 = [V.nil] := by kernel_rfl
theorem cz45 : Tryd.prog.cellsOf 45 = 1 := by kernel_rfl
theorem tk45 : tyOk Tryd.prog 45 = true := by kernel_rfl
theorem ag45 : isAg Tryd.prog 45 = false := by kernel_rfl
theorem by45 : Tryd.prog.bytesOf 45 = 24 := by kernel_rfl
theorem se45 : slEl Tryd.prog 45 = some 55 := by kernel_rfl
theorem ae45 : arEl Tryd.prog 45 = none := by kernel_rfl
theorem zz45 : zc Tryd.prog 45 = [V.nil] := by kernel_rfl
theorem cz46 : Tryd.prog.cellsOf 46 = 3 := by kernel_rfl
theorem tk46 : tyOk Tryd.prog 46 = true := by kernel_rfl
theorem ag46 : isAg Tryd.prog 46 = true := by kernel_rfl
theorem by46 : Tryd.prog.bytesOf 46 = 56 := by kernel_rfl
theorem se46 : slEl Tryd.prog 46 = none := by kernel_rfl
theorem ae46 : arEl Tryd.prog 46 = none := by kernel_rfl
theorem st46 : isSt Tryd.prog 46 = true := by kernel_rfl
theorem fo46 : fldsOk Tryd.prog 46 = true := by kernel_rfl
theorem fd46_0 : fld Tryd.prog 46 0 = some (0, 3) := by kernel_rfl
theorem fd46_1 : fld Tryd.prog 46 1 = some (1, 45) := by kernel_rfl
theorem fd46_2 : fld Tryd.prog 46 2 = some (2, 45) := by kernel_rfl
theorem zz46 : zc Tryd.prog 46 = [V.int .i64 0, V.nil, V.nil] := by kernel_rfl
theorem cz47 : Tryd.prog.cellsOf 47 = 3 := by kernel_rfl
theorem tk47 : tyOk Tryd.prog 47 = true := by kernel_rfl
theorem ag47 : isAg Tryd.prog 47 = true := by kernel_rfl
theorem by47 : Tryd.prog.bytesOf 47 = 56 := by kernel_rfl
theorem se47 : slEl Tryd.prog 47 = none := by kernel_rfl
theorem ae47 : arEl Tryd.prog 47 = none := by kernel_rfl
theorem st47 : isSt Tryd.prog 47 = true := by kernel_rfl
theorem fo47 : fldsOk Tryd.prog 47 = true := by kernel_rfl
theorem fd47_0 : fld Tryd.prog 47 0 = some (0, 3) := by kernel_rfl
theorem fd47_1 : fld Tryd.prog 47 1 = some (1, 45) := by kernel_rfl
theorem fd47_2 : fld Tryd.prog 47 2 = some (2, 45) := by kernel_rfl
theorem zz47 : zc Tryd.prog 47 = [V.int .i64 0, V.nil, V.nil] := by kernel_rfl
theorem cz48 : Tryd.prog.cellsOf 48 = 1 := by kernel_rfl
theorem tk48 : tyOk Tryd.prog 48 = true := by kernel_rfl
theorem ag48 : isAg Tryd.prog 48 = false := by kernel_rfl
theorem by48 : Tryd.prog.bytesOf 48 = 8 := by kernel_rfl
theorem se48 : slEl Tryd.prog 48 = none := by kernel_rfl
theorem ae48 : arEl Tryd.prog 48 = none := by kernel_rfl
theorem if48 : isFn Tryd.prog 48 = true := by kernel_rfl
theorem zz48 : zc Tryd.prog 48 = [V.nilf] := by kernel_rfl
theorem cz50 : Tryd.prog.cellsOf 50 = 1 := by kernel_rfl
theorem tk50 : tyOk Tryd.prog 50 = true := by kernel_rfl
theorem ag50 : isAg Tryd.prog 50 = false := by kernel_rfl
theorem by50 : Tryd.prog.bytesOf 50 = 8 := by kernel_rfl
theorem se50 : slEl Tryd.prog 50 = none := by kernel_rfl
theorem ae50 : arEl Tryd.prog 50 = none := by kernel_rfl
theorem if50 : isFn Tryd.prog 50 = true := by kernel_rfl
theorem zz50 : zc Tryd.prog 50 = [V.nilf] := by kernel_rfl
theorem cz52 : Tryd.prog.cellsOf 52 = 1 := by kernel_rfl
theorem tk52 : tyOk Tryd.prog 52 = true := by kernel_rfl
theorem ag52 : isAg Tryd.prog 52 = false := by kernel_rfl
theorem by52 : Tryd.prog.bytesOf 52 = 8 := by kernel_rfl
theorem se52 : slEl Tryd.prog 52 = none := by kernel_rfl
theorem ae52 : arEl Tryd.prog 52 = none := by kernel_rfl
theorem if52 : isFn Tryd.prog 52 = true := by kernel_rfl
theorem zz52 : zc Tryd.prog 52 = [V.nilf] := by kernel_rfl
theorem cz54 : Tryd.prog.cellsOf 54 = 1 := by kernel_rfl
theorem tk54 : tyOk Tryd.prog 54 = true := by kernel_rfl
theorem ag54 : isAg Tryd.prog 54 = false := by kernel_rfl
theorem by54 : Tryd.prog.bytesOf 54 = 8 := by kernel_rfl
theorem se54 : slEl Tryd.prog 54 = none := by kernel_rfl
theorem ae54 : arEl Tryd.prog 54 = none := by kernel_rfl
theorem if54 : isFn Tryd.prog 54 = true := by kernel_rfl
theorem zz54 : zc Tryd.prog 54 = [V.nilf] := by kernel_rfl
theorem cz55 : Tryd.prog.cellsOf 55 = 2 := by kernel_rfl
theorem tk55 : tyOk Tryd.prog 55 = true := by kernel_rfl
theorem ag55 : isAg Tryd.prog 55 = true := by kernel_rfl
theorem by55 : Tryd.prog.bytesOf 55 = 16 := by kernel_rfl
theorem se55 : slEl Tryd.prog 55 = none := by kernel_rfl
theorem ae55 : arEl Tryd.prog 55 = some (2, 3) := by kernel_rfl
theorem st55 : isSt Tryd.prog 55 = false := by kernel_rfl
theorem lt55 : leafTs Tryd.prog 55 = [3, 3] := by kernel_rfl
theorem fe55 : flatEq Tryd.prog 55 = true := by kernel_rfl
theorem zz55 : zc Tryd.prog 55 = [V.int .i64 0, V.int .i64 0] := by kernel_rfl
theorem cz56 : Tryd.prog.cellsOf 56 = 4 := by kernel_rfl
theorem tk56 : tyOk Tryd.prog 56 = true := by kernel_rfl
theorem ag56 : isAg Tryd.prog 56 = true := by kernel_rfl
theorem by56 : Tryd.prog.bytesOf 56 = 32 := by kernel_rfl
theorem se56 : slEl Tryd.prog 56 = none := by kernel_rfl
theorem ae56 : arEl Tryd.prog 56 = none := by kernel_rfl
theorem st56 : isSt Tryd.prog 56 = true := by kernel_rfl
theorem fo56 : fldsOk Tryd.prog 56 = true := by kernel_rfl
theorem fd56_0 : fld Tryd.prog 56 0 = some (0, 3) := by kernel_rfl
theorem fd56_1 : fld Tryd.prog 56 1 = some (1, 3) := by kernel_rfl
theorem fd56_2 : fld Tryd.prog 56 2 = some (2, 3) := by kernel_rfl
theorem fd56_3 : fld Tryd.prog 56 3 = some (3, 4) := by kernel_rfl
theorem lt56 : leafTs Tryd.prog 56 = [3, 3, 3, 4] := by kernel_rfl
theorem fe56 : flatEq Tryd.prog 56 = true := by kernel_rfl
theorem zz56 : zc Tryd.prog 56 = [V.int .i64 0, V.int .i64 0, V.int .i64 0, V.bool false] := by kernel_rfl
theorem cz57 : Tryd.prog.cellsOf 57 = 4 := by kernel_rfl
theorem tk57 : tyOk Tryd.prog 57 = true := by kernel_rfl
theorem ag57 : isAg Tryd.prog 57 = true := by kernel_rfl
theorem by57 : Tryd.prog.bytesOf 57 = 32 := by kernel_rfl
theorem se57 : slEl Tryd.prog 57 = none := by kernel_rfl
theorem ae57 : arEl Tryd.prog 57 = none := by kernel_rfl
theorem st57 : isSt Tryd.prog 57 = true := by kernel_rfl
theorem fo57 : fldsOk Tryd.prog 57 = true := by kernel_rfl
theorem fd57_0 : fld Tryd.prog 57 0 = some (0, 3) := by kernel_rfl
theorem fd57_1 : fld Tryd.prog 57 1 = some (1, 3) := by kernel_rfl
theorem fd57_2 : fld Tryd.prog 57 2 = some (2, 3) := by kernel_rfl
theorem fd57_3 : fld Tryd.prog 57 3 = some (3, 4) := by kernel_rfl
theorem lt57 : leafTs Tryd.prog 57 = [3, 3, 3, 4] := by kernel_rfl
theorem fe57 : flatEq Tryd.prog 57 = true := by kernel_rfl
theorem zz57 : zc Tryd.prog 57 = [V.int .i64 0, V.int .i64 0, V.int .i64 0, V.bool false] := by kernel_rfl
theorem cz58 : Tryd.prog.cellsOf 58 = 1 := by kernel_rfl
theorem tk58 : tyOk Tryd.prog 58 = true := by kernel_rfl
theorem ag58 : isAg Tryd.prog 58 = false := by kernel_rfl
theorem by58 : Tryd.prog.bytesOf 58 = 8 := by kernel_rfl
theorem se58 : slEl Tryd.prog 58 = none := by kernel_rfl
theorem ae58 : arEl Tryd.prog 58 = none := by kernel_rfl
theorem if58 : isFn Tryd.prog 58 = true := by kernel_rfl
theorem zz58 : zc Tryd.prog 58 = [V.nilf] := by kernel_rfl
theorem cz60 : Tryd.prog.cellsOf 60 = 1 := by kernel_rfl
theorem tk60 : tyOk Tryd.prog 60 = true := by kernel_rfl
theorem ag60 : isAg Tryd.prog 60 = false := by kernel_rfl
theorem by60 : Tryd.prog.bytesOf 60 = 8 := by kernel_rfl
theorem se60 : slEl Tryd.prog 60 = none := by kernel_rfl
theorem ae60 : arEl Tryd.prog 60 = none := by kernel_rfl
theorem if60 : isFn Tryd.prog 60 = true := by kernel_rfl
theorem zz60 : zc Tryd.prog 60 = [V.nilf] := by kernel_rfl
theorem cz62 : Tryd.prog.cellsOf 62 = 1 := by kernel_rfl
theorem tk62 : tyOk Tryd.prog 62 = true := by kernel_rfl
theorem ag62 : isAg Tryd.prog 62 = false := by kernel_rfl
theorem by62 : Tryd.prog.bytesOf 62 = 8 := by kernel_rfl
theorem se62 : slEl Tryd.prog 62 = none := by kernel_rfl
theorem ae62 : arEl Tryd.prog 62 = none := by kernel_rfl
theorem if62 : isFn Tryd.prog 62 = true := by kernel_rfl
theorem zz62 : zc Tryd.prog 62 = [V.nilf] := by kernel_rfl
theorem cz63 : Tryd.prog.cellsOf 63 = 1 := by kernel_rfl
theorem tk63 : tyOk Tryd.prog 63 = true := by kernel_rfl
theorem ag63 : isAg Tryd.prog 63 = false := by kernel_rfl
theorem by63 : Tryd.prog.bytesOf 63 = 8 := by kernel_rfl
theorem se63 : slEl Tryd.prog 63 = none := by kernel_rfl
theorem ae63 : arEl Tryd.prog 63 = none := by kernel_rfl
theorem if63 : isFn Tryd.prog 63 = true := by kernel_rfl
theorem zz63 : zc Tryd.prog 63 = [V.nilf] := by kernel_rfl
theorem cz64 : Tryd.prog.cellsOf 64 = 1 := by kernel_rfl
theorem tk64 : tyOk Tryd.prog 64 = true := by kernel_rfl
theorem ag64 : isAg Tryd.prog 64 = false := by kernel_rfl
theorem by64 : Tryd.prog.bytesOf 64 = 8 := by kernel_rfl
theorem se64 : slEl Tryd.prog 64 = none := by kernel_rfl
theorem ae64 : arEl Tryd.prog 64 = none := by kernel_rfl
theorem if64 : isFn Tryd.prog 64 = true := by kernel_rfl
theorem zz64 : zc Tryd.prog 64 = [V.nilf] := by kernel_rfl
theorem cz65 : Tryd.prog.cellsOf 65 = 1 := by kernel_rfl
theorem tk65 : tyOk Tryd.prog 65 = true := by kernel_rfl
theorem ag65 : isAg Tryd.prog 65 = false := by kernel_rfl
theorem by65 : Tryd.prog.bytesOf 65 = 8 := by kernel_rfl
theorem se65 : slEl Tryd.prog 65 = none := by kernel_rfl
theorem ae65 : arEl Tryd.prog 65 = none := by kernel_rfl
theorem if65 : isFn Tryd.prog 65 = true := by kernel_rfl
theorem zz65 : zc Tryd.prog 65 = [V.nilf] := by kernel_rfl
theorem cz66 : Tryd.prog.cellsOf 66 = 1 := by kernel_rfl
theorem tk66 : tyOk Tryd.prog 66 = true := by kernel_rfl
theorem ag66 : isAg Tryd.prog 66 = false := by kernel_rfl
theorem by66 : Tryd.prog.bytesOf 66 = 8 := by kernel_rfl
theorem se66 : slEl Tryd.prog 66 = none := by kernel_rfl
theorem ae66 : arEl Tryd.prog 66 = none := by kernel_rfl
theorem if66 : isFn Tryd.prog 66 = true := by kernel_rfl
theorem zz66 : zc Tryd.prog 66 = [V.nilf] := by kernel_rfl
theorem cz67 : Tryd.prog.cellsOf 67 = 1 := by kernel_rfl
theorem tk67 : tyOk Tryd.prog 67 = true := by kernel_rfl
theorem ag67 : isAg Tryd.prog 67 = false := by kernel_rfl
theorem by67 : Tryd.prog.bytesOf 67 = 8 := by kernel_rfl
theorem se67 : slEl Tryd.prog 67 = none := by kernel_rfl
theorem ae67 : arEl Tryd.prog 67 = none := by kernel_rfl
theorem if67 : isFn Tryd.prog 67 = true := by kernel_rfl
theorem zz67 : zc Tryd.prog 67 = [V.nilf] := by kernel_rfl
theorem cz68 : Tryd.prog.cellsOf 68 = 1 := by kernel_rfl
theorem tk68 : tyOk Tryd.prog 68 = true := by kernel_rfl
theorem ag68 : isAg Tryd.prog 68 = false := by kernel_rfl
theorem by68 : Tryd.prog.bytesOf 68 = 8 := by kernel_rfl
theorem se68 : slEl Tryd.prog 68 = none := by kernel_rfl
theorem ae68 : arEl Tryd.prog 68 = none := by kernel_rfl
theorem if68 : isFn Tryd.prog 68 = true := by kernel_rfl
theorem zz68 : zc Tryd.prog 68 = [V.nilf] := by kernel_rfl
theorem cz69 : Tryd.prog.cellsOf 69 = 1 := by kernel_rfl
theorem tk69 : tyOk Tryd.prog 69 = true := by kernel_rfl
theorem ag69 : isAg Tryd.prog 69 = false := by kernel_rfl
theorem by69 : Tryd.prog.bytesOf 69 = 8 := by kernel_rfl
theorem se69 : slEl Tryd.prog 69 = none := by kernel_rfl
theorem ae69 : arEl Tryd.prog 69 = none := by kernel_rfl
theorem if69 : isFn Tryd.prog 69 = true := by kernel_rfl
theorem zz69 : zc Tryd.prog 69 = [V.nilf] := by kernel_rfl
theorem cz70 : Tryd.prog.cellsOf 70 = 1 := by kernel_rfl
theorem tk70 : tyOk Tryd.prog 70 = true := by kernel_rfl
theorem ag70 : isAg Tryd.prog 70 = false := by kernel_rfl
theorem by70 : Tryd.prog.bytesOf 70 = 8 := by kernel_rfl
theorem se70 : slEl Tryd.prog 70 = none := by kernel_rfl
theorem ae70 : arEl Tryd.prog 70 = none := by kernel_rfl
theorem if70 : isFn Tryd.prog 70 = true := by kernel_rfl
theorem zz70 : zc Tryd.prog 70 = [V.nilf] := by kernel_rfl
theorem cz71 : Tryd.prog.cellsOf 71 = 1 := by kernel_rfl
theorem tk71 : tyOk Tryd.prog 71 = true := by kernel_rfl
theorem ag71 : isAg Tryd.prog 71 = false := by kernel_rfl
theorem by71 : Tryd.prog.bytesOf 71 = 8 := by kernel_rfl
theorem se71 : slEl Tryd.prog 71 = none := by kernel_rfl
theorem ae71 : arEl Tryd.prog 71 = none := by kernel_rfl
theorem if71 : isFn Tryd.prog 71 = true := by kernel_rfl
theorem zz71 : zc Tryd.prog 71 = [V.nilf] := by kernel_rfl
theorem cz72 : Tryd.prog.cellsOf 72 = 1 := by kernel_rfl
theorem tk72 : tyOk Tryd.prog 72 = true := by kernel_rfl
theorem ag72 : isAg Tryd.prog 72 = false := by kernel_rfl
theorem by72 : Tryd.prog.bytesOf 72 = 8 := by kernel_rfl
theorem se72 : slEl Tryd.prog 72 = none := by kernel_rfl
theorem ae72 : arEl Tryd.prog 72 = none := by kernel_rfl
theorem if72 : isFn Tryd.prog 72 = true := by kernel_rfl
theorem zz72 : zc Tryd.prog 72 = [V.nilf] := by kernel_rfl
theorem cz73 : Tryd.prog.cellsOf 73 = 1 := by kernel_rfl
theorem tk73 : tyOk Tryd.prog 73 = true := by kernel_rfl
theorem ag73 : isAg Tryd.prog 73 = false := by kernel_rfl
theorem by73 : Tryd.prog.bytesOf 73 = 8 := by kernel_rfl
theorem se73 : slEl Tryd.prog 73 = none := by kernel_rfl
theorem ae73 : arEl Tryd.prog 73 = none := by kernel_rfl
theorem if73 : isFn Tryd.prog 73 = true := by kernel_rfl
theorem zz73 : zc Tryd.prog 73 = [V.nilf] := by kernel_rfl
theorem cz74 : Tryd.prog.cellsOf 74 = 1 := by kernel_rfl
theorem tk74 : tyOk Tryd.prog 74 = true := by kernel_rfl
theorem ag74 : isAg Tryd.prog 74 = false := by kernel_rfl
theorem by74 : Tryd.prog.bytesOf 74 = 8 := by kernel_rfl
theorem se74 : slEl Tryd.prog 74 = none := by kernel_rfl
theorem ae74 : arEl Tryd.prog 74 = none := by kernel_rfl
theorem ip74 : isPtr Tryd.prog 74 = true := by kernel_rfl
theorem zz74 : zc Tryd.prog 74 = [V.nilp] := by kernel_rfl
theorem cz76 : Tryd.prog.cellsOf 76 = 1 := by kernel_rfl
theorem tk76 : tyOk Tryd.prog 76 = true := by kernel_rfl
theorem ag76 : isAg Tryd.prog 76 = false := by kernel_rfl
theorem by76 : Tryd.prog.bytesOf 76 = 8 := by kernel_rfl
theorem se76 : slEl Tryd.prog 76 = none := by kernel_rfl
theorem ae76 : arEl Tryd.prog 76 = none := by kernel_rfl
theorem if76 : isFn Tryd.prog 76 = true := by kernel_rfl
theorem zz76 : zc Tryd.prog 76 = [V.nilf] := by kernel_rfl
theorem cz77 : Tryd.prog.cellsOf 77 = 1 := by kernel_rfl
theorem tk77 : tyOk Tryd.prog 77 = true := by kernel_rfl
theorem ag77 : isAg Tryd.prog 77 = false := by kernel_rfl
theorem by77 : Tryd.prog.bytesOf 77 = 24 := by kernel_rfl
theorem se77 : slEl Tryd.prog 77 = some 92 := by kernel_rfl
theorem ae77 : arEl Tryd.prog 77 = none := by kernel_rfl
theorem zz77 : zc Tryd.prog 77 = [V.nil] := by kernel_rfl
theorem cz78 : Tryd.prog.cellsOf 78 = 1 := by kernel_rfl
theorem tk78 : tyOk Tryd.prog 78 = true := by kernel_rfl
theorem ag78 : isAg Tryd.prog 78 = false := by kernel_rfl
theorem by78 : Tryd.prog.bytesOf 78 = 24 := by kernel_rfl
theorem se78 : slEl Tryd.prog 78 = some 4 := by kernel_rfl
theorem ae78 : arEl Tryd.prog 78 = none := by kernel_rfl
theorem zz78 : zc Tryd.prog 78 = [V.nil] := by kernel_rfl
theorem cz79 : Tryd.prog.cellsOf 79 = 1 := by kernel_rfl
theorem tk79 : tyOk Tryd.prog 79 = true := by kernel_rfl
theorem ag79 : isAg Tryd.prog 79 = false := by kernel_rfl
theorem by79 : Tryd.prog.bytesOf 79 = 24 := by kernel_rfl
theorem se79 : slEl Tryd.prog 79 = some 88 := by kernel_rfl
theorem ae79 : arEl Tryd.prog 79 = none := by kernel_rfl
theorem zz79 : zc Tryd.prog 79 = [V.nil] := by kernel_rfl
theorem cz80 : Tryd.prog.cellsOf 80 = 1 := by kernel_rfl
theorem tk80 : tyOk Tryd.prog 80 = true := by kernel_rfl
theorem ag80 : isAg Tryd.prog 80 = false := by kernel_rfl
theorem by80 : Tryd.prog.bytesOf 80 = 24 := by kernel_rfl
theorem se80 : slEl Tryd.prog 80 = some 159 := by kernel_rfl
theorem ae80 : arEl Tryd.prog 80 = none := by kernel_rfl
theorem zz80 : zc Tryd.prog 80 = [V.nil] := by kernel_rfl
theorem cz81 : Tryd.prog.cellsOf 81 = 9 := by kernel_rfl
theorem tk81 : tyOk Tryd.prog 81 = true := by kernel_rfl
theorem ag81 : isAg Tryd.prog 81 = true := by kernel_rfl
theorem by81 : Tryd.prog.bytesOf 81 = 184 := by kernel_rfl
theorem se81 : slEl Tryd.prog 81 = none := by kernel_rfl
theorem ae81 : arEl Tryd.prog 81 = none := by kernel_rfl
theorem st81 : isSt Tryd.prog 81 = true := by kernel_rfl
theorem fo81 : fldsOk Tryd.prog 81 = true := by kernel_rfl
theorem fd81_0 : fld Tryd.prog 81 0 = some (0, 43) := by kernel_rfl
theorem fd81_1 : fld Tryd.prog 81 1 = some (4, 77) := by kernel_rfl
theorem fd81_2 : fld Tryd.prog 81 2 = some (5, 78) := by kernel_rfl
theorem fd81_3 : fld Tryd.prog 81 3 = some (6, 79) := by kernel_rfl
theorem fd81_4 : fld Tryd.prog 81 4 = some (7, 3) := by kernel_rfl
theorem fd81_5 : fld Tryd.prog 81 5 = some (8, 80) := by kernel_rfl
theorem zz81 : zc Tryd.prog 81 = [V.nil, V.nil, V.int .i64 0, V.nil, V.nil, V.nil, V.nil, V.int .i64 0, V.nil] := by kernel_rfl
theorem cz82 : Tryd.prog.cellsOf 82 = 9 := by kernel_rfl
theorem tk82 : tyOk Tryd.prog 82 = true := by kernel_rfl
theorem ag82 : isAg Tryd.prog 82 = true := by kernel_rfl
theorem by82 : Tryd.prog.bytesOf 82 = 184 := by kernel_rfl
theorem se82 : slEl Tryd.prog 82 = none := by kernel_rfl
theorem ae82 : arEl Tryd.prog 82 = none := by kernel_rfl
theorem st82 : isSt Tryd.prog 82 = true := by kernel_rfl
theorem fo82 : fldsOk Tryd.prog 82 = true := by kernel_rfl
theorem fd82_0 : fld Tryd.prog 82 0 = some (0, 43) := by kernel_rfl
theorem fd82_1 : fld Tryd.prog 82 1 = some (4, 77) := by kernel_rfl
theorem fd82_2 : fld Tryd.prog 82 2 = some (5, 78) := by kernel_rfl
theorem fd82_3 : fld Tryd.prog 82 3 = some (6, 79) := by kernel_rfl
theorem fd82_4 : fld Tryd.prog 82 4 = some (7, 3) := by kernel_rfl
theorem fd82_5 : fld Tryd.prog 82 5 = some (8, 80) := by kernel_rfl
theorem zz82 : zc Tryd.prog 82 = [V.nil, V.nil, V.int .i64 0, V.nil, V.nil, V.nil, V.nil, V.int .i64 0, V.nil] := by kernel_rfl
theorem cz83 : Tryd.prog.cellsOf 83 = 3 := by kernel_rfl
theorem tk83 : tyOk Tryd.prog 83 = true := by kernel_rfl
theorem ag83 : isAg Tryd.prog 83 = true := by kernel_rfl
theorem by83 : Tryd.prog.bytesOf 83 = 24 := by kernel_rfl
theorem se83 : slEl Tryd.prog 83 = none := by kernel_rfl
theorem ae83 : arEl Tryd.prog 83 = none := by kernel_rfl
theorem st83 : isSt Tryd.prog 83 = true := by kernel_rfl
theorem fo83 : fldsOk Tryd.prog 83 = true := by kernel_rfl
theorem fd83_0 : fld Tryd.prog 83 0 = some (0, 3) := by kernel_rfl
theorem fd83_1 : fld Tryd.prog 83 1 = some (1, 3) := by kernel_rfl
theorem fd83_2 : fld Tryd.prog 83 2 = some (2, 3) := by kernel_rfl
theorem lt83 : leafTs Tryd.prog 83 = [3, 3, 3] := by kernel_rfl
theorem fe83 : flatEq Tryd.prog 83 = true := by kernel_rfl
theorem zz83 : zc Tryd.prog 83 = [V.int .i64 0, V.int .i64 0, V.int .i64 0] := by kernel_rfl
theorem cz84 : Tryd.prog.cellsOf 84 = 3 := by kernel_rfl
theorem tk84 : tyOk Tryd.prog 84 = true := by kernel_rfl
theorem ag84 : isAg Tryd.prog 84 = true := by kernel_rfl
theorem by84 : Tryd.prog.bytesOf 84 = 24 := by kernel_rfl
theorem se84 : slEl Tryd.prog 84 = none := by kernel_rfl
theorem ae84 : arEl Tryd.prog 84 = none := by kernel_rfl
theorem st84 : isSt Tryd.prog 84 = true := by kernel_rfl
theorem fo84 : fldsOk Tryd.prog 84 = true := by kernel_rfl
theorem fd84_0 : fld Tryd.prog 84 0 = some (0, 3) := by kernel_rfl
theorem fd84_1 : fld Tryd.prog 84 1 = some (1, 3) := by kernel_rfl
theorem fd84_2 : fld Tryd.prog 84 2 = some (2, 3) := by kernel_rfl
theorem lt84 : leafTs Tryd.prog 84 = [3, 3, 3] := by kernel_rfl
theorem fe84 : flatEq Tryd.prog 84 = true := by kernel_rfl
theorem zz84 : zc Tryd.prog 84 = [V.int .i64 0, V.int .i64 0, V.int .i64 0] := by kernel_rfl
theorem cz85 : Tryd.prog.cellsOf 85 = 1 := by kernel_rfl
theorem tk85 : tyOk Tryd.prog 85 = true := by kernel_rfl
theorem ag85 : isAg Tryd.prog 85 = false := by kernel_rfl
theorem by85 : Tryd.prog.bytesOf 85 = 8 := by kernel_rfl
theorem se85 : slEl Tryd.prog 85 = none := by kernel_rfl
theorem ae85 : arEl Tryd.prog 85 = none := by kernel_rfl
theorem if85 : isFn Tryd.prog 85 = true := by kernel_rfl
theorem zz85 : zc Tryd.prog 85 = [V.nilf] := by kernel_rfl
theorem cz86 : Tryd.prog.cellsOf 86 = 1 := by kernel_rfl
theorem tk86 : tyOk Tryd.prog 86 = true := by kernel_rfl
theorem ag86 : isAg Tryd.prog 86 = false := by kernel_rfl
theorem by86 : Tryd.prog.bytesOf 86 = 8 := by kernel_rfl
theorem se86 : slEl Tryd.prog 86 = none := by kernel_rfl
theorem ae86 : arEl Tryd.prog 86 = none := by kernel_rfl
theorem if86 : isFn Tryd.prog 86 = true := by kernel_rfl
theorem zz86 : zc Tryd.prog 86 = [V.nilf] := by kernel_rfl
theorem cz87 : Tryd.prog.cellsOf 87 = 1 := by kernel_rfl
theorem tk87 : tyOk Tryd.prog 87 = true := by kernel_rfl
theorem ag87 : isAg Tryd.prog 87 = false := by kernel_rfl
theorem by87 : Tryd.prog.bytesOf 87 = 8 := by kernel_rfl
theorem se87 : slEl Tryd.prog 87 = none := by kernel_rfl
theorem ae87 : arEl Tryd.prog 87 = none := by kernel_rfl
theorem if87 : isFn Tryd.prog 87 = true := by kernel_rfl
theorem zz87 : zc Tryd.prog 87 = [V.nilf] := by kernel_rfl
theorem cz88 : Tryd.prog.cellsOf 88 = 2 := by kernel_rfl
theorem tk88 : tyOk Tryd.prog 88 = true := by kernel_rfl
theorem ag88 : isAg Tryd.prog 88 = true := by kernel_rfl
theorem by88 : Tryd.prog.bytesOf 88 = 16 := by kernel_rfl
theorem se88 : slEl Tryd.prog 88 = none := by kernel_rfl
theorem ae88 : arEl Tryd.prog 88 = some (2, 3) := by kernel_rfl
theorem st88 : isSt Tryd.prog 88 = false := by kernel_rfl
theorem lt88 : leafTs Tryd.prog 88 = [3, 3] := by kernel_rfl
theorem fe88 : flatEq Tryd.prog 88 = true := by kernel_rfl
theorem zz88 : zc Tryd.prog 88 = [V.int .i64 0, V.int .i64 0] := by kernel_rfl
theorem cz89 : Tryd.prog.cellsOf 89 = 1 := by kernel_rfl
theorem tk89 : tyOk Tryd.prog 89 = true := by kernel_rfl
theorem ag89 : isAg Tryd.prog 89 = false := by kernel_rfl
theorem by89 : Tryd.prog.bytesOf 89 = 8 := by kernel_rfl
theorem se89 : slEl Tryd.prog 89 = none := by kernel_rfl
theorem ae89 : arEl Tryd.prog 89 = none := by kernel_rfl
theorem if89 : isFn Tryd.prog 89 = true := by kernel_rfl
theorem zz89 : zc Tryd.prog 89 = [V.nilf] := by kernel_rfl
theorem cz90 : Tryd.prog.cellsOf 90 = 1 := by kernel_rfl
theorem tk90 : tyOk Tryd.prog 90 = true := by kernel_rfl
theorem ag90 : isAg Tryd.prog 90 = false := by kernel_rfl
theorem by90 : Tryd.prog.bytesOf 90 = 8 := by kernel_rfl
theorem se90 : slEl Tryd.prog 90 = none := by kernel_rfl
theorem ae90 : arEl Tryd.prog 90 = none := by kernel_rfl
theorem if90 : isFn Tryd.prog 90 = true := by kernel_rfl
theorem zz90 : zc Tryd.prog 90 = [V.nilf] := by kernel_rfl
theorem cz91 : Tryd.prog.cellsOf 91 = 1 := by kernel_rfl
theorem tk91 : tyOk Tryd.prog 91 = true := by kernel_rfl
theorem ag91 : isAg Tryd.prog 91 = false := by kernel_rfl
theorem by91 : Tryd.prog.bytesOf 91 = 8 := by kernel_rfl
theorem se91 : slEl Tryd.prog 91 = none := by kernel_rfl
theorem ae91 : arEl Tryd.prog 91 = none := by kernel_rfl
theorem if91 : isFn Tryd.prog 91 = true := by kernel_rfl
theorem zz91 : zc Tryd.prog 91 = [V.nilf] := by kernel_rfl
theorem cz92 : Tryd.prog.cellsOf 92 = 1 := by kernel_rfl
theorem tk92 : tyOk Tryd.prog 92 = true := by kernel_rfl
theorem ag92 : isAg Tryd.prog 92 = false := by kernel_rfl
theorem by92 : Tryd.prog.bytesOf 92 = 8 := by kernel_rfl
theorem se92 : slEl Tryd.prog 92 = none := by kernel_rfl
theorem ae92 : arEl Tryd.prog 92 = none := by kernel_rfl
theorem ip92 : isPtr Tryd.prog 92 = true := by kernel_rfl
theorem zz92 : zc Tryd.prog 92 = [V.nilp] := by kernel_rfl
theorem cz93 : Tryd.prog.cellsOf 93 = 8 := by kernel_rfl
theorem tk93 : tyOk Tryd.prog 93 = true := by kernel_rfl
theorem ag93 : isAg Tryd.prog 93 = true := by kernel_rfl
theorem by93 : Tryd.prog.bytesOf 93 = 96 := by kernel_rfl
theorem se93 : slEl Tryd.prog 93 = none := by kernel_rfl
theorem ae93 : arEl Tryd.prog 93 = none := by kernel_rfl
theorem st93 : isSt Tryd.prog 93 = true := by kernel_rfl
theorem fo93 : fldsOk Tryd.prog 93 = true := by kernel_rfl
theorem fd93_0 : fld Tryd.prog 93 0 = some (0, 57) := by kernel_rfl
theorem fd93_1 : fld Tryd.prog 93 1 = some (4, 88) := by kernel_rfl
theorem fd93_2 : fld Tryd.prog 93 2 = some (6, 36) := by kernel_rfl
theorem fd93_3 : fld Tryd.prog 93 3 = some (7, 78) := by kernel_rfl
theorem zz93 : zc Tryd.prog 93 = [V.int .i64 0, V.int .i64 0, V.int .i64 0, V.bool false, V.int .i64 0, V.int .i64 0, V.nil, V.nil] := by kernel_rfl
theorem cz94 : Tryd.prog.cellsOf 94 = 8 := by kernel_rfl
theorem tk94 : tyOk Tryd.prog 94 = true := by kernel_rfl
theorem ag94 : isAg Tryd.prog 94 = true := by kernel_rfl
theorem by94 : Tryd.prog.bytesOf 94 = 96 := by kernel_rfl
theorem se94 : slEl Tryd.prog 94 = none := by kernel_rfl
theorem ae94 : arEl Tryd.prog 94 = none := by kernel_rfl
theorem st94 : isSt Tryd.prog 94 = true := by kernel_rfl
theorem fo94 : fldsOk Tryd.prog 94 = true := by kernel_rfl
theorem fd94_0 : fld Tryd.prog 94 0 = some (0, 57) := by kernel_rfl
theorem fd94_1 : fld Tryd.prog 94 1 = some (4, 88) := by kernel_rfl
theorem fd94_2 : fld Tryd.prog 94 2 = some (6, 36) := by kernel_rfl
theorem fd94_3 : fld Tryd.prog 94 3 = some (7, 78) := by kernel_rfl
theorem zz94 : zc Tryd.prog 94 = [V.int .i64 0, V.int .i64 0, V.int .i64 0, V.bool false, V.int .i64 0, V.int .i64 0, V.nil, V.nil] := by kernel_rfl
theorem cz95 : Tryd.prog.cellsOf 95 = 1 := by kernel_rfl
theorem tk95 : tyOk Tryd.prog 95 = true := by kernel_rfl
theorem ag95 : isAg Tryd.prog 95 = false := by kernel_rfl
theorem by95 : Tryd.prog.bytesOf 95 = 8 := by kernel_rfl
theorem se95 : slEl Tryd.prog 95 = none := by kernel_rfl
theorem ae95 : arEl Tryd.prog 95 = none := by kernel_rfl
theorem if95 : isFn Tryd.prog 95 = true := by kernel_rfl
theorem zz95 : zc Tryd.prog 95 = [V.nilf] := by kernel_rfl
theorem cz96 : Tryd.prog.cellsOf 96 = 1 := by kernel_rfl
theorem tk96 : tyOk Tryd.prog 96 = true := by kernel_rfl
theorem ag96 : isAg Tryd.prog 96 = false := by kernel_rfl
theorem by96 : Tryd.prog.bytesOf 96 = 8 := by kernel_rfl
theorem se96 : slEl Tryd.prog 96 = none := by kernel_rfl
theorem ae96 : arEl Tryd.prog 96 = none := by kernel_rfl
theorem ip96 : isPtr Tryd.prog 96 = true := by kernel_rfl
theorem zz96 : zc Tryd.prog 96 = [V.nilp] := by kernel_rfl
theorem cz98 : Tryd.prog.cellsOf 98 = 1 := by kernel_rfl
theorem tk98 : tyOk Tryd.prog 98 = true := by kernel_rfl
theorem ag98 : isAg Tryd.prog 98 = false := by kernel_rfl
theorem by98 : Tryd.prog.bytesOf 98 = 8 := by kernel_rfl
theorem se98 : slEl Tryd.prog 98 = none := by kernel_rfl
theorem ae98 : arEl Tryd.prog 98 = none := by kernel_rfl
theorem if98 : isFn Tryd.prog 98 = true := by kernel_rfl
theorem zz98 : zc Tryd.prog 98 = [V.nilf] := by kernel_rfl
theorem cz99 : Tryd.prog.cellsOf 99 = 2 := by kernel_rfl
theorem tk99 : tyOk Tryd.prog 99 = true := by kernel_rfl
theorem ag99 : isAg Tryd.prog 99 = true := by kernel_rfl
theorem by99 : Tryd.prog.bytesOf 99 = 48 := by kernel_rfl
theorem se99 : slEl Tryd.prog 99 = none := by kernel_rfl
theorem ae99 : arEl Tryd.prog 99 = none := by kernel_rfl
theorem st99 : isSt Tryd.prog 99 = true := by kernel_rfl
theorem fo99 : fldsOk Tryd.prog 99 = true := by kernel_rfl
theorem fd99_0 : fld Tryd.prog 99 0 = some (0, 36) := by kernel_rfl
theorem fd99_1 : fld Tryd.prog 99 1 = some (1, 36) := by kernel_rfl
theorem zz99 : zc Tryd.prog 99 = [V.nil, V.nil] := by kernel_rfl
theorem cz100 : Tryd.prog.cellsOf 100 = 2 := by kernel_rfl
theorem tk100 : tyOk Tryd.prog 100 = true := by kernel_rfl
theorem ag100 : isAg Tryd.prog 100 = true := by kernel_rfl
theorem by100 : Tryd.prog.bytesOf 100 = 48 := by kernel_rfl
theorem se100 : slEl Tryd.prog 100 = none := by kernel_rfl
theorem ae100 : arEl Tryd.prog 100 = none := by kernel_rfl
theorem st100 : isSt Tryd.prog 100 = true := by kernel_rfl
theorem fo100 : fldsOk Tryd.prog 100 = true := by kernel_rfl
theorem fd100_0 : fld Tryd.prog 100 0 = some (0, 36) := by kernel_rfl
theorem fd100_1 : fld Tryd.prog 100 1 = some (1, 36) := by kernel_rfl
theorem zz100 : zc Tryd.prog 100 = [V.nil, V.nil] := by kernel_rfl
theorem cz101 : Tryd.prog.cellsOf 101 = 1 := by kernel_rfl
theorem tk101 : tyOk Tryd.prog 101 = true := by kernel_rfl
theorem ag101 : isAg Tryd.prog 101 = false := by kernel_rfl
theorem by101 : Tryd.prog.bytesOf 101 = 8 := by kernel_rfl
theorem se101 : slEl Tryd.prog 101 = none := by kernel_rfl
theorem ae101 : arEl Tryd.prog 101 = none := by kernel_rfl
theorem if101 : isFn Tryd.prog 101 = true := by kernel_rfl
theorem zz101 : zc Tryd.prog 101 = [V.nilf] := by kernel_rfl
theorem cz102 : Tryd.prog.cellsOf 102 = 1 := by kernel_rfl
theorem tk102 : tyOk Tryd.prog 102 = true := by kernel_rfl
theorem ag102 : isAg Tryd.prog 102 = false := by kernel_rfl
theorem by102 : Tryd.prog.bytesOf 102 = 24 := by kernel_rfl
theorem se102 : slEl Tryd.prog 102 = some 100 := by kernel_rfl
theorem ae102 : arEl Tryd.prog 102 = none := by kernel_rfl
theorem zz102 : zc Tryd.prog 102 = [V.nil] := by kernel_rfl
theorem cz103 : Tryd.prog.cellsOf 103 = 1 := by kernel_rfl
theorem tk103 : tyOk Tryd.prog 103 = true := by kernel_rfl
theorem ag103 : isAg Tryd.prog 103 = false := by kernel_rfl
theorem by103 : Tryd.prog.bytesOf 103 = 8 := by kernel_rfl
theorem se103 : slEl Tryd.prog 103 = none := by kernel_rfl
theorem ae103 : arEl Tryd.prog 103 = none := by kernel_rfl
theorem if103 : isFn Tryd.prog 103 = true := by kernel_rfl
theorem zz103 : zc Tryd.prog 103 = [V.nilf] := by kernel_rfl
theorem cz104 : Tryd.prog.cellsOf 104 = 1 := by kernel_rfl
theorem tk104 : tyOk Tryd.prog 104 = true := by kernel_rfl
theorem ag104 : isAg Tryd.prog 104 = false := by kernel_rfl
theorem by104 : Tryd.prog.bytesOf 104 = 8 := by kernel_rfl
theorem se104 : slEl Tryd.prog 104 = none := by kernel_rfl
theorem ae104 : arEl Tryd.prog 104 = none := by kernel_rfl
theorem if104 : isFn Tryd.prog 104 = true := by kernel_rfl
theorem zz104 : zc Tryd.prog 104 = [V.nilf] := by kernel_rfl
theorem cz105 : Tryd.prog.cellsOf 105 = 1 := by kernel_rfl
theorem tk105 : tyOk Tryd.prog 105 = true := by kernel_rfl
theorem ag105 : isAg Tryd.prog 105 = false := by kernel_rfl
theorem by105 : Tryd.prog.bytesOf 105 = 8 := by kernel_rfl
theorem se105 : slEl Tryd.prog 105 = none := by kernel_rfl
theorem ae105 : arEl Tryd.prog 105 = none := by kernel_rfl
theorem if105 : isFn Tryd.prog 105 = true := by kernel_rfl
theorem zz105 : zc Tryd.prog 105 = [V.nilf] := by kernel_rfl
theorem cz106 : Tryd.prog.cellsOf 106 = 2 := by kernel_rfl
theorem tk106 : tyOk Tryd.prog 106 = true := by kernel_rfl
theorem ag106 : isAg Tryd.prog 106 = true := by kernel_rfl
theorem by106 : Tryd.prog.bytesOf 106 = 16 := by kernel_rfl
theorem se106 : slEl Tryd.prog 106 = none := by kernel_rfl
theorem ae106 : arEl Tryd.prog 106 = none := by kernel_rfl
theorem st106 : isSt Tryd.prog 106 = true := by kernel_rfl
theorem fo106 : fldsOk Tryd.prog 106 = true := by kernel_rfl
theorem fd106_0 : fld Tryd.prog 106 0 = some (0, 3) := by kernel_rfl
theorem fd106_1 : fld Tryd.prog 106 1 = some (1, 3) := by kernel_rfl
theorem lt106 : leafTs Tryd.prog 106 = [3, 3] := by kernel_rfl
theorem fe106 : flatEq Tryd.prog 106 = true := by kernel_rfl
theorem zz106 : zc Tryd.prog 106 = [V.int .i64 0, V.int .i64 0] := by kernel_rfl
theorem cz107 : Tryd.prog.cellsOf 107 = 2 := by kernel_rfl
theorem tk107 : tyOk Tryd.prog 107 = true := by kernel_rfl
theorem ag107 : isAg Tryd.prog 107 = true := by kernel_rfl
theorem by107 : Tryd.prog.bytesOf 107 = 16 := by kernel_rfl
theorem se107 : slEl Tryd.prog 107 = none := by kernel_rfl
theorem ae107 : arEl Tryd.prog 107 = none := by kernel_rfl
theorem st107 : isSt Tryd.prog 107 = true := by kernel_rfl
theorem fo107 : fldsOk Tryd.prog 107 = true := by kernel_rfl
theorem fd107_0 : fld Tryd.prog 107 0 = some (0, 3) := by kernel_rfl
theorem fd107_1 : fld Tryd.prog 107 1 = some (1, 3) := by kernel_rfl
theorem lt107 : leafTs Tryd.prog 107 = [3, 3] := by kernel_rfl
theorem fe107 : flatEq Tryd.prog 107 = true := by kernel_rfl
theorem zz107 : zc Tryd.prog 107 = [V.int .i64 0, V.int .i64 0] := by kernel_rfl
theorem cz108 : Tryd.prog.cellsOf 108 = 4 := by kernel_rfl
theorem tk108 : tyOk Tryd.prog 108 = true := by kernel_rfl
theorem ag108 : isAg Tryd.prog 108 = true := by kernel_rfl
theorem by108 : Tryd.prog.bytesOf 108 = 32 := by kernel_rfl
theorem se108 : slEl Tryd.prog 108 = none := by kernel_rfl
theorem ae108 : arEl Tryd.prog 108 = none := by kernel_rfl
theorem st108 : isSt Tryd.prog 108 = true := by kernel_rfl
theorem fo108 : fldsOk Tryd.prog 108 = true := by kernel_rfl
theorem fd108_0 : fld Tryd.prog 108 0 = some (0, 3) := by kernel_rfl
theorem fd108_1 : fld Tryd.prog 108 1 = some (1, 3) := by kernel_rfl
theorem fd108_2 : fld Tryd.prog 108 2 = some (2, 3) := by kernel_rfl
theorem fd108_3 : fld Tryd.prog 108 3 = some (3, 3) := by kernel_rfl
theorem lt108 : leafTs Tryd.prog 108 = [3, 3, 3, 3] := by kernel_rfl
theorem fe108 : flatEq Tryd.prog 108 = true := by kernel_rfl
theorem zz108 : zc Tryd.prog 108 = [V.int .i64 0, V.int .i64 0, V.int .i64 0, V.int .i64 0] := by kernel_rfl
theorem cz109 : Tryd.prog.cellsOf 109 = 4 := by kernel_rfl
theorem tk109 : tyOk Tryd.prog 109 = true := by kernel_rfl
theorem ag109 : isAg Tryd.prog 109 = true := by kernel_rfl
theorem by109 : Tryd.prog.bytesOf 109 = 32 := by kernel_rfl
theorem se109 : slEl Tryd.prog 109 = none := by kernel_rfl
theorem ae109 : arEl Tryd.prog 109 = none := by kernel_rfl
theorem st109 : isSt Tryd.prog 109 = true := by kernel_rfl
theorem fo109 : fldsOk Tryd.prog 109 = true := by kernel_rfl
theorem fd109_0 : fld Tryd.prog 109 0 = some (0, 3) := by kernel_rfl
theorem fd109_1 : fld Tryd.prog 109 1 = some (1, 3) := by kernel_rfl
theorem fd109_2 : fld Tryd.prog 109 2 = some (2, 3) := by kernel_rfl
theorem fd109_3 : fld Tryd.prog 109 3 = some (3, 3) := by kernel_rfl
theorem lt109 : leafTs Tryd.prog 109 = [3, 3, 3, 3] := by kernel_rfl
theorem fe109 : flatEq Tryd.prog 109 = true := by kernel_rfl
theorem zz109 : zc Tryd.prog 109 = [V.int .i64 0, V.int .i64 0, V.int .i64 0, V.int .i64 0] := by kernel_rfl
theorem cz110 : Tryd.prog.cellsOf 110 = 1 := by kernel_rfl
theorem tk110 : tyOk Tryd.prog 110 = true := by kernel_rfl
theorem ag110 : isAg Tryd.prog 110 = false := by kernel_rfl
theorem by110 : Tryd.prog.bytesOf 110 = 8 := by kernel_rfl
theorem se110 : slEl Tryd.prog 110 = none := by kernel_rfl
theorem ae110 : arEl Tryd.prog 110 = none := by kernel_rfl
theorem if110 : isFn Tryd.prog 110 = true := by kernel_rfl
theorem zz110 : zc Tryd.prog 110 = [V.nilf] := by kernel_rfl
theorem cz111 : Tryd.prog.cellsOf 111 = 1 := by kernel_rfl
theorem tk111 : tyOk Tryd.prog 111 = true := by kernel_rfl
theorem ag111 : isAg Tryd.prog 111 = false := by kernel_rfl
theorem by111 : Tryd.prog.bytesOf 111 = 8 := by kernel_rfl
theorem se111 : slEl Tryd.prog 111 = none := by kernel_rfl
theorem ae111 : arEl Tryd.prog 111 = none := by kernel_rfl
theorem if111 : isFn Tryd.prog 111 = true := by kernel_rfl
theorem zz111 : zc Tryd.prog 111 = [V.nilf] := by kernel_rfl
theorem cz112 : Tryd.prog.cellsOf 112 = 1 := by kernel_rfl
theorem tk112 : tyOk Tryd.prog 112 = true := by kernel_rfl
theorem ag112 : isAg Tryd.prog 112 = false := by kernel_rfl
theorem by112 : Tryd.prog.bytesOf 112 = 8 := by kernel_rfl
theorem se112 : slEl Tryd.prog 112 = none := by kernel_rfl
theorem ae112 : arEl Tryd.prog 112 = none := by kernel_rfl
theorem if112 : isFn Tryd.prog 112 = true := by kernel_rfl
theorem zz112 : zc Tryd.prog 112 = [V.nilf] := by kernel_rfl
theorem cz113 : Tryd.prog.cellsOf 113 = 1 := by kernel_rfl
theorem tk113 : tyOk Tryd.prog 113 = true := by kernel_rfl
theorem ag113 : isAg Tryd.prog 113 = false := by kernel_rfl
theorem by113 : Tryd.prog.bytesOf 113 = 8 := by kernel_rfl
theorem se113 : slEl Tryd.prog 113 = none := by kernel_rfl
theorem ae113 : arEl Tryd.prog 113 = none := by kernel_rfl
theorem if113 : isFn Tryd.prog 113 = true := by kernel_rfl
theorem zz113 : zc Tryd.prog 113 = [V.nilf] := by kernel_rfl
theorem cz114 : Tryd.prog.cellsOf 114 = 1 := by kernel_rfl
theorem tk114 : tyOk Tryd.prog 114 = true := by kernel_rfl
theorem ag114 : isAg Tryd.prog 114 = false := by kernel_rfl
theorem by114 : Tryd.prog.bytesOf 114 = 8 := by kernel_rfl
theorem se114 : slEl Tryd.prog 114 = none := by kernel_rfl
theorem ae114 : arEl Tryd.prog 114 = none := by kernel_rfl
theorem if114 : isFn Tryd.prog 114 = true := by kernel_rfl
theorem zz114 : zc Tryd.prog 114 = [V.nilf] := by kernel_rfl
theorem cz115 : Tryd.prog.cellsOf 115 = 1 := by kernel_rfl
theorem tk115 : tyOk Tryd.prog 115 = true := by kernel_rfl
theorem ag115 : isAg Tryd.prog 115 = false := by kernel_rfl
theorem by115 : Tryd.prog.bytesOf 115 = 8 := by kernel_rfl
theorem se115 : slEl Tryd.prog 115 = none := by kernel_rfl
theorem ae115 : arEl Tryd.prog 115 = none := by kernel_rfl
theorem if115 : isFn Tryd.prog 115 = true := by kernel_rfl
theorem zz115 : zc Tryd.prog 115 = [V.nilf] := by kernel_rfl
theorem cz116 : Tryd.prog.cellsOf 116 = 1 := by kernel_rfl
theorem tk116 : tyOk Tryd.prog 116 = true := by kernel_rfl
theorem ag116 : isAg Tryd.prog 116 = false := by kernel_rfl
theorem by116 : Tryd.prog.bytesOf 116 = 8 := by kernel_rfl
theorem se116 : slEl Tryd.prog 116 = none := by kernel_rfl
theorem ae116 : arEl Tryd.prog 116 = none := by kernel_rfl
theorem if116 : isFn Tryd.prog 116 = true := by kernel_rfl
theorem zz116 : zc Tryd.prog 116 = [V.nilf] := by kernel_rfl
theorem cz117 : Tryd.prog.cellsOf 117 = 1 := by kernel_rfl
theorem tk117 : tyOk Tryd.prog 117 = true := by kernel_rfl
theorem ag117 : isAg Tryd.prog 117 = false := by kernel_rfl
theorem by117 : Tryd.prog.bytesOf 117 = 8 := by kernel_rfl
theorem se117 : slEl Tryd.prog 117 = none := by kernel_rfl
theorem ae117 : arEl Tryd.prog 117 = none := by kernel_rfl
theorem if117 : isFn Tryd.prog 117 = true := by kernel_rfl
theorem zz117 : zc Tryd.prog 117 = [V.nilf] := by kernel_rfl
theorem cz118 : Tryd.prog.cellsOf 118 = 1 := by kernel_rfl
theorem tk118 : tyOk Tryd.prog 118 = true := by kernel_rfl
theorem ag118 : isAg Tryd.prog 118 = false := by kernel_rfl
theorem by118 : Tryd.prog.bytesOf 118 = 24 := by kernel_rfl
theorem se118 : slEl Tryd.prog 118 = some 36 := by kernel_rfl
theorem ae118 : arEl Tryd.prog 118 = none := by kernel_rfl
theorem zz118 : zc Tryd.prog 118 = [V.nil] := by kernel_rfl
theorem cz119 : Tryd.prog.cellsOf 119 = 1 := by kernel_rfl
theorem tk119 : tyOk Tryd.prog 119 = true := by kernel_rfl
theorem ag119 : isAg Tryd.prog 119 = false := by kernel_rfl
theorem by119 : Tryd.prog.bytesOf 119 = 24 := by kernel_rfl
theorem se119 : slEl Tryd.prog 119 = some 78 := by kernel_rfl
theorem ae119 : arEl Tryd.prog 119 = none := by kernel_rfl
theorem zz119 : zc Tryd.prog 119 = [V.nil] := by kernel_rfl
theorem cz120 : Tryd.prog.cellsOf 120 = 5 := by kernel_rfl
theorem tk120 : tyOk Tryd.prog 120 = true := by kernel_rfl
theorem ag120 : isAg Tryd.prog 120 = true := by kernel_rfl
theorem by120 : Tryd.prog.bytesOf 120 = 120 := by kernel_rfl
theorem se120 : slEl Tryd.prog 120 = none := by kernel_rfl
theorem ae120 : arEl Tryd.prog 120 = none := by kernel_rfl
theorem st120 : isSt Tryd.prog 120 = true := by kernel_rfl
theorem fo120 : fldsOk Tryd.prog 120 = true := by kernel_rfl
theorem fd120_0 : fld Tryd.prog 120 0 = some (0, 45) := by kernel_rfl
theorem fd120_1 : fld Tryd.prog 120 1 = some (1, 45) := by kernel_rfl
theorem fd120_2 : fld Tryd.prog 120 2 = some (2, 78) := by kernel_rfl
theorem fd120_3 : fld Tryd.prog 120 3 = some (3, 118) := by kernel_rfl
theorem fd120_4 : fld Tryd.prog 120 4 = some (4, 119) := by kernel_rfl
theorem zz120 : zc Tryd.prog 120 = [V.nil, V.nil, V.nil, V.nil, V.nil] := by kernel_rfl
theorem cz121 : Tryd.prog.cellsOf 121 = 5 := by kernel_rfl
theorem tk121 : tyOk Tryd.prog 121 = true := by kernel_rfl
theorem ag121 : isAg Tryd.prog 121 = true := by kernel_rfl
theorem by121 : Tryd.prog.bytesOf 121 = 120 := by kernel_rfl
theorem se121 : slEl Tryd.prog 121 = none := by kernel_rfl
theorem ae121 : arEl Tryd.prog 121 = none := by kernel_rfl
theorem st121 : isSt Tryd.prog 121 = true := by kernel_rfl
theorem fo121 : fldsOk Tryd.prog 121 = true := by kernel_rfl
theorem fd121_0 : fld Tryd.prog 121 0 = some (0, 45) := by kernel_rfl
theorem fd121_1 : fld Tryd.prog 121 1 = some (1, 45) := by kernel_rfl
theorem fd121_2 : fld Tryd.prog 121 2 = some (2, 78) := by kernel_rfl
theorem fd121_3 : fld Tryd.prog 121 3 = some (3, 118) := by kernel_rfl
theorem fd121_4 : fld Tryd.prog 121 4 = some (4, 119) := by kernel_rfl
theorem zz121 : zc Tryd.prog 121 = [V.nil, V.nil, V.nil, V.nil, V.nil] := by kernel_rfl
theorem cz122 : Tryd.prog.cellsOf 122 = 1 := by kernel_rfl
theorem tk122 : tyOk Tryd.prog 122 = true := by kernel_rfl
theorem ag122 : isAg Tryd.prog 122 = false := by kernel_rfl
theorem by122 : Tryd.prog.bytesOf 122 = 8 := by kernel_rfl
theorem se122 : slEl Tryd.prog 122 = none := by kernel_rfl
theorem ae122 : arEl Tryd.prog 122 = none := by kernel_rfl
theorem if122 : isFn Tryd.prog 122 = true := by kernel_rfl
theorem zz122 : zc Tryd.prog 122 = [V.nilf] := by kernel_rfl
theorem cz124 : Tryd.prog.cellsOf 124 = 1 := by kernel_rfl
theorem tk124 : tyOk Tryd.prog 124 = true := by kernel_rfl
theorem ag124 : isAg Tryd.prog 124 = false := by kernel_rfl
theorem by124 : Tryd.prog.bytesOf 124 = 8 := by kernel_rfl
theorem se124 : slEl Tryd.prog 124 = none := by kernel_rfl
theorem ae124 : arEl Tryd.prog 124 = none := by kernel_rfl
theorem if124 : isFn Tryd.prog 124 = true := by kernel_rfl
theorem zz124 : zc Tryd.prog 124 = [V.nilf] := by kernel_rfl
theorem cz125 : Tryd.prog.cellsOf 125 = 1 := by kernel_rfl
theorem tk125 : tyOk Tryd.prog 125 = true := by kernel_rfl
theorem ag125 : isAg Tryd.prog 125 = false := by kernel_rfl
theorem by125 : Tryd.prog.bytesOf 125 = 8 := by kernel_rfl
theorem se125 : slEl Tryd.prog 125 = none := by kernel_rfl
theorem ae125 : arEl Tryd.prog 125 = none := by kernel_rfl
theorem if125 : isFn Tryd.prog 125 = true := by kernel_rfl
theorem zz125 : zc Tryd.prog 125 = [V.nilf] := by kernel_rfl
theorem cz126 : Tryd.prog.cellsOf 126 = 1 := by kernel_rfl
theorem tk126 : tyOk Tryd.prog 126 = true := by kernel_rfl
theorem ag126 : isAg Tryd.prog 126 = false := by kernel_rfl
theorem by126 : Tryd.prog.bytesOf 126 = 8 := by kernel_rfl
theorem se126 : slEl Tryd.prog 126 = none := by kernel_rfl
theorem ae126 : arEl Tryd.prog 126 = none := by kernel_rfl
theorem if126 : isFn Tryd.prog 126 = true := by kernel_rfl
theorem zz126 : zc Tryd.prog 126 = [V.nilf] := by kernel_rfl
theorem cz127 : Tryd.prog.cellsOf 127 = 1 := by kernel_rfl
theorem tk127 : tyOk Tryd.prog 127 = true := by kernel_rfl
theorem ag127 : isAg Tryd.prog 127 = false := by kernel_rfl
theorem by127 : Tryd.prog.bytesOf 127 = 8 := by kernel_rfl
theorem se127 : slEl Tryd.prog 127 = none := by kernel_rfl
theorem ae127 : arEl Tryd.prog 127 = none := by kernel_rfl
theorem if127 : isFn Tryd.prog 127 = true := by kernel_rfl
theorem zz127 : zc Tryd.prog 127 = [V.nilf] := by kernel_rfl
theorem cz128 : Tryd.prog.cellsOf 128 = 1 := by kernel_rfl
theorem tk128 : tyOk Tryd.prog 128 = true := by kernel_rfl
theorem ag128 : isAg Tryd.prog 128 = false := by kernel_rfl
theorem by128 : Tryd.prog.bytesOf 128 = 8 := by kernel_rfl
theorem se128 : slEl Tryd.prog 128 = none := by kernel_rfl
theorem ae128 : arEl Tryd.prog 128 = none := by kernel_rfl
theorem if128 : isFn Tryd.prog 128 = true := by kernel_rfl
theorem zz128 : zc Tryd.prog 128 = [V.nilf] := by kernel_rfl
theorem cz129 : Tryd.prog.cellsOf 129 = 1 := by kernel_rfl
theorem tk129 : tyOk Tryd.prog 129 = true := by kernel_rfl
theorem ag129 : isAg Tryd.prog 129 = false := by kernel_rfl
theorem by129 : Tryd.prog.bytesOf 129 = 8 := by kernel_rfl
theorem se129 : slEl Tryd.prog 129 = none := by kernel_rfl
theorem ae129 : arEl Tryd.prog 129 = none := by kernel_rfl
theorem if129 : isFn Tryd.prog 129 = true := by kernel_rfl
theorem zz129 : zc Tryd.prog 129 = [V.nilf] := by kernel_rfl
theorem cz130 : Tryd.prog.cellsOf 130 = 1 := by kernel_rfl
theorem tk130 : tyOk Tryd.prog 130 = true := by kernel_rfl
theorem ag130 : isAg Tryd.prog 130 = false := by kernel_rfl
theorem by130 : Tryd.prog.bytesOf 130 = 8 := by kernel_rfl
theorem se130 : slEl Tryd.prog 130 = none := by kernel_rfl
theorem ae130 : arEl Tryd.prog 130 = none := by kernel_rfl
theorem if130 : isFn Tryd.prog 130 = true := by kernel_rfl
theorem zz130 : zc Tryd.prog 130 = [V.nilf] := by kernel_rfl
theorem cz131 : Tryd.prog.cellsOf 131 = 1 := by kernel_rfl
theorem tk131 : tyOk Tryd.prog 131 = true := by kernel_rfl
theorem ag131 : isAg Tryd.prog 131 = false := by kernel_rfl
theorem by131 : Tryd.prog.bytesOf 131 = 8 := by kernel_rfl
theorem se131 : slEl Tryd.prog 131 = none := by kernel_rfl
theorem ae131 : arEl Tryd.prog 131 = none := by kernel_rfl
theorem if131 : isFn Tryd.prog 131 = true := by kernel_rfl
theorem zz131 : zc Tryd.prog 131 = [V.nilf] := by kernel_rfl
theorem cz132 : Tryd.prog.cellsOf 132 = 1 := by kernel_rfl
theorem tk132 : tyOk Tryd.prog 132 = true := by kernel_rfl
theorem ag132 : isAg Tryd.prog 132 = false := by kernel_rfl
theorem by132 : Tryd.prog.bytesOf 132 = 8 := by kernel_rfl
theorem se132 : slEl Tryd.prog 132 = none := by kernel_rfl
theorem ae132 : arEl Tryd.prog 132 = none := by kernel_rfl
theorem if132 : isFn Tryd.prog 132 = true := by kernel_rfl
theorem zz132 : zc Tryd.prog 132 = [V.nilf] := by kernel_rfl
theorem cz133 : Tryd.prog.cellsOf 133 = 1 := by kernel_rfl
theorem tk133 : tyOk Tryd.prog 133 = true := by kernel_rfl
theorem ag133 : isAg Tryd.prog 133 = false := by kernel_rfl
theorem by133 : Tryd.prog.bytesOf 133 = 8 := by kernel_rfl
theorem se133 : slEl Tryd.prog 133 = none := by kernel_rfl
theorem ae133 : arEl Tryd.prog 133 = none := by kernel_rfl
theorem ik133 : intK Tryd.prog 133 = some .u64 := by kernel_rfl
theorem zz133 : zc Tryd.prog 133 = [V.int .u64 0] := by kernel_rfl
theorem cz134 : Tryd.prog.cellsOf 134 = 4 := by kernel_rfl
theorem tk134 : tyOk Tryd.prog 134 = true := by kernel_rfl
theorem ag134 : isAg Tryd.prog 134 = true := by kernel_rfl
theorem by134 : Tryd.prog.bytesOf 134 = 64 := by kernel_rfl
theorem se134 : slEl Tryd.prog 134 = none := by kernel_rfl
theorem ae134 : arEl Tryd.prog 134 = none := by kernel_rfl
theorem st134 : isSt Tryd.prog 134 = true := by kernel_rfl
theorem fo134 : fldsOk Tryd.prog 134 = true := by kernel_rfl
theorem fd134_0 : fld Tryd.prog 134 0 = some (0, 3) := by kernel_rfl
theorem fd134_1 : fld Tryd.prog 134 1 = some (1, 3) := by kernel_rfl
theorem fd134_2 : fld Tryd.prog 134 2 = some (2, 45) := by kernel_rfl
theorem fd134_3 : fld Tryd.prog 134 3 = some (3, 36) := by kernel_rfl
theorem zz134 : zc Tryd.prog 134 = [V.int .i64 0, V.int .i64 0, V.nil, V.nil] := by kernel_rfl
theorem cz135 : Tryd.prog.cellsOf 135 = 4 := by kernel_rfl
theorem tk135 : tyOk Tryd.prog 135 = true := by kernel_rfl
theorem ag135 : isAg Tryd.prog 135 = true := by kernel_rfl
theorem by135 : Tryd.prog.bytesOf 135 = 64 := by kernel_rfl
theorem se135 : slEl Tryd.prog 135 = none := by kernel_rfl
theorem ae135 : arEl Tryd.prog 135 = none := by kernel_rfl
theorem st135 : isSt Tryd.prog 135 = true := by kernel_rfl
theorem fo135 : fldsOk Tryd.prog 135 = true := by kernel_rfl
theorem fd135_0 : fld Tryd.prog 135 0 = some (0, 3) := by kernel_rfl
theorem fd135_1 : fld Tryd.prog 135 1 = some (1, 3) := by kernel_rfl
theorem fd135_2 : fld Tryd.prog 135 2 = some (2, 45) := by kernel_rfl
theorem fd135_3 : fld Tryd.prog 135 3 = some (3, 36) := by kernel_rfl
theorem zz135 : zc Tryd.prog 135 = [V.int .i64 0, V.int .i64 0, V.nil, V.nil] := by kernel_rfl
theorem cz136 : Tryd.prog.cellsOf 136 = 1 := by kernel_rfl
theorem tk136 : tyOk Tryd.prog 136 = true := by kernel_rfl
theorem ag136 : isAg Tryd.prog 136 = false := by kernel_rfl
theorem by136 : Tryd.prog.bytesOf 136 = 8 := by kernel_rfl
theorem se136 : slEl Tryd.prog 136 = none := by kernel_rfl
theorem ae136 : arEl Tryd.prog 136 = none := by kernel_rfl
theorem if136 : isFn Tryd.prog 136 = true := by kernel_rfl
theorem zz136 : zc Tryd.prog 136 = [V.nilf] := by kernel_rfl
theorem cz137 : Tryd.prog.cellsOf 137 = 1 := by kernel_rfl
theorem tk137 : tyOk Tryd.prog 137 = true := by kernel_rfl
theorem ag137 : isAg Tryd.prog 137 = false := by kernel_rfl
theorem by137 : Tryd.prog.bytesOf 137 = 8 := by kernel_rfl
theorem se137 : slEl Tryd.prog 137 = none := by kernel_rfl
theorem ae137 : arEl Tryd.prog 137 = none := by kernel_rfl
theorem if137 : isFn Tryd.prog 137 = true := by kernel_rfl
theorem zz137 : zc Tryd.prog 137 = [V.nilf] := by kernel_rfl
theorem cz138 : Tryd.prog.cellsOf 138 = 1 := by kernel_rfl
theorem tk138 : tyOk Tryd.prog 138 = true := by kernel_rfl
theorem ag138 : isAg Tryd.prog 138 = false := by kernel_rfl
theorem by138 : Tryd.prog.bytesOf 138 = 8 := by kernel_rfl
theorem se138 : slEl Tryd.prog 138 = none := by kernel_rfl
theorem ae138 : arEl Tryd.prog 138 = none := by kernel_rfl
theorem if138 : isFn Tryd.prog 138 = true := by kernel_rfl
theorem zz138 : zc Tryd.prog 138 = [V.nilf] := by kernel_rfl
theorem cz139 : Tryd.prog.cellsOf 139 = 1 := by kernel_rfl
theorem tk139 : tyOk Tryd.prog 139 = true := by kernel_rfl
theorem ag139 : isAg Tryd.prog 139 = false := by kernel_rfl
theorem by139 : Tryd.prog.bytesOf 139 = 8 := by kernel_rfl
theorem se139 : slEl Tryd.prog 139 = none := by kernel_rfl
theorem ae139 : arEl Tryd.prog 139 = none := by kernel_rfl
theorem if139 : isFn Tryd.prog 139 = true := by kernel_rfl
theorem zz139 : zc Tryd.prog 139 = [V.nilf] := by kernel_rfl
theorem cz141 : Tryd.prog.cellsOf 141 = 1 := by kernel_rfl
theorem tk141 : tyOk Tryd.prog 141 = true := by kernel_rfl
theorem ag141 : isAg Tryd.prog 141 = false := by kernel_rfl
theorem by141 : Tryd.prog.bytesOf 141 = 8 := by kernel_rfl
theorem se141 : slEl Tryd.prog 141 = none := by kernel_rfl
theorem ae141 : arEl Tryd.prog 141 = none := by kernel_rfl
theorem if141 : isFn Tryd.prog 141 = true := by kernel_rfl
theorem zz141 : zc Tryd.prog 141 = [V.nilf] := by kernel_rfl
theorem cz142 : Tryd.prog.cellsOf 142 = 1 := by kernel_rfl
theorem tk142 : tyOk Tryd.prog 142 = true := by kernel_rfl
theorem ag142 : isAg Tryd.prog 142 = false := by kernel_rfl
theorem by142 : Tryd.prog.bytesOf 142 = 8 := by kernel_rfl
theorem se142 : slEl Tryd.prog 142 = none := by kernel_rfl
theorem ae142 : arEl Tryd.prog 142 = none := by kernel_rfl
theorem if142 : isFn Tryd.prog 142 = true := by kernel_rfl
theorem zz142 : zc Tryd.prog 142 = [V.nilf] := by kernel_rfl
theorem cz143 : Tryd.prog.cellsOf 143 = 1 := by kernel_rfl
theorem tk143 : tyOk Tryd.prog 143 = true := by kernel_rfl
theorem ag143 : isAg Tryd.prog 143 = false := by kernel_rfl
theorem by143 : Tryd.prog.bytesOf 143 = 8 := by kernel_rfl
theorem se143 : slEl Tryd.prog 143 = none := by kernel_rfl
theorem ae143 : arEl Tryd.prog 143 = none := by kernel_rfl
theorem if143 : isFn Tryd.prog 143 = true := by kernel_rfl
theorem zz143 : zc Tryd.prog 143 = [V.nilf] := by kernel_rfl
theorem cz144 : Tryd.prog.cellsOf 144 = 1 := by kernel_rfl
theorem tk144 : tyOk Tryd.prog 144 = true := by kernel_rfl
theorem ag144 : isAg Tryd.prog 144 = false := by kernel_rfl
theorem by144 : Tryd.prog.bytesOf 144 = 8 := by kernel_rfl
theorem se144 : slEl Tryd.prog 144 = none := by kernel_rfl
theorem ae144 : arEl Tryd.prog 144 = none := by kernel_rfl
theorem if144 : isFn Tryd.prog 144 = true := by kernel_rfl
theorem zz144 : zc Tryd.prog 144 = [V.nilf] := by kernel_rfl
theorem cz145 : Tryd.prog.cellsOf 145 = 1 := by kernel_rfl
theorem tk145 : tyOk Tryd.prog 145 = true := by kernel_rfl
theorem ag145 : isAg Tryd.prog 145 = false := by kernel_rfl
theorem by145 : Tryd.prog.bytesOf 145 = 8 := by kernel_rfl
theorem se145 : slEl Tryd.prog 145 = none := by kernel_rfl
theorem ae145 : arEl Tryd.prog 145 = none := by kernel_rfl
theorem if145 : isFn Tryd.prog 145 = true := by kernel_rfl
theorem zz145 : zc Tryd.prog 145 = [V.nilf] := by kernel_rfl
theorem cz146 : Tryd.prog.cellsOf 146 = 1 := by kernel_rfl
theorem tk146 : tyOk Tryd.prog 146 = true := by kernel_rfl
theorem ag146 : isAg Tryd.prog 146 = false := by kernel_rfl
theorem by146 : Tryd.prog.bytesOf 146 = 8 := by kernel_rfl
theorem se146 : slEl Tryd.prog 146 = none := by kernel_rfl
theorem ae146 : arEl Tryd.prog 146 = none := by kernel_rfl
theorem if146 : isFn Tryd.prog 146 = true := by kernel_rfl
theorem zz146 : zc Tryd.prog 146 = [V.nilf] := by kernel_rfl
theorem cz147 : Tryd.prog.cellsOf 147 = 1 := by kernel_rfl
theorem tk147 : tyOk Tryd.prog 147 = true := by kernel_rfl
theorem ag147 : isAg Tryd.prog 147 = false := by kernel_rfl
theorem by147 : Tryd.prog.bytesOf 147 = 8 := by kernel_rfl
theorem se147 : slEl Tryd.prog 147 = none := by kernel_rfl
theorem ae147 : arEl Tryd.prog 147 = none := by kernel_rfl
theorem if147 : isFn Tryd.prog 147 = true := by kernel_rfl
theorem zz147 : zc Tryd.prog 147 = [V.nilf] := by kernel_rfl
theorem cz148 : Tryd.prog.cellsOf 148 = 4 := by kernel_rfl
theorem tk148 : tyOk Tryd.prog 148 = true := by kernel_rfl
theorem ag148 : isAg Tryd.prog 148 = true := by kernel_rfl
theorem by148 : Tryd.prog.bytesOf 148 = 32 := by kernel_rfl
theorem se148 : slEl Tryd.prog 148 = none := by kernel_rfl
theorem ae148 : arEl Tryd.prog 148 = some (2, 34) := by kernel_rfl
theorem st148 : isSt Tryd.prog 148 = false := by kernel_rfl
theorem zz148 : zc Tryd.prog 148 = [V.int .i64 0, V.int .i64 0, V.int .i64 0, V.int .i64 0] := by kernel_rfl
theorem cz149 : Tryd.prog.cellsOf 149 = 1 := by kernel_rfl
theorem tk149 : tyOk Tryd.prog 149 = true := by kernel_rfl
theorem ag149 : isAg Tryd.prog 149 = false := by kernel_rfl
theorem by149 : Tryd.prog.bytesOf 149 = 8 := by kernel_rfl
theorem se149 : slEl Tryd.prog 149 = none := by kernel_rfl
theorem ae149 : arEl Tryd.prog 149 = none := by kernel_rfl
theorem if149 : isFn Tryd.prog 149 = true := by kernel_rfl
theorem zz149 : zc Tryd.prog 149 = [V.nilf] := by kernel_rfl
theorem cz150 : Tryd.prog.cellsOf 150 = 1 := by kernel_rfl
theorem tk150 : tyOk Tryd.prog 150 = true := by kernel_rfl
theorem ag150 : isAg Tryd.prog 150 = false := by kernel_rfl
theorem by150 : Tryd.prog.bytesOf 150 = 8 := by kernel_rfl
theorem se150 : slEl Tryd.prog 150 = none := by kernel_rfl
theorem ae150 : arEl Tryd.prog 150 = none := by kernel_rfl
theorem if150 : isFn Tryd.prog 150 = true := by kernel_rfl
theorem zz150 : zc Tryd.prog 150 = [V.nilf] := by kernel_rfl
theorem cz151 : Tryd.prog.cellsOf 151 = 1 := by kernel_rfl
theorem tk151 : tyOk Tryd.prog 151 = true := by kernel_rfl
theorem ag151 : isAg Tryd.prog 151 = false := by kernel_rfl
theorem by151 : Tryd.prog.bytesOf 151 = 8 := by kernel_rfl
theorem se151 : slEl Tryd.prog 151 = none := by kernel_rfl
theorem ae151 : arEl Tryd.prog 151 = none := by kernel_rfl
theorem if151 : isFn Tryd.prog 151 = true := by kernel_rfl
theorem zz151 : zc Tryd.prog 151 = [V.nilf] := by kernel_rfl
theorem cz152 : Tryd.prog.cellsOf 152 = 1 := by kernel_rfl
theorem tk152 : tyOk Tryd.prog 152 = true := by kernel_rfl
theorem ag152 : isAg Tryd.prog 152 = false := by kernel_rfl
theorem by152 : Tryd.prog.bytesOf 152 = 8 := by kernel_rfl
theorem se152 : slEl Tryd.prog 152 = none := by kernel_rfl
theorem ae152 : arEl Tryd.prog 152 = none := by kernel_rfl
theorem if152 : isFn Tryd.prog 152 = true := by kernel_rfl
theorem zz152 : zc Tryd.prog 152 = [V.nilf] := by kernel_rfl
theorem cz153 : Tryd.prog.cellsOf 153 = 1 := by kernel_rfl
theorem tk153 : tyOk Tryd.prog 153 = true := by kernel_rfl
theorem ag153 : isAg Tryd.prog 153 = false := by kernel_rfl
theorem by153 : Tryd.prog.bytesOf 153 = 8 := by kernel_rfl
theorem se153 : slEl Tryd.prog 153 = none := by kernel_rfl
theorem ae153 : arEl Tryd.prog 153 = none := by kernel_rfl
theorem if153 : isFn Tryd.prog 153 = true := by kernel_rfl
theorem zz153 : zc Tryd.prog 153 = [V.nilf] := by kernel_rfl
theorem cz154 : Tryd.prog.cellsOf 154 = 1 := by kernel_rfl
theorem tk154 : tyOk Tryd.prog 154 = true := by kernel_rfl
theorem ag154 : isAg Tryd.prog 154 = false := by kernel_rfl
theorem by154 : Tryd.prog.bytesOf 154 = 8 := by kernel_rfl
theorem se154 : slEl Tryd.prog 154 = none := by kernel_rfl
theorem ae154 : arEl Tryd.prog 154 = none := by kernel_rfl
theorem if154 : isFn Tryd.prog 154 = true := by kernel_rfl
theorem zz154 : zc Tryd.prog 154 = [V.nilf] := by kernel_rfl
theorem cz155 : Tryd.prog.cellsOf 155 = 1 := by kernel_rfl
theorem tk155 : tyOk Tryd.prog 155 = true := by kernel_rfl
theorem ag155 : isAg Tryd.prog 155 = false := by kernel_rfl
theorem by155 : Tryd.prog.bytesOf 155 = 8 := by kernel_rfl
theorem se155 : slEl Tryd.prog 155 = none := by kernel_rfl
theorem ae155 : arEl Tryd.prog 155 = none := by kernel_rfl
theorem if155 : isFn Tryd.prog 155 = true := by kernel_rfl
theorem zz155 : zc Tryd.prog 155 = [V.nilf] := by kernel_rfl
theorem cz156 : Tryd.prog.cellsOf 156 = 1 := by kernel_rfl
theorem tk156 : tyOk Tryd.prog 156 = true := by kernel_rfl
theorem ag156 : isAg Tryd.prog 156 = false := by kernel_rfl
theorem by156 : Tryd.prog.bytesOf 156 = 8 := by kernel_rfl
theorem se156 : slEl Tryd.prog 156 = none := by kernel_rfl
theorem ae156 : arEl Tryd.prog 156 = none := by kernel_rfl
theorem if156 : isFn Tryd.prog 156 = true := by kernel_rfl
theorem zz156 : zc Tryd.prog 156 = [V.nilf] := by kernel_rfl
theorem cz157 : Tryd.prog.cellsOf 157 = 1 := by kernel_rfl
theorem tk157 : tyOk Tryd.prog 157 = true := by kernel_rfl
theorem ag157 : isAg Tryd.prog 157 = false := by kernel_rfl
theorem by157 : Tryd.prog.bytesOf 157 = 8 := by kernel_rfl
theorem se157 : slEl Tryd.prog 157 = none := by kernel_rfl
theorem ae157 : arEl Tryd.prog 157 = none := by kernel_rfl
theorem if157 : isFn Tryd.prog 157 = true := by kernel_rfl
theorem zz157 : zc Tryd.prog 157 = [V.nilf] := by kernel_rfl
theorem cz158 : Tryd.prog.cellsOf 158 = 1 := by kernel_rfl
theorem tk158 : tyOk Tryd.prog 158 = true := by kernel_rfl
theorem ag158 : isAg Tryd.prog 158 = false := by kernel_rfl
theorem by158 : Tryd.prog.bytesOf 158 = 8 := by kernel_rfl
theorem se158 : slEl Tryd.prog 158 = none := by kernel_rfl
theorem ae158 : arEl Tryd.prog 158 = none := by kernel_rfl
theorem if158 : isFn Tryd.prog 158 = true := by kernel_rfl
theorem zz158 : zc Tryd.prog 158 = [V.nilf] := by kernel_rfl
theorem cz159 : Tryd.prog.cellsOf 159 = 1 := by kernel_rfl
theorem tk159 : tyOk Tryd.prog 159 = true := by kernel_rfl
theorem ag159 : isAg Tryd.prog 159 = false := by kernel_rfl
theorem by159 : Tryd.prog.bytesOf 159 = 24 := by kernel_rfl
theorem se159 : slEl Tryd.prog 159 = some 181 := by kernel_rfl
theorem ae159 : arEl Tryd.prog 159 = none := by kernel_rfl
theorem zz159 : zc Tryd.prog 159 = [V.nil] := by kernel_rfl
theorem cz160 : Tryd.prog.cellsOf 160 = 1 := by kernel_rfl
theorem tk160 : tyOk Tryd.prog 160 = true := by kernel_rfl
theorem ag160 : isAg Tryd.prog 160 = false := by kernel_rfl
theorem by160 : Tryd.prog.bytesOf 160 = 8 := by kernel_rfl
theorem se160 : slEl Tryd.prog 160 = none := by kernel_rfl
theorem ae160 : arEl Tryd.prog 160 = none := by kernel_rfl
theorem if160 : isFn Tryd.prog 160 = true := by kernel_rfl
theorem zz160 : zc Tryd.prog 160 = [V.nilf] := by kernel_rfl
theorem cz161 : Tryd.prog.cellsOf 161 = 1 := by kernel_rfl
theorem tk161 : tyOk Tryd.prog 161 = true := by kernel_rfl
theorem ag161 : isAg Tryd.prog 161 = false := by kernel_rfl
theorem by161 : Tryd.prog.bytesOf 161 = 8 := by kernel_rfl
theorem se161 : slEl Tryd.prog 161 = none := by kernel_rfl
theorem ae161 : arEl Tryd.prog 161 = none := by kernel_rfl
theorem ik161 : intK Tryd.prog 161 = some .i64 := by kernel_rfl
theorem zz161 : zc Tryd.prog 161 = [V.int .i64 0] := by kernel_rfl
theorem cz163 : Tryd.prog.cellsOf 163 = 1 := by kernel_rfl
theorem tk163 : tyOk Tryd.prog 163 = true := by kernel_rfl
theorem ag163 : isAg Tryd.prog 163 = false := by kernel_rfl
theorem by163 : Tryd.prog.bytesOf 163 = 8 := by kernel_rfl
theorem se163 : slEl Tryd.prog 163 = none := by kernel_rfl
theorem ae163 : arEl Tryd.prog 163 = none := by kernel_rfl
theorem if163 : isFn Tryd.prog 163 = true := by kernel_rfl
theorem zz163 : zc Tryd.prog 163 = [V.nilf] := by kernel_rfl
theorem cz164 : Tryd.prog.cellsOf 164 = 1 := by kernel_rfl
theorem tk164 : tyOk Tryd.prog 164 = true := by kernel_rfl
theorem ag164 : isAg Tryd.prog 164 = false := by kernel_rfl
theorem by164 : Tryd.prog.bytesOf 164 = 8 := by kernel_rfl
theorem se164 : slEl Tryd.prog 164 = none := by kernel_rfl
theorem ae164 : arEl Tryd.prog 164 = none := by kernel_rfl
theorem if164 : isFn Tryd.prog 164 = true := by kernel_rfl
theorem zz164 : zc Tryd.prog 164 = [V.nilf] := by kernel_rfl
theorem cz165 : Tryd.prog.cellsOf 165 = 1 := by kernel_rfl
theorem tk165 : tyOk Tryd.prog 165 = true := by kernel_rfl
theorem ag165 : isAg Tryd.prog 165 = false := by kernel_rfl
theorem by165 : Tryd.prog.bytesOf 165 = 8 := by kernel_rfl
theorem se165 : slEl Tryd.prog 165 = none := by kernel_rfl
theorem ae165 : arEl Tryd.prog 165 = none := by kernel_rfl
theorem if165 : isFn Tryd.prog 165 = true := by kernel_rfl
theorem zz165 : zc Tryd.prog 165 = [V.nilf] := by kernel_rfl
theorem cz167 : Tryd.prog.cellsOf 167 = 1 := by kernel_rfl
theorem tk167 : tyOk Tryd.prog 167 = true := by kernel_rfl
theorem ag167 : isAg Tryd.prog 167 = false := by kernel_rfl
theorem by167 : Tryd.prog.bytesOf 167 = 8 := by kernel_rfl
theorem se167 : slEl Tryd.prog 167 = none := by kernel_rfl
theorem ae167 : arEl Tryd.prog 167 = none := by kernel_rfl
theorem if167 : isFn Tryd.prog 167 = true := by kernel_rfl
theorem zz167 : zc Tryd.prog 167 = [V.nilf] := by kernel_rfl
theorem cz168 : Tryd.prog.cellsOf 168 = 1 := by kernel_rfl
theorem tk168 : tyOk Tryd.prog 168 = true := by kernel_rfl
theorem ag168 : isAg Tryd.prog 168 = false := by kernel_rfl
theorem by168 : Tryd.prog.bytesOf 168 = 8 := by kernel_rfl
theorem se168 : slEl Tryd.prog 168 = none := by kernel_rfl
theorem ae168 : arEl Tryd.prog 168 = none := by kernel_rfl
theorem if168 : isFn Tryd.prog 168 = true := by kernel_rfl
theorem zz168 : zc Tryd.prog 168 = [V.nilf] := by kernel_rfl
theorem cz169 : Tryd.prog.cellsOf 169 = 1 := by kernel_rfl
theorem tk169 : tyOk Tryd.prog 169 = true := by kernel_rfl
theorem ag169 : isAg Tryd.prog 169 = false := by kernel_rfl
theorem by169 : Tryd.prog.bytesOf 169 = 4 := by kernel_rfl
theorem se169 : slEl Tryd.prog 169 = none := by kernel_rfl
theorem ae169 : arEl Tryd.prog 169 = none := by kernel_rfl
theorem ik169 : intK Tryd.prog 169 = some .u32 := by kernel_rfl
theorem zz169 : zc Tryd.prog 169 = [V.int .u32 0] := by kernel_rfl
theorem cz170 : Tryd.prog.cellsOf 170 = 1 := by kernel_rfl
theorem tk170 : tyOk Tryd.prog 170 = true := by kernel_rfl
theorem ag170 : isAg Tryd.prog 170 = false := by kernel_rfl
theorem by170 : Tryd.prog.bytesOf 170 = 8 := by kernel_rfl
theorem se170 : slEl Tryd.prog 170 = none := by kernel_rfl
theorem ae170 : arEl Tryd.prog 170 = none := by kernel_rfl
theorem if170 : isFn Tryd.prog 170 = true := by kernel_rfl
theorem zz170 : zc Tryd.prog 170 = [V.nilf] := by kernel_rfl
theorem cz171 : Tryd.prog.cellsOf 171 = 1 := by kernel_rfl
theorem tk171 : tyOk Tryd.prog 171 = true := by kernel_rfl
theorem ag171 : isAg Tryd.prog 171 = false := by kernel_rfl
theorem by171 : Tryd.prog.bytesOf 171 = 8 := by kernel_rfl
theorem se171 : slEl Tryd.prog 171 = none := by kernel_rfl
theorem ae171 : arEl Tryd.prog 171 = none := by kernel_rfl
theorem ik171 : intK Tryd.prog 171 = some .u64 := by kernel_rfl
theorem zz171 : zc Tryd.prog 171 = [V.int .u64 0] := by kernel_rfl
theorem cz172 : Tryd.prog.cellsOf 172 = 1 := by kernel_rfl
theorem tk172 : tyOk Tryd.prog 172 = true := by kernel_rfl
theorem ag172 : isAg Tryd.prog 172 = false := by kernel_rfl
theorem by172 : Tryd.prog.bytesOf 172 = 8 := by kernel_rfl
theorem se172 : slEl Tryd.prog 172 = none := by kernel_rfl
theorem ae172 : arEl Tryd.prog 172 = none := by kernel_rfl
theorem if172 : isFn Tryd.prog 172 = true := by kernel_rfl
theorem zz172 : zc Tryd.prog 172 = [V.nilf] := by kernel_rfl
theorem cz173 : Tryd.prog.cellsOf 173 = 1 := by kernel_rfl
theorem tk173 : tyOk Tryd.prog 173 = true := by kernel_rfl
theorem ag173 : isAg Tryd.prog 173 = false := by kernel_rfl
theorem by173 : Tryd.prog.bytesOf 173 = 8 := by kernel_rfl
theorem se173 : slEl Tryd.prog 173 = none := by kernel_rfl
theorem ae173 : arEl Tryd.prog 173 = none := by kernel_rfl
theorem if173 : isFn Tryd.prog 173 = true := by kernel_rfl
theorem zz173 : zc Tryd.prog 173 = [V.nilf] := by kernel_rfl
theorem cz174 : Tryd.prog.cellsOf 174 = 1 := by kernel_rfl
theorem tk174 : tyOk Tryd.prog 174 = true := by kernel_rfl
theorem ag174 : isAg Tryd.prog 174 = false := by kernel_rfl
theorem by174 : Tryd.prog.bytesOf 174 = 8 := by kernel_rfl
theorem se174 : slEl Tryd.prog 174 = none := by kernel_rfl
theorem ae174 : arEl Tryd.prog 174 = none := by kernel_rfl
theorem if174 : isFn Tryd.prog 174 = true := by kernel_rfl
theorem zz174 : zc Tryd.prog 174 = [V.nilf] := by kernel_rfl
theorem cz175 : Tryd.prog.cellsOf 175 = 1 := by kernel_rfl
theorem tk175 : tyOk Tryd.prog 175 = true := by kernel_rfl
theorem ag175 : isAg Tryd.prog 175 = false := by kernel_rfl
theorem by175 : Tryd.prog.bytesOf 175 = 8 := by kernel_rfl
theorem se175 : slEl Tryd.prog 175 = none := by kernel_rfl
theorem ae175 : arEl Tryd.prog 175 = none := by kernel_rfl
theorem if175 : isFn Tryd.prog 175 = true := by kernel_rfl
theorem zz175 : zc Tryd.prog 175 = [V.nilf] := by kernel_rfl
theorem cz176 : Tryd.prog.cellsOf 176 = 1 := by kernel_rfl
theorem tk176 : tyOk Tryd.prog 176 = true := by kernel_rfl
theorem ag176 : isAg Tryd.prog 176 = false := by kernel_rfl
theorem by176 : Tryd.prog.bytesOf 176 = 8 := by kernel_rfl
theorem se176 : slEl Tryd.prog 176 = none := by kernel_rfl
theorem ae176 : arEl Tryd.prog 176 = none := by kernel_rfl
theorem if176 : isFn Tryd.prog 176 = true := by kernel_rfl
theorem zz176 : zc Tryd.prog 176 = [V.nilf] := by kernel_rfl
theorem cz177 : Tryd.prog.cellsOf 177 = 1 := by kernel_rfl
theorem tk177 : tyOk Tryd.prog 177 = true := by kernel_rfl
theorem ag177 : isAg Tryd.prog 177 = false := by kernel_rfl
theorem by177 : Tryd.prog.bytesOf 177 = 8 := by kernel_rfl
theorem se177 : slEl Tryd.prog 177 = none := by kernel_rfl
theorem ae177 : arEl Tryd.prog 177 = none := by kernel_rfl
theorem if177 : isFn Tryd.prog 177 = true := by kernel_rfl
theorem zz177 : zc Tryd.prog 177 = [V.nilf] := by kernel_rfl
theorem cz178 : Tryd.prog.cellsOf 178 = 1 := by kernel_rfl
theorem tk178 : tyOk Tryd.prog 178 = true := by kernel_rfl
theorem ag178 : isAg Tryd.prog 178 = false := by kernel_rfl
theorem by178 : Tryd.prog.bytesOf 178 = 8 := by kernel_rfl
theorem se178 : slEl Tryd.prog 178 = none := by kernel_rfl
theorem ae178 : arEl Tryd.prog 178 = none := by kernel_rfl
theorem if178 : isFn Tryd.prog 178 = true := by kernel_rfl
theorem zz178 : zc Tryd.prog 178 = [V.nilf] := by kernel_rfl
theorem cz179 : Tryd.prog.cellsOf 179 = 1 := by kernel_rfl
theorem tk179 : tyOk Tryd.prog 179 = true := by kernel_rfl
theorem ag179 : isAg Tryd.prog 179 = false := by kernel_rfl
theorem by179 : Tryd.prog.bytesOf 179 = 8 := by kernel_rfl
theorem se179 : slEl Tryd.prog 179 = none := by kernel_rfl
theorem ae179 : arEl Tryd.prog 179 = none := by kernel_rfl
theorem if179 : isFn Tryd.prog 179 = true := by kernel_rfl
theorem zz179 : zc Tryd.prog 179 = [V.nilf] := by kernel_rfl
theorem cz180 : Tryd.prog.cellsOf 180 = 6 := by kernel_rfl
theorem tk180 : tyOk Tryd.prog 180 = true := by kernel_rfl
theorem ag180 : isAg Tryd.prog 180 = true := by kernel_rfl
theorem by180 : Tryd.prog.bytesOf 180 = 48 := by kernel_rfl
theorem se180 : slEl Tryd.prog 180 = none := by kernel_rfl
theorem ae180 : arEl Tryd.prog 180 = none := by kernel_rfl
theorem st180 : isSt Tryd.prog 180 = true := by kernel_rfl
theorem fo180 : fldsOk Tryd.prog 180 = true := by kernel_rfl
theorem fd180_0 : fld Tryd.prog 180 0 = some (0, 3) := by kernel_rfl
theorem fd180_1 : fld Tryd.prog 180 1 = some (1, 3) := by kernel_rfl
theorem fd180_2 : fld Tryd.prog 180 2 = some (2, 3) := by kernel_rfl
theorem fd180_3 : fld Tryd.prog 180 3 = some (3, 3) := by kernel_rfl
theorem fd180_4 : fld Tryd.prog 180 4 = some (4, 3) := by kernel_rfl
theorem fd180_5 : fld Tryd.prog 180 5 = some (5, 3) := by kernel_rfl
theorem lt180 : leafTs Tryd.prog 180 = [3, 3, 3, 3, 3, 3] := by kernel_rfl
theorem fe180 : flatEq Tryd.prog 180 = true := by kernel_rfl
theorem zz180 : zc Tryd.prog 180 = [V.int .i64 0, V.int .i64 0, V.int .i64 0, V.int .i64 0, V.int .i64 0, V.int .i64 0] := by kernel_rfl
theorem cz181 : Tryd.prog.cellsOf 181 = 6 := by kernel_rfl
theorem tk181 : tyOk Tryd.prog 181 = true := by kernel_rfl
theorem ag181 : isAg Tryd.prog 181 = true := by kernel_rfl
theorem by181 : Tryd.prog.bytesOf 181 = 48 := by kernel_rfl
theorem se181 : slEl Tryd.prog 181 = none := by kernel_rfl
theorem ae181 : arEl Tryd.prog 181 = none := by kernel_rfl
theorem st181 : isSt Tryd.prog 181 = true := by kernel_rfl
theorem fo181 : fldsOk Tryd.prog 181 = true := by kernel_rfl
theorem fd181_0 : fld Tryd.prog 181 0 = some (0, 3) := by kernel_rfl
theorem fd181_1 : fld Tryd.prog 181 1 = some (1, 3) := by kernel_rfl
theorem fd181_2 : fld Tryd.prog 181 2 = some (2, 3) := by kernel_rfl
theorem fd181_3 : fld Tryd.prog 181 3 = some (3, 3) := by kernel_rfl
theorem fd181_4 : fld Tryd.prog 181 4 = some (4, 3) := by kernel_rfl
theorem fd181_5 : fld Tryd.prog 181 5 = some (5, 3) := by kernel_rfl
theorem lt181 : leafTs Tryd.prog 181 = [3, 3, 3, 3, 3, 3] := by kernel_rfl
theorem fe181 : flatEq Tryd.prog 181 = true := by kernel_rfl
theorem zz181 : zc Tryd.prog 181 = [V.int .i64 0, V.int .i64 0, V.int .i64 0, V.int .i64 0, V.int .i64 0, V.int .i64 0] := by kernel_rfl
theorem cz182 : Tryd.prog.cellsOf 182 = 1 := by kernel_rfl
theorem tk182 : tyOk Tryd.prog 182 = true := by kernel_rfl
theorem ag182 : isAg Tryd.prog 182 = false := by kernel_rfl
theorem by182 : Tryd.prog.bytesOf 182 = 8 := by kernel_rfl
theorem se182 : slEl Tryd.prog 182 = none := by kernel_rfl
theorem ae182 : arEl Tryd.prog 182 = none := by kernel_rfl
theorem ip182 : isPtr Tryd.prog 182 = true := by kernel_rfl
theorem zz182 : zc Tryd.prog 182 = [V.nilp] := by kernel_rfl
theorem cz183 : Tryd.prog.cellsOf 183 = 1 := by kernel_rfl
theorem tk183 : tyOk Tryd.prog 183 = true := by kernel_rfl
theorem ag183 : isAg Tryd.prog 183 = false := by kernel_rfl
theorem by183 : Tryd.prog.bytesOf 183 = 8 := by kernel_rfl
theorem se183 : slEl Tryd.prog 183 = none := by kernel_rfl
theorem ae183 : arEl Tryd.prog 183 = none := by kernel_rfl
theorem ik183 : intK Tryd.prog 183 = some .u64 := by kernel_rfl
theorem zz183 : zc Tryd.prog 183 = [V.int .u64 0] := by kernel_rfl
theorem cz184 : Tryd.prog.cellsOf 184 = 1 := by kernel_rfl
theorem tk184 : tyOk Tryd.prog 184 = true := by kernel_rfl
theorem ag184 : isAg Tryd.prog 184 = false := by kernel_rfl
theorem by184 : Tryd.prog.bytesOf 184 = 8 := by kernel_rfl
theorem se184 : slEl Tryd.prog 184 = none := by kernel_rfl
theorem ae184 : arEl Tryd.prog 184 = none := by kernel_rfl
theorem if184 : isFn Tryd.prog 184 = true := by kernel_rfl
theorem zz184 : zc Tryd.prog 184 = [V.nilf] := by kernel_rfl
theorem cz185 : Tryd.prog.cellsOf 185 = 1 := by kernel_rfl
theorem tk185 : tyOk Tryd.prog 185 = true := by kernel_rfl
theorem ag185 : isAg Tryd.prog 185 = false := by kernel_rfl
theorem by185 : Tryd.prog.bytesOf 185 = 8 := by kernel_rfl
theorem se185 : slEl Tryd.prog 185 = none := by kernel_rfl
theorem ae185 : arEl Tryd.prog 185 = none := by kernel_rfl
theorem if185 : isFn Tryd.prog 185 = true := by kernel_rfl
theorem zz185 : zc Tryd.prog 185 = [V.nilf] := by kernel_rfl
theorem cz186 : Tryd.prog.cellsOf 186 = 1 := by kernel_rfl
theorem tk186 : tyOk Tryd.prog 186 = true := by kernel_rfl
theorem ag186 : isAg Tryd.prog 186 = false := by kernel_rfl
theorem by186 : Tryd.prog.bytesOf 186 = 8 := by kernel_rfl
theorem se186 : slEl Tryd.prog 186 = none := by kernel_rfl
theorem ae186 : arEl Tryd.prog 186 = none := by kernel_rfl
theorem if186 : isFn Tryd.prog 186 = true := by kernel_rfl
theorem zz186 : zc Tryd.prog 186 = [V.nilf] := by kernel_rfl
theorem cz187 : Tryd.prog.cellsOf 187 = 1 := by kernel_rfl
theorem tk187 : tyOk Tryd.prog 187 = true := by kernel_rfl
theorem ag187 : isAg Tryd.prog 187 = false := by kernel_rfl
theorem by187 : Tryd.prog.bytesOf 187 = 8 := by kernel_rfl
theorem se187 : slEl Tryd.prog 187 = none := by kernel_rfl
theorem ae187 : arEl Tryd.prog 187 = none := by kernel_rfl
theorem ip187 : isPtr Tryd.prog 187 = true := by kernel_rfl
theorem zz187 : zc Tryd.prog 187 = [V.nilp] := by kernel_rfl
theorem cz188 : Tryd.prog.cellsOf 188 = 1 := by kernel_rfl
theorem tk188 : tyOk Tryd.prog 188 = true := by kernel_rfl
theorem ag188 : isAg Tryd.prog 188 = false := by kernel_rfl
theorem by188 : Tryd.prog.bytesOf 188 = 8 := by kernel_rfl
theorem se188 : slEl Tryd.prog 188 = none := by kernel_rfl
theorem ae188 : arEl Tryd.prog 188 = none := by kernel_rfl
theorem if188 : isFn Tryd.prog 188 = true := by kernel_rfl
theorem zz188 : zc Tryd.prog 188 = [V.nilf] := by kernel_rfl
theorem cz189 : Tryd.prog.cellsOf 189 = 1 := by kernel_rfl
theorem tk189 : tyOk Tryd.prog 189 = true := by kernel_rfl
theorem ag189 : isAg Tryd.prog 189 = false := by kernel_rfl
theorem by189 : Tryd.prog.bytesOf 189 = 8 := by kernel_rfl
theorem se189 : slEl Tryd.prog 189 = none := by kernel_rfl
theorem ae189 : arEl Tryd.prog 189 = none := by kernel_rfl
theorem if189 : isFn Tryd.prog 189 = true := by kernel_rfl
theorem zz189 : zc Tryd.prog 189 = [V.nilf] := by kernel_rfl
theorem cz190 : Tryd.prog.cellsOf 190 = 1 := by kernel_rfl
theorem tk190 : tyOk Tryd.prog 190 = true := by kernel_rfl
theorem ag190 : isAg Tryd.prog 190 = false := by kernel_rfl
theorem by190 : Tryd.prog.bytesOf 190 = 8 := by kernel_rfl
theorem se190 : slEl Tryd.prog 190 = none := by kernel_rfl
theorem ae190 : arEl Tryd.prog 190 = none := by kernel_rfl
theorem ip190 : isPtr Tryd.prog 190 = true := by kernel_rfl
theorem zz190 : zc Tryd.prog 190 = [V.nilp] := by kernel_rfl
theorem cz191 : Tryd.prog.cellsOf 191 = 1 := by kernel_rfl
theorem tk191 : tyOk Tryd.prog 191 = true := by kernel_rfl
theorem ag191 : isAg Tryd.prog 191 = false := by kernel_rfl
theorem by191 : Tryd.prog.bytesOf 191 = 8 := by kernel_rfl
theorem se191 : slEl Tryd.prog 191 = none := by kernel_rfl
theorem ae191 : arEl Tryd.prog 191 = none := by kernel_rfl
theorem if191 : isFn Tryd.prog 191 = true := by kernel_rfl
theorem zz191 : zc Tryd.prog 191 = [V.nilf] := by kernel_rfl
theorem cz192 : Tryd.prog.cellsOf 192 = 1 := by kernel_rfl
theorem tk192 : tyOk Tryd.prog 192 = true := by kernel_rfl
theorem ag192 : isAg Tryd.prog 192 = false := by kernel_rfl
theorem by192 : Tryd.prog.bytesOf 192 = 8 := by kernel_rfl
theorem se192 : slEl Tryd.prog 192 = none := by kernel_rfl
theorem ae192 : arEl Tryd.prog 192 = none := by kernel_rfl
theorem if192 : isFn Tryd.prog 192 = true := by kernel_rfl
theorem zz192 : zc Tryd.prog 192 = [V.nilf] := by kernel_rfl
theorem cz193 : Tryd.prog.cellsOf 193 = 4 := by kernel_rfl
theorem tk193 : tyOk Tryd.prog 193 = true := by kernel_rfl
theorem ag193 : isAg Tryd.prog 193 = true := by kernel_rfl
theorem by193 : Tryd.prog.bytesOf 193 = 40 := by kernel_rfl
theorem se193 : slEl Tryd.prog 193 = none := by kernel_rfl
theorem ae193 : arEl Tryd.prog 193 = none := by kernel_rfl
theorem st193 : isSt Tryd.prog 193 = true := by kernel_rfl
theorem fo193 : fldsOk Tryd.prog 193 = true := by kernel_rfl
theorem fd193_0 : fld Tryd.prog 193 0 = some (0, 17) := by kernel_rfl
theorem fd193_1 : fld Tryd.prog 193 1 = some (1, 17) := by kernel_rfl
theorem fd193_2 : fld Tryd.prog 193 2 = some (2, 17) := by kernel_rfl
theorem fd193_3 : fld Tryd.prog 193 3 = some (3, 9) := by kernel_rfl
theorem zz193 : zc Tryd.prog 193 = [V.nilp, V.nilp, V.nilp, V.top] := by kernel_rfl
theorem cz194 : Tryd.prog.cellsOf 194 = 4 := by kernel_rfl
theorem tk194 : tyOk Tryd.prog 194 = true := by kernel_rfl
theorem ag194 : isAg Tryd.prog 194 = true := by kernel_rfl
theorem by194 : Tryd.prog.bytesOf 194 = 40 := by kernel_rfl
theorem se194 : slEl Tryd.prog 194 = none := by kernel_rfl
theorem ae194 : arEl Tryd.prog 194 = none := by kernel_rfl
theorem st194 : isSt Tryd.prog 194 = true := by kernel_rfl
theorem fo194 : fldsOk Tryd.prog 194 = true := by kernel_rfl
theorem fd194_0 : fld Tryd.prog 194 0 = some (0, 17) := by kernel_rfl
theorem fd194_1 : fld Tryd.prog 194 1 = some (1, 17) := by kernel_rfl
theorem fd194_2 : fld Tryd.prog 194 2 = some (2, 17) := by kernel_rfl
theorem fd194_3 : fld Tryd.prog 194 3 = some (3, 9) := by kernel_rfl
theorem zz194 : zc Tryd.prog 194 = [V.nilp, V.nilp, V.nilp, V.top] := by kernel_rfl
theorem cz195 : Tryd.prog.cellsOf 195 = 0 := by kernel_rfl
theorem tk195 : tyOk Tryd.prog 195 = true := by kernel_rfl
theorem ag195 : isAg Tryd.prog 195 = true := by kernel_rfl
theorem by195 : Tryd.prog.bytesOf 195 = 0 := by kernel_rfl
theorem se195 : slEl Tryd.prog 195 = none := by kernel_rfl
theorem ae195 : arEl Tryd.prog 195 = some (0, 16) := by kernel_rfl
theorem st195 : isSt Tryd.prog 195 = false := by kernel_rfl
theorem zz195 : zc Tryd.prog 195 = [] := by kernel_rfl
theorem cz196 : Tryd.prog.cellsOf 196 = 0 := by kernel_rfl
theorem tk196 : tyOk Tryd.prog 196 = true := by kernel_rfl
theorem ag196 : isAg Tryd.prog 196 = true := by kernel_rfl
theorem by196 : Tryd.prog.bytesOf 196 = 0 := by kernel_rfl
theorem se196 : slEl Tryd.prog 196 = none := by kernel_rfl
theorem ae196 : arEl Tryd.prog 196 = none := by kernel_rfl
theorem st196 : isSt Tryd.prog 196 = true := by kernel_rfl
theorem fd196_0 : fld Tryd.prog 196 0 = some (0, 195) := by kernel_rfl
theorem zz196 : zc Tryd.prog 196 = [] := by kernel_rfl
theorem cz197 : Tryd.prog.cellsOf 197 = 0 := by kernel_rfl
theorem tk197 : tyOk Tryd.prog 197 = true := by kernel_rfl
theorem ag197 : isAg Tryd.prog 197 = true := by kernel_rfl
theorem by197 : Tryd.prog.bytesOf 197 = 0 := by kernel_rfl
theorem se197 : slEl Tryd.prog 197 = none := by kernel_rfl
theorem ae197 : arEl Tryd.prog 197 = none := by kernel_rfl
theorem st197 : isSt Tryd.prog 197 = true := by kernel_rfl
theorem fd197_0 : fld Tryd.prog 197 0 = some (0, 195) := by kernel_rfl
theorem zz197 : zc Tryd.prog 197 = [] := by kernel_rfl
theorem cz198 : Tryd.prog.cellsOf 198 = 1 := by kernel_rfl
theorem tk198 : tyOk Tryd.prog 198 = true := by kernel_rfl
theorem ag198 : isAg Tryd.prog 198 = false := by kernel_rfl
theorem by198 : Tryd.prog.bytesOf 198 = 1 := by kernel_rfl
theorem se198 : slEl Tryd.prog 198 = none := by kernel_rfl
theorem ae198 : arEl Tryd.prog 198 = none := by kernel_rfl
theorem ik198 : intK Tryd.prog 198 = some .u8 := by kernel_rfl
theorem zz198 : zc Tryd.prog 198 = [V.int .u8 0] := by kernel_rfl
theorem cz199 : Tryd.prog.cellsOf 199 = 1 := by kernel_rfl
theorem tk199 : tyOk Tryd.prog 199 = true := by kernel_rfl
theorem ag199 : isAg Tryd.prog 199 = false := by kernel_rfl
theorem by199 : Tryd.prog.bytesOf 199 = 1 := by kernel_rfl
theorem se199 : slEl Tryd.prog 199 = none := by kernel_rfl
theorem ae199 : arEl Tryd.prog 199 = none := by kernel_rfl
theorem ik199 : intK Tryd.prog 199 = some .u8 := by kernel_rfl
theorem zz199 : zc Tryd.prog 199 = [V.int .u8 0] := by kernel_rfl
theorem cz200 : Tryd.prog.cellsOf 200 = 1 := by kernel_rfl
theorem tk200 : tyOk Tryd.prog 200 = true := by kernel_rfl
theorem ag200 : isAg Tryd.prog 200 = false := by kernel_rfl
theorem by200 : Tryd.prog.bytesOf 200 = 8 := by kernel_rfl
theorem se200 : slEl Tryd.prog 200 = none := by kernel_rfl
theorem ae200 : arEl Tryd.prog 200 = none := by kernel_rfl
theorem if200 : isFn Tryd.prog 200 = true := by kernel_rfl
theorem zz200 : zc Tryd.prog 200 = [V.nilf] := by kernel_rfl
theorem cz201 : Tryd.prog.cellsOf 201 = 1 := by kernel_rfl
theorem tk201 : tyOk Tryd.prog 201 = true := by kernel_rfl
theorem ag201 : isAg Tryd.prog 201 = false := by kernel_rfl
theorem by201 : Tryd.prog.bytesOf 201 = 8 := by kernel_rfl
theorem se201 : slEl Tryd.prog 201 = none := by kernel_rfl
theorem ae201 : arEl Tryd.prog 201 = none := by kernel_rfl
theorem ip201 : isPtr Tryd.prog 201 = true := by kernel_rfl
theorem zz201 : zc Tryd.prog 201 = [V.nilp] := by kernel_rfl
theorem cz202 : Tryd.prog.cellsOf 202 = 1 := by kernel_rfl
theorem tk202 : tyOk Tryd.prog 202 = true := by kernel_rfl
theorem ag202 : isAg Tryd.prog 202 = false := by kernel_rfl
theorem by202 : Tryd.prog.bytesOf 202 = 4 := by kernel_rfl
theorem se202 : slEl Tryd.prog 202 = none := by kernel_rfl
theorem ae202 : arEl Tryd.prog 202 = none := by kernel_rfl
theorem ik202 : intK Tryd.prog 202 = some .i32 := by kernel_rfl
theorem zz202 : zc Tryd.prog 202 = [V.int .i32 0] := by kernel_rfl
theorem cz203 : Tryd.prog.cellsOf 203 = 1 := by kernel_rfl
theorem tk203 : tyOk Tryd.prog 203 = true := by kernel_rfl
theorem ag203 : isAg Tryd.prog 203 = false := by kernel_rfl
theorem by203 : Tryd.prog.bytesOf 203 = 4 := by kernel_rfl
theorem se203 : slEl Tryd.prog 203 = none := by kernel_rfl
theorem ae203 : arEl Tryd.prog 203 = none := by kernel_rfl
theorem ik203 : intK Tryd.prog 203 = some .i32 := by kernel_rfl
theorem zz203 : zc Tryd.prog 203 = [V.int .i32 0] := by kernel_rfl
theorem cz204 : Tryd.prog.cellsOf 204 = 11 := by kernel_rfl
theorem tk204 : tyOk Tryd.prog 204 = true := by kernel_rfl
theorem ag204 : isAg Tryd.prog 204 = true := by kernel_rfl
theorem by204 : Tryd.prog.bytesOf 204 = 48 := by kernel_rfl
theorem se204 : slEl Tryd.prog 204 = none := by kernel_rfl
theorem ae204 : arEl Tryd.prog 204 = none := by kernel_rfl
theorem st204 : isSt Tryd.prog 204 = true := by kernel_rfl
theorem fo204 : fldsOk Tryd.prog 204 = true := by kernel_rfl
theorem fd204_0 : fld Tryd.prog 204 0 = some (0, 12) := by kernel_rfl
theorem fd204_1 : fld Tryd.prog 204 1 = some (1, 12) := by kernel_rfl
theorem fd204_2 : fld Tryd.prog 204 2 = some (2, 169) := by kernel_rfl
theorem fd204_3 : fld Tryd.prog 204 3 = some (3, 198) := by kernel_rfl
theorem fd204_4 : fld Tryd.prog 204 4 = some (4, 5) := by kernel_rfl
theorem fd204_5 : fld Tryd.prog 204 5 = some (5, 5) := by kernel_rfl
theorem fd204_6 : fld Tryd.prog 204 6 = some (6, 199) := by kernel_rfl
theorem fd204_7 : fld Tryd.prog 204 7 = some (7, 200) := by kernel_rfl
theorem fd204_8 : fld Tryd.prog 204 8 = some (8, 201) := by kernel_rfl
theorem fd204_9 : fld Tryd.prog 204 9 = some (9, 202) := by kernel_rfl
theorem fd204_10 : fld Tryd.prog 204 10 = some (10, 203) := by kernel_rfl
theorem zz204 : zc Tryd.prog 204 = [V.int .u64 0, V.int .u64 0, V.int .u32 0, V.int .u8 0, V.int .u8 0, V.int .u8 0, V.int .u8 0, V.nilf, V.nilp, V.int .i32 0, V.int .i32 0] := by kernel_rfl
theorem cz205 : Tryd.prog.cellsOf 205 = 11 := by kernel_rfl
theorem tk205 : tyOk Tryd.prog 205 = true := by kernel_rfl
theorem ag205 : isAg Tryd.prog 205 = true := by kernel_rfl
theorem by205 : Tryd.prog.bytesOf 205 = 48 := by kernel_rfl
theorem se205 : slEl Tryd.prog 205 = none := by kernel_rfl
theorem ae205 : arEl Tryd.prog 205 = none := by kernel_rfl
theorem st205 : isSt Tryd.prog 205 = true := by kernel_rfl
theorem fo205 : fldsOk Tryd.prog 205 = true := by kernel_rfl
theorem fd205_0 : fld Tryd.prog 205 0 = some (0, 12) := by kernel_rfl
theorem fd205_1 : fld Tryd.prog 205 1 = some (1, 12) := by kernel_rfl
theorem fd205_2 : fld Tryd.prog 205 2 = some (2, 169) := by kernel_rfl
theorem fd205_3 : fld Tryd.prog 205 3 = some (3, 198) := by kernel_rfl
theorem fd205_4 : fld Tryd.prog 205 4 = some (4, 5) := by kernel_rfl
theorem fd205_5 : fld Tryd.prog 205 5 = some (5, 5) := by kernel_rfl
theorem fd205_6 : fld Tryd.prog 205 6 = some (6, 199) := by kernel_rfl
theorem fd205_7 : fld Tryd.prog 205 7 = some (7, 200) := by kernel_rfl
theorem fd205_8 : fld Tryd.prog 205 8 = some (8, 201) := by kernel_rfl
theorem fd205_9 : fld Tryd.prog 205 9 = some (9, 202) := by kernel_rfl
theorem fd205_10 : fld Tryd.prog 205 10 = some (10, 203) := by kernel_rfl
theorem zz205 : zc Tryd.prog 205 = [V.int .u64 0, V.int .u64 0, V.int .u32 0, V.int .u8 0, V.int .u8 0, V.int .u8 0, V.int .u8 0, V.nilf, V.nilp, V.int .i32 0, V.int .i32 0] := by kernel_rfl
attribute [simp] cz1 tk1 ag1 by1 se1 ae1 if1 zz1 cz2 tk2 ag2 by2 se2 ae2 ik2 zz2 cz3 tk3 ag3 by3 se3 ae3 ik3 zz3 cz4 tk4 ag4 by4 se4 ae4 ib4 zz4 cz5 tk5 ag5 by5 se5 ae5 ik5 zz5 cz6 tk6 ag6 by6 se6 ae6 ik6 zz6 cz7 tk7 ag7 by7 se7 ae7 st7 fo7 fd7_0 fd7_1 fd7_2 fd7_3 lt7 fe7 zz7 cz8 tk8 ag8 by8 se8 ae8 st8 fo8 fd8_0 fd8_1 fd8_2 fd8_3 lt8 fe8 zz8 cz12 tk12 ag12 by12 se12 ae12 ik12 zz12 cz13 tk13 ag13 by13 se13 ae13 st13 fo13 fd13_0 fd13_1 zz13 cz14 tk14 ag14 by14 se14 ae14 st14 fo14 fd14_0 fd14_1 zz14 cz15 tk15 ag15 by15 se15 ae15 ip15 zz15 cz16 tk16 ag16 by16 se16 ae16 ip16 zz16 cz17 tk17 ag17 by17 se17 ae17 ip17 zz17 cz18 tk18 ag18 by18 se18 ae18 st18 fo18 fd18_0 zz18 cz19 tk19 ag19 by19 se19 ae19 st19 fo19 fd19_0 zz19 cz21 tk21 ag21 by21 se21 ae21 ik21 zz21 cz22 tk22 ag22 by22 se22 ae22 zz22 cz23 tk23 ag23 by23 se23 ae23 if23 zz23 cz24 tk24 ag24 by24 se24 ae24 if24 zz24 cz25 tk25 ag25 by25 se25 ae25 ik25 zz25 cz27 tk27 ag27 by27 se27 ae27 if27 zz27 cz28 tk28 ag28 by28 se28 ae28 if28 zz28 cz29 tk29 ag29 by29 se29 ae29 if29 zz29 cz30 tk30 ag30 by30 se30 ae30 if30 zz30 cz31 tk31 ag31 by31 se31 ae31 if31 zz31 cz32 tk32 ag32 by32 se32 ae32 zz32 cz33 tk33 ag33 by33 se33 ae33 st33 fo33 fd33_0 fd33_1 lt33 fe33 zz33 cz34 tk34 ag34 by34 se34 ae34 st34 fo34 fd34_0 fd34_1 lt34 fe34 zz34 cz35 tk35 ag35 by35 se35 ae35 zz35 cz36 tk36 ag36 by36 se36 ae36 zz36 cz38 tk38 ag38 by38 se38 ae38 if38 zz38 cz39 tk39 ag39 by39 se39 ae39 zz39 cz40 tk40 ag40 by40 se40 ae40 zz40 cz41 tk41 ag41 by41 se41 ae41 zz41 cz42 tk42 ag42 by42 se42 ae42 st42 fo42 fd42_0 fd42_1 fd42_2 fd42_3 zz42 cz43 tk43 ag43 by43 se43 ae43 st43 fo43 fd43_0 fd43_1 fd43_2 fd43_3 zz43 cz44 tk44 ag44 by44 se44 ae44 zz44 cz45 tk45 ag45 by45 se45 ae45 zz45 cz46 tk46 ag46 by46 se46 ae46 st46 fo46 fd46_0 fd46_1 fd46_2 zz46 cz47 tk47 ag47 by47 se47 ae47 st47 fo47 fd47_0 fd47_1 fd47_2 zz47 cz48 tk48 ag48 by48 se48 ae48 if48 zz48 cz50 tk50 ag50 by50 se50 ae50 if50 zz50 cz52 tk52 ag52 by52 se52 ae52 if52 zz52 cz54 tk54 ag54 by54 se54 ae54 if54 zz54 cz55 tk55 ag55 by55 se55 ae55 st55 lt55 fe55 zz55 cz56 tk56 ag56 by56 se56 ae56 st56 fo56 fd56_0 fd56_1 fd56_2 fd56_3 lt56 fe56 zz56 cz57 tk57 ag57 by57 se57 ae57 st57 fo57 fd57_0 fd57_1 fd57_2 fd57_3 lt57 fe57 zz57 cz58 tk58 ag58 by58 se58 ae58 if58 zz58 cz60 tk60 ag60 by60 se60 ae60 if60 zz60 cz62 tk62 ag62 by62 se62 ae62 if62 zz62 cz63 tk63 ag63 by63 se63 ae63 if63 zz63 cz64 tk64 ag64 by64 se64 ae64 if64 zz64 cz65 tk65 ag65 by65 se65 ae65 if65 zz65 cz66 tk66 ag66 by66 se66 ae66 if66 zz66 cz67 tk67 ag67 by67 se67 ae67 if67 zz67 cz68 tk68 ag68 by68 se68 ae68 if68 zz68 cz69 tk69 ag69 by69 se69 ae69 if69 zz69 cz70 tk70 ag70 by70 se70 ae70 if70 zz70 cz71 tk71 ag71 by71 se71 ae71 if71 zz71 cz72 tk72 ag72 by72 se72 ae72 if72 zz72 cz73 tk73 ag73 by73 se73 ae73 if73 zz73 cz74 tk74 ag74 by74 se74 ae74 ip74 zz74 cz76 tk76 ag76 by76 se76 ae76 if76 zz76 cz77 tk77 ag77 by77 se77 ae77 zz77 cz78 tk78 ag78 by78 se78 ae78 zz78 cz79 tk79 ag79 by79 se79 ae79 zz79 cz80 tk80 ag80 by80 se80 ae80 zz80 cz81 tk81 ag81 by81 se81 ae81 st81 fo81 fd81_0 fd81_1 fd81_2 fd81_3 fd81_4 fd81_5 zz81 cz82 tk82 ag82 by82 se82 ae82 st82 fo82 fd82_0 fd82_1 fd82_2 fd82_3 fd82_4 fd82_5 zz82 cz83 tk83 ag83 by83 se83 ae83 st83 fo83 fd83_0 fd83_1 fd83_2 lt83 fe83 zz83 cz84 tk84 ag84 by84 se84 ae84 st84 fo84 fd84_0 fd84_1 fd84_2 lt84 fe84 zz84 cz85 tk85 ag85 by85 se85 ae85 if85 zz85 cz86 tk86 ag86 by86 se86 ae86 if86 zz86 cz87 tk87 ag87 by87 se87 ae87 if87 zz87 cz88 tk88 ag88 by88 se88 ae88 st88 lt88 fe88 zz88 cz89 tk89 ag89 by89 se89 ae89 if89 zz89 cz90 tk90 ag90 by90 se90 ae90 if90 zz90 cz91 tk91 ag91 by91 se91 ae91 if91 zz91 cz92 tk92 ag92 by92 se92 ae92 ip92 zz92 cz93 tk93 ag93 by93 se93 ae93 st93 fo93 fd93_0 fd93_1 fd93_2 fd93_3 zz93 cz94 tk94 ag94 by94 se94 ae94 st94 fo94 fd94_0 fd94_1 fd94_2 fd94_3 zz94 cz95 tk95 ag95 by95 se95 ae95 if95 zz95 cz96 tk96 ag96 by96 se96 ae96 ip96 zz96 cz98 tk98 ag98 by98 se98 ae98 if98 zz98 cz99 tk99 ag99 by99 se99 ae99 st99 fo99 fd99_0 fd99_1 zz99 cz100 tk100 ag100 by100 se100 ae100 st100 fo100 fd100_0 fd100_1 zz100 cz101 tk101 ag101 by101 se101 ae101 if101 zz101 cz102 tk102 ag102 by102 se102 ae102 zz102 cz103 tk103 ag103 by103 se103 ae103 if103 zz103 cz104 tk104 ag104 by104 se104 ae104 if104 zz104 cz105 tk105 ag105 by105 se105 ae105 if105 zz105 cz106 tk106 ag106 by106 se106 ae106 st106 fo106 fd106_0 fd106_1 lt106 fe106 zz106 cz107 tk107 ag107 by107 se107 ae107 st107 fo107 fd107_0 fd107_1 lt107 fe107 zz107 cz108 tk108 ag108 by108 se108 ae108 st108 fo108 fd108_0 fd108_1 fd108_2 fd108_3 lt108 fe108 zz108 cz109 tk109 ag109 by109 se109 ae109 st109 fo109 fd109_0 fd109_1 fd109_2 fd109_3 lt109 fe109 zz109 cz110 tk110 ag110 by110 se110 ae110 if110 zz110 cz111 tk111 ag111 by111 se111 ae111 if111 zz111 cz112 tk112 ag112 by112 se112 ae112 if112 zz112 cz113 tk113 ag113 by113 se113 ae113 if113 zz113 cz114 tk114 ag114 by114 se114 ae114 if114 zz114 cz115 tk115 ag115 by115 se115 ae115 if115 zz115 cz116 tk116 ag116 by116 se116 ae116 if116 zz116 cz117 tk117 ag117 by117 se117 ae117 if117 zz117 cz118 tk118 ag118 by118 se118 ae118 zz118 cz119 tk119 ag119 by119 se119 ae119 zz119 cz120 tk120 ag120 by120 se120 ae120 st120 fo120 fd120_0 fd120_1 fd120_2 fd120_3 fd120_4 zz120 cz121 tk121 ag121 by121 se121 ae121 st121 fo121 fd121_0 fd121_1 fd121_2 fd121_3 fd121_4 zz121 cz122 tk122 ag122 by122 se122 ae122 if122 zz122 cz124 tk124 ag124 by124 se124 ae124 if124 zz124 cz125 tk125 ag125 by125 se125 ae125 if125 zz125 cz126 tk126 ag126 by126 se126 ae126 if126 zz126 cz127 tk127 ag127 by127 se127 ae127 if127 zz127 cz128 tk128 ag128 by128 se128 ae128 if128 zz128 cz129 tk129 ag129 by129 se129 ae129 if129 zz129 cz130 tk130 ag130 by130 se130 ae130 if130 zz130 cz131 tk131 ag131 by131 se131 ae131 if131 zz131 cz132 tk132 ag132 by132 se132 ae132 if132 zz132 cz133 tk133 ag133 by133 se133 ae133 ik133 zz133 cz134 tk134 ag134 by134 se134 ae134 st134 fo134 fd134_0 fd134_1 fd134_2 fd134_3 zz134 cz135 tk135 ag135 by135 se135 ae135 st135 fo135 fd135_0 fd135_1 fd135_2 fd135_3 zz135 cz136 tk136 ag136 by136 se136 ae136 if136 zz136 cz137 tk137 ag137 by137 se137 ae137 if137 zz137 cz138 tk138 ag138 by138 se138 ae138 if138 zz138 cz139 tk139 ag139 by139 se139 ae139 if139 zz139 cz141 tk141 ag141 by141 se141 ae141 if141 zz141 cz142 tk142 ag142 by142 se142 ae142 if142 zz142 cz143 tk143 ag143 by143 se143 ae143 if143 zz143 cz144 tk144 ag144 by144 se144 ae144 if144 zz144 cz145 tk145 ag145 by145 se145 ae145 if145 zz145 cz146 tk146 ag146 by146 se146 ae146 if146 zz146 cz147 tk147 ag147 by147 se147 ae147 if147 zz147 cz148 tk148 ag148 by148 se148 ae148 st148 zz148 cz149 tk149 ag149 by149 se149 ae149 if149 zz149 cz150 tk150 ag150 by150 se150 ae150 if150 zz150 cz151 tk151 ag151 by151 se151 ae151 if151 zz151 cz152 tk152 ag152 by152 se152 ae152 if152 zz152 cz153 tk153 ag153 by153 se153 ae153 if153 zz153 cz154 tk154 ag154 by154 se154 ae154 if154 zz154 cz155 tk155 ag155 by155 se155 ae155 if155 zz155 cz156 tk156 ag156 by156 se156 ae156 if156 zz156 cz157 tk157 ag157 by157 se157 ae157 if157 zz157 cz158 tk158 ag158 by158 se158 ae158 if158 zz158 cz159 tk159 ag159 by159 se159 ae159 zz159 cz160 tk160 ag160 by160 se160 ae160 if160 zz160 cz161 tk161 ag161 by161 se161 ae161 ik161 zz161 cz163 tk163 ag163 by163 se163 ae163 if163 zz163 cz164 tk164 ag164 by164 se164 ae164 if164 zz164 cz165 tk165 ag165 by165 se165 ae165 if165 zz165 cz167 tk167 ag167 by167 se167 ae167 if167 zz167 cz168 tk168 ag168 by168 se168 ae168 if168 zz168 cz169 tk169 ag169 by169 se169 ae169 ik169 zz169 cz170 tk170 ag170 by170 se170 ae170 if170 zz170 cz171 tk171 ag171 by171 se171 ae171 ik171 zz171 cz172 tk172 ag172 by172 se172 ae172 if172 zz172 cz173 tk173 ag173 by173 se173 ae173 if173 zz173 cz174 tk174 ag174 by174 se174 ae174 if174 zz174 cz175 tk175 ag175 by175 se175 ae175 if175 zz175 cz176 tk176 ag176 by176 se176 ae176 if176 zz176 cz177 tk177 ag177 by177 se177 ae177 if177 zz177 cz178 tk178 ag178 by178 se178 ae178 if178 zz178 cz179 tk179 ag179 by179 se179 ae179 if179 zz179 cz180 tk180 ag180 by180 se180 ae180 st180 fo180 fd180_0 fd180_1 fd180_2 fd180_3 fd180_4 fd180_5 lt180 fe180 zz180 cz181 tk181 ag181 by181 se181 ae181 st181 fo181 fd181_0 fd181_1 fd181_2 fd181_3 fd181_4 fd181_5 lt181 fe181 zz181 cz182 tk182 ag182 by182 se182 ae182 ip182 zz182 cz183 tk183 ag183 by183 se183 ae183 ik183 zz183 cz184 tk184 ag184 by184 se184 ae184 if184 zz184 cz185 tk185 ag185 by185 se185 ae185 if185 zz185 cz186 tk186 ag186 by186 se186 ae186 if186 zz186 cz187 tk187 ag187 by187 se187 ae187 ip187 zz187 cz188 tk188 ag188 by188 se188 ae188 if188 zz188 cz189 tk189 ag189 by189 se189 ae189 if189 zz189 cz190 tk190 ag190 by190 se190 ae190 ip190 zz190 cz191 tk191 ag191 by191 se191 ae191 if191 zz191 cz192 tk192 ag192 by192 se192 ae192 if192 zz192 cz193 tk193 ag193 by193 se193 ae193 st193 fo193 fd193_0 fd193_1 fd193_2 fd193_3 zz193 cz194 tk194 ag194 by194 se194 ae194 st194 fo194 fd194_0 fd194_1 fd194_2 fd194_3 zz194 cz195 tk195 ag195 by195 se195 ae195 st195 zz195 cz196 tk196 ag196 by196 se196 ae196 st196 fd196_0 zz196 cz197 tk197 ag197 by197 se197 ae197 st197 fd197_0 zz197 cz198 tk198 ag198 by198 se198 ae198 ik198 zz198 cz199 tk199 ag199 by199 se199 ae199 ik199 zz199 cz200 tk200 ag200 by200 se200 ae200 if200 zz200 cz201 tk201 ag201 by201 se201 ae201 ip201 zz201 cz202 tk202 ag202 by202 se202 ae202 ik202 zz202 cz203 tk203 ag203 by203 se203 ae203 ik203 zz203 cz204 tk204 ag204 by204 se204 ae204 st204 fo204 fd204_0 fd204_1 fd204_2 fd204_3 fd204_4 fd204_5 fd204_6 fd204_7 fd204_8 fd204_9 fd204_10 zz204 cz205 tk205 ag205 by205 se205 ae205 st205 fo205 fd205_0 fd205_1 fd205_2 fd205_3 fd205_4 fd205_5 fd205_6 fd205_7 fd205_8 fd205_9 fd205_10 zz205
end Go.Sx.Ty
