/- What the walk asks of this seat's types: closed facts. Printed by program. No conditions. -/
import Derived.Test.YtnpdjaikmdagmaaGreatDoorProg
import Derived.Test.YtnpdjaikmdagmaaGreatDoorP00
set_option linter.unusedSimpArgs false
set_option linter.unusedVariables false
set_option linter.unusedSectionVars false
namespace Go.Sx.Ty
open Go.Proofs Go.Sx
theorem cz1 : Tryz.prog.cellsOf 1 = 1 := by kernel_rfl
theorem tk1 : tyOk Tryz.prog 1 = true := by kernel_rfl
theorem ag1 : isAg Tryz.prog 1 = false := by kernel_rfl
theorem by1 : Tryz.prog.bytesOf 1 = 8 := by kernel_rfl
theorem se1 : slEl Tryz.prog 1 = none := by kernel_rfl
theorem ae1 : arEl Tryz.prog 1 = none := by kernel_rfl
theorem if1 : isFn Tryz.prog 1 = true := by kernel_rfl
theorem zz1 : zc Tryz.prog 1 = [V.nilf] := by kernel_rfl
theorem cz2 : Tryz.prog.cellsOf 2 = 1 := by kernel_rfl
theorem tk2 : tyOk Tryz.prog 2 = true := by kernel_rfl
theorem ag2 : isAg Tryz.prog 2 = false := by kernel_rfl
theorem by2 : Tryz.prog.bytesOf 2 = 8 := by kernel_rfl
theorem se2 : slEl Tryz.prog 2 = none := by kernel_rfl
theorem ae2 : arEl Tryz.prog 2 = none := by kernel_rfl
theorem ik2 : intK Tryz.prog 2 = some .i64 := by kernel_rfl
theorem zz2 : zc Tryz.prog 2 = [V.int .i64 0] := by kernel_rfl
theorem cz3 : Tryz.prog.cellsOf 3 = 1 := by kernel_rfl
theorem tk3 : tyOk Tryz.prog 3 = true := by kernel_rfl
theorem ag3 : isAg Tryz.prog 3 = false := by kernel_rfl
theorem by3 : Tryz.prog.bytesOf 3 = 8 := by kernel_rfl
theorem se3 : slEl Tryz.prog 3 = none := by kernel_rfl
theorem ae3 : arEl Tryz.prog 3 = none := by kernel_rfl
theorem ik3 : intK Tryz.prog 3 = some .i64 := by kernel_rfl
theorem zz3 : zc Tryz.prog 3 = [V.int .i64 0] := by kernel_rfl
theorem cz4 : Tryz.prog.cellsOf 4 = 1 := by kernel_rfl
theorem tk4 : tyOk Tryz.prog 4 = true := by kernel_rfl
theorem ag4 : isAg Tryz.prog 4 = false := by kernel_rfl
theorem by4 : Tryz.prog.bytesOf 4 = 1 := by kernel_rfl
theorem se4 : slEl Tryz.prog 4 = none := by kernel_rfl
theorem ae4 : arEl Tryz.prog 4 = none := by kernel_rfl
theorem ib4 : isBool Tryz.prog 4 = true := by kernel_rfl
theorem zz4 : zc Tryz.prog 4 = [V.bool false] := by kernel_rfl
theorem cz5 : Tryz.prog.cellsOf 5 = 1 := by kernel_rfl
theorem tk5 : tyOk Tryz.prog 5 = true := by kernel_rfl
theorem ag5 : isAg Tryz.prog 5 = false := by kernel_rfl
theorem by5 : Tryz.prog.bytesOf 5 = 1 := by kernel_rfl
theorem se5 : slEl Tryz.prog 5 = none := by kernel_rfl
theorem ae5 : arEl Tryz.prog 5 = none := by kernel_rfl
theorem ik5 : intK Tryz.prog 5 = some .u8 := by kernel_rfl
theorem zz5 : zc Tryz.prog 5 = [V.int .u8 0] := by kernel_rfl
theorem cz6 : Tryz.prog.cellsOf 6 = 1 := by kernel_rfl
theorem tk6 : tyOk Tryz.prog 6 = true := by kernel_rfl
theorem ag6 : isAg Tryz.prog 6 = false := by kernel_rfl
theorem by6 : Tryz.prog.bytesOf 6 = 1 := by kernel_rfl
theorem se6 : slEl Tryz.prog 6 = none := by kernel_rfl
theorem ae6 : arEl Tryz.prog 6 = none := by kernel_rfl
theorem ik6 : intK Tryz.prog 6 = some .u8 := by kernel_rfl
theorem zz6 : zc Tryz.prog 6 = [V.int .u8 0] := by kernel_rfl
theorem cz7 : Tryz.prog.cellsOf 7 = 4 := by kernel_rfl
theorem tk7 : tyOk Tryz.prog 7 = true := by kernel_rfl
theorem ag7 : isAg Tryz.prog 7 = true := by kernel_rfl
theorem by7 : Tryz.prog.bytesOf 7 = 24 := by kernel_rfl
theorem se7 : slEl Tryz.prog 7 = none := by kernel_rfl
theorem ae7 : arEl Tryz.prog 7 = none := by kernel_rfl
theorem st7 : isSt Tryz.prog 7 = true := by kernel_rfl
theorem fo7 : fldsOk Tryz.prog 7 = true := by kernel_rfl
theorem fd7_0 : fld Tryz.prog 7 0 = some (0, 2) := by kernel_rfl
theorem fd7_1 : fld Tryz.prog 7 1 = some (1, 3) := by kernel_rfl
theorem fd7_2 : fld Tryz.prog 7 2 = some (2, 4) := by kernel_rfl
theorem fd7_3 : fld Tryz.prog 7 3 = some (3, 6) := by kernel_rfl
theorem lt7 : leafTs Tryz.prog 7 = [2, 3, 4, 6] := by kernel_rfl
theorem fe7 : flatEq Tryz.prog 7 = true := by kernel_rfl
theorem zz7 : zc Tryz.prog 7 = [V.int .i64 0, V.int .i64 0, V.bool false, V.int .u8 0] := by kernel_rfl
theorem cz8 : Tryz.prog.cellsOf 8 = 4 := by kernel_rfl
theorem tk8 : tyOk Tryz.prog 8 = true := by kernel_rfl
theorem ag8 : isAg Tryz.prog 8 = true := by kernel_rfl
theorem by8 : Tryz.prog.bytesOf 8 = 24 := by kernel_rfl
theorem se8 : slEl Tryz.prog 8 = none := by kernel_rfl
theorem ae8 : arEl Tryz.prog 8 = none := by kernel_rfl
theorem st8 : isSt Tryz.prog 8 = true := by kernel_rfl
theorem fo8 : fldsOk Tryz.prog 8 = true := by kernel_rfl
theorem fd8_0 : fld Tryz.prog 8 0 = some (0, 2) := by kernel_rfl
theorem fd8_1 : fld Tryz.prog 8 1 = some (1, 3) := by kernel_rfl
theorem fd8_2 : fld Tryz.prog 8 2 = some (2, 4) := by kernel_rfl
theorem fd8_3 : fld Tryz.prog 8 3 = some (3, 6) := by kernel_rfl
theorem lt8 : leafTs Tryz.prog 8 = [2, 3, 4, 6] := by kernel_rfl
theorem fe8 : flatEq Tryz.prog 8 = true := by kernel_rfl
theorem zz8 : zc Tryz.prog 8 = [V.int .i64 0, V.int .i64 0, V.bool false, V.int .u8 0] := by kernel_rfl
theorem cz12 : Tryz.prog.cellsOf 12 = 1 := by kernel_rfl
theorem tk12 : tyOk Tryz.prog 12 = true := by kernel_rfl
theorem ag12 : isAg Tryz.prog 12 = false := by kernel_rfl
theorem by12 : Tryz.prog.bytesOf 12 = 8 := by kernel_rfl
theorem se12 : slEl Tryz.prog 12 = none := by kernel_rfl
theorem ae12 : arEl Tryz.prog 12 = none := by kernel_rfl
theorem ik12 : intK Tryz.prog 12 = some .u64 := by kernel_rfl
theorem zz12 : zc Tryz.prog 12 = [V.int .u64 0] := by kernel_rfl
theorem cz13 : Tryz.prog.cellsOf 13 = 2 := by kernel_rfl
theorem tk13 : tyOk Tryz.prog 13 = true := by kernel_rfl
theorem ag13 : isAg Tryz.prog 13 = true := by kernel_rfl
theorem by13 : Tryz.prog.bytesOf 13 = 24 := by kernel_rfl
theorem se13 : slEl Tryz.prog 13 = none := by kernel_rfl
theorem ae13 : arEl Tryz.prog 13 = none := by kernel_rfl
theorem st13 : isSt Tryz.prog 13 = true := by kernel_rfl
theorem fo13 : fldsOk Tryz.prog 13 = true := by kernel_rfl
theorem fd13_0 : fld Tryz.prog 13 0 = some (0, 9) := by kernel_rfl
theorem fd13_1 : fld Tryz.prog 13 1 = some (1, 12) := by kernel_rfl
theorem zz13 : zc Tryz.prog 13 = [V.top, V.int .u64 0] := by kernel_rfl
theorem cz14 : Tryz.prog.cellsOf 14 = 2 := by kernel_rfl
theorem tk14 : tyOk Tryz.prog 14 = true := by kernel_rfl
theorem ag14 : isAg Tryz.prog 14 = true := by kernel_rfl
theorem by14 : Tryz.prog.bytesOf 14 = 24 := by kernel_rfl
theorem se14 : slEl Tryz.prog 14 = none := by kernel_rfl
theorem ae14 : arEl Tryz.prog 14 = none := by kernel_rfl
theorem st14 : isSt Tryz.prog 14 = true := by kernel_rfl
theorem fo14 : fldsOk Tryz.prog 14 = true := by kernel_rfl
theorem fd14_0 : fld Tryz.prog 14 0 = some (0, 9) := by kernel_rfl
theorem fd14_1 : fld Tryz.prog 14 1 = some (1, 12) := by kernel_rfl
theorem zz14 : zc Tryz.prog 14 = [V.top, V.int .u64 0] := by kernel_rfl
theorem cz15 : Tryz.prog.cellsOf 15 = 1 := by kernel_rfl
theorem tk15 : tyOk Tryz.prog 15 = true := by kernel_rfl
theorem ag15 : isAg Tryz.prog 15 = false := by kernel_rfl
theorem by15 : Tryz.prog.bytesOf 15 = 8 := by kernel_rfl
theorem se15 : slEl Tryz.prog 15 = none := by kernel_rfl
theorem ae15 : arEl Tryz.prog 15 = none := by kernel_rfl
theorem ip15 : isPtr Tryz.prog 15 = true := by kernel_rfl
theorem zz15 : zc Tryz.prog 15 = [V.nilp] := by kernel_rfl
theorem cz16 : Tryz.prog.cellsOf 16 = 1 := by kernel_rfl
theorem tk16 : tyOk Tryz.prog 16 = true := by kernel_rfl
theorem ag16 : isAg Tryz.prog 16 = false := by kernel_rfl
theorem by16 : Tryz.prog.bytesOf 16 = 8 := by kernel_rfl
theorem se16 : slEl Tryz.prog 16 = none := by kernel_rfl
theorem ae16 : arEl Tryz.prog 16 = none := by kernel_rfl
theorem ip16 : isPtr Tryz.prog 16 = true := by kernel_rfl
theorem zz16 : zc Tryz.prog 16 = [V.nilp] := by kernel_rfl
theorem cz17 : Tryz.prog.cellsOf 17 = 1 := by kernel_rfl
theorem tk17 : tyOk Tryz.prog 17 = true := by kernel_rfl
theorem ag17 : isAg Tryz.prog 17 = false := by kernel_rfl
theorem by17 : Tryz.prog.bytesOf 17 = 8 := by kernel_rfl
theorem se17 : slEl Tryz.prog 17 = none := by kernel_rfl
theorem ae17 : arEl Tryz.prog 17 = none := by kernel_rfl
theorem ip17 : isPtr Tryz.prog 17 = true := by kernel_rfl
theorem zz17 : zc Tryz.prog 17 = [V.nilp] := by kernel_rfl
theorem cz18 : Tryz.prog.cellsOf 18 = 1 := by kernel_rfl
theorem tk18 : tyOk Tryz.prog 18 = true := by kernel_rfl
theorem ag18 : isAg Tryz.prog 18 = true := by kernel_rfl
theorem by18 : Tryz.prog.bytesOf 18 = 8 := by kernel_rfl
theorem se18 : slEl Tryz.prog 18 = none := by kernel_rfl
theorem ae18 : arEl Tryz.prog 18 = none := by kernel_rfl
theorem st18 : isSt Tryz.prog 18 = true := by kernel_rfl
theorem fo18 : fldsOk Tryz.prog 18 = true := by kernel_rfl
theorem fd18_0 : fld Tryz.prog 18 0 = some (0, 17) := by kernel_rfl
theorem zz18 : zc Tryz.prog 18 = [V.nilp] := by kernel_rfl
theorem cz19 : Tryz.prog.cellsOf 19 = 1 := by kernel_rfl
theorem tk19 : tyOk Tryz.prog 19 = true := by kernel_rfl
theorem ag19 : isAg Tryz.prog 19 = true := by kernel_rfl
theorem by19 : Tryz.prog.bytesOf 19 = 8 := by kernel_rfl
theorem se19 : slEl Tryz.prog 19 = none := by kernel_rfl
theorem ae19 : arEl Tryz.prog 19 = none := by kernel_rfl
theorem st19 : isSt Tryz.prog 19 = true := by kernel_rfl
theorem fo19 : fldsOk Tryz.prog 19 = true := by kernel_rfl
theorem fd19_0 : fld Tryz.prog 19 0 = some (0, 17) := by kernel_rfl
theorem zz19 : zc Tryz.prog 19 = [V.nilp] := by kernel_rfl
theorem cz21 : Tryz.prog.cellsOf 21 = 1 := by kernel_rfl
theorem tk21 : tyOk Tryz.prog 21 = true := by kernel_rfl
theorem ag21 : isAg Tryz.prog 21 = false := by kernel_rfl
theorem by21 : Tryz.prog.bytesOf 21 = 4 := by kernel_rfl
theorem se21 : slEl Tryz.prog 21 = none := by kernel_rfl
theorem ae21 : arEl Tryz.prog 21 = none := by kernel_rfl
theorem ik21 : intK Tryz.prog 21 = some .i32 := by kernel_rfl
theorem zz21 : zc Tryz.prog 21 = [V.int .i32 0] := by kernel_rfl
theorem cz22 : Tryz.prog.cellsOf 22 = 1 := by kernel_rfl
theorem tk22 : tyOk Tryz.prog 22 = true := by kernel_rfl
theorem ag22 : isAg Tryz.prog 22 = false := by kernel_rfl
theorem by22 : Tryz.prog.bytesOf 22 = 24 := by kernel_rfl
theorem se22 : slEl Tryz.prog 22 = some 76 := by kernel_rfl
theorem ae22 : arEl Tryz.prog 22 = none := by kernel_rfl
theorem zz22 : zc Tryz.prog 22 = [V.nil] := by kernel_rfl
theorem cz23 : Tryz.prog.cellsOf 23 = 1 := by kernel_rfl
theorem tk23 : tyOk Tryz.prog 23 = true := by kernel_rfl
theorem ag23 : isAg Tryz.prog 23 = false := by kernel_rfl
theorem by23 : Tryz.prog.bytesOf 23 = 24 := by kernel_rfl
theorem se23 : slEl Tryz.prog 23 = some 46 := by kernel_rfl
theorem ae23 : arEl Tryz.prog 23 = none := by kernel_rfl
theorem zz23 : zc Tryz.prog 23 = [V.nil] := by kernel_rfl
theorem cz24 : Tryz.prog.cellsOf 24 = 1 := by kernel_rfl
theorem tk24 : tyOk Tryz.prog 24 = true := by kernel_rfl
theorem ag24 : isAg Tryz.prog 24 = false := by kernel_rfl
theorem by24 : Tryz.prog.bytesOf 24 = 24 := by kernel_rfl
theorem se24 : slEl Tryz.prog 24 = some 140 := by kernel_rfl
theorem ae24 : arEl Tryz.prog 24 = none := by kernel_rfl
theorem zz24 : zc Tryz.prog 24 = [V.nil] := by kernel_rfl
theorem cz25 : Tryz.prog.cellsOf 25 = 4 := by kernel_rfl
theorem tk25 : tyOk Tryz.prog 25 = true := by kernel_rfl
theorem ag25 : isAg Tryz.prog 25 = true := by kernel_rfl
theorem by25 : Tryz.prog.bytesOf 25 = 80 := by kernel_rfl
theorem se25 : slEl Tryz.prog 25 = none := by kernel_rfl
theorem ae25 : arEl Tryz.prog 25 = none := by kernel_rfl
theorem st25 : isSt Tryz.prog 25 = true := by kernel_rfl
theorem fo25 : fldsOk Tryz.prog 25 = true := by kernel_rfl
theorem fd25_0 : fld Tryz.prog 25 0 = some (0, 22) := by kernel_rfl
theorem fd25_1 : fld Tryz.prog 25 1 = some (1, 23) := by kernel_rfl
theorem fd25_2 : fld Tryz.prog 25 2 = some (2, 3) := by kernel_rfl
theorem fd25_3 : fld Tryz.prog 25 3 = some (3, 24) := by kernel_rfl
theorem zz25 : zc Tryz.prog 25 = [V.nil, V.nil, V.int .i64 0, V.nil] := by kernel_rfl
theorem cz26 : Tryz.prog.cellsOf 26 = 4 := by kernel_rfl
theorem tk26 : tyOk Tryz.prog 26 = true := by kernel_rfl
theorem ag26 : isAg Tryz.prog 26 = true := by kernel_rfl
theorem by26 : Tryz.prog.bytesOf 26 = 80 := by kernel_rfl
theorem se26 : slEl Tryz.prog 26 = none := by kernel_rfl
theorem ae26 : arEl Tryz.prog 26 = none := by kernel_rfl
theorem st26 : isSt Tryz.prog 26 = true := by kernel_rfl
theorem fo26 : fldsOk Tryz.prog 26 = true := by kernel_rfl
theorem fd26_0 : fld Tryz.prog 26 0 = some (0, 22) := by kernel_rfl
theorem fd26_1 : fld Tryz.prog 26 1 = some (1, 23) := by kernel_rfl
theorem fd26_2 : fld Tryz.prog 26 2 = some (2, 3) := by kernel_rfl
theorem fd26_3 : fld Tryz.prog 26 3 = some (3, 24) := by kernel_rfl
theorem zz26 : zc Tryz.prog 26 = [V.nil, V.nil, V.int .i64 0, V.nil] := by kernel_rfl
theorem cz27 : Tryz.prog.cellsOf 27 = 1 := by kernel_rfl
theorem tk27 : tyOk Tryz.prog 27 = true := by kernel_rfl
theorem ag27 : isAg Tryz.prog 27 = false := by kernel_rfl
theorem by27 : Tryz.prog.bytesOf 27 = 24 := by kernel_rfl
theorem se27 : slEl Tryz.prog 27 = some 119 := by kernel_rfl
theorem ae27 : arEl Tryz.prog 27 = none := by kernel_rfl
theorem zz27 : zc Tryz.prog 27 = [V.nil] := by kernel_rfl
theorem cz28 : Tryz.prog.cellsOf 28 = 5 := by kernel_rfl
theorem tk28 : tyOk Tryz.prog 28 = true := by kernel_rfl
theorem ag28 : isAg Tryz.prog 28 = true := by kernel_rfl
theorem by28 : Tryz.prog.bytesOf 28 = 104 := by kernel_rfl
theorem se28 : slEl Tryz.prog 28 = none := by kernel_rfl
theorem ae28 : arEl Tryz.prog 28 = none := by kernel_rfl
theorem st28 : isSt Tryz.prog 28 = true := by kernel_rfl
theorem fo28 : fldsOk Tryz.prog 28 = true := by kernel_rfl
theorem fd28_0 : fld Tryz.prog 28 0 = some (0, 26) := by kernel_rfl
theorem fd28_1 : fld Tryz.prog 28 1 = some (4, 27) := by kernel_rfl
theorem zz28 : zc Tryz.prog 28 = [V.nil, V.nil, V.int .i64 0, V.nil, V.nil] := by kernel_rfl
theorem cz29 : Tryz.prog.cellsOf 29 = 5 := by kernel_rfl
theorem tk29 : tyOk Tryz.prog 29 = true := by kernel_rfl
theorem ag29 : isAg Tryz.prog 29 = true := by kernel_rfl
theorem by29 : Tryz.prog.bytesOf 29 = 104 := by kernel_rfl
theorem se29 : slEl Tryz.prog 29 = none := by kernel_rfl
theorem ae29 : arEl Tryz.prog 29 = none := by kernel_rfl
theorem st29 : isSt Tryz.prog 29 = true := by kernel_rfl
theorem fo29 : fldsOk Tryz.prog 29 = true := by kernel_rfl
theorem fd29_0 : fld Tryz.prog 29 0 = some (0, 26) := by kernel_rfl
theorem fd29_1 : fld Tryz.prog 29 1 = some (4, 27) := by kernel_rfl
theorem zz29 : zc Tryz.prog 29 = [V.nil, V.nil, V.int .i64 0, V.nil, V.nil] := by kernel_rfl
theorem cz30 : Tryz.prog.cellsOf 30 = 1 := by kernel_rfl
theorem tk30 : tyOk Tryz.prog 30 = true := by kernel_rfl
theorem ag30 : isAg Tryz.prog 30 = false := by kernel_rfl
theorem by30 : Tryz.prog.bytesOf 30 = 24 := by kernel_rfl
theorem se30 : slEl Tryz.prog 30 = some 37 := by kernel_rfl
theorem ae30 : arEl Tryz.prog 30 = none := by kernel_rfl
theorem zz30 : zc Tryz.prog 30 = [V.nil] := by kernel_rfl
theorem cz31 : Tryz.prog.cellsOf 31 = 3 := by kernel_rfl
theorem tk31 : tyOk Tryz.prog 31 = true := by kernel_rfl
theorem ag31 : isAg Tryz.prog 31 = true := by kernel_rfl
theorem by31 : Tryz.prog.bytesOf 31 = 56 := by kernel_rfl
theorem se31 : slEl Tryz.prog 31 = none := by kernel_rfl
theorem ae31 : arEl Tryz.prog 31 = none := by kernel_rfl
theorem st31 : isSt Tryz.prog 31 = true := by kernel_rfl
theorem fo31 : fldsOk Tryz.prog 31 = true := by kernel_rfl
theorem fd31_0 : fld Tryz.prog 31 0 = some (0, 30) := by kernel_rfl
theorem fd31_1 : fld Tryz.prog 31 1 = some (1, 30) := by kernel_rfl
theorem fd31_2 : fld Tryz.prog 31 2 = some (2, 3) := by kernel_rfl
theorem zz31 : zc Tryz.prog 31 = [V.nil, V.nil, V.int .i64 0] := by kernel_rfl
theorem cz32 : Tryz.prog.cellsOf 32 = 3 := by kernel_rfl
theorem tk32 : tyOk Tryz.prog 32 = true := by kernel_rfl
theorem ag32 : isAg Tryz.prog 32 = true := by kernel_rfl
theorem by32 : Tryz.prog.bytesOf 32 = 56 := by kernel_rfl
theorem se32 : slEl Tryz.prog 32 = none := by kernel_rfl
theorem ae32 : arEl Tryz.prog 32 = none := by kernel_rfl
theorem st32 : isSt Tryz.prog 32 = true := by kernel_rfl
theorem fo32 : fldsOk Tryz.prog 32 = true := by kernel_rfl
theorem fd32_0 : fld Tryz.prog 32 0 = some (0, 30) := by kernel_rfl
theorem fd32_1 : fld Tryz.prog 32 1 = some (1, 30) := by kernel_rfl
theorem fd32_2 : fld Tryz.prog 32 2 = some (2, 3) := by kernel_rfl
theorem zz32 : zc Tryz.prog 32 = [V.nil, V.nil, V.int .i64 0] := by kernel_rfl
theorem cz33 : Tryz.prog.cellsOf 33 = 1 := by kernel_rfl
theorem tk33 : tyOk Tryz.prog 33 = true := by kernel_rfl
theorem ag33 : isAg Tryz.prog 33 = false := by kernel_rfl
theorem by33 : Tryz.prog.bytesOf 33 = 24 := by kernel_rfl
theorem se33 : slEl Tryz.prog 33 = some 41 := by kernel_rfl
theorem ae33 : arEl Tryz.prog 33 = none := by kernel_rfl
theorem zz33 : zc Tryz.prog 33 = [V.nil] := by kernel_rfl
theorem cz34 : Tryz.prog.cellsOf 34 = 2 := by kernel_rfl
theorem tk34 : tyOk Tryz.prog 34 = true := by kernel_rfl
theorem ag34 : isAg Tryz.prog 34 = true := by kernel_rfl
theorem by34 : Tryz.prog.bytesOf 34 = 32 := by kernel_rfl
theorem se34 : slEl Tryz.prog 34 = none := by kernel_rfl
theorem ae34 : arEl Tryz.prog 34 = none := by kernel_rfl
theorem st34 : isSt Tryz.prog 34 = true := by kernel_rfl
theorem fo34 : fldsOk Tryz.prog 34 = true := by kernel_rfl
theorem fd34_0 : fld Tryz.prog 34 0 = some (0, 3) := by kernel_rfl
theorem fd34_1 : fld Tryz.prog 34 1 = some (1, 33) := by kernel_rfl
theorem zz34 : zc Tryz.prog 34 = [V.int .i64 0, V.nil] := by kernel_rfl
theorem cz35 : Tryz.prog.cellsOf 35 = 2 := by kernel_rfl
theorem tk35 : tyOk Tryz.prog 35 = true := by kernel_rfl
theorem ag35 : isAg Tryz.prog 35 = true := by kernel_rfl
theorem by35 : Tryz.prog.bytesOf 35 = 32 := by kernel_rfl
theorem se35 : slEl Tryz.prog 35 = none := by kernel_rfl
theorem ae35 : arEl Tryz.prog 35 = none := by kernel_rfl
theorem st35 : isSt Tryz.prog 35 = true := by kernel_rfl
theorem fo35 : fldsOk Tryz.prog 35 = true := by kernel_rfl
theorem fd35_0 : fld Tryz.prog 35 0 = some (0, 3) := by kernel_rfl
theorem fd35_1 : fld Tryz.prog 35 1 = some (1, 33) := by kernel_rfl
theorem zz35 : zc Tryz.prog 35 = [V.int .i64 0, V.nil] := by kernel_rfl
theorem cz36 : Tryz.prog.cellsOf 36 = 1 := by kernel_rfl
theorem tk36 : tyOk Tryz.prog 36 = true := by kernel_rfl
theorem ag36 : isAg Tryz.prog 36 = false := by kernel_rfl
theorem by36 : Tryz.prog.bytesOf 36 = 8 := by kernel_rfl
theorem se36 : slEl Tryz.prog 36 = none := by kernel_rfl
theorem ae36 : arEl Tryz.prog 36 = none := by kernel_rfl
theorem if36 : isFn Tryz.prog 36 = true := by kernel_rfl
theorem zz36 : zc Tryz.prog 36 = [V.nilf] := by kernel_rfl
theorem cz37 : Tryz.prog.cellsOf 37 = 1 := by kernel_rfl
theorem tk37 : tyOk Tryz.prog 37 = true := by kernel_rfl
theorem ag37 : isAg Tryz.prog 37 = false := by kernel_rfl
theorem by37 : Tryz.prog.bytesOf 37 = 24 := by kernel_rfl
theorem se37 : slEl Tryz.prog 37 = some 3 := by kernel_rfl
theorem ae37 : arEl Tryz.prog 37 = none := by kernel_rfl
theorem zz37 : zc Tryz.prog 37 = [V.nil] := by kernel_rfl
theorem cz38 : Tryz.prog.cellsOf 38 = 1 := by kernel_rfl
theorem tk38 : tyOk Tryz.prog 38 = true := by kernel_rfl
theorem ag38 : isAg Tryz.prog 38 = false := by kernel_rfl
theorem by38 : Tryz.prog.bytesOf 38 = 8 := by kernel_rfl
theorem se38 : slEl Tryz.prog 38 = none := by kernel_rfl
theorem ae38 : arEl Tryz.prog 38 = none := by kernel_rfl
theorem ik38 : intK Tryz.prog 38 = some .i64 := by kernel_rfl
theorem zz38 : zc Tryz.prog 38 = [V.int .i64 0] := by kernel_rfl
theorem cz40 : Tryz.prog.cellsOf 40 = 1 := by kernel_rfl
theorem tk40 : tyOk Tryz.prog 40 = true := by kernel_rfl
theorem ag40 : isAg Tryz.prog 40 = false := by kernel_rfl
theorem by40 : Tryz.prog.bytesOf 40 = 8 := by kernel_rfl
theorem se40 : slEl Tryz.prog 40 = none := by kernel_rfl
theorem ae40 : arEl Tryz.prog 40 = none := by kernel_rfl
theorem if40 : isFn Tryz.prog 40 = true := by kernel_rfl
theorem zz40 : zc Tryz.prog 40 = [V.nilf] := by kernel_rfl
theorem cz41 : Tryz.prog.cellsOf 41 = 2 := by kernel_rfl
theorem tk41 : tyOk Tryz.prog 41 = true := by kernel_rfl
theorem ag41 : isAg Tryz.prog 41 = true := by kernel_rfl
theorem by41 : Tryz.prog.bytesOf 41 = 16 := by kernel_rfl
theorem se41 : slEl Tryz.prog 41 = none := by kernel_rfl
theorem ae41 : arEl Tryz.prog 41 = some (2, 3) := by kernel_rfl
theorem st41 : isSt Tryz.prog 41 = false := by kernel_rfl
theorem lt41 : leafTs Tryz.prog 41 = [3, 3] := by kernel_rfl
theorem fe41 : flatEq Tryz.prog 41 = true := by kernel_rfl
theorem zz41 : zc Tryz.prog 41 = [V.int .i64 0, V.int .i64 0] := by kernel_rfl
theorem cz43 : Tryz.prog.cellsOf 43 = 1 := by kernel_rfl
theorem tk43 : tyOk Tryz.prog 43 = true := by kernel_rfl
theorem ag43 : isAg Tryz.prog 43 = false := by kernel_rfl
theorem by43 : Tryz.prog.bytesOf 43 = 8 := by kernel_rfl
theorem se43 : slEl Tryz.prog 43 = none := by kernel_rfl
theorem ae43 : arEl Tryz.prog 43 = none := by kernel_rfl
theorem if43 : isFn Tryz.prog 43 = true := by kernel_rfl
theorem zz43 : zc Tryz.prog 43 = [V.nilf] := by kernel_rfl
theorem cz44 : Tryz.prog.cellsOf 44 = 1 := by kernel_rfl
theorem tk44 : tyOk Tryz.prog 44 = true := by kernel_rfl
theorem ag44 : isAg Tryz.prog 44 = false := by kernel_rfl
theorem by44 : Tryz.prog.bytesOf 44 = 8 := by kernel_rfl
theorem se44 : slEl Tryz.prog 44 = none := by kernel_rfl
theorem ae44 : arEl Tryz.prog 44 = none := by kernel_rfl
theorem if44 : isFn Tryz.prog 44 = true := by kernel_rfl
theorem zz44 : zc Tryz.prog 44 = [V.nilf] := by kernel_rfl
theorem cz45 : Tryz.prog.cellsOf 45 = 4 := by kernel_rfl
theorem tk45 : tyOk Tryz.prog 45 = true := by kernel_rfl
theorem ag45 : isAg Tryz.prog 45 = true := by kernel_rfl
theorem by45 : Tryz.prog.bytesOf 45 = 32 := by kernel_rfl
theorem se45 : slEl Tryz.prog 45 = none := by kernel_rfl
theorem ae45 : arEl Tryz.prog 45 = none := by kernel_rfl
theorem st45 : isSt Tryz.prog 45 = true := by kernel_rfl
theorem fo45 : fldsOk Tryz.prog 45 = true := by kernel_rfl
theorem fd45_0 : fld Tryz.prog 45 0 = some (0, 3) := by kernel_rfl
theorem fd45_1 : fld Tryz.prog 45 1 = some (1, 3) := by kernel_rfl
theorem fd45_2 : fld Tryz.prog 45 2 = some (2, 3) := by kernel_rfl
theorem fd45_3 : fld Tryz.prog 45 3 = some (3, 4) := by kernel_rfl
theorem lt45 : leafTs Tryz.prog 45 = [3, 3, 3, 4] := by kernel_rfl
theorem fe45 : flatEq Tryz.prog 45 = true := by kernel_rfl
theorem zz45 : zc Tryz.prog 45 = [V.int .i64 0, V.int .i64 0, V.int .i64 0, V.bool false] := by kernel_rfl
theorem cz46 : Tryz.prog.cellsOf 46 = 4 := by kernel_rfl
theorem tk46 : tyOk Tryz.prog 46 = true := by kernel_rfl
theorem ag46 : isAg Tryz.prog 46 = true := by kernel_rfl
theorem by46 : Tryz.prog.bytesOf 46 = 32 := by kernel_rfl
theorem se46 : slEl Tryz.prog 46 = none := by kernel_rfl
theorem ae46 : arEl Tryz.prog 46 = none := by kernel_rfl
theorem st46 : isSt Tryz.prog 46 = true := by kernel_rfl
theorem fo46 : fldsOk Tryz.prog 46 = true := by kernel_rfl
theorem fd46_0 : fld Tryz.prog 46 0 = some (0, 3) := by kernel_rfl
theorem fd46_1 : fld Tryz.prog 46 1 = some (1, 3) := by kernel_rfl
theorem fd46_2 : fld Tryz.prog 46 2 = some (2, 3) := by kernel_rfl
theorem fd46_3 : fld Tryz.prog 46 3 = some (3, 4) := by kernel_rfl
theorem lt46 : leafTs Tryz.prog 46 = [3, 3, 3, 4] := by kernel_rfl
theorem fe46 : flatEq Tryz.prog 46 = true := by kernel_rfl
theorem zz46 : zc Tryz.prog 46 = [V.int .i64 0, V.int .i64 0, V.int .i64 0, V.bool false] := by kernel_rfl
theorem cz47 : Tryz.prog.cellsOf 47 = 1 := by kernel_rfl
theorem tk47 : tyOk Tryz.prog 47 = true := by kernel_rfl
theorem ag47 : isAg Tryz.prog 47 = false := by kernel_rfl
theorem by47 : Tryz.prog.bytesOf 47 = 24 := by kernel_rfl
theorem se47 : slEl Tryz.prog 47 = some 51 := by kernel_rfl
theorem ae47 : arEl Tryz.prog 47 = none := by kernel_rfl
theorem zz47 : zc Tryz.prog 47 = [V.nil] := by kernel_rfl
theorem cz49 : Tryz.prog.cellsOf 49 = 1 := by kernel_rfl
theorem tk49 : tyOk Tryz.prog 49 = true := by kernel_rfl
theorem ag49 : isAg Tryz.prog 49 = false := by kernel_rfl
theorem by49 : Tryz.prog.bytesOf 49 = 8 := by kernel_rfl
theorem se49 : slEl Tryz.prog 49 = none := by kernel_rfl
theorem ae49 : arEl Tryz.prog 49 = none := by kernel_rfl
theorem if49 : isFn Tryz.prog 49 = true := by kernel_rfl
theorem zz49 : zc Tryz.prog 49 = [V.nilf] := by kernel_rfl
theorem cz50 : Tryz.prog.cellsOf 50 = 6 := by kernel_rfl
theorem tk50 : tyOk Tryz.prog 50 = true := by kernel_rfl
theorem ag50 : isAg Tryz.prog 50 = true := by kernel_rfl
theorem by50 : Tryz.prog.bytesOf 50 = 48 := by kernel_rfl
theorem se50 : slEl Tryz.prog 50 = none := by kernel_rfl
theorem ae50 : arEl Tryz.prog 50 = none := by kernel_rfl
theorem st50 : isSt Tryz.prog 50 = true := by kernel_rfl
theorem fo50 : fldsOk Tryz.prog 50 = true := by kernel_rfl
theorem fd50_0 : fld Tryz.prog 50 0 = some (0, 3) := by kernel_rfl
theorem fd50_1 : fld Tryz.prog 50 1 = some (1, 3) := by kernel_rfl
theorem fd50_2 : fld Tryz.prog 50 2 = some (2, 3) := by kernel_rfl
theorem fd50_3 : fld Tryz.prog 50 3 = some (3, 3) := by kernel_rfl
theorem fd50_4 : fld Tryz.prog 50 4 = some (4, 3) := by kernel_rfl
theorem fd50_5 : fld Tryz.prog 50 5 = some (5, 3) := by kernel_rfl
theorem lt50 : leafTs Tryz.prog 50 = [3, 3, 3, 3, 3, 3] := by kernel_rfl
theorem fe50 : flatEq Tryz.prog 50 = true := by kernel_rfl
theorem zz50 : zc Tryz.prog 50 = [V.int .i64 0, V.int .i64 0, V.int .i64 0, V.int .i64 0, V.int .i64 0, V.int .i64 0] := by kernel_rfl
theorem cz51 : Tryz.prog.cellsOf 51 = 6 := by kernel_rfl
theorem tk51 : tyOk Tryz.prog 51 = true := by kernel_rfl
theorem ag51 : isAg Tryz.prog 51 = true := by kernel_rfl
theorem by51 : Tryz.prog.bytesOf 51 = 48 := by kernel_rfl
theorem se51 : slEl Tryz.prog 51 = none := by kernel_rfl
theorem ae51 : arEl Tryz.prog 51 = none := by kernel_rfl
theorem st51 : isSt Tryz.prog 51 = true := by kernel_rfl
theorem fo51 : fldsOk Tryz.prog 51 = true := by kernel_rfl
theorem fd51_0 : fld Tryz.prog 51 0 = some (0, 3) := by kernel_rfl
theorem fd51_1 : fld Tryz.prog 51 1 = some (1, 3) := by kernel_rfl
theorem fd51_2 : fld Tryz.prog 51 2 = some (2, 3) := by kernel_rfl
theorem fd51_3 : fld Tryz.prog 51 3 = some (3, 3) := by kernel_rfl
theorem fd51_4 : fld Tryz.prog 51 4 = some (4, 3) := by kernel_rfl
theorem fd51_5 : fld Tryz.prog 51 5 = some (5, 3) := by kernel_rfl
theorem lt51 : leafTs Tryz.prog 51 = [3, 3, 3, 3, 3, 3] := by kernel_rfl
theorem fe51 : flatEq Tryz.prog 51 = true := by kernel_rfl
theorem zz51 : zc Tryz.prog 51 = [V.int .i64 0, V.int .i64 0, V.int .i64 0, V.int .i64 0, V.int .i64 0, V.int .i64 0] := by kernel_rfl
theorem cz52 : Tryz.prog.cellsOf 52 = 1 := by kernel_rfl
theorem tk52 : tyOk Tryz.prog 52 = true := by kernel_rfl
theorem ag52 : isAg Tryz.prog 52 = false := by kernel_rfl
theorem by52 : Tryz.prog.bytesOf 52 = 8 := by kernel_rfl
theorem se52 : slEl Tryz.prog 52 = none := by kernel_rfl
theorem ae52 : arEl Tryz.prog 52 = none := by kernel_rfl
theorem if52 : isFn Tryz.prog 52 = true := by kernel_rfl
theorem zz52 : zc Tryz.prog 52 = [V.nilf] := by kernel_rfl
theorem cz53 : Tryz.prog.cellsOf 53 = 3 := by kernel_rfl
theorem tk53 : tyOk Tryz.prog 53 = true := by kernel_rfl
theorem ag53 : isAg Tryz.prog 53 = true := by kernel_rfl
theorem by53 : Tryz.prog.bytesOf 53 = 56 := by kernel_rfl
theorem se53 : slEl Tryz.prog 53 = none := by kernel_rfl
theorem ae53 : arEl Tryz.prog 53 = none := by kernel_rfl
theorem st53 : isSt Tryz.prog 53 = true := by kernel_rfl
theorem fo53 : fldsOk Tryz.prog 53 = true := by kernel_rfl
theorem fd53_0 : fld Tryz.prog 53 0 = some (0, 3) := by kernel_rfl
theorem fd53_1 : fld Tryz.prog 53 1 = some (1, 33) := by kernel_rfl
theorem fd53_2 : fld Tryz.prog 53 2 = some (2, 33) := by kernel_rfl
theorem zz53 : zc Tryz.prog 53 = [V.int .i64 0, V.nil, V.nil] := by kernel_rfl
theorem cz54 : Tryz.prog.cellsOf 54 = 3 := by kernel_rfl
theorem tk54 : tyOk Tryz.prog 54 = true := by kernel_rfl
theorem ag54 : isAg Tryz.prog 54 = true := by kernel_rfl
theorem by54 : Tryz.prog.bytesOf 54 = 56 := by kernel_rfl
theorem se54 : slEl Tryz.prog 54 = none := by kernel_rfl
theorem ae54 : arEl Tryz.prog 54 = none := by kernel_rfl
theorem st54 : isSt Tryz.prog 54 = true := by kernel_rfl
theorem fo54 : fldsOk Tryz.prog 54 = true := by kernel_rfl
theorem fd54_0 : fld Tryz.prog 54 0 = some (0, 3) := by kernel_rfl
theorem fd54_1 : fld Tryz.prog 54 1 = some (1, 33) := by kernel_rfl
theorem fd54_2 : fld Tryz.prog 54 2 = some (2, 33) := by kernel_rfl
theorem zz54 : zc Tryz.prog 54 = [V.int .i64 0, V.nil, V.nil] := by kernel_rfl
theorem cz55 : Tryz.prog.cellsOf 55 = 1 := by kernel_rfl
theorem tk55 : tyOk Tryz.prog 55 = true := by kernel_rfl
theorem ag55 : isAg Tryz.prog 55 = false := by kernel_rfl
theorem by55 : Tryz.prog.bytesOf 55 = 8 := by kernel_rfl
theorem se55 : slEl Tryz.prog 55 = none := by kernel_rfl
theorem ae55 : arEl Tryz.prog 55 = none := by kernel_rfl
theorem if55 : isFn Tryz.prog 55 = true := by kernel_rfl
theorem zz55 : zc Tryz.prog 55 = [V.nilf] := by kernel_rfl
theorem cz56 : Tryz.prog.cellsOf 56 = 1 := by kernel_rfl
theorem tk56 : tyOk Tryz.prog 56 = true := by kernel_rfl
theorem ag56 : isAg Tryz.prog 56 = false := by kernel_rfl
theorem by56 : Tryz.prog.bytesOf 56 = 8 := by kernel_rfl
theorem se56 : slEl Tryz.prog 56 = none := by kernel_rfl
theorem ae56 : arEl Tryz.prog 56 = none := by kernel_rfl
theorem if56 : isFn Tryz.prog 56 = true := by kernel_rfl
theorem zz56 : zc Tryz.prog 56 = [V.nilf] := by kernel_rfl
theorem cz57 : Tryz.prog.cellsOf 57 = 1 := by kernel_rfl
theorem tk57 : tyOk Tryz.prog 57 = true := by kernel_rfl
theorem ag57 : isAg Tryz.prog 57 = false := by kernel_rfl
theorem by57 : Tryz.prog.bytesOf 57 = 8 := by kernel_rfl
theorem se57 : slEl Tryz.prog 57 = none := by kernel_rfl
theorem ae57 : arEl Tryz.prog 57 = none := by kernel_rfl
theorem if57 : isFn Tryz.prog 57 = true := by kernel_rfl
theorem zz57 : zc Tryz.prog 57 = [V.nilf] := by kernel_rfl
theorem cz58 : Tryz.prog.cellsOf 58 = 3 := by kernel_rfl
theorem tk58 : tyOk Tryz.prog 58 = true := by kernel_rfl
theorem ag58 : isAg Tryz.prog 58 = true := by kernel_rfl
theorem by58 : Tryz.prog.bytesOf 58 = 72 := by kernel_rfl
theorem se58 : slEl Tryz.prog 58 = none := by kernel_rfl
theorem ae58 : arEl Tryz.prog 58 = none := by kernel_rfl
theorem st58 : isSt Tryz.prog 58 = true := by kernel_rfl
theorem fo58 : fldsOk Tryz.prog 58 = true := by kernel_rfl
theorem fd58_0 : fld Tryz.prog 58 0 = some (0, 37) := by kernel_rfl
theorem fd58_1 : fld Tryz.prog 58 1 = some (1, 37) := by kernel_rfl
theorem fd58_2 : fld Tryz.prog 58 2 = some (2, 30) := by kernel_rfl
theorem zz58 : zc Tryz.prog 58 = [V.nil, V.nil, V.nil] := by kernel_rfl
theorem cz59 : Tryz.prog.cellsOf 59 = 3 := by kernel_rfl
theorem tk59 : tyOk Tryz.prog 59 = true := by kernel_rfl
theorem ag59 : isAg Tryz.prog 59 = true := by kernel_rfl
theorem by59 : Tryz.prog.bytesOf 59 = 72 := by kernel_rfl
theorem se59 : slEl Tryz.prog 59 = none := by kernel_rfl
theorem ae59 : arEl Tryz.prog 59 = none := by kernel_rfl
theorem st59 : isSt Tryz.prog 59 = true := by kernel_rfl
theorem fo59 : fldsOk Tryz.prog 59 = true := by kernel_rfl
theorem fd59_0 : fld Tryz.prog 59 0 = some (0, 37) := by kernel_rfl
theorem fd59_1 : fld Tryz.prog 59 1 = some (1, 37) := by kernel_rfl
theorem fd59_2 : fld Tryz.prog 59 2 = some (2, 30) := by kernel_rfl
theorem zz59 : zc Tryz.prog 59 = [V.nil, V.nil, V.nil] := by kernel_rfl
theorem cz60 : Tryz.prog.cellsOf 60 = 2 := by kernel_rfl
theorem tk60 : tyOk Tryz.prog 60 = true := by kernel_rfl
theorem ag60 : isAg Tryz.prog 60 = true := by kernel_rfl
theorem by60 : Tryz.prog.bytesOf 60 = 16 := by kernel_rfl
theorem se60 : slEl Tryz.prog 60 = none := by kernel_rfl
theorem ae60 : arEl Tryz.prog 60 = none := by kernel_rfl
theorem st60 : isSt Tryz.prog 60 = true := by kernel_rfl
theorem fo60 : fldsOk Tryz.prog 60 = true := by kernel_rfl
theorem fd60_0 : fld Tryz.prog 60 0 = some (0, 3) := by kernel_rfl
theorem fd60_1 : fld Tryz.prog 60 1 = some (1, 3) := by kernel_rfl
theorem lt60 : leafTs Tryz.prog 60 = [3, 3] := by kernel_rfl
theorem fe60 : flatEq Tryz.prog 60 = true := by kernel_rfl
theorem zz60 : zc Tryz.prog 60 = [V.int .i64 0, V.int .i64 0] := by kernel_rfl
theorem cz61 : Tryz.prog.cellsOf 61 = 2 := by kernel_rfl
theorem tk61 : tyOk Tryz.prog 61 = true := by kernel_rfl
theorem ag61 : isAg Tryz.prog 61 = true := by kernel_rfl
theorem by61 : Tryz.prog.bytesOf 61 = 16 := by kernel_rfl
theorem se61 : slEl Tryz.prog 61 = none := by kernel_rfl
theorem ae61 : arEl Tryz.prog 61 = none := by kernel_rfl
theorem st61 : isSt Tryz.prog 61 = true := by kernel_rfl
theorem fo61 : fldsOk Tryz.prog 61 = true := by kernel_rfl
theorem fd61_0 : fld Tryz.prog 61 0 = some (0, 3) := by kernel_rfl
theorem fd61_1 : fld Tryz.prog 61 1 = some (1, 3) := by kernel_rfl
theorem lt61 : leafTs Tryz.prog 61 = [3, 3] := by kernel_rfl
theorem fe61 : flatEq Tryz.prog 61 = true := by kernel_rfl
theorem zz61 : zc Tryz.prog 61 = [V.int .i64 0, V.int .i64 0] := by kernel_rfl
theorem cz63 : Tryz.prog.cellsOf 63 = 1 := by kernel_rfl
theorem tk63 : tyOk Tryz.prog 63 = true := by kernel_rfl
theorem ag63 : isAg Tryz.prog 63 = false := by kernel_rfl
theorem by63 : Tryz.prog.bytesOf 63 = 8 := by kernel_rfl
theorem se63 : slEl Tryz.prog 63 = none := by kernel_rfl
theorem ae63 : arEl Tryz.prog 63 = none := by kernel_rfl
theorem if63 : isFn Tryz.prog 63 = true := by kernel_rfl
theorem zz63 : zc Tryz.prog 63 = [V.nilf] := by kernel_rfl
theorem cz64 : Tryz.prog.cellsOf 64 = 1 := by kernel_rfl
theorem tk64 : tyOk Tryz.prog 64 = true := by kernel_rfl
theorem ag64 : isAg Tryz.prog 64 = false := by kernel_rfl
theorem by64 : Tryz.prog.bytesOf 64 = 8 := by kernel_rfl
theorem se64 : slEl Tryz.prog 64 = none := by kernel_rfl
theorem ae64 : arEl Tryz.prog 64 = none := by kernel_rfl
theorem if64 : isFn Tryz.prog 64 = true := by kernel_rfl
theorem zz64 : zc Tryz.prog 64 = [V.nilf] := by kernel_rfl
theorem cz65 : Tryz.prog.cellsOf 65 = 1 := by kernel_rfl
theorem tk65 : tyOk Tryz.prog 65 = true := by kernel_rfl
theorem ag65 : isAg Tryz.prog 65 = false := by kernel_rfl
theorem by65 : Tryz.prog.bytesOf 65 = 8 := by kernel_rfl
theorem se65 : slEl Tryz.prog 65 = none := by kernel_rfl
theorem ae65 : arEl Tryz.prog 65 = none := by kernel_rfl
theorem if65 : isFn Tryz.prog 65 = true := by kernel_rfl
theorem zz65 : zc Tryz.prog 65 = [V.nilf] := by kernel_rfl
theorem cz66 : Tryz.prog.cellsOf 66 = 1 := by kernel_rfl
theorem tk66 : tyOk Tryz.prog 66 = true := by kernel_rfl
theorem ag66 : isAg Tryz.prog 66 = false := by kernel_rfl
theorem by66 : Tryz.prog.bytesOf 66 = 8 := by kernel_rfl
theorem se66 : slEl Tryz.prog 66 = none := by kernel_rfl
theorem ae66 : arEl Tryz.prog 66 = none := by kernel_rfl
theorem ip66 : isPtr Tryz.prog 66 = true := by kernel_rfl
theorem zz66 : zc Tryz.prog 66 = [V.nilp] := by kernel_rfl
theorem cz68 : Tryz.prog.cellsOf 68 = 1 := by kernel_rfl
theorem tk68 : tyOk Tryz.prog 68 = true := by kernel_rfl
theorem ag68 : isAg Tryz.prog 68 = false := by kernel_rfl
theorem by68 : Tryz.prog.bytesOf 68 = 8 := by kernel_rfl
theorem se68 : slEl Tryz.prog 68 = none := by kernel_rfl
theorem ae68 : arEl Tryz.prog 68 = none := by kernel_rfl
theorem if68 : isFn Tryz.prog 68 = true := by kernel_rfl
theorem zz68 : zc Tryz.prog 68 = [V.nilf] := by kernel_rfl
theorem cz69 : Tryz.prog.cellsOf 69 = 1 := by kernel_rfl
theorem tk69 : tyOk Tryz.prog 69 = true := by kernel_rfl
theorem ag69 : isAg Tryz.prog 69 = false := by kernel_rfl
theorem by69 : Tryz.prog.bytesOf 69 = 24 := by kernel_rfl
theorem se69 : slEl Tryz.prog 69 = some 87 := by kernel_rfl
theorem ae69 : arEl Tryz.prog 69 = none := by kernel_rfl
theorem zz69 : zc Tryz.prog 69 = [V.nil] := by kernel_rfl
theorem cz70 : Tryz.prog.cellsOf 70 = 1 := by kernel_rfl
theorem tk70 : tyOk Tryz.prog 70 = true := by kernel_rfl
theorem ag70 : isAg Tryz.prog 70 = false := by kernel_rfl
theorem by70 : Tryz.prog.bytesOf 70 = 24 := by kernel_rfl
theorem se70 : slEl Tryz.prog 70 = some 4 := by kernel_rfl
theorem ae70 : arEl Tryz.prog 70 = none := by kernel_rfl
theorem zz70 : zc Tryz.prog 70 = [V.nil] := by kernel_rfl
theorem cz71 : Tryz.prog.cellsOf 71 = 1 := by kernel_rfl
theorem tk71 : tyOk Tryz.prog 71 = true := by kernel_rfl
theorem ag71 : isAg Tryz.prog 71 = false := by kernel_rfl
theorem by71 : Tryz.prog.bytesOf 71 = 24 := by kernel_rfl
theorem se71 : slEl Tryz.prog 71 = some 83 := by kernel_rfl
theorem ae71 : arEl Tryz.prog 71 = none := by kernel_rfl
theorem zz71 : zc Tryz.prog 71 = [V.nil] := by kernel_rfl
theorem cz72 : Tryz.prog.cellsOf 72 = 1 := by kernel_rfl
theorem tk72 : tyOk Tryz.prog 72 = true := by kernel_rfl
theorem ag72 : isAg Tryz.prog 72 = false := by kernel_rfl
theorem by72 : Tryz.prog.bytesOf 72 = 24 := by kernel_rfl
theorem se72 : slEl Tryz.prog 72 = some 47 := by kernel_rfl
theorem ae72 : arEl Tryz.prog 72 = none := by kernel_rfl
theorem zz72 : zc Tryz.prog 72 = [V.nil] := by kernel_rfl
theorem cz73 : Tryz.prog.cellsOf 73 = 9 := by kernel_rfl
theorem tk73 : tyOk Tryz.prog 73 = true := by kernel_rfl
theorem ag73 : isAg Tryz.prog 73 = true := by kernel_rfl
theorem by73 : Tryz.prog.bytesOf 73 = 184 := by kernel_rfl
theorem se73 : slEl Tryz.prog 73 = none := by kernel_rfl
theorem ae73 : arEl Tryz.prog 73 = none := by kernel_rfl
theorem st73 : isSt Tryz.prog 73 = true := by kernel_rfl
theorem fo73 : fldsOk Tryz.prog 73 = true := by kernel_rfl
theorem fd73_0 : fld Tryz.prog 73 0 = some (0, 26) := by kernel_rfl
theorem fd73_1 : fld Tryz.prog 73 1 = some (4, 69) := by kernel_rfl
theorem fd73_2 : fld Tryz.prog 73 2 = some (5, 70) := by kernel_rfl
theorem fd73_3 : fld Tryz.prog 73 3 = some (6, 71) := by kernel_rfl
theorem fd73_4 : fld Tryz.prog 73 4 = some (7, 3) := by kernel_rfl
theorem fd73_5 : fld Tryz.prog 73 5 = some (8, 72) := by kernel_rfl
theorem zz73 : zc Tryz.prog 73 = [V.nil, V.nil, V.int .i64 0, V.nil, V.nil, V.nil, V.nil, V.int .i64 0, V.nil] := by kernel_rfl
theorem cz74 : Tryz.prog.cellsOf 74 = 9 := by kernel_rfl
theorem tk74 : tyOk Tryz.prog 74 = true := by kernel_rfl
theorem ag74 : isAg Tryz.prog 74 = true := by kernel_rfl
theorem by74 : Tryz.prog.bytesOf 74 = 184 := by kernel_rfl
theorem se74 : slEl Tryz.prog 74 = none := by kernel_rfl
theorem ae74 : arEl Tryz.prog 74 = none := by kernel_rfl
theorem st74 : isSt Tryz.prog 74 = true := by kernel_rfl
theorem fo74 : fldsOk Tryz.prog 74 = true := by kernel_rfl
theorem fd74_0 : fld Tryz.prog 74 0 = some (0, 26) := by kernel_rfl
theorem fd74_1 : fld Tryz.prog 74 1 = some (4, 69) := by kernel_rfl
theorem fd74_2 : fld Tryz.prog 74 2 = some (5, 70) := by kernel_rfl
theorem fd74_3 : fld Tryz.prog 74 3 = some (6, 71) := by kernel_rfl
theorem fd74_4 : fld Tryz.prog 74 4 = some (7, 3) := by kernel_rfl
theorem fd74_5 : fld Tryz.prog 74 5 = some (8, 72) := by kernel_rfl
theorem zz74 : zc Tryz.prog 74 = [V.nil, V.nil, V.int .i64 0, V.nil, V.nil, V.nil, V.nil, V.int .i64 0, V.nil] := by kernel_rfl
theorem cz75 : Tryz.prog.cellsOf 75 = 3 := by kernel_rfl
theorem tk75 : tyOk Tryz.prog 75 = true := by kernel_rfl
theorem ag75 : isAg Tryz.prog 75 = true := by kernel_rfl
theorem by75 : Tryz.prog.bytesOf 75 = 24 := by kernel_rfl
theorem se75 : slEl Tryz.prog 75 = none := by kernel_rfl
theorem ae75 : arEl Tryz.prog 75 = none := by kernel_rfl
theorem st75 : isSt Tryz.prog 75 = true := by kernel_rfl
theorem fo75 : fldsOk Tryz.prog 75 = true := by kernel_rfl
theorem fd75_0 : fld Tryz.prog 75 0 = some (0, 3) := by kernel_rfl
theorem fd75_1 : fld Tryz.prog 75 1 = some (1, 3) := by kernel_rfl
theorem fd75_2 : fld Tryz.prog 75 2 = some (2, 3) := by kernel_rfl
theorem lt75 : leafTs Tryz.prog 75 = [3, 3, 3] := by kernel_rfl
theorem fe75 : flatEq Tryz.prog 75 = true := by kernel_rfl
theorem zz75 : zc Tryz.prog 75 = [V.int .i64 0, V.int .i64 0, V.int .i64 0] := by kernel_rfl
theorem cz76 : Tryz.prog.cellsOf 76 = 3 := by kernel_rfl
theorem tk76 : tyOk Tryz.prog 76 = true := by kernel_rfl
theorem ag76 : isAg Tryz.prog 76 = true := by kernel_rfl
theorem by76 : Tryz.prog.bytesOf 76 = 24 := by kernel_rfl
theorem se76 : slEl Tryz.prog 76 = none := by kernel_rfl
theorem ae76 : arEl Tryz.prog 76 = none := by kernel_rfl
theorem st76 : isSt Tryz.prog 76 = true := by kernel_rfl
theorem fo76 : fldsOk Tryz.prog 76 = true := by kernel_rfl
theorem fd76_0 : fld Tryz.prog 76 0 = some (0, 3) := by kernel_rfl
theorem fd76_1 : fld Tryz.prog 76 1 = some (1, 3) := by kernel_rfl
theorem fd76_2 : fld Tryz.prog 76 2 = some (2, 3) := by kernel_rfl
theorem lt76 : leafTs Tryz.prog 76 = [3, 3, 3] := by kernel_rfl
theorem fe76 : flatEq Tryz.prog 76 = true := by kernel_rfl
theorem zz76 : zc Tryz.prog 76 = [V.int .i64 0, V.int .i64 0, V.int .i64 0] := by kernel_rfl
theorem cz77 : Tryz.prog.cellsOf 77 = 1 := by kernel_rfl
theorem tk77 : tyOk Tryz.prog 77 = true := by kernel_rfl
theorem ag77 : isAg Tryz.prog 77 = false := by kernel_rfl
theorem by77 : Tryz.prog.bytesOf 77 = 8 := by kernel_rfl
theorem se77 : slEl Tryz.prog 77 = none := by kernel_rfl
theorem ae77 : arEl Tryz.prog 77 = none := by kernel_rfl
theorem if77 : isFn Tryz.prog 77 = true := by kernel_rfl
theorem zz77 : zc Tryz.prog 77 = [V.nilf] := by kernel_rfl
theorem cz78 : Tryz.prog.cellsOf 78 = 1 := by kernel_rfl
theorem tk78 : tyOk Tryz.prog 78 = true := by kernel_rfl
theorem ag78 : isAg Tryz.prog 78 = false := by kernel_rfl
theorem by78 : Tryz.prog.bytesOf 78 = 8 := by kernel_rfl
theorem se78 : slEl Tryz.prog 78 = none := by kernel_rfl
theorem ae78 : arEl Tryz.prog 78 = none := by kernel_rfl
theorem if78 : isFn Tryz.prog 78 = true := by kernel_rfl
theorem zz78 : zc Tryz.prog 78 = [V.nilf] := by kernel_rfl
theorem cz79 : Tryz.prog.cellsOf 79 = 1 := by kernel_rfl
theorem tk79 : tyOk Tryz.prog 79 = true := by kernel_rfl
theorem ag79 : isAg Tryz.prog 79 = false := by kernel_rfl
theorem by79 : Tryz.prog.bytesOf 79 = 8 := by kernel_rfl
theorem se79 : slEl Tryz.prog 79 = none := by kernel_rfl
theorem ae79 : arEl Tryz.prog 79 = none := by kernel_rfl
theorem if79 : isFn Tryz.prog 79 = true := by kernel_rfl
theorem zz79 : zc Tryz.prog 79 = [V.nilf] := by kernel_rfl
theorem cz81 : Tryz.prog.cellsOf 81 = 1 := by kernel_rfl
theorem tk81 : tyOk Tryz.prog 81 = true := by kernel_rfl
theorem ag81 : isAg Tryz.prog 81 = false := by kernel_rfl
theorem by81 : Tryz.prog.bytesOf 81 = 8 := by kernel_rfl
theorem se81 : slEl Tryz.prog 81 = none := by kernel_rfl
theorem ae81 : arEl Tryz.prog 81 = none := by kernel_rfl
theorem if81 : isFn Tryz.prog 81 = true := by kernel_rfl
theorem zz81 : zc Tryz.prog 81 = [V.nilf] := by kernel_rfl
theorem cz82 : Tryz.prog.cellsOf 82 = 1 := by kernel_rfl
theorem tk82 : tyOk Tryz.prog 82 = true := by kernel_rfl
theorem ag82 : isAg Tryz.prog 82 = false := by kernel_rfl
theorem by82 : Tryz.prog.bytesOf 82 = 8 := by kernel_rfl
theorem se82 : slEl Tryz.prog 82 = none := by kernel_rfl
theorem ae82 : arEl Tryz.prog 82 = none := by kernel_rfl
theorem if82 : isFn Tryz.prog 82 = true := by kernel_rfl
theorem zz82 : zc Tryz.prog 82 = [V.nilf] := by kernel_rfl
theorem cz83 : Tryz.prog.cellsOf 83 = 2 := by kernel_rfl
theorem tk83 : tyOk Tryz.prog 83 = true := by kernel_rfl
theorem ag83 : isAg Tryz.prog 83 = true := by kernel_rfl
theorem by83 : Tryz.prog.bytesOf 83 = 16 := by kernel_rfl
theorem se83 : slEl Tryz.prog 83 = none := by kernel_rfl
theorem ae83 : arEl Tryz.prog 83 = some (2, 3) := by kernel_rfl
theorem st83 : isSt Tryz.prog 83 = false := by kernel_rfl
theorem lt83 : leafTs Tryz.prog 83 = [3, 3] := by kernel_rfl
theorem fe83 : flatEq Tryz.prog 83 = true := by kernel_rfl
theorem zz83 : zc Tryz.prog 83 = [V.int .i64 0, V.int .i64 0] := by kernel_rfl
theorem cz84 : Tryz.prog.cellsOf 84 = 1 := by kernel_rfl
theorem tk84 : tyOk Tryz.prog 84 = true := by kernel_rfl
theorem ag84 : isAg Tryz.prog 84 = false := by kernel_rfl
theorem by84 : Tryz.prog.bytesOf 84 = 8 := by kernel_rfl
theorem se84 : slEl Tryz.prog 84 = none := by kernel_rfl
theorem ae84 : arEl Tryz.prog 84 = none := by kernel_rfl
theorem if84 : isFn Tryz.prog 84 = true := by kernel_rfl
theorem zz84 : zc Tryz.prog 84 = [V.nilf] := by kernel_rfl
theorem cz85 : Tryz.prog.cellsOf 85 = 1 := by kernel_rfl
theorem tk85 : tyOk Tryz.prog 85 = true := by kernel_rfl
theorem ag85 : isAg Tryz.prog 85 = false := by kernel_rfl
theorem by85 : Tryz.prog.bytesOf 85 = 8 := by kernel_rfl
theorem se85 : slEl Tryz.prog 85 = none := by kernel_rfl
theorem ae85 : arEl Tryz.prog 85 = none := by kernel_rfl
theorem if85 : isFn Tryz.prog 85 = true := by kernel_rfl
theorem zz85 : zc Tryz.prog 85 = [V.nilf] := by kernel_rfl
theorem cz86 : Tryz.prog.cellsOf 86 = 1 := by kernel_rfl
theorem tk86 : tyOk Tryz.prog 86 = true := by kernel_rfl
theorem ag86 : isAg Tryz.prog 86 = false := by kernel_rfl
theorem by86 : Tryz.prog.bytesOf 86 = 8 := by kernel_rfl
theorem se86 : slEl Tryz.prog 86 = none := by kernel_rfl
theorem ae86 : arEl Tryz.prog 86 = none := by kernel_rfl
theorem if86 : isFn Tryz.prog 86 = true := by kernel_rfl
theorem zz86 : zc Tryz.prog 86 = [V.nilf] := by kernel_rfl
theorem cz87 : Tryz.prog.cellsOf 87 = 1 := by kernel_rfl
theorem tk87 : tyOk Tryz.prog 87 = true := by kernel_rfl
theorem ag87 : isAg Tryz.prog 87 = false := by kernel_rfl
theorem by87 : Tryz.prog.bytesOf 87 = 8 := by kernel_rfl
theorem se87 : slEl Tryz.prog 87 = none := by kernel_rfl
theorem ae87 : arEl Tryz.prog 87 = none := by kernel_rfl
theorem ip87 : isPtr Tryz.prog 87 = true := by kernel_rfl
theorem zz87 : zc Tryz.prog 87 = [V.nilp] := by kernel_rfl
theorem cz88 : Tryz.prog.cellsOf 88 = 8 := by kernel_rfl
theorem tk88 : tyOk Tryz.prog 88 = true := by kernel_rfl
theorem ag88 : isAg Tryz.prog 88 = true := by kernel_rfl
theorem by88 : Tryz.prog.bytesOf 88 = 96 := by kernel_rfl
theorem se88 : slEl Tryz.prog 88 = none := by kernel_rfl
theorem ae88 : arEl Tryz.prog 88 = none := by kernel_rfl
theorem st88 : isSt Tryz.prog 88 = true := by kernel_rfl
theorem fo88 : fldsOk Tryz.prog 88 = true := by kernel_rfl
theorem fd88_0 : fld Tryz.prog 88 0 = some (0, 46) := by kernel_rfl
theorem fd88_1 : fld Tryz.prog 88 1 = some (4, 83) := by kernel_rfl
theorem fd88_2 : fld Tryz.prog 88 2 = some (6, 37) := by kernel_rfl
theorem fd88_3 : fld Tryz.prog 88 3 = some (7, 70) := by kernel_rfl
theorem zz88 : zc Tryz.prog 88 = [V.int .i64 0, V.int .i64 0, V.int .i64 0, V.bool false, V.int .i64 0, V.int .i64 0, V.nil, V.nil] := by kernel_rfl
theorem cz89 : Tryz.prog.cellsOf 89 = 8 := by kernel_rfl
theorem tk89 : tyOk Tryz.prog 89 = true := by kernel_rfl
theorem ag89 : isAg Tryz.prog 89 = true := by kernel_rfl
theorem by89 : Tryz.prog.bytesOf 89 = 96 := by kernel_rfl
theorem se89 : slEl Tryz.prog 89 = none := by kernel_rfl
theorem ae89 : arEl Tryz.prog 89 = none := by kernel_rfl
theorem st89 : isSt Tryz.prog 89 = true := by kernel_rfl
theorem fo89 : fldsOk Tryz.prog 89 = true := by kernel_rfl
theorem fd89_0 : fld Tryz.prog 89 0 = some (0, 46) := by kernel_rfl
theorem fd89_1 : fld Tryz.prog 89 1 = some (4, 83) := by kernel_rfl
theorem fd89_2 : fld Tryz.prog 89 2 = some (6, 37) := by kernel_rfl
theorem fd89_3 : fld Tryz.prog 89 3 = some (7, 70) := by kernel_rfl
theorem zz89 : zc Tryz.prog 89 = [V.int .i64 0, V.int .i64 0, V.int .i64 0, V.bool false, V.int .i64 0, V.int .i64 0, V.nil, V.nil] := by kernel_rfl
theorem cz90 : Tryz.prog.cellsOf 90 = 1 := by kernel_rfl
theorem tk90 : tyOk Tryz.prog 90 = true := by kernel_rfl
theorem ag90 : isAg Tryz.prog 90 = false := by kernel_rfl
theorem by90 : Tryz.prog.bytesOf 90 = 8 := by kernel_rfl
theorem se90 : slEl Tryz.prog 90 = none := by kernel_rfl
theorem ae90 : arEl Tryz.prog 90 = none := by kernel_rfl
theorem if90 : isFn Tryz.prog 90 = true := by kernel_rfl
theorem zz90 : zc Tryz.prog 90 = [V.nilf] := by kernel_rfl
theorem cz91 : Tryz.prog.cellsOf 91 = 1 := by kernel_rfl
theorem tk91 : tyOk Tryz.prog 91 = true := by kernel_rfl
theorem ag91 : isAg Tryz.prog 91 = false := by kernel_rfl
theorem by91 : Tryz.prog.bytesOf 91 = 8 := by kernel_rfl
theorem se91 : slEl Tryz.prog 91 = none := by kernel_rfl
theorem ae91 : arEl Tryz.prog 91 = none := by kernel_rfl
theorem if91 : isFn Tryz.prog 91 = true := by kernel_rfl
theorem zz91 : zc Tryz.prog 91 = [V.nilf] := by kernel_rfl
theorem cz93 : Tryz.prog.cellsOf 93 = 1 := by kernel_rfl
theorem tk93 : tyOk Tryz.prog 93 = true := by kernel_rfl
theorem ag93 : isAg Tryz.prog 93 = false := by kernel_rfl
theorem by93 : Tryz.prog.bytesOf 93 = 8 := by kernel_rfl
theorem se93 : slEl Tryz.prog 93 = none := by kernel_rfl
theorem ae93 : arEl Tryz.prog 93 = none := by kernel_rfl
theorem if93 : isFn Tryz.prog 93 = true := by kernel_rfl
theorem zz93 : zc Tryz.prog 93 = [V.nilf] := by kernel_rfl
theorem cz95 : Tryz.prog.cellsOf 95 = 1 := by kernel_rfl
theorem tk95 : tyOk Tryz.prog 95 = true := by kernel_rfl
theorem ag95 : isAg Tryz.prog 95 = false := by kernel_rfl
theorem by95 : Tryz.prog.bytesOf 95 = 8 := by kernel_rfl
theorem se95 : slEl Tryz.prog 95 = none := by kernel_rfl
theorem ae95 : arEl Tryz.prog 95 = none := by kernel_rfl
theorem if95 : isFn Tryz.prog 95 = true := by kernel_rfl
theorem zz95 : zc Tryz.prog 95 = [V.nilf] := by kernel_rfl
theorem cz96 : Tryz.prog.cellsOf 96 = 1 := by kernel_rfl
theorem tk96 : tyOk Tryz.prog 96 = true := by kernel_rfl
theorem ag96 : isAg Tryz.prog 96 = false := by kernel_rfl
theorem by96 : Tryz.prog.bytesOf 96 = 8 := by kernel_rfl
theorem se96 : slEl Tryz.prog 96 = none := by kernel_rfl
theorem ae96 : arEl Tryz.prog 96 = none := by kernel_rfl
theorem if96 : isFn Tryz.prog 96 = true := by kernel_rfl
theorem zz96 : zc Tryz.prog 96 = [V.nilf] := by kernel_rfl
theorem cz97 : Tryz.prog.cellsOf 97 = 1 := by kernel_rfl
theorem tk97 : tyOk Tryz.prog 97 = true := by kernel_rfl
theorem ag97 : isAg Tryz.prog 97 = false := by kernel_rfl
theorem by97 : Tryz.prog.bytesOf 97 = 8 := by kernel_rfl
theorem se97 : slEl Tryz.prog 97 = none := by kernel_rfl
theorem ae97 : arEl Tryz.prog 97 = none := by kernel_rfl
theorem if97 : isFn Tryz.prog 97 = true := by kernel_rfl
theorem zz97 : zc Tryz.prog 97 = [V.nilf] := by kernel_rfl
theorem cz98 : Tryz.prog.cellsOf 98 = 1 := by kernel_rfl
theorem tk98 : tyOk Tryz.prog 98 = true := by kernel_rfl
theorem ag98 : isAg Tryz.prog 98 = false := by kernel_rfl
theorem by98 : Tryz.prog.bytesOf 98 = 8 := by kernel_rfl
theorem se98 : slEl Tryz.prog 98 = none := by kernel_rfl
theorem ae98 : arEl Tryz.prog 98 = none := by kernel_rfl
theorem if98 : isFn Tryz.prog 98 = true := by kernel_rfl
theorem zz98 : zc Tryz.prog 98 = [V.nilf] := by kernel_rfl
theorem cz99 : Tryz.prog.cellsOf 99 = 1 := by kernel_rfl
theorem tk99 : tyOk Tryz.prog 99 = true := by kernel_rfl
theorem ag99 : isAg Tryz.prog 99 = false := by kernel_rfl
theorem by99 : Tryz.prog.bytesOf 99 = 24 := by kernel_rfl
theorem se99 : slEl Tryz.prog 99 = some 70 := by kernel_rfl
theorem ae99 : arEl Tryz.prog 99 = none := by kernel_rfl
theorem zz99 : zc Tryz.prog 99 = [V.nil] := by kernel_rfl
theorem cz100 : Tryz.prog.cellsOf 100 = 5 := by kernel_rfl
theorem tk100 : tyOk Tryz.prog 100 = true := by kernel_rfl
theorem ag100 : isAg Tryz.prog 100 = true := by kernel_rfl
theorem by100 : Tryz.prog.bytesOf 100 = 120 := by kernel_rfl
theorem se100 : slEl Tryz.prog 100 = none := by kernel_rfl
theorem ae100 : arEl Tryz.prog 100 = none := by kernel_rfl
theorem st100 : isSt Tryz.prog 100 = true := by kernel_rfl
theorem fo100 : fldsOk Tryz.prog 100 = true := by kernel_rfl
theorem fd100_0 : fld Tryz.prog 100 0 = some (0, 33) := by kernel_rfl
theorem fd100_1 : fld Tryz.prog 100 1 = some (1, 33) := by kernel_rfl
theorem fd100_2 : fld Tryz.prog 100 2 = some (2, 70) := by kernel_rfl
theorem fd100_3 : fld Tryz.prog 100 3 = some (3, 30) := by kernel_rfl
theorem fd100_4 : fld Tryz.prog 100 4 = some (4, 99) := by kernel_rfl
theorem zz100 : zc Tryz.prog 100 = [V.nil, V.nil, V.nil, V.nil, V.nil] := by kernel_rfl
theorem cz101 : Tryz.prog.cellsOf 101 = 5 := by kernel_rfl
theorem tk101 : tyOk Tryz.prog 101 = true := by kernel_rfl
theorem ag101 : isAg Tryz.prog 101 = true := by kernel_rfl
theorem by101 : Tryz.prog.bytesOf 101 = 120 := by kernel_rfl
theorem se101 : slEl Tryz.prog 101 = none := by kernel_rfl
theorem ae101 : arEl Tryz.prog 101 = none := by kernel_rfl
theorem st101 : isSt Tryz.prog 101 = true := by kernel_rfl
theorem fo101 : fldsOk Tryz.prog 101 = true := by kernel_rfl
theorem fd101_0 : fld Tryz.prog 101 0 = some (0, 33) := by kernel_rfl
theorem fd101_1 : fld Tryz.prog 101 1 = some (1, 33) := by kernel_rfl
theorem fd101_2 : fld Tryz.prog 101 2 = some (2, 70) := by kernel_rfl
theorem fd101_3 : fld Tryz.prog 101 3 = some (3, 30) := by kernel_rfl
theorem fd101_4 : fld Tryz.prog 101 4 = some (4, 99) := by kernel_rfl
theorem zz101 : zc Tryz.prog 101 = [V.nil, V.nil, V.nil, V.nil, V.nil] := by kernel_rfl
theorem cz102 : Tryz.prog.cellsOf 102 = 1 := by kernel_rfl
theorem tk102 : tyOk Tryz.prog 102 = true := by kernel_rfl
theorem ag102 : isAg Tryz.prog 102 = false := by kernel_rfl
theorem by102 : Tryz.prog.bytesOf 102 = 8 := by kernel_rfl
theorem se102 : slEl Tryz.prog 102 = none := by kernel_rfl
theorem ae102 : arEl Tryz.prog 102 = none := by kernel_rfl
theorem if102 : isFn Tryz.prog 102 = true := by kernel_rfl
theorem zz102 : zc Tryz.prog 102 = [V.nilf] := by kernel_rfl
theorem cz103 : Tryz.prog.cellsOf 103 = 1 := by kernel_rfl
theorem tk103 : tyOk Tryz.prog 103 = true := by kernel_rfl
theorem ag103 : isAg Tryz.prog 103 = false := by kernel_rfl
theorem by103 : Tryz.prog.bytesOf 103 = 8 := by kernel_rfl
theorem se103 : slEl Tryz.prog 103 = none := by kernel_rfl
theorem ae103 : arEl Tryz.prog 103 = none := by kernel_rfl
theorem if103 : isFn Tryz.prog 103 = true := by kernel_rfl
theorem zz103 : zc Tryz.prog 103 = [V.nilf] := by kernel_rfl
theorem cz104 : Tryz.prog.cellsOf 104 = 1 := by kernel_rfl
theorem tk104 : tyOk Tryz.prog 104 = true := by kernel_rfl
theorem ag104 : isAg Tryz.prog 104 = false := by kernel_rfl
theorem by104 : Tryz.prog.bytesOf 104 = 8 := by kernel_rfl
theorem se104 : slEl Tryz.prog 104 = none := by kernel_rfl
theorem ae104 : arEl Tryz.prog 104 = none := by kernel_rfl
theorem if104 : isFn Tryz.prog 104 = true := by kernel_rfl
theorem zz104 : zc Tryz.prog 104 = [V.nilf] := by kernel_rfl
theorem cz105 : Tryz.prog.cellsOf 105 = 2 := by kernel_rfl
theorem tk105 : tyOk Tryz.prog 105 = true := by kernel_rfl
theorem ag105 : isAg Tryz.prog 105 = true := by kernel_rfl
theorem by105 : Tryz.prog.bytesOf 105 = 16 := by kernel_rfl
theorem se105 : slEl Tryz.prog 105 = none := by kernel_rfl
theorem ae105 : arEl Tryz.prog 105 = none := by kernel_rfl
theorem st105 : isSt Tryz.prog 105 = true := by kernel_rfl
theorem fo105 : fldsOk Tryz.prog 105 = true := by kernel_rfl
theorem fd105_0 : fld Tryz.prog 105 0 = some (0, 3) := by kernel_rfl
theorem fd105_1 : fld Tryz.prog 105 1 = some (1, 3) := by kernel_rfl
theorem lt105 : leafTs Tryz.prog 105 = [3, 3] := by kernel_rfl
theorem fe105 : flatEq Tryz.prog 105 = true := by kernel_rfl
theorem zz105 : zc Tryz.prog 105 = [V.int .i64 0, V.int .i64 0] := by kernel_rfl
theorem cz106 : Tryz.prog.cellsOf 106 = 2 := by kernel_rfl
theorem tk106 : tyOk Tryz.prog 106 = true := by kernel_rfl
theorem ag106 : isAg Tryz.prog 106 = true := by kernel_rfl
theorem by106 : Tryz.prog.bytesOf 106 = 16 := by kernel_rfl
theorem se106 : slEl Tryz.prog 106 = none := by kernel_rfl
theorem ae106 : arEl Tryz.prog 106 = none := by kernel_rfl
theorem st106 : isSt Tryz.prog 106 = true := by kernel_rfl
theorem fo106 : fldsOk Tryz.prog 106 = true := by kernel_rfl
theorem fd106_0 : fld Tryz.prog 106 0 = some (0, 3) := by kernel_rfl
theorem fd106_1 : fld Tryz.prog 106 1 = some (1, 3) := by kernel_rfl
theorem lt106 : leafTs Tryz.prog 106 = [3, 3] := by kernel_rfl
theorem fe106 : flatEq Tryz.prog 106 = true := by kernel_rfl
theorem zz106 : zc Tryz.prog 106 = [V.int .i64 0, V.int .i64 0] := by kernel_rfl
theorem cz107 : Tryz.prog.cellsOf 107 = 4 := by kernel_rfl
theorem tk107 : tyOk Tryz.prog 107 = true := by kernel_rfl
theorem ag107 : isAg Tryz.prog 107 = true := by kernel_rfl
theorem by107 : Tryz.prog.bytesOf 107 = 32 := by kernel_rfl
theorem se107 : slEl Tryz.prog 107 = none := by kernel_rfl
theorem ae107 : arEl Tryz.prog 107 = none := by kernel_rfl
theorem st107 : isSt Tryz.prog 107 = true := by kernel_rfl
theorem fo107 : fldsOk Tryz.prog 107 = true := by kernel_rfl
theorem fd107_0 : fld Tryz.prog 107 0 = some (0, 3) := by kernel_rfl
theorem fd107_1 : fld Tryz.prog 107 1 = some (1, 3) := by kernel_rfl
theorem fd107_2 : fld Tryz.prog 107 2 = some (2, 106) := by kernel_rfl
theorem zz107 : zc Tryz.prog 107 = [V.int .i64 0, V.int .i64 0, V.int .i64 0, V.int .i64 0] := by kernel_rfl
theorem cz108 : Tryz.prog.cellsOf 108 = 4 := by kernel_rfl
theorem tk108 : tyOk Tryz.prog 108 = true := by kernel_rfl
theorem ag108 : isAg Tryz.prog 108 = true := by kernel_rfl
theorem by108 : Tryz.prog.bytesOf 108 = 32 := by kernel_rfl
theorem se108 : slEl Tryz.prog 108 = none := by kernel_rfl
theorem ae108 : arEl Tryz.prog 108 = none := by kernel_rfl
theorem st108 : isSt Tryz.prog 108 = true := by kernel_rfl
theorem fo108 : fldsOk Tryz.prog 108 = true := by kernel_rfl
theorem fd108_0 : fld Tryz.prog 108 0 = some (0, 3) := by kernel_rfl
theorem fd108_1 : fld Tryz.prog 108 1 = some (1, 3) := by kernel_rfl
theorem fd108_2 : fld Tryz.prog 108 2 = some (2, 106) := by kernel_rfl
theorem zz108 : zc Tryz.prog 108 = [V.int .i64 0, V.int .i64 0, V.int .i64 0, V.int .i64 0] := by kernel_rfl
theorem cz110 : Tryz.prog.cellsOf 110 = 1 := by kernel_rfl
theorem tk110 : tyOk Tryz.prog 110 = true := by kernel_rfl
theorem ag110 : isAg Tryz.prog 110 = false := by kernel_rfl
theorem by110 : Tryz.prog.bytesOf 110 = 8 := by kernel_rfl
theorem se110 : slEl Tryz.prog 110 = none := by kernel_rfl
theorem ae110 : arEl Tryz.prog 110 = none := by kernel_rfl
theorem if110 : isFn Tryz.prog 110 = true := by kernel_rfl
theorem zz110 : zc Tryz.prog 110 = [V.nilf] := by kernel_rfl
theorem cz111 : Tryz.prog.cellsOf 111 = 1 := by kernel_rfl
theorem tk111 : tyOk Tryz.prog 111 = true := by kernel_rfl
theorem ag111 : isAg Tryz.prog 111 = false := by kernel_rfl
theorem by111 : Tryz.prog.bytesOf 111 = 8 := by kernel_rfl
theorem se111 : slEl Tryz.prog 111 = none := by kernel_rfl
theorem ae111 : arEl Tryz.prog 111 = none := by kernel_rfl
theorem if111 : isFn Tryz.prog 111 = true := by kernel_rfl
theorem zz111 : zc Tryz.prog 111 = [V.nilf] := by kernel_rfl
theorem cz112 : Tryz.prog.cellsOf 112 = 1 := by kernel_rfl
theorem tk112 : tyOk Tryz.prog 112 = true := by kernel_rfl
theorem ag112 : isAg Tryz.prog 112 = false := by kernel_rfl
theorem by112 : Tryz.prog.bytesOf 112 = 8 := by kernel_rfl
theorem se112 : slEl Tryz.prog 112 = none := by kernel_rfl
theorem ae112 : arEl Tryz.prog 112 = none := by kernel_rfl
theorem if112 : isFn Tryz.prog 112 = true := by kernel_rfl
theorem zz112 : zc Tryz.prog 112 = [V.nilf] := by kernel_rfl
theorem cz113 : Tryz.prog.cellsOf 113 = 1 := by kernel_rfl
theorem tk113 : tyOk Tryz.prog 113 = true := by kernel_rfl
theorem ag113 : isAg Tryz.prog 113 = false := by kernel_rfl
theorem by113 : Tryz.prog.bytesOf 113 = 8 := by kernel_rfl
theorem se113 : slEl Tryz.prog 113 = none := by kernel_rfl
theorem ae113 : arEl Tryz.prog 113 = none := by kernel_rfl
theorem if113 : isFn Tryz.prog 113 = true := by kernel_rfl
theorem zz113 : zc Tryz.prog 113 = [V.nilf] := by kernel_rfl
theorem cz114 : Tryz.prog.cellsOf 114 = 1 := by kernel_rfl
theorem tk114 : tyOk Tryz.prog 114 = true := by kernel_rfl
theorem ag114 : isAg Tryz.prog 114 = false := by kernel_rfl
theorem by114 : Tryz.prog.bytesOf 114 = 8 := by kernel_rfl
theorem se114 : slEl Tryz.prog 114 = none := by kernel_rfl
theorem ae114 : arEl Tryz.prog 114 = none := by kernel_rfl
theorem if114 : isFn Tryz.prog 114 = true := by kernel_rfl
theorem zz114 : zc Tryz.prog 114 = [V.nilf] := by kernel_rfl
theorem cz115 : Tryz.prog.cellsOf 115 = 1 := by kernel_rfl
theorem tk115 : tyOk Tryz.prog 115 = true := by kernel_rfl
theorem ag115 : isAg Tryz.prog 115 = false := by kernel_rfl
theorem by115 : Tryz.prog.bytesOf 115 = 8 := by kernel_rfl
theorem se115 : slEl Tryz.prog 115 = none := by kernel_rfl
theorem ae115 : arEl Tryz.prog 115 = none := by kernel_rfl
theorem if115 : isFn Tryz.prog 115 = true := by kernel_rfl
theorem zz115 : zc Tryz.prog 115 = [V.nilf] := by kernel_rfl
theorem cz116 : Tryz.prog.cellsOf 116 = 1 := by kernel_rfl
theorem tk116 : tyOk Tryz.prog 116 = true := by kernel_rfl
theorem ag116 : isAg Tryz.prog 116 = false := by kernel_rfl
theorem by116 : Tryz.prog.bytesOf 116 = 8 := by kernel_rfl
theorem se116 : slEl Tryz.prog 116 = none := by kernel_rfl
theorem ae116 : arEl Tryz.prog 116 = none := by kernel_rfl
theorem if116 : isFn Tryz.prog 116 = true := by kernel_rfl
theorem zz116 : zc Tryz.prog 116 = [V.nilf] := by kernel_rfl
theorem cz117 : Tryz.prog.cellsOf 117 = 1 := by kernel_rfl
theorem tk117 : tyOk Tryz.prog 117 = true := by kernel_rfl
theorem ag117 : isAg Tryz.prog 117 = false := by kernel_rfl
theorem by117 : Tryz.prog.bytesOf 117 = 8 := by kernel_rfl
theorem se117 : slEl Tryz.prog 117 = none := by kernel_rfl
theorem ae117 : arEl Tryz.prog 117 = none := by kernel_rfl
theorem if117 : isFn Tryz.prog 117 = true := by kernel_rfl
theorem zz117 : zc Tryz.prog 117 = [V.nilf] := by kernel_rfl
theorem cz118 : Tryz.prog.cellsOf 118 = 4 := by kernel_rfl
theorem tk118 : tyOk Tryz.prog 118 = true := by kernel_rfl
theorem ag118 : isAg Tryz.prog 118 = true := by kernel_rfl
theorem by118 : Tryz.prog.bytesOf 118 = 32 := by kernel_rfl
theorem se118 : slEl Tryz.prog 118 = none := by kernel_rfl
theorem ae118 : arEl Tryz.prog 118 = none := by kernel_rfl
theorem st118 : isSt Tryz.prog 118 = true := by kernel_rfl
theorem fo118 : fldsOk Tryz.prog 118 = true := by kernel_rfl
theorem fd118_0 : fld Tryz.prog 118 0 = some (0, 3) := by kernel_rfl
theorem fd118_1 : fld Tryz.prog 118 1 = some (1, 3) := by kernel_rfl
theorem fd118_2 : fld Tryz.prog 118 2 = some (2, 3) := by kernel_rfl
theorem fd118_3 : fld Tryz.prog 118 3 = some (3, 3) := by kernel_rfl
theorem lt118 : leafTs Tryz.prog 118 = [3, 3, 3, 3] := by kernel_rfl
theorem fe118 : flatEq Tryz.prog 118 = true := by kernel_rfl
theorem zz118 : zc Tryz.prog 118 = [V.int .i64 0, V.int .i64 0, V.int .i64 0, V.int .i64 0] := by kernel_rfl
theorem cz119 : Tryz.prog.cellsOf 119 = 4 := by kernel_rfl
theorem tk119 : tyOk Tryz.prog 119 = true := by kernel_rfl
theorem ag119 : isAg Tryz.prog 119 = true := by kernel_rfl
theorem by119 : Tryz.prog.bytesOf 119 = 32 := by kernel_rfl
theorem se119 : slEl Tryz.prog 119 = none := by kernel_rfl
theorem ae119 : arEl Tryz.prog 119 = none := by kernel_rfl
theorem st119 : isSt Tryz.prog 119 = true := by kernel_rfl
theorem fo119 : fldsOk Tryz.prog 119 = true := by kernel_rfl
theorem fd119_0 : fld Tryz.prog 119 0 = some (0, 3) := by kernel_rfl
theorem fd119_1 : fld Tryz.prog 119 1 = some (1, 3) := by kernel_rfl
theorem fd119_2 : fld Tryz.prog 119 2 = some (2, 3) := by kernel_rfl
theorem fd119_3 : fld Tryz.prog 119 3 = some (3, 3) := by kernel_rfl
theorem lt119 : leafTs Tryz.prog 119 = [3, 3, 3, 3] := by kernel_rfl
theorem fe119 : flatEq Tryz.prog 119 = true := by kernel_rfl
theorem zz119 : zc Tryz.prog 119 = [V.int .i64 0, V.int .i64 0, V.int .i64 0, V.int .i64 0] := by kernel_rfl
theorem cz120 : Tryz.prog.cellsOf 120 = 1 := by kernel_rfl
theorem tk120 : tyOk Tryz.prog 120 = true := by kernel_rfl
theorem ag120 : isAg Tryz.prog 120 = false := by kernel_rfl
theorem by120 : Tryz.prog.bytesOf 120 = 8 := by kernel_rfl
theorem se120 : slEl Tryz.prog 120 = none := by kernel_rfl
theorem ae120 : arEl Tryz.prog 120 = none := by kernel_rfl
theorem if120 : isFn Tryz.prog 120 = true := by kernel_rfl
theorem zz120 : zc Tryz.prog 120 = [V.nilf] := by kernel_rfl
theorem cz121 : Tryz.prog.cellsOf 121 = 1 := by kernel_rfl
theorem tk121 : tyOk Tryz.prog 121 = true := by kernel_rfl
theorem ag121 : isAg Tryz.prog 121 = false := by kernel_rfl
theorem by121 : Tryz.prog.bytesOf 121 = 8 := by kernel_rfl
theorem se121 : slEl Tryz.prog 121 = none := by kernel_rfl
theorem ae121 : arEl Tryz.prog 121 = none := by kernel_rfl
theorem if121 : isFn Tryz.prog 121 = true := by kernel_rfl
theorem zz121 : zc Tryz.prog 121 = [V.nilf] := by kernel_rfl
theorem cz122 : Tryz.prog.cellsOf 122 = 1 := by kernel_rfl
theorem tk122 : tyOk Tryz.prog 122 = true := by kernel_rfl
theorem ag122 : isAg Tryz.prog 122 = false := by kernel_rfl
theorem by122 : Tryz.prog.bytesOf 122 = 8 := by kernel_rfl
theorem se122 : slEl Tryz.prog 122 = none := by kernel_rfl
theorem ae122 : arEl Tryz.prog 122 = none := by kernel_rfl
theorem ip122 : isPtr Tryz.prog 122 = true := by kernel_rfl
theorem zz122 : zc Tryz.prog 122 = [V.nilp] := by kernel_rfl
theorem cz124 : Tryz.prog.cellsOf 124 = 1 := by kernel_rfl
theorem tk124 : tyOk Tryz.prog 124 = true := by kernel_rfl
theorem ag124 : isAg Tryz.prog 124 = false := by kernel_rfl
theorem by124 : Tryz.prog.bytesOf 124 = 8 := by kernel_rfl
theorem se124 : slEl Tryz.prog 124 = none := by kernel_rfl
theorem ae124 : arEl Tryz.prog 124 = none := by kernel_rfl
theorem if124 : isFn Tryz.prog 124 = true := by kernel_rfl
theorem zz124 : zc Tryz.prog 124 = [V.nilf] := by kernel_rfl
theorem cz125 : Tryz.prog.cellsOf 125 = 2 := by kernel_rfl
theorem tk125 : tyOk Tryz.prog 125 = true := by kernel_rfl
theorem ag125 : isAg Tryz.prog 125 = true := by kernel_rfl
theorem by125 : Tryz.prog.bytesOf 125 = 48 := by kernel_rfl
theorem se125 : slEl Tryz.prog 125 = none := by kernel_rfl
theorem ae125 : arEl Tryz.prog 125 = none := by kernel_rfl
theorem st125 : isSt Tryz.prog 125 = true := by kernel_rfl
theorem fo125 : fldsOk Tryz.prog 125 = true := by kernel_rfl
theorem fd125_0 : fld Tryz.prog 125 0 = some (0, 37) := by kernel_rfl
theorem fd125_1 : fld Tryz.prog 125 1 = some (1, 37) := by kernel_rfl
theorem zz125 : zc Tryz.prog 125 = [V.nil, V.nil] := by kernel_rfl
theorem cz126 : Tryz.prog.cellsOf 126 = 2 := by kernel_rfl
theorem tk126 : tyOk Tryz.prog 126 = true := by kernel_rfl
theorem ag126 : isAg Tryz.prog 126 = true := by kernel_rfl
theorem by126 : Tryz.prog.bytesOf 126 = 48 := by kernel_rfl
theorem se126 : slEl Tryz.prog 126 = none := by kernel_rfl
theorem ae126 : arEl Tryz.prog 126 = none := by kernel_rfl
theorem st126 : isSt Tryz.prog 126 = true := by kernel_rfl
theorem fo126 : fldsOk Tryz.prog 126 = true := by kernel_rfl
theorem fd126_0 : fld Tryz.prog 126 0 = some (0, 37) := by kernel_rfl
theorem fd126_1 : fld Tryz.prog 126 1 = some (1, 37) := by kernel_rfl
theorem zz126 : zc Tryz.prog 126 = [V.nil, V.nil] := by kernel_rfl
theorem cz127 : Tryz.prog.cellsOf 127 = 1 := by kernel_rfl
theorem tk127 : tyOk Tryz.prog 127 = true := by kernel_rfl
theorem ag127 : isAg Tryz.prog 127 = false := by kernel_rfl
theorem by127 : Tryz.prog.bytesOf 127 = 8 := by kernel_rfl
theorem se127 : slEl Tryz.prog 127 = none := by kernel_rfl
theorem ae127 : arEl Tryz.prog 127 = none := by kernel_rfl
theorem if127 : isFn Tryz.prog 127 = true := by kernel_rfl
theorem zz127 : zc Tryz.prog 127 = [V.nilf] := by kernel_rfl
theorem cz128 : Tryz.prog.cellsOf 128 = 1 := by kernel_rfl
theorem tk128 : tyOk Tryz.prog 128 = true := by kernel_rfl
theorem ag128 : isAg Tryz.prog 128 = false := by kernel_rfl
theorem by128 : Tryz.prog.bytesOf 128 = 24 := by kernel_rfl
theorem se128 : slEl Tryz.prog 128 = some 126 := by kernel_rfl
theorem ae128 : arEl Tryz.prog 128 = none := by kernel_rfl
theorem zz128 : zc Tryz.prog 128 = [V.nil] := by kernel_rfl
theorem cz129 : Tryz.prog.cellsOf 129 = 1 := by kernel_rfl
theorem tk129 : tyOk Tryz.prog 129 = true := by kernel_rfl
theorem ag129 : isAg Tryz.prog 129 = false := by kernel_rfl
theorem by129 : Tryz.prog.bytesOf 129 = 8 := by kernel_rfl
theorem se129 : slEl Tryz.prog 129 = none := by kernel_rfl
theorem ae129 : arEl Tryz.prog 129 = none := by kernel_rfl
theorem if129 : isFn Tryz.prog 129 = true := by kernel_rfl
theorem zz129 : zc Tryz.prog 129 = [V.nilf] := by kernel_rfl
theorem cz130 : Tryz.prog.cellsOf 130 = 1 := by kernel_rfl
theorem tk130 : tyOk Tryz.prog 130 = true := by kernel_rfl
theorem ag130 : isAg Tryz.prog 130 = false := by kernel_rfl
theorem by130 : Tryz.prog.bytesOf 130 = 8 := by kernel_rfl
theorem se130 : slEl Tryz.prog 130 = none := by kernel_rfl
theorem ae130 : arEl Tryz.prog 130 = none := by kernel_rfl
theorem if130 : isFn Tryz.prog 130 = true := by kernel_rfl
theorem zz130 : zc Tryz.prog 130 = [V.nilf] := by kernel_rfl
theorem cz131 : Tryz.prog.cellsOf 131 = 1 := by kernel_rfl
theorem tk131 : tyOk Tryz.prog 131 = true := by kernel_rfl
theorem ag131 : isAg Tryz.prog 131 = false := by kernel_rfl
theorem by131 : Tryz.prog.bytesOf 131 = 8 := by kernel_rfl
theorem se131 : slEl Tryz.prog 131 = none := by kernel_rfl
theorem ae131 : arEl Tryz.prog 131 = none := by kernel_rfl
theorem if131 : isFn Tryz.prog 131 = true := by kernel_rfl
theorem zz131 : zc Tryz.prog 131 = [V.nilf] := by kernel_rfl
theorem cz132 : Tryz.prog.cellsOf 132 = 1 := by kernel_rfl
theorem tk132 : tyOk Tryz.prog 132 = true := by kernel_rfl
theorem ag132 : isAg Tryz.prog 132 = false := by kernel_rfl
theorem by132 : Tryz.prog.bytesOf 132 = 8 := by kernel_rfl
theorem se132 : slEl Tryz.prog 132 = none := by kernel_rfl
theorem ae132 : arEl Tryz.prog 132 = none := by kernel_rfl
theorem if132 : isFn Tryz.prog 132 = true := by kernel_rfl
theorem zz132 : zc Tryz.prog 132 = [V.nilf] := by kernel_rfl
theorem cz133 : Tryz.prog.cellsOf 133 = 1 := by kernel_rfl
theorem tk133 : tyOk Tryz.prog 133 = true := by kernel_rfl
theorem ag133 : isAg Tryz.prog 133 = false := by kernel_rfl
theorem by133 : Tryz.prog.bytesOf 133 = 8 := by kernel_rfl
theorem se133 : slEl Tryz.prog 133 = none := by kernel_rfl
theorem ae133 : arEl Tryz.prog 133 = none := by kernel_rfl
theorem if133 : isFn Tryz.prog 133 = true := by kernel_rfl
theorem zz133 : zc Tryz.prog 133 = [V.nilf] := by kernel_rfl
theorem cz134 : Tryz.prog.cellsOf 134 = 1 := by kernel_rfl
theorem tk134 : tyOk Tryz.prog 134 = true := by kernel_rfl
theorem ag134 : isAg Tryz.prog 134 = false := by kernel_rfl
theorem by134 : Tryz.prog.bytesOf 134 = 8 := by kernel_rfl
theorem se134 : slEl Tryz.prog 134 = none := by kernel_rfl
theorem ae134 : arEl Tryz.prog 134 = none := by kernel_rfl
theorem if134 : isFn Tryz.prog 134 = true := by kernel_rfl
theorem zz134 : zc Tryz.prog 134 = [V.nilf] := by kernel_rfl
theorem cz135 : Tryz.prog.cellsOf 135 = 1 := by kernel_rfl
theorem tk135 : tyOk Tryz.prog 135 = true := by kernel_rfl
theorem ag135 : isAg Tryz.prog 135 = false := by kernel_rfl
theorem by135 : Tryz.prog.bytesOf 135 = 8 := by kernel_rfl
theorem se135 : slEl Tryz.prog 135 = none := by kernel_rfl
theorem ae135 : arEl Tryz.prog 135 = none := by kernel_rfl
theorem if135 : isFn Tryz.prog 135 = true := by kernel_rfl
theorem zz135 : zc Tryz.prog 135 = [V.nilf] := by kernel_rfl
theorem cz136 : Tryz.prog.cellsOf 136 = 1 := by kernel_rfl
theorem tk136 : tyOk Tryz.prog 136 = true := by kernel_rfl
theorem ag136 : isAg Tryz.prog 136 = false := by kernel_rfl
theorem by136 : Tryz.prog.bytesOf 136 = 8 := by kernel_rfl
theorem se136 : slEl Tryz.prog 136 = none := by kernel_rfl
theorem ae136 : arEl Tryz.prog 136 = none := by kernel_rfl
theorem if136 : isFn Tryz.prog 136 = true := by kernel_rfl
theorem zz136 : zc Tryz.prog 136 = [V.nilf] := by kernel_rfl
theorem cz137 : Tryz.prog.cellsOf 137 = 1 := by kernel_rfl
theorem tk137 : tyOk Tryz.prog 137 = true := by kernel_rfl
theorem ag137 : isAg Tryz.prog 137 = false := by kernel_rfl
theorem by137 : Tryz.prog.bytesOf 137 = 8 := by kernel_rfl
theorem se137 : slEl Tryz.prog 137 = none := by kernel_rfl
theorem ae137 : arEl Tryz.prog 137 = none := by kernel_rfl
theorem ik137 : intK Tryz.prog 137 = some .u64 := by kernel_rfl
theorem zz137 : zc Tryz.prog 137 = [V.int .u64 0] := by kernel_rfl
theorem cz138 : Tryz.prog.cellsOf 138 = 1 := by kernel_rfl
theorem tk138 : tyOk Tryz.prog 138 = true := by kernel_rfl
theorem ag138 : isAg Tryz.prog 138 = false := by kernel_rfl
theorem by138 : Tryz.prog.bytesOf 138 = 8 := by kernel_rfl
theorem se138 : slEl Tryz.prog 138 = none := by kernel_rfl
theorem ae138 : arEl Tryz.prog 138 = none := by kernel_rfl
theorem ip138 : isPtr Tryz.prog 138 = true := by kernel_rfl
theorem zz138 : zc Tryz.prog 138 = [V.nilp] := by kernel_rfl
theorem cz139 : Tryz.prog.cellsOf 139 = 2 := by kernel_rfl
theorem tk139 : tyOk Tryz.prog 139 = true := by kernel_rfl
theorem ag139 : isAg Tryz.prog 139 = true := by kernel_rfl
theorem by139 : Tryz.prog.bytesOf 139 = 16 := by kernel_rfl
theorem se139 : slEl Tryz.prog 139 = none := by kernel_rfl
theorem ae139 : arEl Tryz.prog 139 = none := by kernel_rfl
theorem st139 : isSt Tryz.prog 139 = true := by kernel_rfl
theorem fo139 : fldsOk Tryz.prog 139 = true := by kernel_rfl
theorem fd139_0 : fld Tryz.prog 139 0 = some (0, 3) := by kernel_rfl
theorem fd139_1 : fld Tryz.prog 139 1 = some (1, 3) := by kernel_rfl
theorem lt139 : leafTs Tryz.prog 139 = [3, 3] := by kernel_rfl
theorem fe139 : flatEq Tryz.prog 139 = true := by kernel_rfl
theorem zz139 : zc Tryz.prog 139 = [V.int .i64 0, V.int .i64 0] := by kernel_rfl
theorem cz140 : Tryz.prog.cellsOf 140 = 2 := by kernel_rfl
theorem tk140 : tyOk Tryz.prog 140 = true := by kernel_rfl
theorem ag140 : isAg Tryz.prog 140 = true := by kernel_rfl
theorem by140 : Tryz.prog.bytesOf 140 = 16 := by kernel_rfl
theorem se140 : slEl Tryz.prog 140 = none := by kernel_rfl
theorem ae140 : arEl Tryz.prog 140 = none := by kernel_rfl
theorem st140 : isSt Tryz.prog 140 = true := by kernel_rfl
theorem fo140 : fldsOk Tryz.prog 140 = true := by kernel_rfl
theorem fd140_0 : fld Tryz.prog 140 0 = some (0, 3) := by kernel_rfl
theorem fd140_1 : fld Tryz.prog 140 1 = some (1, 3) := by kernel_rfl
theorem lt140 : leafTs Tryz.prog 140 = [3, 3] := by kernel_rfl
theorem fe140 : flatEq Tryz.prog 140 = true := by kernel_rfl
theorem zz140 : zc Tryz.prog 140 = [V.int .i64 0, V.int .i64 0] := by kernel_rfl
theorem cz141 : Tryz.prog.cellsOf 141 = 1 := by kernel_rfl
theorem tk141 : tyOk Tryz.prog 141 = true := by kernel_rfl
theorem ag141 : isAg Tryz.prog 141 = false := by kernel_rfl
theorem by141 : Tryz.prog.bytesOf 141 = 8 := by kernel_rfl
theorem se141 : slEl Tryz.prog 141 = none := by kernel_rfl
theorem ae141 : arEl Tryz.prog 141 = none := by kernel_rfl
theorem if141 : isFn Tryz.prog 141 = true := by kernel_rfl
theorem zz141 : zc Tryz.prog 141 = [V.nilf] := by kernel_rfl
theorem cz142 : Tryz.prog.cellsOf 142 = 1 := by kernel_rfl
theorem tk142 : tyOk Tryz.prog 142 = true := by kernel_rfl
theorem ag142 : isAg Tryz.prog 142 = false := by kernel_rfl
theorem by142 : Tryz.prog.bytesOf 142 = 8 := by kernel_rfl
theorem se142 : slEl Tryz.prog 142 = none := by kernel_rfl
theorem ae142 : arEl Tryz.prog 142 = none := by kernel_rfl
theorem if142 : isFn Tryz.prog 142 = true := by kernel_rfl
theorem zz142 : zc Tryz.prog 142 = [V.nilf] := by kernel_rfl
theorem cz143 : Tryz.prog.cellsOf 143 = 1 := by kernel_rfl
theorem tk143 : tyOk Tryz.prog 143 = true := by kernel_rfl
theorem ag143 : isAg Tryz.prog 143 = false := by kernel_rfl
theorem by143 : Tryz.prog.bytesOf 143 = 8 := by kernel_rfl
theorem se143 : slEl Tryz.prog 143 = none := by kernel_rfl
theorem ae143 : arEl Tryz.prog 143 = none := by kernel_rfl
theorem if143 : isFn Tryz.prog 143 = true := by kernel_rfl
theorem zz143 : zc Tryz.prog 143 = [V.nilf] := by kernel_rfl
theorem cz144 : Tryz.prog.cellsOf 144 = 1 := by kernel_rfl
theorem tk144 : tyOk Tryz.prog 144 = true := by kernel_rfl
theorem ag144 : isAg Tryz.prog 144 = false := by kernel_rfl
theorem by144 : Tryz.prog.bytesOf 144 = 8 := by kernel_rfl
theorem se144 : slEl Tryz.prog 144 = none := by kernel_rfl
theorem ae144 : arEl Tryz.prog 144 = none := by kernel_rfl
theorem if144 : isFn Tryz.prog 144 = true := by kernel_rfl
theorem zz144 : zc Tryz.prog 144 = [V.nilf] := by kernel_rfl
theorem cz145 : Tryz.prog.cellsOf 145 = 1 := by kernel_rfl
theorem tk145 : tyOk Tryz.prog 145 = true := by kernel_rfl
theorem ag145 : isAg Tryz.prog 145 = false := by kernel_rfl
theorem by145 : Tryz.prog.bytesOf 145 = 8 := by kernel_rfl
theorem se145 : slEl Tryz.prog 145 = none := by kernel_rfl
theorem ae145 : arEl Tryz.prog 145 = none := by kernel_rfl
theorem if145 : isFn Tryz.prog 145 = true := by kernel_rfl
theorem zz145 : zc Tryz.prog 145 = [V.nilf] := by kernel_rfl
theorem cz147 : Tryz.prog.cellsOf 147 = 1 := by kernel_rfl
theorem tk147 : tyOk Tryz.prog 147 = true := by kernel_rfl
theorem ag147 : isAg Tryz.prog 147 = false := by kernel_rfl
theorem by147 : Tryz.prog.bytesOf 147 = 8 := by kernel_rfl
theorem se147 : slEl Tryz.prog 147 = none := by kernel_rfl
theorem ae147 : arEl Tryz.prog 147 = none := by kernel_rfl
theorem if147 : isFn Tryz.prog 147 = true := by kernel_rfl
theorem zz147 : zc Tryz.prog 147 = [V.nilf] := by kernel_rfl
theorem cz148 : Tryz.prog.cellsOf 148 = 1 := by kernel_rfl
theorem tk148 : tyOk Tryz.prog 148 = true := by kernel_rfl
theorem ag148 : isAg Tryz.prog 148 = false := by kernel_rfl
theorem by148 : Tryz.prog.bytesOf 148 = 8 := by kernel_rfl
theorem se148 : slEl Tryz.prog 148 = none := by kernel_rfl
theorem ae148 : arEl Tryz.prog 148 = none := by kernel_rfl
theorem if148 : isFn Tryz.prog 148 = true := by kernel_rfl
theorem zz148 : zc Tryz.prog 148 = [V.nilf] := by kernel_rfl
theorem cz150 : Tryz.prog.cellsOf 150 = 1 := by kernel_rfl
theorem tk150 : tyOk Tryz.prog 150 = true := by kernel_rfl
theorem ag150 : isAg Tryz.prog 150 = false := by kernel_rfl
theorem by150 : Tryz.prog.bytesOf 150 = 8 := by kernel_rfl
theorem se150 : slEl Tryz.prog 150 = none := by kernel_rfl
theorem ae150 : arEl Tryz.prog 150 = none := by kernel_rfl
theorem if150 : isFn Tryz.prog 150 = true := by kernel_rfl
theorem zz150 : zc Tryz.prog 150 = [V.nilf] := by kernel_rfl
theorem cz151 : Tryz.prog.cellsOf 151 = 1 := by kernel_rfl
theorem tk151 : tyOk Tryz.prog 151 = true := by kernel_rfl
theorem ag151 : isAg Tryz.prog 151 = false := by kernel_rfl
theorem by151 : Tryz.prog.bytesOf 151 = 8 := by kernel_rfl
theorem se151 : slEl Tryz.prog 151 = none := by kernel_rfl
theorem ae151 : arEl Tryz.prog 151 = none := by kernel_rfl
theorem if151 : isFn Tryz.prog 151 = true := by kernel_rfl
theorem zz151 : zc Tryz.prog 151 = [V.nilf] := by kernel_rfl
theorem cz152 : Tryz.prog.cellsOf 152 = 1 := by kernel_rfl
theorem tk152 : tyOk Tryz.prog 152 = true := by kernel_rfl
theorem ag152 : isAg Tryz.prog 152 = false := by kernel_rfl
theorem by152 : Tryz.prog.bytesOf 152 = 8 := by kernel_rfl
theorem se152 : slEl Tryz.prog 152 = none := by kernel_rfl
theorem ae152 : arEl Tryz.prog 152 = none := by kernel_rfl
theorem if152 : isFn Tryz.prog 152 = true := by kernel_rfl
theorem zz152 : zc Tryz.prog 152 = [V.nilf] := by kernel_rfl
theorem cz153 : Tryz.prog.cellsOf 153 = 1 := by kernel_rfl
theorem tk153 : tyOk Tryz.prog 153 = true := by kernel_rfl
theorem ag153 : isAg Tryz.prog 153 = false := by kernel_rfl
theorem by153 : Tryz.prog.bytesOf 153 = 8 := by kernel_rfl
theorem se153 : slEl Tryz.prog 153 = none := by kernel_rfl
theorem ae153 : arEl Tryz.prog 153 = none := by kernel_rfl
theorem if153 : isFn Tryz.prog 153 = true := by kernel_rfl
theorem zz153 : zc Tryz.prog 153 = [V.nilf] := by kernel_rfl
theorem cz154 : Tryz.prog.cellsOf 154 = 1 := by kernel_rfl
theorem tk154 : tyOk Tryz.prog 154 = true := by kernel_rfl
theorem ag154 : isAg Tryz.prog 154 = false := by kernel_rfl
theorem by154 : Tryz.prog.bytesOf 154 = 8 := by kernel_rfl
theorem se154 : slEl Tryz.prog 154 = none := by kernel_rfl
theorem ae154 : arEl Tryz.prog 154 = none := by kernel_rfl
theorem if154 : isFn Tryz.prog 154 = true := by kernel_rfl
theorem zz154 : zc Tryz.prog 154 = [V.nilf] := by kernel_rfl
theorem cz155 : Tryz.prog.cellsOf 155 = 1 := by kernel_rfl
theorem tk155 : tyOk Tryz.prog 155 = true := by kernel_rfl
theorem ag155 : isAg Tryz.prog 155 = false := by kernel_rfl
theorem by155 : Tryz.prog.bytesOf 155 = 8 := by kernel_rfl
theorem se155 : slEl Tryz.prog 155 = none := by kernel_rfl
theorem ae155 : arEl Tryz.prog 155 = none := by kernel_rfl
theorem if155 : isFn Tryz.prog 155 = true := by kernel_rfl
theorem zz155 : zc Tryz.prog 155 = [V.nilf] := by kernel_rfl
theorem cz156 : Tryz.prog.cellsOf 156 = 1 := by kernel_rfl
theorem tk156 : tyOk Tryz.prog 156 = true := by kernel_rfl
theorem ag156 : isAg Tryz.prog 156 = false := by kernel_rfl
theorem by156 : Tryz.prog.bytesOf 156 = 8 := by kernel_rfl
theorem se156 : slEl Tryz.prog 156 = none := by kernel_rfl
theorem ae156 : arEl Tryz.prog 156 = none := by kernel_rfl
theorem if156 : isFn Tryz.prog 156 = true := by kernel_rfl
theorem zz156 : zc Tryz.prog 156 = [V.nilf] := by kernel_rfl
theorem cz157 : Tryz.prog.cellsOf 157 = 1 := by kernel_rfl
theorem tk157 : tyOk Tryz.prog 157 = true := by kernel_rfl
theorem ag157 : isAg Tryz.prog 157 = false := by kernel_rfl
theorem by157 : Tryz.prog.bytesOf 157 = 8 := by kernel_rfl
theorem se157 : slEl Tryz.prog 157 = none := by kernel_rfl
theorem ae157 : arEl Tryz.prog 157 = none := by kernel_rfl
theorem if157 : isFn Tryz.prog 157 = true := by kernel_rfl
theorem zz157 : zc Tryz.prog 157 = [V.nilf] := by kernel_rfl
theorem cz158 : Tryz.prog.cellsOf 158 = 1 := by kernel_rfl
theorem tk158 : tyOk Tryz.prog 158 = true := by kernel_rfl
theorem ag158 : isAg Tryz.prog 158 = false := by kernel_rfl
theorem by158 : Tryz.prog.bytesOf 158 = 8 := by kernel_rfl
theorem se158 : slEl Tryz.prog 158 = none := by kernel_rfl
theorem ae158 : arEl Tryz.prog 158 = none := by kernel_rfl
theorem if158 : isFn Tryz.prog 158 = true := by kernel_rfl
theorem zz158 : zc Tryz.prog 158 = [V.nilf] := by kernel_rfl
theorem cz159 : Tryz.prog.cellsOf 159 = 1 := by kernel_rfl
theorem tk159 : tyOk Tryz.prog 159 = true := by kernel_rfl
theorem ag159 : isAg Tryz.prog 159 = false := by kernel_rfl
theorem by159 : Tryz.prog.bytesOf 159 = 8 := by kernel_rfl
theorem se159 : slEl Tryz.prog 159 = none := by kernel_rfl
theorem ae159 : arEl Tryz.prog 159 = none := by kernel_rfl
theorem if159 : isFn Tryz.prog 159 = true := by kernel_rfl
theorem zz159 : zc Tryz.prog 159 = [V.nilf] := by kernel_rfl
theorem cz160 : Tryz.prog.cellsOf 160 = 1 := by kernel_rfl
theorem tk160 : tyOk Tryz.prog 160 = true := by kernel_rfl
theorem ag160 : isAg Tryz.prog 160 = false := by kernel_rfl
theorem by160 : Tryz.prog.bytesOf 160 = 8 := by kernel_rfl
theorem se160 : slEl Tryz.prog 160 = none := by kernel_rfl
theorem ae160 : arEl Tryz.prog 160 = none := by kernel_rfl
theorem if160 : isFn Tryz.prog 160 = true := by kernel_rfl
theorem zz160 : zc Tryz.prog 160 = [V.nilf] := by kernel_rfl
theorem cz161 : Tryz.prog.cellsOf 161 = 1 := by kernel_rfl
theorem tk161 : tyOk Tryz.prog 161 = true := by kernel_rfl
theorem ag161 : isAg Tryz.prog 161 = false := by kernel_rfl
theorem by161 : Tryz.prog.bytesOf 161 = 8 := by kernel_rfl
theorem se161 : slEl Tryz.prog 161 = none := by kernel_rfl
theorem ae161 : arEl Tryz.prog 161 = none := by kernel_rfl
theorem if161 : isFn Tryz.prog 161 = true := by kernel_rfl
theorem zz161 : zc Tryz.prog 161 = [V.nilf] := by kernel_rfl
theorem cz162 : Tryz.prog.cellsOf 162 = 1 := by kernel_rfl
theorem tk162 : tyOk Tryz.prog 162 = true := by kernel_rfl
theorem ag162 : isAg Tryz.prog 162 = false := by kernel_rfl
theorem by162 : Tryz.prog.bytesOf 162 = 8 := by kernel_rfl
theorem se162 : slEl Tryz.prog 162 = none := by kernel_rfl
theorem ae162 : arEl Tryz.prog 162 = none := by kernel_rfl
theorem if162 : isFn Tryz.prog 162 = true := by kernel_rfl
theorem zz162 : zc Tryz.prog 162 = [V.nilf] := by kernel_rfl
theorem cz163 : Tryz.prog.cellsOf 163 = 1 := by kernel_rfl
theorem tk163 : tyOk Tryz.prog 163 = true := by kernel_rfl
theorem ag163 : isAg Tryz.prog 163 = false := by kernel_rfl
theorem by163 : Tryz.prog.bytesOf 163 = 8 := by kernel_rfl
theorem se163 : slEl Tryz.prog 163 = none := by kernel_rfl
theorem ae163 : arEl Tryz.prog 163 = none := by kernel_rfl
theorem if163 : isFn Tryz.prog 163 = true := by kernel_rfl
theorem zz163 : zc Tryz.prog 163 = [V.nilf] := by kernel_rfl
theorem cz164 : Tryz.prog.cellsOf 164 = 1 := by kernel_rfl
theorem tk164 : tyOk Tryz.prog 164 = true := by kernel_rfl
theorem ag164 : isAg Tryz.prog 164 = false := by kernel_rfl
theorem by164 : Tryz.prog.bytesOf 164 = 8 := by kernel_rfl
theorem se164 : slEl Tryz.prog 164 = none := by kernel_rfl
theorem ae164 : arEl Tryz.prog 164 = none := by kernel_rfl
theorem if164 : isFn Tryz.prog 164 = true := by kernel_rfl
theorem zz164 : zc Tryz.prog 164 = [V.nilf] := by kernel_rfl
theorem cz165 : Tryz.prog.cellsOf 165 = 1 := by kernel_rfl
theorem tk165 : tyOk Tryz.prog 165 = true := by kernel_rfl
theorem ag165 : isAg Tryz.prog 165 = false := by kernel_rfl
theorem by165 : Tryz.prog.bytesOf 165 = 8 := by kernel_rfl
theorem se165 : slEl Tryz.prog 165 = none := by kernel_rfl
theorem ae165 : arEl Tryz.prog 165 = none := by kernel_rfl
theorem if165 : isFn Tryz.prog 165 = true := by kernel_rfl
theorem zz165 : zc Tryz.prog 165 = [V.nilf] := by kernel_rfl
theorem cz166 : Tryz.prog.cellsOf 166 = 4 := by kernel_rfl
theorem tk166 : tyOk Tryz.prog 166 = true := by kernel_rfl
theorem ag166 : isAg Tryz.prog 166 = true := by kernel_rfl
theorem by166 : Tryz.prog.bytesOf 166 = 64 := by kernel_rfl
theorem se166 : slEl Tryz.prog 166 = none := by kernel_rfl
theorem ae166 : arEl Tryz.prog 166 = none := by kernel_rfl
theorem st166 : isSt Tryz.prog 166 = true := by kernel_rfl
theorem fo166 : fldsOk Tryz.prog 166 = true := by kernel_rfl
theorem fd166_0 : fld Tryz.prog 166 0 = some (0, 3) := by kernel_rfl
theorem fd166_1 : fld Tryz.prog 166 1 = some (1, 3) := by kernel_rfl
theorem fd166_2 : fld Tryz.prog 166 2 = some (2, 33) := by kernel_rfl
theorem fd166_3 : fld Tryz.prog 166 3 = some (3, 37) := by kernel_rfl
theorem zz166 : zc Tryz.prog 166 = [V.int .i64 0, V.int .i64 0, V.nil, V.nil] := by kernel_rfl
theorem cz167 : Tryz.prog.cellsOf 167 = 4 := by kernel_rfl
theorem tk167 : tyOk Tryz.prog 167 = true := by kernel_rfl
theorem ag167 : isAg Tryz.prog 167 = true := by kernel_rfl
theorem by167 : Tryz.prog.bytesOf 167 = 64 := by kernel_rfl
theorem se167 : slEl Tryz.prog 167 = none := by kernel_rfl
theorem ae167 : arEl Tryz.prog 167 = none := by kernel_rfl
theorem st167 : isSt Tryz.prog 167 = true := by kernel_rfl
theorem fo167 : fldsOk Tryz.prog 167 = true := by kernel_rfl
theorem fd167_0 : fld Tryz.prog 167 0 = some (0, 3) := by kernel_rfl
theorem fd167_1 : fld Tryz.prog 167 1 = some (1, 3) := by kernel_rfl
theorem fd167_2 : fld Tryz.prog 167 2 = some (2, 33) := by kernel_rfl
theorem fd167_3 : fld Tryz.prog 167 3 = some (3, 37) := by kernel_rfl
theorem zz167 : zc Tryz.prog 167 = [V.int .i64 0, V.int .i64 0, V.nil, V.nil] := by kernel_rfl
theorem cz168 : Tryz.prog.cellsOf 168 = 1 := by kernel_rfl
theorem tk168 : tyOk Tryz.prog 168 = true := by kernel_rfl
theorem ag168 : isAg Tryz.prog 168 = false := by kernel_rfl
theorem by168 : Tryz.prog.bytesOf 168 = 8 := by kernel_rfl
theorem se168 : slEl Tryz.prog 168 = none := by kernel_rfl
theorem ae168 : arEl Tryz.prog 168 = none := by kernel_rfl
theorem if168 : isFn Tryz.prog 168 = true := by kernel_rfl
theorem zz168 : zc Tryz.prog 168 = [V.nilf] := by kernel_rfl
theorem cz169 : Tryz.prog.cellsOf 169 = 1 := by kernel_rfl
theorem tk169 : tyOk Tryz.prog 169 = true := by kernel_rfl
theorem ag169 : isAg Tryz.prog 169 = false := by kernel_rfl
theorem by169 : Tryz.prog.bytesOf 169 = 8 := by kernel_rfl
theorem se169 : slEl Tryz.prog 169 = none := by kernel_rfl
theorem ae169 : arEl Tryz.prog 169 = none := by kernel_rfl
theorem if169 : isFn Tryz.prog 169 = true := by kernel_rfl
theorem zz169 : zc Tryz.prog 169 = [V.nilf] := by kernel_rfl
theorem cz170 : Tryz.prog.cellsOf 170 = 1 := by kernel_rfl
theorem tk170 : tyOk Tryz.prog 170 = true := by kernel_rfl
theorem ag170 : isAg Tryz.prog 170 = false := by kernel_rfl
theorem by170 : Tryz.prog.bytesOf 170 = 8 := by kernel_rfl
theorem se170 : slEl Tryz.prog 170 = none := by kernel_rfl
theorem ae170 : arEl Tryz.prog 170 = none := by kernel_rfl
theorem if170 : isFn Tryz.prog 170 = true := by kernel_rfl
theorem zz170 : zc Tryz.prog 170 = [V.nilf] := by kernel_rfl
theorem cz171 : Tryz.prog.cellsOf 171 = 1 := by kernel_rfl
theorem tk171 : tyOk Tryz.prog 171 = true := by kernel_rfl
theorem ag171 : isAg Tryz.prog 171 = false := by kernel_rfl
theorem by171 : Tryz.prog.bytesOf 171 = 8 := by kernel_rfl
theorem se171 : slEl Tryz.prog 171 = none := by kernel_rfl
theorem ae171 : arEl Tryz.prog 171 = none := by kernel_rfl
theorem ik171 : intK Tryz.prog 171 = some .i64 := by kernel_rfl
theorem zz171 : zc Tryz.prog 171 = [V.int .i64 0] := by kernel_rfl
theorem cz173 : Tryz.prog.cellsOf 173 = 1 := by kernel_rfl
theorem tk173 : tyOk Tryz.prog 173 = true := by kernel_rfl
theorem ag173 : isAg Tryz.prog 173 = false := by kernel_rfl
theorem by173 : Tryz.prog.bytesOf 173 = 8 := by kernel_rfl
theorem se173 : slEl Tryz.prog 173 = none := by kernel_rfl
theorem ae173 : arEl Tryz.prog 173 = none := by kernel_rfl
theorem if173 : isFn Tryz.prog 173 = true := by kernel_rfl
theorem zz173 : zc Tryz.prog 173 = [V.nilf] := by kernel_rfl
theorem cz174 : Tryz.prog.cellsOf 174 = 1 := by kernel_rfl
theorem tk174 : tyOk Tryz.prog 174 = true := by kernel_rfl
theorem ag174 : isAg Tryz.prog 174 = false := by kernel_rfl
theorem by174 : Tryz.prog.bytesOf 174 = 8 := by kernel_rfl
theorem se174 : slEl Tryz.prog 174 = none := by kernel_rfl
theorem ae174 : arEl Tryz.prog 174 = none := by kernel_rfl
theorem if174 : isFn Tryz.prog 174 = true := by kernel_rfl
theorem zz174 : zc Tryz.prog 174 = [V.nilf] := by kernel_rfl
theorem cz176 : Tryz.prog.cellsOf 176 = 1 := by kernel_rfl
theorem tk176 : tyOk Tryz.prog 176 = true := by kernel_rfl
theorem ag176 : isAg Tryz.prog 176 = false := by kernel_rfl
theorem by176 : Tryz.prog.bytesOf 176 = 8 := by kernel_rfl
theorem se176 : slEl Tryz.prog 176 = none := by kernel_rfl
theorem ae176 : arEl Tryz.prog 176 = none := by kernel_rfl
theorem if176 : isFn Tryz.prog 176 = true := by kernel_rfl
theorem zz176 : zc Tryz.prog 176 = [V.nilf] := by kernel_rfl
theorem cz177 : Tryz.prog.cellsOf 177 = 1 := by kernel_rfl
theorem tk177 : tyOk Tryz.prog 177 = true := by kernel_rfl
theorem ag177 : isAg Tryz.prog 177 = false := by kernel_rfl
theorem by177 : Tryz.prog.bytesOf 177 = 8 := by kernel_rfl
theorem se177 : slEl Tryz.prog 177 = none := by kernel_rfl
theorem ae177 : arEl Tryz.prog 177 = none := by kernel_rfl
theorem if177 : isFn Tryz.prog 177 = true := by kernel_rfl
theorem zz177 : zc Tryz.prog 177 = [V.nilf] := by kernel_rfl
theorem cz178 : Tryz.prog.cellsOf 178 = 1 := by kernel_rfl
theorem tk178 : tyOk Tryz.prog 178 = true := by kernel_rfl
theorem ag178 : isAg Tryz.prog 178 = false := by kernel_rfl
theorem by178 : Tryz.prog.bytesOf 178 = 4 := by kernel_rfl
theorem se178 : slEl Tryz.prog 178 = none := by kernel_rfl
theorem ae178 : arEl Tryz.prog 178 = none := by kernel_rfl
theorem ik178 : intK Tryz.prog 178 = some .u32 := by kernel_rfl
theorem zz178 : zc Tryz.prog 178 = [V.int .u32 0] := by kernel_rfl
theorem cz179 : Tryz.prog.cellsOf 179 = 1 := by kernel_rfl
theorem tk179 : tyOk Tryz.prog 179 = true := by kernel_rfl
theorem ag179 : isAg Tryz.prog 179 = false := by kernel_rfl
theorem by179 : Tryz.prog.bytesOf 179 = 8 := by kernel_rfl
theorem se179 : slEl Tryz.prog 179 = none := by kernel_rfl
theorem ae179 : arEl Tryz.prog 179 = none := by kernel_rfl
theorem if179 : isFn Tryz.prog 179 = true := by kernel_rfl
theorem zz179 : zc Tryz.prog 179 = [V.nilf] := by kernel_rfl
theorem cz180 : Tryz.prog.cellsOf 180 = 1 := by kernel_rfl
theorem tk180 : tyOk Tryz.prog 180 = true := by kernel_rfl
theorem ag180 : isAg Tryz.prog 180 = false := by kernel_rfl
theorem by180 : Tryz.prog.bytesOf 180 = 8 := by kernel_rfl
theorem se180 : slEl Tryz.prog 180 = none := by kernel_rfl
theorem ae180 : arEl Tryz.prog 180 = none := by kernel_rfl
theorem ik180 : intK Tryz.prog 180 = some .u64 := by kernel_rfl
theorem zz180 : zc Tryz.prog 180 = [V.int .u64 0] := by kernel_rfl
theorem cz181 : Tryz.prog.cellsOf 181 = 1 := by kernel_rfl
theorem tk181 : tyOk Tryz.prog 181 = true := by kernel_rfl
theorem ag181 : isAg Tryz.prog 181 = false := by kernel_rfl
theorem by181 : Tryz.prog.bytesOf 181 = 8 := by kernel_rfl
theorem se181 : slEl Tryz.prog 181 = none := by kernel_rfl
theorem ae181 : arEl Tryz.prog 181 = none := by kernel_rfl
theorem if181 : isFn Tryz.prog 181 = true := by kernel_rfl
theorem zz181 : zc Tryz.prog 181 = [V.nilf] := by kernel_rfl
theorem cz183 : Tryz.prog.cellsOf 183 = 1 := by kernel_rfl
theorem tk183 : tyOk Tryz.prog 183 = true := by kernel_rfl
theorem ag183 : isAg Tryz.prog 183 = false := by kernel_rfl
theorem by183 : Tryz.prog.bytesOf 183 = 8 := by kernel_rfl
theorem se183 : slEl Tryz.prog 183 = none := by kernel_rfl
theorem ae183 : arEl Tryz.prog 183 = none := by kernel_rfl
theorem if183 : isFn Tryz.prog 183 = true := by kernel_rfl
theorem zz183 : zc Tryz.prog 183 = [V.nilf] := by kernel_rfl
theorem cz184 : Tryz.prog.cellsOf 184 = 1 := by kernel_rfl
theorem tk184 : tyOk Tryz.prog 184 = true := by kernel_rfl
theorem ag184 : isAg Tryz.prog 184 = false := by kernel_rfl
theorem by184 : Tryz.prog.bytesOf 184 = 8 := by kernel_rfl
theorem se184 : slEl Tryz.prog 184 = none := by kernel_rfl
theorem ae184 : arEl Tryz.prog 184 = none := by kernel_rfl
theorem if184 : isFn Tryz.prog 184 = true := by kernel_rfl
theorem zz184 : zc Tryz.prog 184 = [V.nilf] := by kernel_rfl
theorem cz185 : Tryz.prog.cellsOf 185 = 1 := by kernel_rfl
theorem tk185 : tyOk Tryz.prog 185 = true := by kernel_rfl
theorem ag185 : isAg Tryz.prog 185 = false := by kernel_rfl
theorem by185 : Tryz.prog.bytesOf 185 = 8 := by kernel_rfl
theorem se185 : slEl Tryz.prog 185 = none := by kernel_rfl
theorem ae185 : arEl Tryz.prog 185 = none := by kernel_rfl
theorem if185 : isFn Tryz.prog 185 = true := by kernel_rfl
theorem zz185 : zc Tryz.prog 185 = [V.nilf] := by kernel_rfl
theorem cz186 : Tryz.prog.cellsOf 186 = 1 := by kernel_rfl
theorem tk186 : tyOk Tryz.prog 186 = true := by kernel_rfl
theorem ag186 : isAg Tryz.prog 186 = false := by kernel_rfl
theorem by186 : Tryz.prog.bytesOf 186 = 8 := by kernel_rfl
theorem se186 : slEl Tryz.prog 186 = none := by kernel_rfl
theorem ae186 : arEl Tryz.prog 186 = none := by kernel_rfl
theorem if186 : isFn Tryz.prog 186 = true := by kernel_rfl
theorem zz186 : zc Tryz.prog 186 = [V.nilf] := by kernel_rfl
theorem cz187 : Tryz.prog.cellsOf 187 = 1 := by kernel_rfl
theorem tk187 : tyOk Tryz.prog 187 = true := by kernel_rfl
theorem ag187 : isAg Tryz.prog 187 = false := by kernel_rfl
theorem by187 : Tryz.prog.bytesOf 187 = 8 := by kernel_rfl
theorem se187 : slEl Tryz.prog 187 = none := by kernel_rfl
theorem ae187 : arEl Tryz.prog 187 = none := by kernel_rfl
theorem if187 : isFn Tryz.prog 187 = true := by kernel_rfl
theorem zz187 : zc Tryz.prog 187 = [V.nilf] := by kernel_rfl
theorem cz188 : Tryz.prog.cellsOf 188 = 1 := by kernel_rfl
theorem tk188 : tyOk Tryz.prog 188 = true := by kernel_rfl
theorem ag188 : isAg Tryz.prog 188 = false := by kernel_rfl
theorem by188 : Tryz.prog.bytesOf 188 = 8 := by kernel_rfl
theorem se188 : slEl Tryz.prog 188 = none := by kernel_rfl
theorem ae188 : arEl Tryz.prog 188 = none := by kernel_rfl
theorem if188 : isFn Tryz.prog 188 = true := by kernel_rfl
theorem zz188 : zc Tryz.prog 188 = [V.nilf] := by kernel_rfl
theorem cz189 : Tryz.prog.cellsOf 189 = 1 := by kernel_rfl
theorem tk189 : tyOk Tryz.prog 189 = true := by kernel_rfl
theorem ag189 : isAg Tryz.prog 189 = false := by kernel_rfl
theorem by189 : Tryz.prog.bytesOf 189 = 24 := by kernel_rfl
theorem se189 : slEl Tryz.prog 189 = some 61 := by kernel_rfl
theorem ae189 : arEl Tryz.prog 189 = none := by kernel_rfl
theorem zz189 : zc Tryz.prog 189 = [V.nil] := by kernel_rfl
theorem cz190 : Tryz.prog.cellsOf 190 = 1 := by kernel_rfl
theorem tk190 : tyOk Tryz.prog 190 = true := by kernel_rfl
theorem ag190 : isAg Tryz.prog 190 = false := by kernel_rfl
theorem by190 : Tryz.prog.bytesOf 190 = 8 := by kernel_rfl
theorem se190 : slEl Tryz.prog 190 = none := by kernel_rfl
theorem ae190 : arEl Tryz.prog 190 = none := by kernel_rfl
theorem if190 : isFn Tryz.prog 190 = true := by kernel_rfl
theorem zz190 : zc Tryz.prog 190 = [V.nilf] := by kernel_rfl
theorem cz191 : Tryz.prog.cellsOf 191 = 1 := by kernel_rfl
theorem tk191 : tyOk Tryz.prog 191 = true := by kernel_rfl
theorem ag191 : isAg Tryz.prog 191 = false := by kernel_rfl
theorem by191 : Tryz.prog.bytesOf 191 = 8 := by kernel_rfl
theorem se191 : slEl Tryz.prog 191 = none := by kernel_rfl
theorem ae191 : arEl Tryz.prog 191 = none := by kernel_rfl
theorem if191 : isFn Tryz.prog 191 = true := by kernel_rfl
theorem zz191 : zc Tryz.prog 191 = [V.nilf] := by kernel_rfl
theorem cz192 : Tryz.prog.cellsOf 192 = 1 := by kernel_rfl
theorem tk192 : tyOk Tryz.prog 192 = true := by kernel_rfl
theorem ag192 : isAg Tryz.prog 192 = false := by kernel_rfl
theorem by192 : Tryz.prog.bytesOf 192 = 8 := by kernel_rfl
theorem se192 : slEl Tryz.prog 192 = none := by kernel_rfl
theorem ae192 : arEl Tryz.prog 192 = none := by kernel_rfl
theorem if192 : isFn Tryz.prog 192 = true := by kernel_rfl
theorem zz192 : zc Tryz.prog 192 = [V.nilf] := by kernel_rfl
theorem cz193 : Tryz.prog.cellsOf 193 = 1 := by kernel_rfl
theorem tk193 : tyOk Tryz.prog 193 = true := by kernel_rfl
theorem ag193 : isAg Tryz.prog 193 = false := by kernel_rfl
theorem by193 : Tryz.prog.bytesOf 193 = 8 := by kernel_rfl
theorem se193 : slEl Tryz.prog 193 = none := by kernel_rfl
theorem ae193 : arEl Tryz.prog 193 = none := by kernel_rfl
theorem if193 : isFn Tryz.prog 193 = true := by kernel_rfl
theorem zz193 : zc Tryz.prog 193 = [V.nilf] := by kernel_rfl
theorem cz194 : Tryz.prog.cellsOf 194 = 1 := by kernel_rfl
theorem tk194 : tyOk Tryz.prog 194 = true := by kernel_rfl
theorem ag194 : isAg Tryz.prog 194 = false := by kernel_rfl
theorem by194 : Tryz.prog.bytesOf 194 = 8 := by kernel_rfl
theorem se194 : slEl Tryz.prog 194 = none := by kernel_rfl
theorem ae194 : arEl Tryz.prog 194 = none := by kernel_rfl
theorem if194 : isFn Tryz.prog 194 = true := by kernel_rfl
theorem zz194 : zc Tryz.prog 194 = [V.nilf] := by kernel_rfl
theorem cz195 : Tryz.prog.cellsOf 195 = 1 := by kernel_rfl
theorem tk195 : tyOk Tryz.prog 195 = true := by kernel_rfl
theorem ag195 : isAg Tryz.prog 195 = false := by kernel_rfl
theorem by195 : Tryz.prog.bytesOf 195 = 8 := by kernel_rfl
theorem se195 : slEl Tryz.prog 195 = none := by kernel_rfl
theorem ae195 : arEl Tryz.prog 195 = none := by kernel_rfl
theorem if195 : isFn Tryz.prog 195 = true := by kernel_rfl
theorem zz195 : zc Tryz.prog 195 = [V.nilf] := by kernel_rfl
theorem cz196 : Tryz.prog.cellsOf 196 = 1 := by kernel_rfl
theorem tk196 : tyOk Tryz.prog 196 = true := by kernel_rfl
theorem ag196 : isAg Tryz.prog 196 = false := by kernel_rfl
theorem by196 : Tryz.prog.bytesOf 196 = 8 := by kernel_rfl
theorem se196 : slEl Tryz.prog 196 = none := by kernel_rfl
theorem ae196 : arEl Tryz.prog 196 = none := by kernel_rfl
theorem if196 : isFn Tryz.prog 196 = true := by kernel_rfl
theorem zz196 : zc Tryz.prog 196 = [V.nilf] := by kernel_rfl
theorem cz197 : Tryz.prog.cellsOf 197 = 1 := by kernel_rfl
theorem tk197 : tyOk Tryz.prog 197 = true := by kernel_rfl
theorem ag197 : isAg Tryz.prog 197 = false := by kernel_rfl
theorem by197 : Tryz.prog.bytesOf 197 = 8 := by kernel_rfl
theorem se197 : slEl Tryz.prog 197 = none := by kernel_rfl
theorem ae197 : arEl Tryz.prog 197 = none := by kernel_rfl
theorem if197 : isFn Tryz.prog 197 = true := by kernel_rfl
theorem zz197 : zc Tryz.prog 197 = [V.nilf] := by kernel_rfl
theorem cz198 : Tryz.prog.cellsOf 198 = 1 := by kernel_rfl
theorem tk198 : tyOk Tryz.prog 198 = true := by kernel_rfl
theorem ag198 : isAg Tryz.prog 198 = false := by kernel_rfl
theorem by198 : Tryz.prog.bytesOf 198 = 8 := by kernel_rfl
theorem se198 : slEl Tryz.prog 198 = none := by kernel_rfl
theorem ae198 : arEl Tryz.prog 198 = none := by kernel_rfl
theorem if198 : isFn Tryz.prog 198 = true := by kernel_rfl
theorem zz198 : zc Tryz.prog 198 = [V.nilf] := by kernel_rfl
theorem cz199 : Tryz.prog.cellsOf 199 = 1 := by kernel_rfl
theorem tk199 : tyOk Tryz.prog 199 = true := by kernel_rfl
theorem ag199 : isAg Tryz.prog 199 = false := by kernel_rfl
theorem by199 : Tryz.prog.bytesOf 199 = 8 := by kernel_rfl
theorem se199 : slEl Tryz.prog 199 = none := by kernel_rfl
theorem ae199 : arEl Tryz.prog 199 = none := by kernel_rfl
theorem ik199 : intK Tryz.prog 199 = some .u64 := by kernel_rfl
theorem zz199 : zc Tryz.prog 199 = [V.int .u64 0] := by kernel_rfl
theorem cz200 : Tryz.prog.cellsOf 200 = 1 := by kernel_rfl
theorem tk200 : tyOk Tryz.prog 200 = true := by kernel_rfl
theorem ag200 : isAg Tryz.prog 200 = false := by kernel_rfl
theorem by200 : Tryz.prog.bytesOf 200 = 8 := by kernel_rfl
theorem se200 : slEl Tryz.prog 200 = none := by kernel_rfl
theorem ae200 : arEl Tryz.prog 200 = none := by kernel_rfl
theorem if200 : isFn Tryz.prog 200 = true := by kernel_rfl
theorem zz200 : zc Tryz.prog 200 = [V.nilf] := by kernel_rfl
theorem cz201 : Tryz.prog.cellsOf 201 = 1 := by kernel_rfl
theorem tk201 : tyOk Tryz.prog 201 = true := by kernel_rfl
theorem ag201 : isAg Tryz.prog 201 = false := by kernel_rfl
theorem by201 : Tryz.prog.bytesOf 201 = 8 := by kernel_rfl
theorem se201 : slEl Tryz.prog 201 = none := by kernel_rfl
theorem ae201 : arEl Tryz.prog 201 = none := by kernel_rfl
theorem if201 : isFn Tryz.prog 201 = true := by kernel_rfl
theorem zz201 : zc Tryz.prog 201 = [V.nilf] := by kernel_rfl
theorem cz202 : Tryz.prog.cellsOf 202 = 1 := by kernel_rfl
theorem tk202 : tyOk Tryz.prog 202 = true := by kernel_rfl
theorem ag202 : isAg Tryz.prog 202 = false := by kernel_rfl
theorem by202 : Tryz.prog.bytesOf 202 = 8 := by kernel_rfl
theorem se202 : slEl Tryz.prog 202 = none := by kernel_rfl
theorem ae202 : arEl Tryz.prog 202 = none := by kernel_rfl
theorem if202 : isFn Tryz.prog 202 = true := by kernel_rfl
theorem zz202 : zc Tryz.prog 202 = [V.nilf] := by kernel_rfl
theorem cz203 : Tryz.prog.cellsOf 203 = 1 := by kernel_rfl
theorem tk203 : tyOk Tryz.prog 203 = true := by kernel_rfl
theorem ag203 : isAg Tryz.prog 203 = false := by kernel_rfl
theorem by203 : Tryz.prog.bytesOf 203 = 8 := by kernel_rfl
theorem se203 : slEl Tryz.prog 203 = none := by kernel_rfl
theorem ae203 : arEl Tryz.prog 203 = none := by kernel_rfl
theorem ip203 : isPtr Tryz.prog 203 = true := by kernel_rfl
theorem zz203 : zc Tryz.prog 203 = [V.nilp] := by kernel_rfl
theorem cz204 : Tryz.prog.cellsOf 204 = 1 := by kernel_rfl
theorem tk204 : tyOk Tryz.prog 204 = true := by kernel_rfl
theorem ag204 : isAg Tryz.prog 204 = false := by kernel_rfl
theorem by204 : Tryz.prog.bytesOf 204 = 8 := by kernel_rfl
theorem se204 : slEl Tryz.prog 204 = none := by kernel_rfl
theorem ae204 : arEl Tryz.prog 204 = none := by kernel_rfl
theorem if204 : isFn Tryz.prog 204 = true := by kernel_rfl
theorem zz204 : zc Tryz.prog 204 = [V.nilf] := by kernel_rfl
theorem cz205 : Tryz.prog.cellsOf 205 = 1 := by kernel_rfl
theorem tk205 : tyOk Tryz.prog 205 = true := by kernel_rfl
theorem ag205 : isAg Tryz.prog 205 = false := by kernel_rfl
theorem by205 : Tryz.prog.bytesOf 205 = 8 := by kernel_rfl
theorem se205 : slEl Tryz.prog 205 = none := by kernel_rfl
theorem ae205 : arEl Tryz.prog 205 = none := by kernel_rfl
theorem if205 : isFn Tryz.prog 205 = true := by kernel_rfl
theorem zz205 : zc Tryz.prog 205 = [V.nilf] := by kernel_rfl
theorem cz206 : Tryz.prog.cellsOf 206 = 1 := by kernel_rfl
theorem tk206 : tyOk Tryz.prog 206 = true := by kernel_rfl
theorem ag206 : isAg Tryz.prog 206 = false := by kernel_rfl
theorem by206 : Tryz.prog.bytesOf 206 = 8 := by kernel_rfl
theorem se206 : slEl Tryz.prog 206 = none := by kernel_rfl
theorem ae206 : arEl Tryz.prog 206 = none := by kernel_rfl
theorem if206 : isFn Tryz.prog 206 = true := by kernel_rfl
theorem zz206 : zc Tryz.prog 206 = [V.nilf] := by kernel_rfl
theorem cz207 : Tryz.prog.cellsOf 207 = 1 := by kernel_rfl
theorem tk207 : tyOk Tryz.prog 207 = true := by kernel_rfl
theorem ag207 : isAg Tryz.prog 207 = false := by kernel_rfl
theorem by207 : Tryz.prog.bytesOf 207 = 8 := by kernel_rfl
theorem se207 : slEl Tryz.prog 207 = none := by kernel_rfl
theorem ae207 : arEl Tryz.prog 207 = none := by kernel_rfl
theorem if207 : isFn Tryz.prog 207 = true := by kernel_rfl
theorem zz207 : zc Tryz.prog 207 = [V.nilf] := by kernel_rfl
theorem cz208 : Tryz.prog.cellsOf 208 = 1 := by kernel_rfl
theorem tk208 : tyOk Tryz.prog 208 = true := by kernel_rfl
theorem ag208 : isAg Tryz.prog 208 = false := by kernel_rfl
theorem by208 : Tryz.prog.bytesOf 208 = 8 := by kernel_rfl
theorem se208 : slEl Tryz.prog 208 = none := by kernel_rfl
theorem ae208 : arEl Tryz.prog 208 = none := by kernel_rfl
theorem if208 : isFn Tryz.prog 208 = true := by kernel_rfl
theorem zz208 : zc Tryz.prog 208 = [V.nilf] := by kernel_rfl
theorem cz209 : Tryz.prog.cellsOf 209 = 1 := by kernel_rfl
theorem tk209 : tyOk Tryz.prog 209 = true := by kernel_rfl
theorem ag209 : isAg Tryz.prog 209 = false := by kernel_rfl
theorem by209 : Tryz.prog.bytesOf 209 = 8 := by kernel_rfl
theorem se209 : slEl Tryz.prog 209 = none := by kernel_rfl
theorem ae209 : arEl Tryz.prog 209 = none := by kernel_rfl
theorem ip209 : isPtr Tryz.prog 209 = true := by kernel_rfl
theorem zz209 : zc Tryz.prog 209 = [V.nilp] := by kernel_rfl
theorem cz210 : Tryz.prog.cellsOf 210 = 1 := by kernel_rfl
theorem tk210 : tyOk Tryz.prog 210 = true := by kernel_rfl
theorem ag210 : isAg Tryz.prog 210 = false := by kernel_rfl
theorem by210 : Tryz.prog.bytesOf 210 = 8 := by kernel_rfl
theorem se210 : slEl Tryz.prog 210 = none := by kernel_rfl
theorem ae210 : arEl Tryz.prog 210 = none := by kernel_rfl
theorem if210 : isFn Tryz.prog 210 = true := by kernel_rfl
theorem zz210 : zc Tryz.prog 210 = [V.nilf] := by kernel_rfl
theorem cz211 : Tryz.prog.cellsOf 211 = 1 := by kernel_rfl
theorem tk211 : tyOk Tryz.prog 211 = true := by kernel_rfl
theorem ag211 : isAg Tryz.prog 211 = false := by kernel_rfl
theorem by211 : Tryz.prog.bytesOf 211 = 8 := by kernel_rfl
theorem se211 : slEl Tryz.prog 211 = none := by kernel_rfl
theorem ae211 : arEl Tryz.prog 211 = none := by kernel_rfl
theorem if211 : isFn Tryz.prog 211 = true := by kernel_rfl
theorem zz211 : zc Tryz.prog 211 = [V.nilf] := by kernel_rfl
theorem cz212 : Tryz.prog.cellsOf 212 = 1 := by kernel_rfl
theorem tk212 : tyOk Tryz.prog 212 = true := by kernel_rfl
theorem ag212 : isAg Tryz.prog 212 = false := by kernel_rfl
theorem by212 : Tryz.prog.bytesOf 212 = 8 := by kernel_rfl
theorem se212 : slEl Tryz.prog 212 = none := by kernel_rfl
theorem ae212 : arEl Tryz.prog 212 = none := by kernel_rfl
theorem if212 : isFn Tryz.prog 212 = true := by kernel_rfl
theorem zz212 : zc Tryz.prog 212 = [V.nilf] := by kernel_rfl
theorem cz213 : Tryz.prog.cellsOf 213 = 4 := by kernel_rfl
theorem tk213 : tyOk Tryz.prog 213 = true := by kernel_rfl
theorem ag213 : isAg Tryz.prog 213 = true := by kernel_rfl
theorem by213 : Tryz.prog.bytesOf 213 = 40 := by kernel_rfl
theorem se213 : slEl Tryz.prog 213 = none := by kernel_rfl
theorem ae213 : arEl Tryz.prog 213 = none := by kernel_rfl
theorem st213 : isSt Tryz.prog 213 = true := by kernel_rfl
theorem fo213 : fldsOk Tryz.prog 213 = true := by kernel_rfl
theorem fd213_0 : fld Tryz.prog 213 0 = some (0, 17) := by kernel_rfl
theorem fd213_1 : fld Tryz.prog 213 1 = some (1, 17) := by kernel_rfl
theorem fd213_2 : fld Tryz.prog 213 2 = some (2, 17) := by kernel_rfl
theorem fd213_3 : fld Tryz.prog 213 3 = some (3, 9) := by kernel_rfl
theorem zz213 : zc Tryz.prog 213 = [V.nilp, V.nilp, V.nilp, V.top] := by kernel_rfl
theorem cz214 : Tryz.prog.cellsOf 214 = 4 := by kernel_rfl
theorem tk214 : tyOk Tryz.prog 214 = true := by kernel_rfl
theorem ag214 : isAg Tryz.prog 214 = true := by kernel_rfl
theorem by214 : Tryz.prog.bytesOf 214 = 40 := by kernel_rfl
theorem se214 : slEl Tryz.prog 214 = none := by kernel_rfl
theorem ae214 : arEl Tryz.prog 214 = none := by kernel_rfl
theorem st214 : isSt Tryz.prog 214 = true := by kernel_rfl
theorem fo214 : fldsOk Tryz.prog 214 = true := by kernel_rfl
theorem fd214_0 : fld Tryz.prog 214 0 = some (0, 17) := by kernel_rfl
theorem fd214_1 : fld Tryz.prog 214 1 = some (1, 17) := by kernel_rfl
theorem fd214_2 : fld Tryz.prog 214 2 = some (2, 17) := by kernel_rfl
theorem fd214_3 : fld Tryz.prog 214 3 = some (3, 9) := by kernel_rfl
theorem zz214 : zc Tryz.prog 214 = [V.nilp, V.nilp, V.nilp, V.top] := by kernel_rfl
theorem cz215 : Tryz.prog.cellsOf 215 = 0 := by kernel_rfl
theorem tk215 : tyOk Tryz.prog 215 = true := by kernel_rfl
theorem ag215 : isAg Tryz.prog 215 = true := by kernel_rfl
theorem by215 : Tryz.prog.bytesOf 215 = 0 := by kernel_rfl
theorem se215 : slEl Tryz.prog 215 = none := by kernel_rfl
theorem ae215 : arEl Tryz.prog 215 = some (0, 16) := by kernel_rfl
theorem st215 : isSt Tryz.prog 215 = false := by kernel_rfl
theorem zz215 : zc Tryz.prog 215 = [] := by kernel_rfl
theorem cz216 : Tryz.prog.cellsOf 216 = 0 := by kernel_rfl
theorem tk216 : tyOk Tryz.prog 216 = true := by kernel_rfl
theorem ag216 : isAg Tryz.prog 216 = true := by kernel_rfl
theorem by216 : Tryz.prog.bytesOf 216 = 0 := by kernel_rfl
theorem se216 : slEl Tryz.prog 216 = none := by kernel_rfl
theorem ae216 : arEl Tryz.prog 216 = none := by kernel_rfl
theorem st216 : isSt Tryz.prog 216 = true := by kernel_rfl
theorem fd216_0 : fld Tryz.prog 216 0 = some (0, 215) := by kernel_rfl
theorem zz216 : zc Tryz.prog 216 = [] := by kernel_rfl
theorem cz217 : Tryz.prog.cellsOf 217 = 0 := by kernel_rfl
theorem tk217 : tyOk Tryz.prog 217 = true := by kernel_rfl
theorem ag217 : isAg Tryz.prog 217 = true := by kernel_rfl
theorem by217 : Tryz.prog.bytesOf 217 = 0 := by kernel_rfl
theorem se217 : slEl Tryz.prog 217 = none := by kernel_rfl
theorem ae217 : arEl Tryz.prog 217 = none := by kernel_rfl
theorem st217 : isSt Tryz.prog 217 = true := by kernel_rfl
theorem fd217_0 : fld Tryz.prog 217 0 = some (0, 215) := by kernel_rfl
theorem zz217 : zc Tryz.prog 217 = [] := by kernel_rfl
theorem cz218 : Tryz.prog.cellsOf 218 = 1 := by kernel_rfl
theorem tk218 : tyOk Tryz.prog 218 = true := by kernel_rfl
theorem ag218 : isAg Tryz.prog 218 = false := by kernel_rfl
theorem by218 : Tryz.prog.bytesOf 218 = 1 := by kernel_rfl
theorem se218 : slEl Tryz.prog 218 = none := by kernel_rfl
theorem ae218 : arEl Tryz.prog 218 = none := by kernel_rfl
theorem ik218 : intK Tryz.prog 218 = some .u8 := by kernel_rfl
theorem zz218 : zc Tryz.prog 218 = [V.int .u8 0] := by kernel_rfl
theorem cz219 : Tryz.prog.cellsOf 219 = 1 := by kernel_rfl
theorem tk219 : tyOk Tryz.prog 219 = true := by kernel_rfl
theorem ag219 : isAg Tryz.prog 219 = false := by kernel_rfl
theorem by219 : Tryz.prog.bytesOf 219 = 1 := by kernel_rfl
theorem se219 : slEl Tryz.prog 219 = none := by kernel_rfl
theorem ae219 : arEl Tryz.prog 219 = none := by kernel_rfl
theorem ik219 : intK Tryz.prog 219 = some .u8 := by kernel_rfl
theorem zz219 : zc Tryz.prog 219 = [V.int .u8 0] := by kernel_rfl
theorem cz220 : Tryz.prog.cellsOf 220 = 1 := by kernel_rfl
theorem tk220 : tyOk Tryz.prog 220 = true := by kernel_rfl
theorem ag220 : isAg Tryz.prog 220 = false := by kernel_rfl
theorem by220 : Tryz.prog.bytesOf 220 = 8 := by kernel_rfl
theorem se220 : slEl Tryz.prog 220 = none := by kernel_rfl
theorem ae220 : arEl Tryz.prog 220 = none := by kernel_rfl
theorem if220 : isFn Tryz.prog 220 = true := by kernel_rfl
theorem zz220 : zc Tryz.prog 220 = [V.nilf] := by kernel_rfl
theorem cz221 : Tryz.prog.cellsOf 221 = 1 := by kernel_rfl
theorem tk221 : tyOk Tryz.prog 221 = true := by kernel_rfl
theorem ag221 : isAg Tryz.prog 221 = false := by kernel_rfl
theorem by221 : Tryz.prog.bytesOf 221 = 8 := by kernel_rfl
theorem se221 : slEl Tryz.prog 221 = none := by kernel_rfl
theorem ae221 : arEl Tryz.prog 221 = none := by kernel_rfl
theorem ip221 : isPtr Tryz.prog 221 = true := by kernel_rfl
theorem zz221 : zc Tryz.prog 221 = [V.nilp] := by kernel_rfl
theorem cz222 : Tryz.prog.cellsOf 222 = 1 := by kernel_rfl
theorem tk222 : tyOk Tryz.prog 222 = true := by kernel_rfl
theorem ag222 : isAg Tryz.prog 222 = false := by kernel_rfl
theorem by222 : Tryz.prog.bytesOf 222 = 4 := by kernel_rfl
theorem se222 : slEl Tryz.prog 222 = none := by kernel_rfl
theorem ae222 : arEl Tryz.prog 222 = none := by kernel_rfl
theorem ik222 : intK Tryz.prog 222 = some .i32 := by kernel_rfl
theorem zz222 : zc Tryz.prog 222 = [V.int .i32 0] := by kernel_rfl
theorem cz223 : Tryz.prog.cellsOf 223 = 1 := by kernel_rfl
theorem tk223 : tyOk Tryz.prog 223 = true := by kernel_rfl
theorem ag223 : isAg Tryz.prog 223 = false := by kernel_rfl
theorem by223 : Tryz.prog.bytesOf 223 = 4 := by kernel_rfl
theorem se223 : slEl Tryz.prog 223 = none := by kernel_rfl
theorem ae223 : arEl Tryz.prog 223 = none := by kernel_rfl
theorem ik223 : intK Tryz.prog 223 = some .i32 := by kernel_rfl
theorem zz223 : zc Tryz.prog 223 = [V.int .i32 0] := by kernel_rfl
theorem cz224 : Tryz.prog.cellsOf 224 = 11 := by kernel_rfl
theorem tk224 : tyOk Tryz.prog 224 = true := by kernel_rfl
theorem ag224 : isAg Tryz.prog 224 = true := by kernel_rfl
theorem by224 : Tryz.prog.bytesOf 224 = 48 := by kernel_rfl
theorem se224 : slEl Tryz.prog 224 = none := by kernel_rfl
theorem ae224 : arEl Tryz.prog 224 = none := by kernel_rfl
theorem st224 : isSt Tryz.prog 224 = true := by kernel_rfl
theorem fo224 : fldsOk Tryz.prog 224 = true := by kernel_rfl
theorem fd224_0 : fld Tryz.prog 224 0 = some (0, 12) := by kernel_rfl
theorem fd224_1 : fld Tryz.prog 224 1 = some (1, 12) := by kernel_rfl
theorem fd224_2 : fld Tryz.prog 224 2 = some (2, 178) := by kernel_rfl
theorem fd224_3 : fld Tryz.prog 224 3 = some (3, 218) := by kernel_rfl
theorem fd224_4 : fld Tryz.prog 224 4 = some (4, 5) := by kernel_rfl
theorem fd224_5 : fld Tryz.prog 224 5 = some (5, 5) := by kernel_rfl
theorem fd224_6 : fld Tryz.prog 224 6 = some (6, 219) := by kernel_rfl
theorem fd224_7 : fld Tryz.prog 224 7 = some (7, 220) := by kernel_rfl
theorem fd224_8 : fld Tryz.prog 224 8 = some (8, 221) := by kernel_rfl
theorem fd224_9 : fld Tryz.prog 224 9 = some (9, 222) := by kernel_rfl
theorem fd224_10 : fld Tryz.prog 224 10 = some (10, 223) := by kernel_rfl
theorem zz224 : zc Tryz.prog 224 = [V.int .u64 0, V.int .u64 0, V.int .u32 0, V.int .u8 0, V.int .u8 0, V.int .u8 0, V.int .u8 0, V.nilf, V.nilp, V.int .i32 0, V.int .i32 0] := by kernel_rfl
theorem cz225 : Tryz.prog.cellsOf 225 = 11 := by kernel_rfl
theorem tk225 : tyOk Tryz.prog 225 = true := by kernel_rfl
theorem ag225 : isAg Tryz.prog 225 = true := by kernel_rfl
theorem by225 : Tryz.prog.bytesOf 225 = 48 := by kernel_rfl
theorem se225 : slEl Tryz.prog 225 = none := by kernel_rfl
theorem ae225 : arEl Tryz.prog 225 = none := by kernel_rfl
theorem st225 : isSt Tryz.prog 225 = true := by kernel_rfl
theorem fo225 : fldsOk Tryz.prog 225 = true := by kernel_rfl
theorem fd225_0 : fld Tryz.prog 225 0 = some (0, 12) := by kernel_rfl
theorem fd225_1 : fld Tryz.prog 225 1 = some (1, 12) := by kernel_rfl
theorem fd225_2 : fld Tryz.prog 225 2 = some (2, 178) := by kernel_rfl
theorem fd225_3 : fld Tryz.prog 225 3 = some (3, 218) := by kernel_rfl
theorem fd225_4 : fld Tryz.prog 225 4 = some (4, 5) := by kernel_rfl
theorem fd225_5 : fld Tryz.prog 225 5 = some (5, 5) := by kernel_rfl
theorem fd225_6 : fld Tryz.prog 225 6 = some (6, 219) := by kernel_rfl
theorem fd225_7 : fld Tryz.prog 225 7 = some (7, 220) := by kernel_rfl
theorem fd225_8 : fld Tryz.prog 225 8 = some (8, 221) := by kernel_rfl
theorem fd225_9 : fld Tryz.prog 225 9 = some (9, 222) := by kernel_rfl
theorem fd225_10 : fld Tryz.prog 225 10 = some (10, 223) := by kernel_rfl
theorem zz225 : zc Tryz.prog 225 = [V.int .u64 0, V.int .u64 0, V.int .u32 0, V.int .u8 0, V.int .u8 0, V.int .u8 0, V.int .u8 0, V.nilf, V.nilp, V.int .i32 0, V.int .i32 0] := by kernel_rfl
attribute [simp] cz1 tk1 ag1 by1 se1 ae1 if1 zz1 cz2 tk2 ag2 by2 se2 ae2 ik2 zz2 cz3 tk3 ag3 by3 se3 ae3 ik3 zz3 cz4 tk4 ag4 by4 se4 ae4 ib4 zz4 cz5 tk5 ag5 by5 se5 ae5 ik5 zz5 cz6 tk6 ag6 by6 se6 ae6 ik6 zz6 cz7 tk7 ag7 by7 se7 ae7 st7 fo7 fd7_0 fd7_1 fd7_2 fd7_3 lt7 fe7 zz7 cz8 tk8 ag8 by8 se8 ae8 st8 fo8 fd8_0 fd8_1 fd8_2 fd8_3 lt8 fe8 zz8 cz12 tk12 ag12 by12 se12 ae12 ik12 zz12 cz13 tk13 ag13 by13 se13 ae13 st13 fo13 fd13_0 fd13_1 zz13 cz14 tk14 ag14 by14 se14 ae14 st14 fo14 fd14_0 fd14_1 zz14 cz15 tk15 ag15 by15 se15 ae15 ip15 zz15 cz16 tk16 ag16 by16 se16 ae16 ip16 zz16 cz17 tk17 ag17 by17 se17 ae17 ip17 zz17 cz18 tk18 ag18 by18 se18 ae18 st18 fo18 fd18_0 zz18 cz19 tk19 ag19 by19 se19 ae19 st19 fo19 fd19_0 zz19 cz21 tk21 ag21 by21 se21 ae21 ik21 zz21 cz22 tk22 ag22 by22 se22 ae22 zz22 cz23 tk23 ag23 by23 se23 ae23 zz23 cz24 tk24 ag24 by24 se24 ae24 zz24 cz25 tk25 ag25 by25 se25 ae25 st25 fo25 fd25_0 fd25_1 fd25_2 fd25_3 zz25 cz26 tk26 ag26 by26 se26 ae26 st26 fo26 fd26_0 fd26_1 fd26_2 fd26_3 zz26 cz27 tk27 ag27 by27 se27 ae27 zz27 cz28 tk28 ag28 by28 se28 ae28 st28 fo28 fd28_0 fd28_1 zz28 cz29 tk29 ag29 by29 se29 ae29 st29 fo29 fd29_0 fd29_1 zz29 cz30 tk30 ag30 by30 se30 ae30 zz30 cz31 tk31 ag31 by31 se31 ae31 st31 fo31 fd31_0 fd31_1 fd31_2 zz31 cz32 tk32 ag32 by32 se32 ae32 st32 fo32 fd32_0 fd32_1 fd32_2 zz32 cz33 tk33 ag33 by33 se33 ae33 zz33 cz34 tk34 ag34 by34 se34 ae34 st34 fo34 fd34_0 fd34_1 zz34 cz35 tk35 ag35 by35 se35 ae35 st35 fo35 fd35_0 fd35_1 zz35 cz36 tk36 ag36 by36 se36 ae36 if36 zz36 cz37 tk37 ag37 by37 se37 ae37 zz37 cz38 tk38 ag38 by38 se38 ae38 ik38 zz38 cz40 tk40 ag40 by40 se40 ae40 if40 zz40 cz41 tk41 ag41 by41 se41 ae41 st41 lt41 fe41 zz41 cz43 tk43 ag43 by43 se43 ae43 if43 zz43 cz44 tk44 ag44 by44 se44 ae44 if44 zz44 cz45 tk45 ag45 by45 se45 ae45 st45 fo45 fd45_0 fd45_1 fd45_2 fd45_3 lt45 fe45 zz45 cz46 tk46 ag46 by46 se46 ae46 st46 fo46 fd46_0 fd46_1 fd46_2 fd46_3 lt46 fe46 zz46 cz47 tk47 ag47 by47 se47 ae47 zz47 cz49 tk49 ag49 by49 se49 ae49 if49 zz49 cz50 tk50 ag50 by50 se50 ae50 st50 fo50 fd50_0 fd50_1 fd50_2 fd50_3 fd50_4 fd50_5 lt50 fe50 zz50 cz51 tk51 ag51 by51 se51 ae51 st51 fo51 fd51_0 fd51_1 fd51_2 fd51_3 fd51_4 fd51_5 lt51 fe51 zz51 cz52 tk52 ag52 by52 se52 ae52 if52 zz52 cz53 tk53 ag53 by53 se53 ae53 st53 fo53 fd53_0 fd53_1 fd53_2 zz53 cz54 tk54 ag54 by54 se54 ae54 st54 fo54 fd54_0 fd54_1 fd54_2 zz54 cz55 tk55 ag55 by55 se55 ae55 if55 zz55 cz56 tk56 ag56 by56 se56 ae56 if56 zz56 cz57 tk57 ag57 by57 se57 ae57 if57 zz57 cz58 tk58 ag58 by58 se58 ae58 st58 fo58 fd58_0 fd58_1 fd58_2 zz58 cz59 tk59 ag59 by59 se59 ae59 st59 fo59 fd59_0 fd59_1 fd59_2 zz59 cz60 tk60 ag60 by60 se60 ae60 st60 fo60 fd60_0 fd60_1 lt60 fe60 zz60 cz61 tk61 ag61 by61 se61 ae61 st61 fo61 fd61_0 fd61_1 lt61 fe61 zz61 cz63 tk63 ag63 by63 se63 ae63 if63 zz63 cz64 tk64 ag64 by64 se64 ae64 if64 zz64 cz65 tk65 ag65 by65 se65 ae65 if65 zz65 cz66 tk66 ag66 by66 se66 ae66 ip66 zz66 cz68 tk68 ag68 by68 se68 ae68 if68 zz68 cz69 tk69 ag69 by69 se69 ae69 zz69 cz70 tk70 ag70 by70 se70 ae70 zz70 cz71 tk71 ag71 by71 se71 ae71 zz71 cz72 tk72 ag72 by72 se72 ae72 zz72 cz73 tk73 ag73 by73 se73 ae73 st73 fo73 fd73_0 fd73_1 fd73_2 fd73_3 fd73_4 fd73_5 zz73 cz74 tk74 ag74 by74 se74 ae74 st74 fo74 fd74_0 fd74_1 fd74_2 fd74_3 fd74_4 fd74_5 zz74 cz75 tk75 ag75 by75 se75 ae75 st75 fo75 fd75_0 fd75_1 fd75_2 lt75 fe75 zz75 cz76 tk76 ag76 by76 se76 ae76 st76 fo76 fd76_0 fd76_1 fd76_2 lt76 fe76 zz76 cz77 tk77 ag77 by77 se77 ae77 if77 zz77 cz78 tk78 ag78 by78 se78 ae78 if78 zz78 cz79 tk79 ag79 by79 se79 ae79 if79 zz79 cz81 tk81 ag81 by81 se81 ae81 if81 zz81 cz82 tk82 ag82 by82 se82 ae82 if82 zz82 cz83 tk83 ag83 by83 se83 ae83 st83 lt83 fe83 zz83 cz84 tk84 ag84 by84 se84 ae84 if84 zz84 cz85 tk85 ag85 by85 se85 ae85 if85 zz85 cz86 tk86 ag86 by86 se86 ae86 if86 zz86 cz87 tk87 ag87 by87 se87 ae87 ip87 zz87 cz88 tk88 ag88 by88 se88 ae88 st88 fo88 fd88_0 fd88_1 fd88_2 fd88_3 zz88 cz89 tk89 ag89 by89 se89 ae89 st89 fo89 fd89_0 fd89_1 fd89_2 fd89_3 zz89 cz90 tk90 ag90 by90 se90 ae90 if90 zz90 cz91 tk91 ag91 by91 se91 ae91 if91 zz91 cz93 tk93 ag93 by93 se93 ae93 if93 zz93 cz95 tk95 ag95 by95 se95 ae95 if95 zz95 cz96 tk96 ag96 by96 se96 ae96 if96 zz96 cz97 tk97 ag97 by97 se97 ae97 if97 zz97 cz98 tk98 ag98 by98 se98 ae98 if98 zz98 cz99 tk99 ag99 by99 se99 ae99 zz99 cz100 tk100 ag100 by100 se100 ae100 st100 fo100 fd100_0 fd100_1 fd100_2 fd100_3 fd100_4 zz100 cz101 tk101 ag101 by101 se101 ae101 st101 fo101 fd101_0 fd101_1 fd101_2 fd101_3 fd101_4 zz101 cz102 tk102 ag102 by102 se102 ae102 if102 zz102 cz103 tk103 ag103 by103 se103 ae103 if103 zz103 cz104 tk104 ag104 by104 se104 ae104 if104 zz104 cz105 tk105 ag105 by105 se105 ae105 st105 fo105 fd105_0 fd105_1 lt105 fe105 zz105 cz106 tk106 ag106 by106 se106 ae106 st106 fo106 fd106_0 fd106_1 lt106 fe106 zz106 cz107 tk107 ag107 by107 se107 ae107 st107 fo107 fd107_0 fd107_1 fd107_2 zz107 cz108 tk108 ag108 by108 se108 ae108 st108 fo108 fd108_0 fd108_1 fd108_2 zz108 cz110 tk110 ag110 by110 se110 ae110 if110 zz110 cz111 tk111 ag111 by111 se111 ae111 if111 zz111 cz112 tk112 ag112 by112 se112 ae112 if112 zz112 cz113 tk113 ag113 by113 se113 ae113 if113 zz113 cz114 tk114 ag114 by114 se114 ae114 if114 zz114 cz115 tk115 ag115 by115 se115 ae115 if115 zz115 cz116 tk116 ag116 by116 se116 ae116 if116 zz116 cz117 tk117 ag117 by117 se117 ae117 if117 zz117 cz118 tk118 ag118 by118 se118 ae118 st118 fo118 fd118_0 fd118_1 fd118_2 fd118_3 lt118 fe118 zz118 cz119 tk119 ag119 by119 se119 ae119 st119 fo119 fd119_0 fd119_1 fd119_2 fd119_3 lt119 fe119 zz119 cz120 tk120 ag120 by120 se120 ae120 if120 zz120 cz121 tk121 ag121 by121 se121 ae121 if121 zz121 cz122 tk122 ag122 by122 se122 ae122 ip122 zz122 cz124 tk124 ag124 by124 se124 ae124 if124 zz124 cz125 tk125 ag125 by125 se125 ae125 st125 fo125 fd125_0 fd125_1 zz125 cz126 tk126 ag126 by126 se126 ae126 st126 fo126 fd126_0 fd126_1 zz126 cz127 tk127 ag127 by127 se127 ae127 if127 zz127 cz128 tk128 ag128 by128 se128 ae128 zz128 cz129 tk129 ag129 by129 se129 ae129 if129 zz129 cz130 tk130 ag130 by130 se130 ae130 if130 zz130 cz131 tk131 ag131 by131 se131 ae131 if131 zz131 cz132 tk132 ag132 by132 se132 ae132 if132 zz132 cz133 tk133 ag133 by133 se133 ae133 if133 zz133 cz134 tk134 ag134 by134 se134 ae134 if134 zz134 cz135 tk135 ag135 by135 se135 ae135 if135 zz135 cz136 tk136 ag136 by136 se136 ae136 if136 zz136 cz137 tk137 ag137 by137 se137 ae137 ik137 zz137 cz138 tk138 ag138 by138 se138 ae138 ip138 zz138 cz139 tk139 ag139 by139 se139 ae139 st139 fo139 fd139_0 fd139_1 lt139 fe139 zz139 cz140 tk140 ag140 by140 se140 ae140 st140 fo140 fd140_0 fd140_1 lt140 fe140 zz140 cz141 tk141 ag141 by141 se141 ae141 if141 zz141 cz142 tk142 ag142 by142 se142 ae142 if142 zz142 cz143 tk143 ag143 by143 se143 ae143 if143 zz143 cz144 tk144 ag144 by144 se144 ae144 if144 zz144 cz145 tk145 ag145 by145 se145 ae145 if145 zz145 cz147 tk147 ag147 by147 se147 ae147 if147 zz147 cz148 tk148 ag148 by148 se148 ae148 if148 zz148 cz150 tk150 ag150 by150 se150 ae150 if150 zz150 cz151 tk151 ag151 by151 se151 ae151 if151 zz151 cz152 tk152 ag152 by152 se152 ae152 if152 zz152 cz153 tk153 ag153 by153 se153 ae153 if153 zz153 cz154 tk154 ag154 by154 se154 ae154 if154 zz154 cz155 tk155 ag155 by155 se155 ae155 if155 zz155 cz156 tk156 ag156 by156 se156 ae156 if156 zz156 cz157 tk157 ag157 by157 se157 ae157 if157 zz157 cz158 tk158 ag158 by158 se158 ae158 if158 zz158 cz159 tk159 ag159 by159 se159 ae159 if159 zz159 cz160 tk160 ag160 by160 se160 ae160 if160 zz160 cz161 tk161 ag161 by161 se161 ae161 if161 zz161 cz162 tk162 ag162 by162 se162 ae162 if162 zz162 cz163 tk163 ag163 by163 se163 ae163 if163 zz163 cz164 tk164 ag164 by164 se164 ae164 if164 zz164 cz165 tk165 ag165 by165 se165 ae165 if165 zz165 cz166 tk166 ag166 by166 se166 ae166 st166 fo166 fd166_0 fd166_1 fd166_2 fd166_3 zz166 cz167 tk167 ag167 by167 se167 ae167 st167 fo167 fd167_0 fd167_1 fd167_2 fd167_3 zz167 cz168 tk168 ag168 by168 se168 ae168 if168 zz168 cz169 tk169 ag169 by169 se169 ae169 if169 zz169 cz170 tk170 ag170 by170 se170 ae170 if170 zz170 cz171 tk171 ag171 by171 se171 ae171 ik171 zz171 cz173 tk173 ag173 by173 se173 ae173 if173 zz173 cz174 tk174 ag174 by174 se174 ae174 if174 zz174 cz176 tk176 ag176 by176 se176 ae176 if176 zz176 cz177 tk177 ag177 by177 se177 ae177 if177 zz177 cz178 tk178 ag178 by178 se178 ae178 ik178 zz178 cz179 tk179 ag179 by179 se179 ae179 if179 zz179 cz180 tk180 ag180 by180 se180 ae180 ik180 zz180 cz181 tk181 ag181 by181 se181 ae181 if181 zz181 cz183 tk183 ag183 by183 se183 ae183 if183 zz183 cz184 tk184 ag184 by184 se184 ae184 if184 zz184 cz185 tk185 ag185 by185 se185 ae185 if185 zz185 cz186 tk186 ag186 by186 se186 ae186 if186 zz186 cz187 tk187 ag187 by187 se187 ae187 if187 zz187 cz188 tk188 ag188 by188 se188 ae188 if188 zz188 cz189 tk189 ag189 by189 se189 ae189 zz189 cz190 tk190 ag190 by190 se190 ae190 if190 zz190 cz191 tk191 ag191 by191 se191 ae191 if191 zz191 cz192 tk192 ag192 by192 se192 ae192 if192 zz192 cz193 tk193 ag193 by193 se193 ae193 if193 zz193 cz194 tk194 ag194 by194 se194 ae194 if194 zz194 cz195 tk195 ag195 by195 se195 ae195 if195 zz195 cz196 tk196 ag196 by196 se196 ae196 if196 zz196 cz197 tk197 ag197 by197 se197 ae197 if197 zz197 cz198 tk198 ag198 by198 se198 ae198 if198 zz198 cz199 tk199 ag199 by199 se199 ae199 ik199 zz199 cz200 tk200 ag200 by200 se200 ae200 if200 zz200 cz201 tk201 ag201 by201 se201 ae201 if201 zz201 cz202 tk202 ag202 by202 se202 ae202 if202 zz202 cz203 tk203 ag203 by203 se203 ae203 ip203 zz203 cz204 tk204 ag204 by204 se204 ae204 if204 zz204 cz205 tk205 ag205 by205 se205 ae205 if205 zz205 cz206 tk206 ag206 by206 se206 ae206 if206 zz206 cz207 tk207 ag207 by207 se207 ae207 if207 zz207 cz208 tk208 ag208 by208 se208 ae208 if208 zz208 cz209 tk209 ag209 by209 se209 ae209 ip209 zz209 cz210 tk210 ag210 by210 se210 ae210 if210 zz210 cz211 tk211 ag211 by211 se211 ae211 if211 zz211 cz212 tk212 ag212 by212 se212 ae212 if212 zz212 cz213 tk213 ag213 by213 se213 ae213 st213 fo213 fd213_0 fd213_1 fd213_2 fd213_3 zz213 cz214 tk214 ag214 by214 se214 ae214 st214 fo214 fd214_0 fd214_1 fd214_2 fd214_3 zz214 cz215 tk215 ag215 by215 se215 ae215 st215 zz215 cz216 tk216 ag216 by216 se216 ae216 st216 fd216_0 zz216 cz217 tk217 ag217 by217 se217 ae217 st217 fd217_0 zz217 cz218 tk218 ag218 by218 se218 ae218 ik218 zz218 cz219 tk219 ag219 by219 se219 ae219 ik219 zz219 cz220 tk220 ag220 by220 se220 ae220 if220 zz220 cz221 tk221 ag221 by221 se221 ae221 ip221 zz221 cz222 tk222 ag222 by222 se222 ae222 ik222 zz222 cz223 tk223 ag223 by223 se223 ae223 ik223 zz223 cz224 tk224 ag224 by224 se224 ae224 st224 fo224 fd224_0 fd224_1 fd224_2 fd224_3 fd224_4 fd224_5 fd224_6 fd224_7 fd224_8 fd224_9 fd224_10 zz224 cz225 tk225 ag225 by225 se225 ae225 st225 fo225 fd225_0 fd225_1 fd225_2 fd225_3 fd225_4 fd225_5 fd225_6 fd225_7 fd225_8 fd225_9 fd225_10 zz225
end Go.Sx.Ty
