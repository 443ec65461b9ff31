/- What the walk asks of this seat's types: closed facts. Printed by program. No conditions. -/
import Derived.Test.YtjpmoggimhmidaaGreatProg
import Derived.Test.YtjpmoggimhmidaaGreatP01
set_option linter.unusedSimpArgs false
set_option linter.unusedVariables false
set_option linter.unusedSectionVars false
namespace Go.Sx.Ty
open Go.Proofs Go.Sx
theorem cz1 : Tryz.prog.cellsOf 1 = 1 := by kernel_rfl
theorem tk1 : tyOk Tryz.prog 1 = true := by kernel_rfl
theorem ag1 : isAg Tryz.prog 1 = false := by kernel_rfl
theorem by1 : Tryz.prog.bytesOf 1 = 8 := by kernel_rfl
theorem se1 : slEl Tryz.prog 1 = none := by kernel_rfl
theorem ae1 : arEl Tryz.prog 1 = none := by kernel_rfl
theorem if1 : isFn Tryz.prog 1 = true := by kernel_rfl
theorem zz1 : zc Tryz.prog 1 = [V.nilf] := by kernel_rfl
theorem cz2 : Tryz.prog.cellsOf 2 = 1 := by kernel_rfl
theorem tk2 : tyOk Tryz.prog 2 = true := by kernel_rfl
theorem ag2 : isAg Tryz.prog 2 = false := by kernel_rfl
theorem by2 : Tryz.prog.bytesOf 2 = 8 := by kernel_rfl
theorem se2 : slEl Tryz.prog 2 = none := by kernel_rfl
theorem ae2 : arEl Tryz.prog 2 = none := by kernel_rfl
theorem ik2 : intK Tryz.prog 2 = some .i64 := by kernel_rfl
theorem zz2 : zc Tryz.prog 2 = [V.int .i64 0] := by kernel_rfl
theorem cz3 : Tryz.prog.cellsOf 3 = 1 := by kernel_rfl
theorem tk3 : tyOk Tryz.prog 3 = true := by kernel_rfl
theorem ag3 : isAg Tryz.prog 3 = false := by kernel_rfl
theorem by3 : Tryz.prog.bytesOf 3 = 8 := by kernel_rfl
theorem se3 : slEl Tryz.prog 3 = none := by kernel_rfl
theorem ae3 : arEl Tryz.prog 3 = none := by kernel_rfl
theorem ik3 : intK Tryz.prog 3 = some .i64 := by kernel_rfl
theorem zz3 : zc Tryz.prog 3 = [V.int .i64 0] := by kernel_rfl
theorem cz4 : Tryz.prog.cellsOf 4 = 1 := by kernel_rfl
theorem tk4 : tyOk Tryz.prog 4 = true := by kernel_rfl
theorem ag4 : isAg Tryz.prog 4 = false := by kernel_rfl
theorem by4 : Tryz.prog.bytesOf 4 = 1 := by kernel_rfl
theorem se4 : slEl Tryz.prog 4 = none := by kernel_rfl
theorem ae4 : arEl Tryz.prog 4 = none := by kernel_rfl
theorem ib4 : isBool Tryz.prog 4 = true := by kernel_rfl
theorem zz4 : zc Tryz.prog 4 = [V.bool false] := by kernel_rfl
theorem cz5 : Tryz.prog.cellsOf 5 = 1 := by kernel_rfl
theorem tk5 : tyOk Tryz.prog 5 = true := by kernel_rfl
theorem ag5 : isAg Tryz.prog 5 = false := by kernel_rfl
theorem by5 : Tryz.prog.bytesOf 5 = 1 := by kernel_rfl
theorem se5 : slEl Tryz.prog 5 = none := by kernel_rfl
theorem ae5 : arEl Tryz.prog 5 = none := by kernel_rfl
theorem ik5 : intK Tryz.prog 5 = some .u8 := by kernel_rfl
theorem zz5 : zc Tryz.prog 5 = [V.int .u8 0] := by kernel_rfl
theorem cz6 : Tryz.prog.cellsOf 6 = 1 := by kernel_rfl
theorem tk6 : tyOk Tryz.prog 6 = true := by kernel_rfl
theorem ag6 : isAg Tryz.prog 6 = false := by kernel_rfl
theorem by6 : Tryz.prog.bytesOf 6 = 1 := by kernel_rfl
theorem se6 : slEl Tryz.prog 6 = none := by kernel_rfl
theorem ae6 : arEl Tryz.prog 6 = none := by kernel_rfl
theorem ik6 : intK Tryz.prog 6 = some .u8 := by kernel_rfl
theorem zz6 : zc Tryz.prog 6 = [V.int .u8 0] := by kernel_rfl
theorem cz7 : Tryz.prog.cellsOf 7 = 4 := by kernel_rfl
theorem tk7 : tyOk Tryz.prog 7 = true := by kernel_rfl
theorem ag7 : isAg Tryz.prog 7 = true := by kernel_rfl
theorem by7 : Tryz.prog.bytesOf 7 = 24 := by kernel_rfl
theorem se7 : slEl Tryz.prog 7 = none := by kernel_rfl
theorem ae7 : arEl Tryz.prog 7 = none := by kernel_rfl
theorem st7 : isSt Tryz.prog 7 = true := by kernel_rfl
theorem fo7 : fldsOk Tryz.prog 7 = true := by kernel_rfl
theorem fd7_0 : fld Tryz.prog 7 0 = some (0, 2) := by kernel_rfl
theorem fd7_1 : fld Tryz.prog 7 1 = some (1, 3) := by kernel_rfl
theorem fd7_2 : fld Tryz.prog 7 2 = some (2, 4) := by kernel_rfl
theorem fd7_3 : fld Tryz.prog 7 3 = some (3, 6) := by kernel_rfl
theorem lt7 : leafTs Tryz.prog 7 = [2, 3, 4, 6] := by kernel_rfl
theorem fe7 : flatEq Tryz.prog 7 = true := by kernel_rfl
theorem zz7 : zc Tryz.prog 7 = [V.int .i64 0, V.int .i64 0, V.bool false, V.int .u8 0] := by kernel_rfl
theorem cz8 : Tryz.prog.cellsOf 8 = 4 := by kernel_rfl
theorem tk8 : tyOk Tryz.prog 8 = true := by kernel_rfl
theorem ag8 : isAg Tryz.prog 8 = true := by kernel_rfl
theorem by8 : Tryz.prog.bytesOf 8 = 24 := by kernel_rfl
theorem se8 : slEl Tryz.prog 8 = none := by kernel_rfl
theorem ae8 : arEl Tryz.prog 8 = none := by kernel_rfl
theorem st8 : isSt Tryz.prog 8 = true := by kernel_rfl
theorem fo8 : fldsOk Tryz.prog 8 = true := by kernel_rfl
theorem fd8_0 : fld Tryz.prog 8 0 = some (0, 2) := by kernel_rfl
theorem fd8_1 : fld Tryz.prog 8 1 = some (1, 3) := by kernel_rfl
theorem fd8_2 : fld Tryz.prog 8 2 = some (2, 4) := by kernel_rfl
theorem fd8_3 : fld Tryz.prog 8 3 = some (3, 6) := by kernel_rfl
theorem lt8 : leafTs Tryz.prog 8 = [2, 3, 4, 6] := by kernel_rfl
theorem fe8 : flatEq Tryz.prog 8 = true := by kernel_rfl
theorem zz8 : zc Tryz.prog 8 = [V.int .i64 0, V.int .i64 0, V.bool false, V.int .u8 0] := by kernel_rfl
theorem cz12 : Tryz.prog.cellsOf 12 = 1 := by kernel_rfl
theorem tk12 : tyOk Tryz.prog 12 = true := by kernel_rfl
theorem ag12 : isAg Tryz.prog 12 = false := by kernel_rfl
theorem by12 : Tryz.prog.bytesOf 12 = 8 := by kernel_rfl
theorem se12 : slEl Tryz.prog 12 = none := by kernel_rfl
theorem ae12 : arEl Tryz.prog 12 = none := by kernel_rfl
theorem ik12 : intK Tryz.prog 12 = some .u64 := by kernel_rfl
theorem zz12 : zc Tryz.prog 12 = [V.int .u64 0] := by kernel_rfl
theorem cz13 : Tryz.prog.cellsOf 13 = 2 := by kernel_rfl
theorem tk13 : tyOk Tryz.prog 13 = true := by kernel_rfl
theorem ag13 : isAg Tryz.prog 13 = true := by kernel_rfl
theorem by13 : Tryz.prog.bytesOf 13 = 24 := by kernel_rfl
theorem se13 : slEl Tryz.prog 13 = none := by kernel_rfl
theorem ae13 : arEl Tryz.prog 13 = none := by kernel_rfl
theorem st13 : isSt Tryz.prog 13 = true := by kernel_rfl
theorem fo13 : fldsOk Tryz.prog 13 = true := by kernel_rfl
theorem fd13_0 : fld Tryz.prog 13 0 = some (0, 9) := by kernel_rfl
theorem fd13_1 : fld Tryz.prog 13 1 = some (1, 12) := by kernel_rfl
theorem zz13 : zc Tryz.prog 13 = [V.top, V.int .u64 0] := by kernel_rfl
theorem cz14 : Tryz.prog.cellsOf 14 = 2 := by kernel_rfl
theorem tk14 : tyOk Tryz.prog 14 = true := by kernel_rfl
theorem ag14 : isAg Tryz.prog 14 = true := by kernel_rfl
theorem by14 : Tryz.prog.bytesOf 14 = 24 := by kernel_rfl
theorem se14 : slEl Tryz.prog 14 = none := by kernel_rfl
theorem ae14 : arEl Tryz.prog 14 = none := by kernel_rfl
theorem st14 : isSt Tryz.prog 14 = true := by kernel_rfl
theorem fo14 : fldsOk Tryz.prog 14 = true := by kernel_rfl
theorem fd14_0 : fld Tryz.prog 14 0 = some (0, 9) := by kernel_rfl
theorem fd14_1 : fld Tryz.prog 14 1 = some (1, 12) := by kernel_rfl
theorem zz14 : zc Tryz.prog 14 = [V.top, V.int .u64 0] := by kernel_rfl
theorem cz15 : Tryz.prog.cellsOf 15 = 1 := by kernel_rfl
theorem tk15 : tyOk Tryz.prog 15 = true := by kernel_rfl
theorem ag15 : isAg Tryz.prog 15 = false := by kernel_rfl
theorem by15 : Tryz.prog.bytesOf 15 = 8 := by kernel_rfl
theorem se15 : slEl Tryz.prog 15 = none := by kernel_rfl
theorem ae15 : arEl Tryz.prog 15 = none := by kernel_rfl
theorem ip15 : isPtr Tryz.prog 15 = true := by kernel_rfl
theorem zz15 : zc Tryz.prog 15 = [V.nilp] := by kernel_rfl
theorem cz16 : Tryz.prog.cellsOf 16 = 1 := by kernel_rfl
theorem tk16 : tyOk Tryz.prog 16 = true := by kernel_rfl
theorem ag16 : isAg Tryz.prog 16 = false := by kernel_rfl
theorem by16 : Tryz.prog.bytesOf 16 = 8 := by kernel_rfl
theorem se16 : slEl Tryz.prog 16 = none := by kernel_rfl
theorem ae16 : arEl Tryz.prog 16 = none := by kernel_rfl
theorem ip16 : isPtr Tryz.prog 16 = true := by kernel_rfl
theorem zz16 : zc Tryz.prog 16 = [V.nilp] := by kernel_rfl
theorem cz17 : Tryz.prog.cellsOf 17 = 1 := by kernel_rfl
theorem tk17 : tyOk Tryz.prog 17 = true := by kernel_rfl
theorem ag17 : isAg Tryz.prog 17 = false := by kernel_rfl
theorem by17 : Tryz.prog.bytesOf 17 = 8 := by kernel_rfl
theorem se17 : slEl Tryz.prog 17 = none := by kernel_rfl
theorem ae17 : arEl Tryz.prog 17 = none := by kernel_rfl
theorem ip17 : isPtr Tryz.prog 17 = true := by kernel_rfl
theorem zz17 : zc Tryz.prog 17 = [V.nilp] := by kernel_rfl
theorem cz18 : Tryz.prog.cellsOf 18 = 1 := by kernel_rfl
theorem tk18 : tyOk Tryz.prog 18 = true := by kernel_rfl
theorem ag18 : isAg Tryz.prog 18 = true := by kernel_rfl
theorem by18 : Tryz.prog.bytesOf 18 = 8 := by kernel_rfl
theorem se18 : slEl Tryz.prog 18 = none := by kernel_rfl
theorem ae18 : arEl Tryz.prog 18 = none := by kernel_rfl
theorem st18 : isSt Tryz.prog 18 = true := by kernel_rfl
theorem fo18 : fldsOk Tryz.prog 18 = true := by kernel_rfl
theorem fd18_0 : fld Tryz.prog 18 0 = some (0, 17) := by kernel_rfl
theorem zz18 : zc Tryz.prog 18 = [V.nilp] := by kernel_rfl
theorem cz19 : Tryz.prog.cellsOf 19 = 1 := by kernel_rfl
theorem tk19 : tyOk Tryz.prog 19 = true := by kernel_rfl
theorem ag19 : isAg Tryz.prog 19 = true := by kernel_rfl
theorem by19 : Tryz.prog.bytesOf 19 = 8 := by kernel_rfl
theorem se19 : slEl Tryz.prog 19 = none := by kernel_rfl
theorem ae19 : arEl Tryz.prog 19 = none := by kernel_rfl
theorem st19 : isSt Tryz.prog 19 = true := by kernel_rfl
theorem fo19 : fldsOk Tryz.prog 19 = true := by kernel_rfl
theorem fd19_0 : fld Tryz.prog 19 0 = some (0, 17) := by kernel_rfl
theorem zz19 : zc Tryz.prog 19 = [V.nilp] := by kernel_rfl
theorem cz21 : Tryz.prog.cellsOf 21 = 1 := by kernel_rfl
theorem tk21 : tyOk Tryz.prog 21 = true := by kernel_rfl
theorem ag21 : isAg Tryz.prog 21 = false := by kernel_rfl
theorem by21 : Tryz.prog.bytesOf 21 = 4 := by kernel_rfl
theorem se21 : slEl Tryz.prog 21 = none := by kernel_rfl
theorem ae21 : arEl Tryz.prog 21 = none := by kernel_rfl
theorem ik21 : intK Tryz.prog 21 = some .i32 := by kernel_rfl
theorem zz21 : zc Tryz.prog 21 = [V.int .i32 0] := by kernel_rfl
theorem cz22 : Tryz.prog.cellsOf 22 = 1 := by kernel_rfl
theorem tk22 : tyOk Tryz.prog 22 = true := by kernel_rfl
theorem ag22 : isAg Tryz.prog 22 = false := by kernel_rfl
theorem by22 : Tryz.prog.bytesOf 22 = 24 := by kernel_rfl
theorem se22 : slEl Tryz.prog 22 = some 3 := by kernel_rfl
theorem ae22 : arEl Tryz.prog 22 = none := by kernel_rfl
theorem zz22 : zc Tryz.prog 22 = [V.nil] := by kernel_rfl
theorem cz23 : Tryz.prog.cellsOf 23 = 1 := by kernel_rfl
theorem tk23 : tyOk Tryz.prog 23 = true := by kernel_rfl
theorem ag23 : isAg Tryz.prog 23 = false := by kernel_rfl
theorem by23 : Tryz.prog.bytesOf 23 = 24 := by kernel_rfl
theorem se23 : slEl Tryz.prog 23 = some 22 := by kernel_rfl
theorem ae23 : arEl Tryz.prog 23 = none := by kernel_rfl
theorem zz23 : zc Tryz.prog 23 = [V.nil] := by kernel_rfl
theorem cz24 : Tryz.prog.cellsOf 24 = 3 := by kernel_rfl
theorem tk24 : tyOk Tryz.prog 24 = true := by kernel_rfl
theorem ag24 : isAg Tryz.prog 24 = true := by kernel_rfl
theorem by24 : Tryz.prog.bytesOf 24 = 72 := by kernel_rfl
theorem se24 : slEl Tryz.prog 24 = none := by kernel_rfl
theorem ae24 : arEl Tryz.prog 24 = none := by kernel_rfl
theorem st24 : isSt Tryz.prog 24 = true := by kernel_rfl
theorem fo24 : fldsOk Tryz.prog 24 = true := by kernel_rfl
theorem fd24_0 : fld Tryz.prog 24 0 = some (0, 22) := by kernel_rfl
theorem fd24_1 : fld Tryz.prog 24 1 = some (1, 22) := by kernel_rfl
theorem fd24_2 : fld Tryz.prog 24 2 = some (2, 23) := by kernel_rfl
theorem zz24 : zc Tryz.prog 24 = [V.nil, V.nil, V.nil] := by kernel_rfl
theorem cz25 : Tryz.prog.cellsOf 25 = 3 := by kernel_rfl
theorem tk25 : tyOk Tryz.prog 25 = true := by kernel_rfl
theorem ag25 : isAg Tryz.prog 25 = true := by kernel_rfl
theorem by25 : Tryz.prog.bytesOf 25 = 72 := by kernel_rfl
theorem se25 : slEl Tryz.prog 25 = none := by kernel_rfl
theorem ae25 : arEl Tryz.prog 25 = none := by kernel_rfl
theorem st25 : isSt Tryz.prog 25 = true := by kernel_rfl
theorem fo25 : fldsOk Tryz.prog 25 = true := by kernel_rfl
theorem fd25_0 : fld Tryz.prog 25 0 = some (0, 22) := by kernel_rfl
theorem fd25_1 : fld Tryz.prog 25 1 = some (1, 22) := by kernel_rfl
theorem fd25_2 : fld Tryz.prog 25 2 = some (2, 23) := by kernel_rfl
theorem zz25 : zc Tryz.prog 25 = [V.nil, V.nil, V.nil] := by kernel_rfl
theorem cz26 : Tryz.prog.cellsOf 26 = 26 := by kernel_rfl
theorem tk26 : tyOk Tryz.prog 26 = true := by kernel_rfl
theorem ag26 : isAg Tryz.prog 26 = true := by kernel_rfl
theorem by26 : Tryz.prog.bytesOf 26 = 592 := by kernel_rfl
theorem se26 : slEl Tryz.prog 26 = none := by kernel_rfl
theorem ae26 : arEl Tryz.prog 26 = none := by kernel_rfl
theorem st26 : isSt Tryz.prog 26 = true := by kernel_rfl
theorem fo26 : fldsOk Tryz.prog 26 = true := by kernel_rfl
theorem fd26_0 : fld Tryz.prog 26 0 = some (0, 25) := by kernel_rfl
theorem fd26_1 : fld Tryz.prog 26 1 = some (3, 25) := by kernel_rfl
theorem fd26_2 : fld Tryz.prog 26 2 = some (6, 25) := by kernel_rfl
theorem fd26_3 : fld Tryz.prog 26 3 = some (9, 25) := by kernel_rfl
theorem fd26_4 : fld Tryz.prog 26 4 = some (12, 25) := by kernel_rfl
theorem fd26_5 : fld Tryz.prog 26 5 = some (15, 25) := by kernel_rfl
theorem fd26_6 : fld Tryz.prog 26 6 = some (18, 25) := by kernel_rfl
theorem fd26_7 : fld Tryz.prog 26 7 = some (21, 25) := by kernel_rfl
theorem fd26_8 : fld Tryz.prog 26 8 = some (24, 3) := by kernel_rfl
theorem fd26_9 : fld Tryz.prog 26 9 = some (25, 3) := by kernel_rfl
theorem zz26 : zc Tryz.prog 26 = [V.nil, V.nil, V.nil, V.nil, V.nil, V.nil, V.nil, V.nil, V.nil, V.nil, V.nil, V.nil, V.nil, V.nil, V.nil, V.nil, V.nil, V.nil, V.nil, V.nil, V.nil, V.nil, V.nil, V.nil, V.int .i64 0, V.int .i64 0] := by kernel_rfl
theorem cz27 : Tryz.prog.cellsOf 27 = 26 := by kernel_rfl
theorem tk27 : tyOk Tryz.prog 27 = true := by kernel_rfl
theorem ag27 : isAg Tryz.prog 27 = true := by kernel_rfl
theorem by27 : Tryz.prog.bytesOf 27 = 592 := by kernel_rfl
theorem se27 : slEl Tryz.prog 27 = none := by kernel_rfl
theorem ae27 : arEl Tryz.prog 27 = none := by kernel_rfl
theorem st27 : isSt Tryz.prog 27 = true := by kernel_rfl
theorem fo27 : fldsOk Tryz.prog 27 = true := by kernel_rfl
theorem fd27_0 : fld Tryz.prog 27 0 = some (0, 25) := by kernel_rfl
theorem fd27_1 : fld Tryz.prog 27 1 = some (3, 25) := by kernel_rfl
theorem fd27_2 : fld Tryz.prog 27 2 = some (6, 25) := by kernel_rfl
theorem fd27_3 : fld Tryz.prog 27 3 = some (9, 25) := by kernel_rfl
theorem fd27_4 : fld Tryz.prog 27 4 = some (12, 25) := by kernel_rfl
theorem fd27_5 : fld Tryz.prog 27 5 = some (15, 25) := by kernel_rfl
theorem fd27_6 : fld Tryz.prog 27 6 = some (18, 25) := by kernel_rfl
theorem fd27_7 : fld Tryz.prog 27 7 = some (21, 25) := by kernel_rfl
theorem fd27_8 : fld Tryz.prog 27 8 = some (24, 3) := by kernel_rfl
theorem fd27_9 : fld Tryz.prog 27 9 = some (25, 3) := by kernel_rfl
theorem zz27 : zc Tryz.prog 27 = [V.nil, V.nil, V.nil, V.nil, V.nil, V.nil, V.nil, V.nil, V.nil, V.nil, V.nil, V.nil, V.nil, V.nil, V.nil, V.nil, V.nil, V.nil, V.nil, V.nil, V.nil, V.nil, V.nil, V.nil, V.int .i64 0, V.int .i64 0] := by kernel_rfl
theorem cz28 : Tryz.prog.cellsOf 28 = 2 := by kernel_rfl
theorem tk28 : tyOk Tryz.prog 28 = true := by kernel_rfl
theorem ag28 : isAg Tryz.prog 28 = true := by kernel_rfl
theorem by28 : Tryz.prog.bytesOf 28 = 16 := by kernel_rfl
theorem se28 : slEl Tryz.prog 28 = none := by kernel_rfl
theorem ae28 : arEl Tryz.prog 28 = none := by kernel_rfl
theorem st28 : isSt Tryz.prog 28 = true := by kernel_rfl
theorem fo28 : fldsOk Tryz.prog 28 = true := by kernel_rfl
theorem fd28_0 : fld Tryz.prog 28 0 = some (0, 3) := by kernel_rfl
theorem fd28_1 : fld Tryz.prog 28 1 = some (1, 3) := by kernel_rfl
theorem lt28 : leafTs Tryz.prog 28 = [3, 3] := by kernel_rfl
theorem fe28 : flatEq Tryz.prog 28 = true := by kernel_rfl
theorem zz28 : zc Tryz.prog 28 = [V.int .i64 0, V.int .i64 0] := by kernel_rfl
theorem cz29 : Tryz.prog.cellsOf 29 = 2 := by kernel_rfl
theorem tk29 : tyOk Tryz.prog 29 = true := by kernel_rfl
theorem ag29 : isAg Tryz.prog 29 = true := by kernel_rfl
theorem by29 : Tryz.prog.bytesOf 29 = 16 := by kernel_rfl
theorem se29 : slEl Tryz.prog 29 = none := by kernel_rfl
theorem ae29 : arEl Tryz.prog 29 = none := by kernel_rfl
theorem st29 : isSt Tryz.prog 29 = true := by kernel_rfl
theorem fo29 : fldsOk Tryz.prog 29 = true := by kernel_rfl
theorem fd29_0 : fld Tryz.prog 29 0 = some (0, 3) := by kernel_rfl
theorem fd29_1 : fld Tryz.prog 29 1 = some (1, 3) := by kernel_rfl
theorem lt29 : leafTs Tryz.prog 29 = [3, 3] := by kernel_rfl
theorem fe29 : flatEq Tryz.prog 29 = true := by kernel_rfl
theorem zz29 : zc Tryz.prog 29 = [V.int .i64 0, V.int .i64 0] := by kernel_rfl
theorem cz30 : Tryz.prog.cellsOf 30 = 8 := by kernel_rfl
theorem tk30 : tyOk Tryz.prog 30 = true := by kernel_rfl
theorem ag30 : isAg Tryz.prog 30 = true := by kernel_rfl
theorem by30 : Tryz.prog.bytesOf 30 = 64 := by kernel_rfl
theorem se30 : slEl Tryz.prog 30 = none := by kernel_rfl
theorem ae30 : arEl Tryz.prog 30 = none := by kernel_rfl
theorem st30 : isSt Tryz.prog 30 = true := by kernel_rfl
theorem fo30 : fldsOk Tryz.prog 30 = true := by kernel_rfl
theorem fd30_0 : fld Tryz.prog 30 0 = some (0, 29) := by kernel_rfl
theorem fd30_1 : fld Tryz.prog 30 1 = some (2, 29) := by kernel_rfl
theorem fd30_2 : fld Tryz.prog 30 2 = some (4, 29) := by kernel_rfl
theorem fd30_3 : fld Tryz.prog 30 3 = some (6, 29) := by kernel_rfl
theorem zz30 : zc Tryz.prog 30 = [V.int .i64 0, V.int .i64 0, V.int .i64 0, V.int .i64 0, V.int .i64 0, V.int .i64 0, V.int .i64 0, V.int .i64 0] := by kernel_rfl
theorem cz31 : Tryz.prog.cellsOf 31 = 8 := by kernel_rfl
theorem tk31 : tyOk Tryz.prog 31 = true := by kernel_rfl
theorem ag31 : isAg Tryz.prog 31 = true := by kernel_rfl
theorem by31 : Tryz.prog.bytesOf 31 = 64 := by kernel_rfl
theorem se31 : slEl Tryz.prog 31 = none := by kernel_rfl
theorem ae31 : arEl Tryz.prog 31 = none := by kernel_rfl
theorem st31 : isSt Tryz.prog 31 = true := by kernel_rfl
theorem fo31 : fldsOk Tryz.prog 31 = true := by kernel_rfl
theorem fd31_0 : fld Tryz.prog 31 0 = some (0, 29) := by kernel_rfl
theorem fd31_1 : fld Tryz.prog 31 1 = some (2, 29) := by kernel_rfl
theorem fd31_2 : fld Tryz.prog 31 2 = some (4, 29) := by kernel_rfl
theorem fd31_3 : fld Tryz.prog 31 3 = some (6, 29) := by kernel_rfl
theorem zz31 : zc Tryz.prog 31 = [V.int .i64 0, V.int .i64 0, V.int .i64 0, V.int .i64 0, V.int .i64 0, V.int .i64 0, V.int .i64 0, V.int .i64 0] := by kernel_rfl
theorem cz32 : Tryz.prog.cellsOf 32 = 36 := by kernel_rfl
theorem tk32 : tyOk Tryz.prog 32 = true := by kernel_rfl
theorem ag32 : isAg Tryz.prog 32 = true := by kernel_rfl
theorem by32 : Tryz.prog.bytesOf 32 = 672 := by kernel_rfl
theorem se32 : slEl Tryz.prog 32 = none := by kernel_rfl
theorem ae32 : arEl Tryz.prog 32 = none := by kernel_rfl
theorem st32 : isSt Tryz.prog 32 = true := by kernel_rfl
theorem fo32 : fldsOk Tryz.prog 32 = true := by kernel_rfl
theorem fd32_0 : fld Tryz.prog 32 0 = some (0, 27) := by kernel_rfl
theorem fd32_1 : fld Tryz.prog 32 1 = some (26, 31) := by kernel_rfl
theorem fd32_2 : fld Tryz.prog 32 2 = some (34, 29) := by kernel_rfl
theorem zz32 : zc Tryz.prog 32 = [V.nil, V.nil, V.nil, V.nil, V.nil, V.nil, V.nil, V.nil, V.nil, V.nil, V.nil, V.nil, V.nil, V.nil, V.nil, V.nil, V.nil, V.nil, V.nil, V.nil, V.nil, V.nil, V.nil, V.nil, V.int .i64 0, V.int .i64 0, V.int .i64 0, V.int .i64 0, V.int .i64 0, V.int .i64 0, V.int .i64 0, V.int .i64 0, V.int .i64 0, V.int .i64 0, V.int .i64 0, V.int .i64 0] := by kernel_rfl
theorem cz33 : Tryz.prog.cellsOf 33 = 36 := by kernel_rfl
theorem tk33 : tyOk Tryz.prog 33 = true := by kernel_rfl
theorem ag33 : isAg Tryz.prog 33 = true := by kernel_rfl
theorem by33 : Tryz.prog.bytesOf 33 = 672 := by kernel_rfl
theorem se33 : slEl Tryz.prog 33 = none := by kernel_rfl
theorem ae33 : arEl Tryz.prog 33 = none := by kernel_rfl
theorem st33 : isSt Tryz.prog 33 = true := by kernel_rfl
theorem fo33 : fldsOk Tryz.prog 33 = true := by kernel_rfl
theorem fd33_0 : fld Tryz.prog 33 0 = some (0, 27) := by kernel_rfl
theorem fd33_1 : fld Tryz.prog 33 1 = some (26, 31) := by kernel_rfl
theorem fd33_2 : fld Tryz.prog 33 2 = some (34, 29) := by kernel_rfl
theorem zz33 : zc Tryz.prog 33 = [V.nil, V.nil, V.nil, V.nil, V.nil, V.nil, V.nil, V.nil, V.nil, V.nil, V.nil, V.nil, V.nil, V.nil, V.nil, V.nil, V.nil, V.nil, V.nil, V.nil, V.nil, V.nil, V.nil, V.nil, V.int .i64 0, V.int .i64 0, V.int .i64 0, V.int .i64 0, V.int .i64 0, V.int .i64 0, V.int .i64 0, V.int .i64 0, V.int .i64 0, V.int .i64 0, V.int .i64 0, V.int .i64 0] := by kernel_rfl
theorem cz34 : Tryz.prog.cellsOf 34 = 1 := by kernel_rfl
theorem tk34 : tyOk Tryz.prog 34 = true := by kernel_rfl
theorem ag34 : isAg Tryz.prog 34 = false := by kernel_rfl
theorem by34 : Tryz.prog.bytesOf 34 = 24 := by kernel_rfl
theorem se34 : slEl Tryz.prog 34 = some 87 := by kernel_rfl
theorem ae34 : arEl Tryz.prog 34 = none := by kernel_rfl
theorem zz34 : zc Tryz.prog 34 = [V.nil] := by kernel_rfl
theorem cz35 : Tryz.prog.cellsOf 35 = 6 := by kernel_rfl
theorem tk35 : tyOk Tryz.prog 35 = true := by kernel_rfl
theorem ag35 : isAg Tryz.prog 35 = true := by kernel_rfl
theorem by35 : Tryz.prog.bytesOf 35 = 64 := by kernel_rfl
theorem se35 : slEl Tryz.prog 35 = none := by kernel_rfl
theorem ae35 : arEl Tryz.prog 35 = none := by kernel_rfl
theorem st35 : isSt Tryz.prog 35 = true := by kernel_rfl
theorem fo35 : fldsOk Tryz.prog 35 = true := by kernel_rfl
theorem fd35_0 : fld Tryz.prog 35 0 = some (0, 3) := by kernel_rfl
theorem fd35_1 : fld Tryz.prog 35 1 = some (1, 3) := by kernel_rfl
theorem fd35_2 : fld Tryz.prog 35 2 = some (2, 34) := by kernel_rfl
theorem fd35_3 : fld Tryz.prog 35 3 = some (3, 3) := by kernel_rfl
theorem fd35_4 : fld Tryz.prog 35 4 = some (4, 3) := by kernel_rfl
theorem fd35_5 : fld Tryz.prog 35 5 = some (5, 3) := by kernel_rfl
theorem zz35 : zc Tryz.prog 35 = [V.int .i64 0, V.int .i64 0, V.nil, V.int .i64 0, V.int .i64 0, V.int .i64 0] := by kernel_rfl
theorem cz36 : Tryz.prog.cellsOf 36 = 6 := by kernel_rfl
theorem tk36 : tyOk Tryz.prog 36 = true := by kernel_rfl
theorem ag36 : isAg Tryz.prog 36 = true := by kernel_rfl
theorem by36 : Tryz.prog.bytesOf 36 = 64 := by kernel_rfl
theorem se36 : slEl Tryz.prog 36 = none := by kernel_rfl
theorem ae36 : arEl Tryz.prog 36 = none := by kernel_rfl
theorem st36 : isSt Tryz.prog 36 = true := by kernel_rfl
theorem fo36 : fldsOk Tryz.prog 36 = true := by kernel_rfl
theorem fd36_0 : fld Tryz.prog 36 0 = some (0, 3) := by kernel_rfl
theorem fd36_1 : fld Tryz.prog 36 1 = some (1, 3) := by kernel_rfl
theorem fd36_2 : fld Tryz.prog 36 2 = some (2, 34) := by kernel_rfl
theorem fd36_3 : fld Tryz.prog 36 3 = some (3, 3) := by kernel_rfl
theorem fd36_4 : fld Tryz.prog 36 4 = some (4, 3) := by kernel_rfl
theorem fd36_5 : fld Tryz.prog 36 5 = some (5, 3) := by kernel_rfl
theorem zz36 : zc Tryz.prog 36 = [V.int .i64 0, V.int .i64 0, V.nil, V.int .i64 0, V.int .i64 0, V.int .i64 0] := by kernel_rfl
theorem cz37 : Tryz.prog.cellsOf 37 = 1 := by kernel_rfl
theorem tk37 : tyOk Tryz.prog 37 = true := by kernel_rfl
theorem ag37 : isAg Tryz.prog 37 = false := by kernel_rfl
theorem by37 : Tryz.prog.bytesOf 37 = 24 := by kernel_rfl
theorem se37 : slEl Tryz.prog 37 = some 70 := by kernel_rfl
theorem ae37 : arEl Tryz.prog 37 = none := by kernel_rfl
theorem zz37 : zc Tryz.prog 37 = [V.nil] := by kernel_rfl
theorem cz38 : Tryz.prog.cellsOf 38 = 9 := by kernel_rfl
theorem tk38 : tyOk Tryz.prog 38 = true := by kernel_rfl
theorem ag38 : isAg Tryz.prog 38 = true := by kernel_rfl
theorem by38 : Tryz.prog.bytesOf 38 = 104 := by kernel_rfl
theorem se38 : slEl Tryz.prog 38 = none := by kernel_rfl
theorem ae38 : arEl Tryz.prog 38 = none := by kernel_rfl
theorem st38 : isSt Tryz.prog 38 = true := by kernel_rfl
theorem fo38 : fldsOk Tryz.prog 38 = true := by kernel_rfl
theorem fd38_0 : fld Tryz.prog 38 0 = some (0, 36) := by kernel_rfl
theorem fd38_1 : fld Tryz.prog 38 1 = some (6, 37) := by kernel_rfl
theorem fd38_2 : fld Tryz.prog 38 2 = some (7, 29) := by kernel_rfl
theorem zz38 : zc Tryz.prog 38 = [V.int .i64 0, V.int .i64 0, V.nil, V.int .i64 0, V.int .i64 0, V.int .i64 0, V.nil, V.int .i64 0, V.int .i64 0] := by kernel_rfl
theorem cz39 : Tryz.prog.cellsOf 39 = 9 := by kernel_rfl
theorem tk39 : tyOk Tryz.prog 39 = true := by kernel_rfl
theorem ag39 : isAg Tryz.prog 39 = true := by kernel_rfl
theorem by39 : Tryz.prog.bytesOf 39 = 104 := by kernel_rfl
theorem se39 : slEl Tryz.prog 39 = none := by kernel_rfl
theorem ae39 : arEl Tryz.prog 39 = none := by kernel_rfl
theorem st39 : isSt Tryz.prog 39 = true := by kernel_rfl
theorem fo39 : fldsOk Tryz.prog 39 = true := by kernel_rfl
theorem fd39_0 : fld Tryz.prog 39 0 = some (0, 36) := by kernel_rfl
theorem fd39_1 : fld Tryz.prog 39 1 = some (6, 37) := by kernel_rfl
theorem fd39_2 : fld Tryz.prog 39 2 = some (7, 29) := by kernel_rfl
theorem zz39 : zc Tryz.prog 39 = [V.int .i64 0, V.int .i64 0, V.nil, V.int .i64 0, V.int .i64 0, V.int .i64 0, V.nil, V.int .i64 0, V.int .i64 0] := by kernel_rfl
theorem cz40 : Tryz.prog.cellsOf 40 = 1 := by kernel_rfl
theorem tk40 : tyOk Tryz.prog 40 = true := by kernel_rfl
theorem ag40 : isAg Tryz.prog 40 = false := by kernel_rfl
theorem by40 : Tryz.prog.bytesOf 40 = 8 := by kernel_rfl
theorem se40 : slEl Tryz.prog 40 = none := by kernel_rfl
theorem ae40 : arEl Tryz.prog 40 = none := by kernel_rfl
theorem if40 : isFn Tryz.prog 40 = true := by kernel_rfl
theorem zz40 : zc Tryz.prog 40 = [V.nilf] := by kernel_rfl
theorem cz41 : Tryz.prog.cellsOf 41 = 1 := by kernel_rfl
theorem tk41 : tyOk Tryz.prog 41 = true := by kernel_rfl
theorem ag41 : isAg Tryz.prog 41 = false := by kernel_rfl
theorem by41 : Tryz.prog.bytesOf 41 = 8 := by kernel_rfl
theorem se41 : slEl Tryz.prog 41 = none := by kernel_rfl
theorem ae41 : arEl Tryz.prog 41 = none := by kernel_rfl
theorem if41 : isFn Tryz.prog 41 = true := by kernel_rfl
theorem zz41 : zc Tryz.prog 41 = [V.nilf] := by kernel_rfl
theorem cz42 : Tryz.prog.cellsOf 42 = 1 := by kernel_rfl
theorem tk42 : tyOk Tryz.prog 42 = true := by kernel_rfl
theorem ag42 : isAg Tryz.prog 42 = false := by kernel_rfl
theorem by42 : Tryz.prog.bytesOf 42 = 8 := by kernel_rfl
theorem se42 : slEl Tryz.prog 42 = none := by kernel_rfl
theorem ae42 : arEl Tryz.prog 42 = none := by kernel_rfl
theorem if42 : isFn Tryz.prog 42 = true := by kernel_rfl
theorem zz42 : zc Tryz.prog 42 = [V.nilf] := by kernel_rfl
theorem cz43 : Tryz.prog.cellsOf 43 = 1 := by kernel_rfl
theorem tk43 : tyOk Tryz.prog 43 = true := by kernel_rfl
theorem ag43 : isAg Tryz.prog 43 = false := by kernel_rfl
theorem by43 : Tryz.prog.bytesOf 43 = 8 := by kernel_rfl
theorem se43 : slEl Tryz.prog 43 = none := by kernel_rfl
theorem ae43 : arEl Tryz.prog 43 = none := by kernel_rfl
theorem if43 : isFn Tryz.prog 43 = true := by kernel_rfl
theorem zz43 : zc Tryz.prog 43 = [V.nilf] := by kernel_rfl
theorem cz44 : Tryz.prog.cellsOf 44 = 1 := by kernel_rfl
theorem tk44 : tyOk Tryz.prog 44 = true := by kernel_rfl
theorem ag44 : isAg Tryz.prog 44 = false := by kernel_rfl
theorem by44 : Tryz.prog.bytesOf 44 = 8 := by kernel_rfl
theorem se44 : slEl Tryz.prog 44 = none := by kernel_rfl
theorem ae44 : arEl Tryz.prog 44 = none := by kernel_rfl
theorem ik44 : intK Tryz.prog 44 = some .i64 := by kernel_rfl
theorem zz44 : zc Tryz.prog 44 = [V.int .i64 0] := by kernel_rfl
theorem cz46 : Tryz.prog.cellsOf 46 = 1 := by kernel_rfl
theorem tk46 : tyOk Tryz.prog 46 = true := by kernel_rfl
theorem ag46 : isAg Tryz.prog 46 = false := by kernel_rfl
theorem by46 : Tryz.prog.bytesOf 46 = 8 := by kernel_rfl
theorem se46 : slEl Tryz.prog 46 = none := by kernel_rfl
theorem ae46 : arEl Tryz.prog 46 = none := by kernel_rfl
theorem if46 : isFn Tryz.prog 46 = true := by kernel_rfl
theorem zz46 : zc Tryz.prog 46 = [V.nilf] := by kernel_rfl
theorem cz47 : Tryz.prog.cellsOf 47 = 1 := by kernel_rfl
theorem tk47 : tyOk Tryz.prog 47 = true := by kernel_rfl
theorem ag47 : isAg Tryz.prog 47 = false := by kernel_rfl
theorem by47 : Tryz.prog.bytesOf 47 = 8 := by kernel_rfl
theorem se47 : slEl Tryz.prog 47 = none := by kernel_rfl
theorem ae47 : arEl Tryz.prog 47 = none := by kernel_rfl
theorem if47 : isFn Tryz.prog 47 = true := by kernel_rfl
theorem zz47 : zc Tryz.prog 47 = [V.nilf] := by kernel_rfl
theorem cz48 : Tryz.prog.cellsOf 48 = 1 := by kernel_rfl
theorem tk48 : tyOk Tryz.prog 48 = true := by kernel_rfl
theorem ag48 : isAg Tryz.prog 48 = false := by kernel_rfl
theorem by48 : Tryz.prog.bytesOf 48 = 8 := by kernel_rfl
theorem se48 : slEl Tryz.prog 48 = none := by kernel_rfl
theorem ae48 : arEl Tryz.prog 48 = none := by kernel_rfl
theorem if48 : isFn Tryz.prog 48 = true := by kernel_rfl
theorem zz48 : zc Tryz.prog 48 = [V.nilf] := by kernel_rfl
theorem cz50 : Tryz.prog.cellsOf 50 = 1 := by kernel_rfl
theorem tk50 : tyOk Tryz.prog 50 = true := by kernel_rfl
theorem ag50 : isAg Tryz.prog 50 = false := by kernel_rfl
theorem by50 : Tryz.prog.bytesOf 50 = 8 := by kernel_rfl
theorem se50 : slEl Tryz.prog 50 = none := by kernel_rfl
theorem ae50 : arEl Tryz.prog 50 = none := by kernel_rfl
theorem if50 : isFn Tryz.prog 50 = true := by kernel_rfl
theorem zz50 : zc Tryz.prog 50 = [V.nilf] := by kernel_rfl
theorem cz51 : Tryz.prog.cellsOf 51 = 1 := by kernel_rfl
theorem tk51 : tyOk Tryz.prog 51 = true := by kernel_rfl
theorem ag51 : isAg Tryz.prog 51 = false := by kernel_rfl
theorem by51 : Tryz.prog.bytesOf 51 = 8 := by kernel_rfl
theorem se51 : slEl Tryz.prog 51 = none := by kernel_rfl
theorem ae51 : arEl Tryz.prog 51 = none := by kernel_rfl
theorem if51 : isFn Tryz.prog 51 = true := by kernel_rfl
theorem zz51 : zc Tryz.prog 51 = [V.nilf] := by kernel_rfl
theorem cz52 : Tryz.prog.cellsOf 52 = 1 := by kernel_rfl
theorem tk52 : tyOk Tryz.prog 52 = true := by kernel_rfl
theorem ag52 : isAg Tryz.prog 52 = false := by kernel_rfl
theorem by52 : Tryz.prog.bytesOf 52 = 8 := by kernel_rfl
theorem se52 : slEl Tryz.prog 52 = none := by kernel_rfl
theorem ae52 : arEl Tryz.prog 52 = none := by kernel_rfl
theorem if52 : isFn Tryz.prog 52 = true := by kernel_rfl
theorem zz52 : zc Tryz.prog 52 = [V.nilf] := by kernel_rfl
theorem cz53 : Tryz.prog.cellsOf 53 = 1 := by kernel_rfl
theorem tk53 : tyOk Tryz.prog 53 = true := by kernel_rfl
theorem ag53 : isAg Tryz.prog 53 = false := by kernel_rfl
theorem by53 : Tryz.prog.bytesOf 53 = 8 := by kernel_rfl
theorem se53 : slEl Tryz.prog 53 = none := by kernel_rfl
theorem ae53 : arEl Tryz.prog 53 = none := by kernel_rfl
theorem if53 : isFn Tryz.prog 53 = true := by kernel_rfl
theorem zz53 : zc Tryz.prog 53 = [V.nilf] := by kernel_rfl
theorem cz54 : Tryz.prog.cellsOf 54 = 1 := by kernel_rfl
theorem tk54 : tyOk Tryz.prog 54 = true := by kernel_rfl
theorem ag54 : isAg Tryz.prog 54 = false := by kernel_rfl
theorem by54 : Tryz.prog.bytesOf 54 = 8 := by kernel_rfl
theorem se54 : slEl Tryz.prog 54 = none := by kernel_rfl
theorem ae54 : arEl Tryz.prog 54 = none := by kernel_rfl
theorem if54 : isFn Tryz.prog 54 = true := by kernel_rfl
theorem zz54 : zc Tryz.prog 54 = [V.nilf] := by kernel_rfl
theorem cz55 : Tryz.prog.cellsOf 55 = 1 := by kernel_rfl
theorem tk55 : tyOk Tryz.prog 55 = true := by kernel_rfl
theorem ag55 : isAg Tryz.prog 55 = false := by kernel_rfl
theorem by55 : Tryz.prog.bytesOf 55 = 24 := by kernel_rfl
theorem se55 : slEl Tryz.prog 55 = some 77 := by kernel_rfl
theorem ae55 : arEl Tryz.prog 55 = none := by kernel_rfl
theorem zz55 : zc Tryz.prog 55 = [V.nil] := by kernel_rfl
theorem cz56 : Tryz.prog.cellsOf 56 = 6 := by kernel_rfl
theorem tk56 : tyOk Tryz.prog 56 = true := by kernel_rfl
theorem ag56 : isAg Tryz.prog 56 = true := by kernel_rfl
theorem by56 : Tryz.prog.bytesOf 56 = 64 := by kernel_rfl
theorem se56 : slEl Tryz.prog 56 = none := by kernel_rfl
theorem ae56 : arEl Tryz.prog 56 = none := by kernel_rfl
theorem st56 : isSt Tryz.prog 56 = true := by kernel_rfl
theorem fo56 : fldsOk Tryz.prog 56 = true := by kernel_rfl
theorem fd56_0 : fld Tryz.prog 56 0 = some (0, 55) := by kernel_rfl
theorem fd56_1 : fld Tryz.prog 56 1 = some (1, 3) := by kernel_rfl
theorem fd56_2 : fld Tryz.prog 56 2 = some (2, 3) := by kernel_rfl
theorem fd56_3 : fld Tryz.prog 56 3 = some (3, 3) := by kernel_rfl
theorem fd56_4 : fld Tryz.prog 56 4 = some (4, 3) := by kernel_rfl
theorem fd56_5 : fld Tryz.prog 56 5 = some (5, 3) := by kernel_rfl
theorem zz56 : zc Tryz.prog 56 = [V.nil, V.int .i64 0, V.int .i64 0, V.int .i64 0, V.int .i64 0, V.int .i64 0] := by kernel_rfl
theorem cz57 : Tryz.prog.cellsOf 57 = 6 := by kernel_rfl
theorem tk57 : tyOk Tryz.prog 57 = true := by kernel_rfl
theorem ag57 : isAg Tryz.prog 57 = true := by kernel_rfl
theorem by57 : Tryz.prog.bytesOf 57 = 64 := by kernel_rfl
theorem se57 : slEl Tryz.prog 57 = none := by kernel_rfl
theorem ae57 : arEl Tryz.prog 57 = none := by kernel_rfl
theorem st57 : isSt Tryz.prog 57 = true := by kernel_rfl
theorem fo57 : fldsOk Tryz.prog 57 = true := by kernel_rfl
theorem fd57_0 : fld Tryz.prog 57 0 = some (0, 55) := by kernel_rfl
theorem fd57_1 : fld Tryz.prog 57 1 = some (1, 3) := by kernel_rfl
theorem fd57_2 : fld Tryz.prog 57 2 = some (2, 3) := by kernel_rfl
theorem fd57_3 : fld Tryz.prog 57 3 = some (3, 3) := by kernel_rfl
theorem fd57_4 : fld Tryz.prog 57 4 = some (4, 3) := by kernel_rfl
theorem fd57_5 : fld Tryz.prog 57 5 = some (5, 3) := by kernel_rfl
theorem zz57 : zc Tryz.prog 57 = [V.nil, V.int .i64 0, V.int .i64 0, V.int .i64 0, V.int .i64 0, V.int .i64 0] := by kernel_rfl
theorem cz58 : Tryz.prog.cellsOf 58 = 1 := by kernel_rfl
theorem tk58 : tyOk Tryz.prog 58 = true := by kernel_rfl
theorem ag58 : isAg Tryz.prog 58 = false := by kernel_rfl
theorem by58 : Tryz.prog.bytesOf 58 = 24 := by kernel_rfl
theorem se58 : slEl Tryz.prog 58 = some 79 := by kernel_rfl
theorem ae58 : arEl Tryz.prog 58 = none := by kernel_rfl
theorem zz58 : zc Tryz.prog 58 = [V.nil] := by kernel_rfl
theorem cz60 : Tryz.prog.cellsOf 60 = 1 := by kernel_rfl
theorem tk60 : tyOk Tryz.prog 60 = true := by kernel_rfl
theorem ag60 : isAg Tryz.prog 60 = false := by kernel_rfl
theorem by60 : Tryz.prog.bytesOf 60 = 8 := by kernel_rfl
theorem se60 : slEl Tryz.prog 60 = none := by kernel_rfl
theorem ae60 : arEl Tryz.prog 60 = none := by kernel_rfl
theorem if60 : isFn Tryz.prog 60 = true := by kernel_rfl
theorem zz60 : zc Tryz.prog 60 = [V.nilf] := by kernel_rfl
theorem cz61 : Tryz.prog.cellsOf 61 = 1 := by kernel_rfl
theorem tk61 : tyOk Tryz.prog 61 = true := by kernel_rfl
theorem ag61 : isAg Tryz.prog 61 = false := by kernel_rfl
theorem by61 : Tryz.prog.bytesOf 61 = 8 := by kernel_rfl
theorem se61 : slEl Tryz.prog 61 = none := by kernel_rfl
theorem ae61 : arEl Tryz.prog 61 = none := by kernel_rfl
theorem if61 : isFn Tryz.prog 61 = true := by kernel_rfl
theorem zz61 : zc Tryz.prog 61 = [V.nilf] := by kernel_rfl
theorem cz63 : Tryz.prog.cellsOf 63 = 1 := by kernel_rfl
theorem tk63 : tyOk Tryz.prog 63 = true := by kernel_rfl
theorem ag63 : isAg Tryz.prog 63 = false := by kernel_rfl
theorem by63 : Tryz.prog.bytesOf 63 = 8 := by kernel_rfl
theorem se63 : slEl Tryz.prog 63 = none := by kernel_rfl
theorem ae63 : arEl Tryz.prog 63 = none := by kernel_rfl
theorem if63 : isFn Tryz.prog 63 = true := by kernel_rfl
theorem zz63 : zc Tryz.prog 63 = [V.nilf] := by kernel_rfl
theorem cz65 : Tryz.prog.cellsOf 65 = 1 := by kernel_rfl
theorem tk65 : tyOk Tryz.prog 65 = true := by kernel_rfl
theorem ag65 : isAg Tryz.prog 65 = false := by kernel_rfl
theorem by65 : Tryz.prog.bytesOf 65 = 8 := by kernel_rfl
theorem se65 : slEl Tryz.prog 65 = none := by kernel_rfl
theorem ae65 : arEl Tryz.prog 65 = none := by kernel_rfl
theorem if65 : isFn Tryz.prog 65 = true := by kernel_rfl
theorem zz65 : zc Tryz.prog 65 = [V.nilf] := by kernel_rfl
theorem cz66 : Tryz.prog.cellsOf 66 = 1 := by kernel_rfl
theorem tk66 : tyOk Tryz.prog 66 = true := by kernel_rfl
theorem ag66 : isAg Tryz.prog 66 = false := by kernel_rfl
theorem by66 : Tryz.prog.bytesOf 66 = 8 := by kernel_rfl
theorem se66 : slEl Tryz.prog 66 = none := by kernel_rfl
theorem ae66 : arEl Tryz.prog 66 = none := by kernel_rfl
theorem if66 : isFn Tryz.prog 66 = true := by kernel_rfl
theorem zz66 : zc Tryz.prog 66 = [V.nilf] := by kernel_rfl
theorem cz67 : Tryz.prog.cellsOf 67 = 1 := by kernel_rfl
theorem tk67 : tyOk Tryz.prog 67 = true := by kernel_rfl
theorem ag67 : isAg Tryz.prog 67 = false := by kernel_rfl
theorem by67 : Tryz.prog.bytesOf 67 = 8 := by kernel_rfl
theorem se67 : slEl Tryz.prog 67 = none := by kernel_rfl
theorem ae67 : arEl Tryz.prog 67 = none := by kernel_rfl
theorem if67 : isFn Tryz.prog 67 = true := by kernel_rfl
theorem zz67 : zc Tryz.prog 67 = [V.nilf] := by kernel_rfl
theorem cz68 : Tryz.prog.cellsOf 68 = 1 := by kernel_rfl
theorem tk68 : tyOk Tryz.prog 68 = true := by kernel_rfl
theorem ag68 : isAg Tryz.prog 68 = false := by kernel_rfl
theorem by68 : Tryz.prog.bytesOf 68 = 8 := by kernel_rfl
theorem se68 : slEl Tryz.prog 68 = none := by kernel_rfl
theorem ae68 : arEl Tryz.prog 68 = none := by kernel_rfl
theorem if68 : isFn Tryz.prog 68 = true := by kernel_rfl
theorem zz68 : zc Tryz.prog 68 = [V.nilf] := by kernel_rfl
theorem cz69 : Tryz.prog.cellsOf 69 = 4 := by kernel_rfl
theorem tk69 : tyOk Tryz.prog 69 = true := by kernel_rfl
theorem ag69 : isAg Tryz.prog 69 = true := by kernel_rfl
theorem by69 : Tryz.prog.bytesOf 69 = 32 := by kernel_rfl
theorem se69 : slEl Tryz.prog 69 = none := by kernel_rfl
theorem ae69 : arEl Tryz.prog 69 = none := by kernel_rfl
theorem st69 : isSt Tryz.prog 69 = true := by kernel_rfl
theorem fo69 : fldsOk Tryz.prog 69 = true := by kernel_rfl
theorem fd69_0 : fld Tryz.prog 69 0 = some (0, 3) := by kernel_rfl
theorem fd69_1 : fld Tryz.prog 69 1 = some (1, 4) := by kernel_rfl
theorem fd69_2 : fld Tryz.prog 69 2 = some (2, 3) := by kernel_rfl
theorem fd69_3 : fld Tryz.prog 69 3 = some (3, 4) := by kernel_rfl
theorem lt69 : leafTs Tryz.prog 69 = [3, 4, 3, 4] := by kernel_rfl
theorem fe69 : flatEq Tryz.prog 69 = true := by kernel_rfl
theorem zz69 : zc Tryz.prog 69 = [V.int .i64 0, V.bool false, V.int .i64 0, V.bool false] := by kernel_rfl
theorem cz70 : Tryz.prog.cellsOf 70 = 4 := by kernel_rfl
theorem tk70 : tyOk Tryz.prog 70 = true := by kernel_rfl
theorem ag70 : isAg Tryz.prog 70 = true := by kernel_rfl
theorem by70 : Tryz.prog.bytesOf 70 = 32 := by kernel_rfl
theorem se70 : slEl Tryz.prog 70 = none := by kernel_rfl
theorem ae70 : arEl Tryz.prog 70 = none := by kernel_rfl
theorem st70 : isSt Tryz.prog 70 = true := by kernel_rfl
theorem fo70 : fldsOk Tryz.prog 70 = true := by kernel_rfl
theorem fd70_0 : fld Tryz.prog 70 0 = some (0, 3) := by kernel_rfl
theorem fd70_1 : fld Tryz.prog 70 1 = some (1, 4) := by kernel_rfl
theorem fd70_2 : fld Tryz.prog 70 2 = some (2, 3) := by kernel_rfl
theorem fd70_3 : fld Tryz.prog 70 3 = some (3, 4) := by kernel_rfl
theorem lt70 : leafTs Tryz.prog 70 = [3, 4, 3, 4] := by kernel_rfl
theorem fe70 : flatEq Tryz.prog 70 = true := by kernel_rfl
theorem zz70 : zc Tryz.prog 70 = [V.int .i64 0, V.bool false, V.int .i64 0, V.bool false] := by kernel_rfl
theorem cz71 : Tryz.prog.cellsOf 71 = 1 := by kernel_rfl
theorem tk71 : tyOk Tryz.prog 71 = true := by kernel_rfl
theorem ag71 : isAg Tryz.prog 71 = false := by kernel_rfl
theorem by71 : Tryz.prog.bytesOf 71 = 8 := by kernel_rfl
theorem se71 : slEl Tryz.prog 71 = none := by kernel_rfl
theorem ae71 : arEl Tryz.prog 71 = none := by kernel_rfl
theorem if71 : isFn Tryz.prog 71 = true := by kernel_rfl
theorem zz71 : zc Tryz.prog 71 = [V.nilf] := by kernel_rfl
theorem cz72 : Tryz.prog.cellsOf 72 = 34 := by kernel_rfl
theorem tk72 : tyOk Tryz.prog 72 = true := by kernel_rfl
theorem ag72 : isAg Tryz.prog 72 = true := by kernel_rfl
theorem by72 : Tryz.prog.bytesOf 72 = 656 := by kernel_rfl
theorem se72 : slEl Tryz.prog 72 = none := by kernel_rfl
theorem ae72 : arEl Tryz.prog 72 = none := by kernel_rfl
theorem st72 : isSt Tryz.prog 72 = true := by kernel_rfl
theorem fo72 : fldsOk Tryz.prog 72 = true := by kernel_rfl
theorem fd72_0 : fld Tryz.prog 72 0 = some (0, 27) := by kernel_rfl
theorem fd72_1 : fld Tryz.prog 72 1 = some (26, 31) := by kernel_rfl
theorem zz72 : zc Tryz.prog 72 = [V.nil, V.nil, V.nil, V.nil, V.nil, V.nil, V.nil, V.nil, V.nil, V.nil, V.nil, V.nil, V.nil, V.nil, V.nil, V.nil, V.nil, V.nil, V.nil, V.nil, V.nil, V.nil, V.nil, V.nil, V.int .i64 0, V.int .i64 0, V.int .i64 0, V.int .i64 0, V.int .i64 0, V.int .i64 0, V.int .i64 0, V.int .i64 0, V.int .i64 0, V.int .i64 0] := by kernel_rfl
theorem cz73 : Tryz.prog.cellsOf 73 = 34 := by kernel_rfl
theorem tk73 : tyOk Tryz.prog 73 = true := by kernel_rfl
theorem ag73 : isAg Tryz.prog 73 = true := by kernel_rfl
theorem by73 : Tryz.prog.bytesOf 73 = 656 := by kernel_rfl
theorem se73 : slEl Tryz.prog 73 = none := by kernel_rfl
theorem ae73 : arEl Tryz.prog 73 = none := by kernel_rfl
theorem st73 : isSt Tryz.prog 73 = true := by kernel_rfl
theorem fo73 : fldsOk Tryz.prog 73 = true := by kernel_rfl
theorem fd73_0 : fld Tryz.prog 73 0 = some (0, 27) := by kernel_rfl
theorem fd73_1 : fld Tryz.prog 73 1 = some (26, 31) := by kernel_rfl
theorem zz73 : zc Tryz.prog 73 = [V.nil, V.nil, V.nil, V.nil, V.nil, V.nil, V.nil, V.nil, V.nil, V.nil, V.nil, V.nil, V.nil, V.nil, V.nil, V.nil, V.nil, V.nil, V.nil, V.nil, V.nil, V.nil, V.nil, V.nil, V.int .i64 0, V.int .i64 0, V.int .i64 0, V.int .i64 0, V.int .i64 0, V.int .i64 0, V.int .i64 0, V.int .i64 0, V.int .i64 0, V.int .i64 0] := by kernel_rfl
theorem cz74 : Tryz.prog.cellsOf 74 = 1 := by kernel_rfl
theorem tk74 : tyOk Tryz.prog 74 = true := by kernel_rfl
theorem ag74 : isAg Tryz.prog 74 = false := by kernel_rfl
theorem by74 : Tryz.prog.bytesOf 74 = 8 := by kernel_rfl
theorem se74 : slEl Tryz.prog 74 = none := by kernel_rfl
theorem ae74 : arEl Tryz.prog 74 = none := by kernel_rfl
theorem if74 : isFn Tryz.prog 74 = true := by kernel_rfl
theorem zz74 : zc Tryz.prog 74 = [V.nilf] := by kernel_rfl
theorem cz75 : Tryz.prog.cellsOf 75 = 1 := by kernel_rfl
theorem tk75 : tyOk Tryz.prog 75 = true := by kernel_rfl
theorem ag75 : isAg Tryz.prog 75 = false := by kernel_rfl
theorem by75 : Tryz.prog.bytesOf 75 = 8 := by kernel_rfl
theorem se75 : slEl Tryz.prog 75 = none := by kernel_rfl
theorem ae75 : arEl Tryz.prog 75 = none := by kernel_rfl
theorem if75 : isFn Tryz.prog 75 = true := by kernel_rfl
theorem zz75 : zc Tryz.prog 75 = [V.nilf] := by kernel_rfl
theorem cz76 : Tryz.prog.cellsOf 76 = 3 := by kernel_rfl
theorem tk76 : tyOk Tryz.prog 76 = true := by kernel_rfl
theorem ag76 : isAg Tryz.prog 76 = true := by kernel_rfl
theorem by76 : Tryz.prog.bytesOf 76 = 24 := by kernel_rfl
theorem se76 : slEl Tryz.prog 76 = none := by kernel_rfl
theorem ae76 : arEl Tryz.prog 76 = none := by kernel_rfl
theorem st76 : isSt Tryz.prog 76 = true := by kernel_rfl
theorem fo76 : fldsOk Tryz.prog 76 = true := by kernel_rfl
theorem fd76_0 : fld Tryz.prog 76 0 = some (0, 3) := by kernel_rfl
theorem fd76_1 : fld Tryz.prog 76 1 = some (1, 3) := by kernel_rfl
theorem fd76_2 : fld Tryz.prog 76 2 = some (2, 3) := by kernel_rfl
theorem lt76 : leafTs Tryz.prog 76 = [3, 3, 3] := by kernel_rfl
theorem fe76 : flatEq Tryz.prog 76 = true := by kernel_rfl
theorem zz76 : zc Tryz.prog 76 = [V.int .i64 0, V.int .i64 0, V.int .i64 0] := by kernel_rfl
theorem cz77 : Tryz.prog.cellsOf 77 = 3 := by kernel_rfl
theorem tk77 : tyOk Tryz.prog 77 = true := by kernel_rfl
theorem ag77 : isAg Tryz.prog 77 = true := by kernel_rfl
theorem by77 : Tryz.prog.bytesOf 77 = 24 := by kernel_rfl
theorem se77 : slEl Tryz.prog 77 = none := by kernel_rfl
theorem ae77 : arEl Tryz.prog 77 = none := by kernel_rfl
theorem st77 : isSt Tryz.prog 77 = true := by kernel_rfl
theorem fo77 : fldsOk Tryz.prog 77 = true := by kernel_rfl
theorem fd77_0 : fld Tryz.prog 77 0 = some (0, 3) := by kernel_rfl
theorem fd77_1 : fld Tryz.prog 77 1 = some (1, 3) := by kernel_rfl
theorem fd77_2 : fld Tryz.prog 77 2 = some (2, 3) := by kernel_rfl
theorem lt77 : leafTs Tryz.prog 77 = [3, 3, 3] := by kernel_rfl
theorem fe77 : flatEq Tryz.prog 77 = true := by kernel_rfl
theorem zz77 : zc Tryz.prog 77 = [V.int .i64 0, V.int .i64 0, V.int .i64 0] := by kernel_rfl
theorem cz79 : Tryz.prog.cellsOf 79 = 3 := by kernel_rfl
theorem tk79 : tyOk Tryz.prog 79 = true := by kernel_rfl
theorem ag79 : isAg Tryz.prog 79 = true := by kernel_rfl
theorem by79 : Tryz.prog.bytesOf 79 = 24 := by kernel_rfl
theorem se79 : slEl Tryz.prog 79 = none := by kernel_rfl
theorem ae79 : arEl Tryz.prog 79 = none := by kernel_rfl
theorem st79 : isSt Tryz.prog 79 = true := by kernel_rfl
theorem fo79 : fldsOk Tryz.prog 79 = true := by kernel_rfl
theorem fd79_0 : fld Tryz.prog 79 0 = some (0, 3) := by kernel_rfl
theorem fd79_1 : fld Tryz.prog 79 1 = some (1, 3) := by kernel_rfl
theorem fd79_2 : fld Tryz.prog 79 2 = some (2, 3) := by kernel_rfl
theorem lt79 : leafTs Tryz.prog 79 = [3, 3, 3] := by kernel_rfl
theorem fe79 : flatEq Tryz.prog 79 = true := by kernel_rfl
theorem zz79 : zc Tryz.prog 79 = [V.int .i64 0, V.int .i64 0, V.int .i64 0] := by kernel_rfl
theorem cz80 : Tryz.prog.cellsOf 80 = 1 := by kernel_rfl
theorem tk80 : tyOk Tryz.prog 80 = true := by kernel_rfl
theorem ag80 : isAg Tryz.prog 80 = false := by kernel_rfl
theorem by80 : Tryz.prog.bytesOf 80 = 8 := by kernel_rfl
theorem se80 : slEl Tryz.prog 80 = none := by kernel_rfl
theorem ae80 : arEl Tryz.prog 80 = none := by kernel_rfl
theorem if80 : isFn Tryz.prog 80 = true := by kernel_rfl
theorem zz80 : zc Tryz.prog 80 = [V.nilf] := by kernel_rfl
theorem cz81 : Tryz.prog.cellsOf 81 = 1 := by kernel_rfl
theorem tk81 : tyOk Tryz.prog 81 = true := by kernel_rfl
theorem ag81 : isAg Tryz.prog 81 = false := by kernel_rfl
theorem by81 : Tryz.prog.bytesOf 81 = 8 := by kernel_rfl
theorem se81 : slEl Tryz.prog 81 = none := by kernel_rfl
theorem ae81 : arEl Tryz.prog 81 = none := by kernel_rfl
theorem if81 : isFn Tryz.prog 81 = true := by kernel_rfl
theorem zz81 : zc Tryz.prog 81 = [V.nilf] := by kernel_rfl
theorem cz82 : Tryz.prog.cellsOf 82 = 7 := by kernel_rfl
theorem tk82 : tyOk Tryz.prog 82 = true := by kernel_rfl
theorem ag82 : isAg Tryz.prog 82 = true := by kernel_rfl
theorem by82 : Tryz.prog.bytesOf 82 = 88 := by kernel_rfl
theorem se82 : slEl Tryz.prog 82 = none := by kernel_rfl
theorem ae82 : arEl Tryz.prog 82 = none := by kernel_rfl
theorem st82 : isSt Tryz.prog 82 = true := by kernel_rfl
theorem fo82 : fldsOk Tryz.prog 82 = true := by kernel_rfl
theorem fd82_0 : fld Tryz.prog 82 0 = some (0, 57) := by kernel_rfl
theorem fd82_1 : fld Tryz.prog 82 1 = some (6, 58) := by kernel_rfl
theorem zz82 : zc Tryz.prog 82 = [V.nil, V.int .i64 0, V.int .i64 0, V.int .i64 0, V.int .i64 0, V.int .i64 0, V.nil] := by kernel_rfl
theorem cz83 : Tryz.prog.cellsOf 83 = 7 := by kernel_rfl
theorem tk83 : tyOk Tryz.prog 83 = true := by kernel_rfl
theorem ag83 : isAg Tryz.prog 83 = true := by kernel_rfl
theorem by83 : Tryz.prog.bytesOf 83 = 88 := by kernel_rfl
theorem se83 : slEl Tryz.prog 83 = none := by kernel_rfl
theorem ae83 : arEl Tryz.prog 83 = none := by kernel_rfl
theorem st83 : isSt Tryz.prog 83 = true := by kernel_rfl
theorem fo83 : fldsOk Tryz.prog 83 = true := by kernel_rfl
theorem fd83_0 : fld Tryz.prog 83 0 = some (0, 57) := by kernel_rfl
theorem fd83_1 : fld Tryz.prog 83 1 = some (6, 58) := by kernel_rfl
theorem zz83 : zc Tryz.prog 83 = [V.nil, V.int .i64 0, V.int .i64 0, V.int .i64 0, V.int .i64 0, V.int .i64 0, V.nil] := by kernel_rfl
theorem cz87 : Tryz.prog.cellsOf 87 = 2 := by kernel_rfl
theorem tk87 : tyOk Tryz.prog 87 = true := by kernel_rfl
theorem ag87 : isAg Tryz.prog 87 = true := by kernel_rfl
theorem by87 : Tryz.prog.bytesOf 87 = 16 := by kernel_rfl
theorem se87 : slEl Tryz.prog 87 = none := by kernel_rfl
theorem ae87 : arEl Tryz.prog 87 = none := by kernel_rfl
theorem st87 : isSt Tryz.prog 87 = true := by kernel_rfl
theorem fo87 : fldsOk Tryz.prog 87 = true := by kernel_rfl
theorem fd87_0 : fld Tryz.prog 87 0 = some (0, 3) := by kernel_rfl
theorem fd87_1 : fld Tryz.prog 87 1 = some (1, 4) := by kernel_rfl
theorem lt87 : leafTs Tryz.prog 87 = [3, 4] := by kernel_rfl
theorem fe87 : flatEq Tryz.prog 87 = true := by kernel_rfl
theorem zz87 : zc Tryz.prog 87 = [V.int .i64 0, V.bool false] := by kernel_rfl
theorem cz88 : Tryz.prog.cellsOf 88 = 1 := by kernel_rfl
theorem tk88 : tyOk Tryz.prog 88 = true := by kernel_rfl
theorem ag88 : isAg Tryz.prog 88 = false := by kernel_rfl
theorem by88 : Tryz.prog.bytesOf 88 = 8 := by kernel_rfl
theorem se88 : slEl Tryz.prog 88 = none := by kernel_rfl
theorem ae88 : arEl Tryz.prog 88 = none := by kernel_rfl
theorem if88 : isFn Tryz.prog 88 = true := by kernel_rfl
theorem zz88 : zc Tryz.prog 88 = [V.nilf] := by kernel_rfl
theorem cz90 : Tryz.prog.cellsOf 90 = 1 := by kernel_rfl
theorem tk90 : tyOk Tryz.prog 90 = true := by kernel_rfl
theorem ag90 : isAg Tryz.prog 90 = false := by kernel_rfl
theorem by90 : Tryz.prog.bytesOf 90 = 8 := by kernel_rfl
theorem se90 : slEl Tryz.prog 90 = none := by kernel_rfl
theorem ae90 : arEl Tryz.prog 90 = none := by kernel_rfl
theorem if90 : isFn Tryz.prog 90 = true := by kernel_rfl
theorem zz90 : zc Tryz.prog 90 = [V.nilf] := by kernel_rfl
theorem cz91 : Tryz.prog.cellsOf 91 = 1 := by kernel_rfl
theorem tk91 : tyOk Tryz.prog 91 = true := by kernel_rfl
theorem ag91 : isAg Tryz.prog 91 = false := by kernel_rfl
theorem by91 : Tryz.prog.bytesOf 91 = 8 := by kernel_rfl
theorem se91 : slEl Tryz.prog 91 = none := by kernel_rfl
theorem ae91 : arEl Tryz.prog 91 = none := by kernel_rfl
theorem if91 : isFn Tryz.prog 91 = true := by kernel_rfl
theorem zz91 : zc Tryz.prog 91 = [V.nilf] := by kernel_rfl
theorem cz94 : Tryz.prog.cellsOf 94 = 1 := by kernel_rfl
theorem tk94 : tyOk Tryz.prog 94 = true := by kernel_rfl
theorem ag94 : isAg Tryz.prog 94 = false := by kernel_rfl
theorem by94 : Tryz.prog.bytesOf 94 = 8 := by kernel_rfl
theorem se94 : slEl Tryz.prog 94 = none := by kernel_rfl
theorem ae94 : arEl Tryz.prog 94 = none := by kernel_rfl
theorem if94 : isFn Tryz.prog 94 = true := by kernel_rfl
theorem zz94 : zc Tryz.prog 94 = [V.nilf] := by kernel_rfl
theorem cz95 : Tryz.prog.cellsOf 95 = 1 := by kernel_rfl
theorem tk95 : tyOk Tryz.prog 95 = true := by kernel_rfl
theorem ag95 : isAg Tryz.prog 95 = false := by kernel_rfl
theorem by95 : Tryz.prog.bytesOf 95 = 24 := by kernel_rfl
theorem se95 : slEl Tryz.prog 95 = some 29 := by kernel_rfl
theorem ae95 : arEl Tryz.prog 95 = none := by kernel_rfl
theorem zz95 : zc Tryz.prog 95 = [V.nil] := by kernel_rfl
theorem cz96 : Tryz.prog.cellsOf 96 = 1 := by kernel_rfl
theorem tk96 : tyOk Tryz.prog 96 = true := by kernel_rfl
theorem ag96 : isAg Tryz.prog 96 = false := by kernel_rfl
theorem by96 : Tryz.prog.bytesOf 96 = 24 := by kernel_rfl
theorem se96 : slEl Tryz.prog 96 = some 29 := by kernel_rfl
theorem ae96 : arEl Tryz.prog 96 = none := by kernel_rfl
theorem zz96 : zc Tryz.prog 96 = [V.nil] := by kernel_rfl
theorem cz97 : Tryz.prog.cellsOf 97 = 1 := by kernel_rfl
theorem tk97 : tyOk Tryz.prog 97 = true := by kernel_rfl
theorem ag97 : isAg Tryz.prog 97 = false := by kernel_rfl
theorem by97 : Tryz.prog.bytesOf 97 = 8 := by kernel_rfl
theorem se97 : slEl Tryz.prog 97 = none := by kernel_rfl
theorem ae97 : arEl Tryz.prog 97 = none := by kernel_rfl
theorem if97 : isFn Tryz.prog 97 = true := by kernel_rfl
theorem zz97 : zc Tryz.prog 97 = [V.nilf] := by kernel_rfl
theorem cz98 : Tryz.prog.cellsOf 98 = 1 := by kernel_rfl
theorem tk98 : tyOk Tryz.prog 98 = true := by kernel_rfl
theorem ag98 : isAg Tryz.prog 98 = false := by kernel_rfl
theorem by98 : Tryz.prog.bytesOf 98 = 24 := by kernel_rfl
theorem se98 : slEl Tryz.prog 98 = some 100 := by kernel_rfl
theorem ae98 : arEl Tryz.prog 98 = none := by kernel_rfl
theorem zz98 : zc Tryz.prog 98 = [V.nil] := by kernel_rfl
theorem cz100 : Tryz.prog.cellsOf 100 = 7 := by kernel_rfl
theorem tk100 : tyOk Tryz.prog 100 = true := by kernel_rfl
theorem ag100 : isAg Tryz.prog 100 = true := by kernel_rfl
theorem by100 : Tryz.prog.bytesOf 100 = 104 := by kernel_rfl
theorem se100 : slEl Tryz.prog 100 = none := by kernel_rfl
theorem ae100 : arEl Tryz.prog 100 = none := by kernel_rfl
theorem st100 : isSt Tryz.prog 100 = true := by kernel_rfl
theorem fo100 : fldsOk Tryz.prog 100 = true := by kernel_rfl
theorem fd100_0 : fld Tryz.prog 100 0 = some (0, 25) := by kernel_rfl
theorem fd100_1 : fld Tryz.prog 100 1 = some (3, 29) := by kernel_rfl
theorem fd100_2 : fld Tryz.prog 100 2 = some (5, 29) := by kernel_rfl
theorem zz100 : zc Tryz.prog 100 = [V.nil, V.nil, V.nil, V.int .i64 0, V.int .i64 0, V.int .i64 0, V.int .i64 0] := by kernel_rfl
theorem cz101 : Tryz.prog.cellsOf 101 = 1 := by kernel_rfl
theorem tk101 : tyOk Tryz.prog 101 = true := by kernel_rfl
theorem ag101 : isAg Tryz.prog 101 = false := by kernel_rfl
theorem by101 : Tryz.prog.bytesOf 101 = 8 := by kernel_rfl
theorem se101 : slEl Tryz.prog 101 = none := by kernel_rfl
theorem ae101 : arEl Tryz.prog 101 = none := by kernel_rfl
theorem if101 : isFn Tryz.prog 101 = true := by kernel_rfl
theorem zz101 : zc Tryz.prog 101 = [V.nilf] := by kernel_rfl
theorem cz102 : Tryz.prog.cellsOf 102 = 1 := by kernel_rfl
theorem tk102 : tyOk Tryz.prog 102 = true := by kernel_rfl
theorem ag102 : isAg Tryz.prog 102 = false := by kernel_rfl
theorem by102 : Tryz.prog.bytesOf 102 = 8 := by kernel_rfl
theorem se102 : slEl Tryz.prog 102 = none := by kernel_rfl
theorem ae102 : arEl Tryz.prog 102 = none := by kernel_rfl
theorem if102 : isFn Tryz.prog 102 = true := by kernel_rfl
theorem zz102 : zc Tryz.prog 102 = [V.nilf] := by kernel_rfl
theorem cz103 : Tryz.prog.cellsOf 103 = 1 := by kernel_rfl
theorem tk103 : tyOk Tryz.prog 103 = true := by kernel_rfl
theorem ag103 : isAg Tryz.prog 103 = false := by kernel_rfl
theorem by103 : Tryz.prog.bytesOf 103 = 8 := by kernel_rfl
theorem se103 : slEl Tryz.prog 103 = none := by kernel_rfl
theorem ae103 : arEl Tryz.prog 103 = none := by kernel_rfl
theorem if103 : isFn Tryz.prog 103 = true := by kernel_rfl
theorem zz103 : zc Tryz.prog 103 = [V.nilf] := by kernel_rfl
theorem cz106 : Tryz.prog.cellsOf 106 = 1 := by kernel_rfl
theorem tk106 : tyOk Tryz.prog 106 = true := by kernel_rfl
theorem ag106 : isAg Tryz.prog 106 = false := by kernel_rfl
theorem by106 : Tryz.prog.bytesOf 106 = 8 := by kernel_rfl
theorem se106 : slEl Tryz.prog 106 = none := by kernel_rfl
theorem ae106 : arEl Tryz.prog 106 = none := by kernel_rfl
theorem if106 : isFn Tryz.prog 106 = true := by kernel_rfl
theorem zz106 : zc Tryz.prog 106 = [V.nilf] := by kernel_rfl
theorem cz109 : Tryz.prog.cellsOf 109 = 1 := by kernel_rfl
theorem tk109 : tyOk Tryz.prog 109 = true := by kernel_rfl
theorem ag109 : isAg Tryz.prog 109 = false := by kernel_rfl
theorem by109 : Tryz.prog.bytesOf 109 = 8 := by kernel_rfl
theorem se109 : slEl Tryz.prog 109 = none := by kernel_rfl
theorem ae109 : arEl Tryz.prog 109 = none := by kernel_rfl
theorem if109 : isFn Tryz.prog 109 = true := by kernel_rfl
theorem zz109 : zc Tryz.prog 109 = [V.nilf] := by kernel_rfl
theorem cz110 : Tryz.prog.cellsOf 110 = 1 := by kernel_rfl
theorem tk110 : tyOk Tryz.prog 110 = true := by kernel_rfl
theorem ag110 : isAg Tryz.prog 110 = false := by kernel_rfl
theorem by110 : Tryz.prog.bytesOf 110 = 8 := by kernel_rfl
theorem se110 : slEl Tryz.prog 110 = none := by kernel_rfl
theorem ae110 : arEl Tryz.prog 110 = none := by kernel_rfl
theorem if110 : isFn Tryz.prog 110 = true := by kernel_rfl
theorem zz110 : zc Tryz.prog 110 = [V.nilf] := by kernel_rfl
theorem cz112 : Tryz.prog.cellsOf 112 = 1 := by kernel_rfl
theorem tk112 : tyOk Tryz.prog 112 = true := by kernel_rfl
theorem ag112 : isAg Tryz.prog 112 = false := by kernel_rfl
theorem by112 : Tryz.prog.bytesOf 112 = 8 := by kernel_rfl
theorem se112 : slEl Tryz.prog 112 = none := by kernel_rfl
theorem ae112 : arEl Tryz.prog 112 = none := by kernel_rfl
theorem if112 : isFn Tryz.prog 112 = true := by kernel_rfl
theorem zz112 : zc Tryz.prog 112 = [V.nilf] := by kernel_rfl
theorem cz113 : Tryz.prog.cellsOf 113 = 1 := by kernel_rfl
theorem tk113 : tyOk Tryz.prog 113 = true := by kernel_rfl
theorem ag113 : isAg Tryz.prog 113 = false := by kernel_rfl
theorem by113 : Tryz.prog.bytesOf 113 = 8 := by kernel_rfl
theorem se113 : slEl Tryz.prog 113 = none := by kernel_rfl
theorem ae113 : arEl Tryz.prog 113 = none := by kernel_rfl
theorem if113 : isFn Tryz.prog 113 = true := by kernel_rfl
theorem zz113 : zc Tryz.prog 113 = [V.nilf] := by kernel_rfl
theorem cz114 : Tryz.prog.cellsOf 114 = 1 := by kernel_rfl
theorem tk114 : tyOk Tryz.prog 114 = true := by kernel_rfl
theorem ag114 : isAg Tryz.prog 114 = false := by kernel_rfl
theorem by114 : Tryz.prog.bytesOf 114 = 8 := by kernel_rfl
theorem se114 : slEl Tryz.prog 114 = none := by kernel_rfl
theorem ae114 : arEl Tryz.prog 114 = none := by kernel_rfl
theorem if114 : isFn Tryz.prog 114 = true := by kernel_rfl
theorem zz114 : zc Tryz.prog 114 = [V.nilf] := by kernel_rfl
theorem cz115 : Tryz.prog.cellsOf 115 = 1 := by kernel_rfl
theorem tk115 : tyOk Tryz.prog 115 = true := by kernel_rfl
theorem ag115 : isAg Tryz.prog 115 = false := by kernel_rfl
theorem by115 : Tryz.prog.bytesOf 115 = 8 := by kernel_rfl
theorem se115 : slEl Tryz.prog 115 = none := by kernel_rfl
theorem ae115 : arEl Tryz.prog 115 = none := by kernel_rfl
theorem if115 : isFn Tryz.prog 115 = true := by kernel_rfl
theorem zz115 : zc Tryz.prog 115 = [V.nilf] := by kernel_rfl
theorem cz118 : Tryz.prog.cellsOf 118 = 2 := by kernel_rfl
theorem tk118 : tyOk Tryz.prog 118 = true := by kernel_rfl
theorem ag118 : isAg Tryz.prog 118 = true := by kernel_rfl
theorem by118 : Tryz.prog.bytesOf 118 = 16 := by kernel_rfl
theorem se118 : slEl Tryz.prog 118 = none := by kernel_rfl
theorem ae118 : arEl Tryz.prog 118 = none := by kernel_rfl
theorem st118 : isSt Tryz.prog 118 = true := by kernel_rfl
theorem fo118 : fldsOk Tryz.prog 118 = true := by kernel_rfl
theorem fd118_0 : fld Tryz.prog 118 0 = some (0, 3) := by kernel_rfl
theorem fd118_1 : fld Tryz.prog 118 1 = some (1, 3) := by kernel_rfl
theorem lt118 : leafTs Tryz.prog 118 = [3, 3] := by kernel_rfl
theorem fe118 : flatEq Tryz.prog 118 = true := by kernel_rfl
theorem zz118 : zc Tryz.prog 118 = [V.int .i64 0, V.int .i64 0] := by kernel_rfl
theorem cz119 : Tryz.prog.cellsOf 119 = 1 := by kernel_rfl
theorem tk119 : tyOk Tryz.prog 119 = true := by kernel_rfl
theorem ag119 : isAg Tryz.prog 119 = false := by kernel_rfl
theorem by119 : Tryz.prog.bytesOf 119 = 8 := by kernel_rfl
theorem se119 : slEl Tryz.prog 119 = none := by kernel_rfl
theorem ae119 : arEl Tryz.prog 119 = none := by kernel_rfl
theorem if119 : isFn Tryz.prog 119 = true := by kernel_rfl
theorem zz119 : zc Tryz.prog 119 = [V.nilf] := by kernel_rfl
theorem cz120 : Tryz.prog.cellsOf 120 = 1 := by kernel_rfl
theorem tk120 : tyOk Tryz.prog 120 = true := by kernel_rfl
theorem ag120 : isAg Tryz.prog 120 = false := by kernel_rfl
theorem by120 : Tryz.prog.bytesOf 120 = 8 := by kernel_rfl
theorem se120 : slEl Tryz.prog 120 = none := by kernel_rfl
theorem ae120 : arEl Tryz.prog 120 = none := by kernel_rfl
theorem if120 : isFn Tryz.prog 120 = true := by kernel_rfl
theorem zz120 : zc Tryz.prog 120 = [V.nilf] := by kernel_rfl
theorem cz121 : Tryz.prog.cellsOf 121 = 1 := by kernel_rfl
theorem tk121 : tyOk Tryz.prog 121 = true := by kernel_rfl
theorem ag121 : isAg Tryz.prog 121 = false := by kernel_rfl
theorem by121 : Tryz.prog.bytesOf 121 = 8 := by kernel_rfl
theorem se121 : slEl Tryz.prog 121 = none := by kernel_rfl
theorem ae121 : arEl Tryz.prog 121 = none := by kernel_rfl
theorem if121 : isFn Tryz.prog 121 = true := by kernel_rfl
theorem zz121 : zc Tryz.prog 121 = [V.nilf] := by kernel_rfl
theorem cz124 : Tryz.prog.cellsOf 124 = 1 := by kernel_rfl
theorem tk124 : tyOk Tryz.prog 124 = true := by kernel_rfl
theorem ag124 : isAg Tryz.prog 124 = false := by kernel_rfl
theorem by124 : Tryz.prog.bytesOf 124 = 8 := by kernel_rfl
theorem se124 : slEl Tryz.prog 124 = none := by kernel_rfl
theorem ae124 : arEl Tryz.prog 124 = none := by kernel_rfl
theorem if124 : isFn Tryz.prog 124 = true := by kernel_rfl
theorem zz124 : zc Tryz.prog 124 = [V.nilf] := by kernel_rfl
theorem cz126 : Tryz.prog.cellsOf 126 = 1 := by kernel_rfl
theorem tk126 : tyOk Tryz.prog 126 = true := by kernel_rfl
theorem ag126 : isAg Tryz.prog 126 = false := by kernel_rfl
theorem by126 : Tryz.prog.bytesOf 126 = 8 := by kernel_rfl
theorem se126 : slEl Tryz.prog 126 = none := by kernel_rfl
theorem ae126 : arEl Tryz.prog 126 = none := by kernel_rfl
theorem if126 : isFn Tryz.prog 126 = true := by kernel_rfl
theorem zz126 : zc Tryz.prog 126 = [V.nilf] := by kernel_rfl
theorem cz127 : Tryz.prog.cellsOf 127 = 1 := by kernel_rfl
theorem tk127 : tyOk Tryz.prog 127 = true := by kernel_rfl
theorem ag127 : isAg Tryz.prog 127 = false := by kernel_rfl
theorem by127 : Tryz.prog.bytesOf 127 = 8 := by kernel_rfl
theorem se127 : slEl Tryz.prog 127 = none := by kernel_rfl
theorem ae127 : arEl Tryz.prog 127 = none := by kernel_rfl
theorem if127 : isFn Tryz.prog 127 = true := by kernel_rfl
theorem zz127 : zc Tryz.prog 127 = [V.nilf] := by kernel_rfl
theorem cz129 : Tryz.prog.cellsOf 129 = 1 := by kernel_rfl
theorem tk129 : tyOk Tryz.prog 129 = true := by kernel_rfl
theorem ag129 : isAg Tryz.prog 129 = false := by kernel_rfl
theorem by129 : Tryz.prog.bytesOf 129 = 8 := by kernel_rfl
theorem se129 : slEl Tryz.prog 129 = none := by kernel_rfl
theorem ae129 : arEl Tryz.prog 129 = none := by kernel_rfl
theorem if129 : isFn Tryz.prog 129 = true := by kernel_rfl
theorem zz129 : zc Tryz.prog 129 = [V.nilf] := by kernel_rfl
theorem cz131 : Tryz.prog.cellsOf 131 = 1 := by kernel_rfl
theorem tk131 : tyOk Tryz.prog 131 = true := by kernel_rfl
theorem ag131 : isAg Tryz.prog 131 = false := by kernel_rfl
theorem by131 : Tryz.prog.bytesOf 131 = 8 := by kernel_rfl
theorem se131 : slEl Tryz.prog 131 = none := by kernel_rfl
theorem ae131 : arEl Tryz.prog 131 = none := by kernel_rfl
theorem if131 : isFn Tryz.prog 131 = true := by kernel_rfl
theorem zz131 : zc Tryz.prog 131 = [V.nilf] := by kernel_rfl
theorem cz134 : Tryz.prog.cellsOf 134 = 1 := by kernel_rfl
theorem tk134 : tyOk Tryz.prog 134 = true := by kernel_rfl
theorem ag134 : isAg Tryz.prog 134 = false := by kernel_rfl
theorem by134 : Tryz.prog.bytesOf 134 = 8 := by kernel_rfl
theorem se134 : slEl Tryz.prog 134 = none := by kernel_rfl
theorem ae134 : arEl Tryz.prog 134 = none := by kernel_rfl
theorem if134 : isFn Tryz.prog 134 = true := by kernel_rfl
theorem zz134 : zc Tryz.prog 134 = [V.nilf] := by kernel_rfl
theorem cz135 : Tryz.prog.cellsOf 135 = 1 := by kernel_rfl
theorem tk135 : tyOk Tryz.prog 135 = true := by kernel_rfl
theorem ag135 : isAg Tryz.prog 135 = false := by kernel_rfl
theorem by135 : Tryz.prog.bytesOf 135 = 8 := by kernel_rfl
theorem se135 : slEl Tryz.prog 135 = none := by kernel_rfl
theorem ae135 : arEl Tryz.prog 135 = none := by kernel_rfl
theorem if135 : isFn Tryz.prog 135 = true := by kernel_rfl
theorem zz135 : zc Tryz.prog 135 = [V.nilf] := by kernel_rfl
theorem cz136 : Tryz.prog.cellsOf 136 = 1 := by kernel_rfl
theorem tk136 : tyOk Tryz.prog 136 = true := by kernel_rfl
theorem ag136 : isAg Tryz.prog 136 = false := by kernel_rfl
theorem by136 : Tryz.prog.bytesOf 136 = 8 := by kernel_rfl
theorem se136 : slEl Tryz.prog 136 = none := by kernel_rfl
theorem ae136 : arEl Tryz.prog 136 = none := by kernel_rfl
theorem if136 : isFn Tryz.prog 136 = true := by kernel_rfl
theorem zz136 : zc Tryz.prog 136 = [V.nilf] := by kernel_rfl
theorem cz137 : Tryz.prog.cellsOf 137 = 1 := by kernel_rfl
theorem tk137 : tyOk Tryz.prog 137 = true := by kernel_rfl
theorem ag137 : isAg Tryz.prog 137 = false := by kernel_rfl
theorem by137 : Tryz.prog.bytesOf 137 = 8 := by kernel_rfl
theorem se137 : slEl Tryz.prog 137 = none := by kernel_rfl
theorem ae137 : arEl Tryz.prog 137 = none := by kernel_rfl
theorem if137 : isFn Tryz.prog 137 = true := by kernel_rfl
theorem zz137 : zc Tryz.prog 137 = [V.nilf] := by kernel_rfl
theorem cz138 : Tryz.prog.cellsOf 138 = 2 := by kernel_rfl
theorem tk138 : tyOk Tryz.prog 138 = true := by kernel_rfl
theorem ag138 : isAg Tryz.prog 138 = true := by kernel_rfl
theorem by138 : Tryz.prog.bytesOf 138 = 16 := by kernel_rfl
theorem se138 : slEl Tryz.prog 138 = none := by kernel_rfl
theorem ae138 : arEl Tryz.prog 138 = some (2, 3) := by kernel_rfl
theorem st138 : isSt Tryz.prog 138 = false := by kernel_rfl
theorem lt138 : leafTs Tryz.prog 138 = [3, 3] := by kernel_rfl
theorem fe138 : flatEq Tryz.prog 138 = true := by kernel_rfl
theorem zz138 : zc Tryz.prog 138 = [V.int .i64 0, V.int .i64 0] := by kernel_rfl
theorem cz141 : Tryz.prog.cellsOf 141 = 1 := by kernel_rfl
theorem tk141 : tyOk Tryz.prog 141 = true := by kernel_rfl
theorem ag141 : isAg Tryz.prog 141 = false := by kernel_rfl
theorem by141 : Tryz.prog.bytesOf 141 = 8 := by kernel_rfl
theorem se141 : slEl Tryz.prog 141 = none := by kernel_rfl
theorem ae141 : arEl Tryz.prog 141 = none := by kernel_rfl
theorem if141 : isFn Tryz.prog 141 = true := by kernel_rfl
theorem zz141 : zc Tryz.prog 141 = [V.nilf] := by kernel_rfl
theorem cz143 : Tryz.prog.cellsOf 143 = 1 := by kernel_rfl
theorem tk143 : tyOk Tryz.prog 143 = true := by kernel_rfl
theorem ag143 : isAg Tryz.prog 143 = false := by kernel_rfl
theorem by143 : Tryz.prog.bytesOf 143 = 8 := by kernel_rfl
theorem se143 : slEl Tryz.prog 143 = none := by kernel_rfl
theorem ae143 : arEl Tryz.prog 143 = none := by kernel_rfl
theorem if143 : isFn Tryz.prog 143 = true := by kernel_rfl
theorem zz143 : zc Tryz.prog 143 = [V.nilf] := by kernel_rfl
theorem cz144 : Tryz.prog.cellsOf 144 = 1 := by kernel_rfl
theorem tk144 : tyOk Tryz.prog 144 = true := by kernel_rfl
theorem ag144 : isAg Tryz.prog 144 = false := by kernel_rfl
theorem by144 : Tryz.prog.bytesOf 144 = 8 := by kernel_rfl
theorem se144 : slEl Tryz.prog 144 = none := by kernel_rfl
theorem ae144 : arEl Tryz.prog 144 = none := by kernel_rfl
theorem if144 : isFn Tryz.prog 144 = true := by kernel_rfl
theorem zz144 : zc Tryz.prog 144 = [V.nilf] := by kernel_rfl
theorem cz146 : Tryz.prog.cellsOf 146 = 5 := by kernel_rfl
theorem tk146 : tyOk Tryz.prog 146 = true := by kernel_rfl
theorem ag146 : isAg Tryz.prog 146 = true := by kernel_rfl
theorem by146 : Tryz.prog.bytesOf 146 = 88 := by kernel_rfl
theorem se146 : slEl Tryz.prog 146 = none := by kernel_rfl
theorem ae146 : arEl Tryz.prog 146 = none := by kernel_rfl
theorem st146 : isSt Tryz.prog 146 = true := by kernel_rfl
theorem fo146 : fldsOk Tryz.prog 146 = true := by kernel_rfl
theorem fd146_0 : fld Tryz.prog 146 0 = some (0, 25) := by kernel_rfl
theorem fd146_1 : fld Tryz.prog 146 1 = some (3, 3) := by kernel_rfl
theorem fd146_2 : fld Tryz.prog 146 2 = some (4, 3) := by kernel_rfl
theorem zz146 : zc Tryz.prog 146 = [V.nil, V.nil, V.nil, V.int .i64 0, V.int .i64 0] := by kernel_rfl
theorem cz147 : Tryz.prog.cellsOf 147 = 1 := by kernel_rfl
theorem tk147 : tyOk Tryz.prog 147 = true := by kernel_rfl
theorem ag147 : isAg Tryz.prog 147 = false := by kernel_rfl
theorem by147 : Tryz.prog.bytesOf 147 = 24 := by kernel_rfl
theorem se147 : slEl Tryz.prog 147 = some 146 := by kernel_rfl
theorem ae147 : arEl Tryz.prog 147 = none := by kernel_rfl
theorem zz147 : zc Tryz.prog 147 = [V.nil] := by kernel_rfl
theorem cz148 : Tryz.prog.cellsOf 148 = 1 := by kernel_rfl
theorem tk148 : tyOk Tryz.prog 148 = true := by kernel_rfl
theorem ag148 : isAg Tryz.prog 148 = false := by kernel_rfl
theorem by148 : Tryz.prog.bytesOf 148 = 8 := by kernel_rfl
theorem se148 : slEl Tryz.prog 148 = none := by kernel_rfl
theorem ae148 : arEl Tryz.prog 148 = none := by kernel_rfl
theorem if148 : isFn Tryz.prog 148 = true := by kernel_rfl
theorem zz148 : zc Tryz.prog 148 = [V.nilf] := by kernel_rfl
theorem cz152 : Tryz.prog.cellsOf 152 = 2 := by kernel_rfl
theorem tk152 : tyOk Tryz.prog 152 = true := by kernel_rfl
theorem ag152 : isAg Tryz.prog 152 = true := by kernel_rfl
theorem by152 : Tryz.prog.bytesOf 152 = 16 := by kernel_rfl
theorem se152 : slEl Tryz.prog 152 = none := by kernel_rfl
theorem ae152 : arEl Tryz.prog 152 = none := by kernel_rfl
theorem st152 : isSt Tryz.prog 152 = true := by kernel_rfl
theorem fo152 : fldsOk Tryz.prog 152 = true := by kernel_rfl
theorem fd152_0 : fld Tryz.prog 152 0 = some (0, 3) := by kernel_rfl
theorem fd152_1 : fld Tryz.prog 152 1 = some (1, 3) := by kernel_rfl
theorem lt152 : leafTs Tryz.prog 152 = [3, 3] := by kernel_rfl
theorem fe152 : flatEq Tryz.prog 152 = true := by kernel_rfl
theorem zz152 : zc Tryz.prog 152 = [V.int .i64 0, V.int .i64 0] := by kernel_rfl
theorem cz154 : Tryz.prog.cellsOf 154 = 4 := by kernel_rfl
theorem tk154 : tyOk Tryz.prog 154 = true := by kernel_rfl
theorem ag154 : isAg Tryz.prog 154 = true := by kernel_rfl
theorem by154 : Tryz.prog.bytesOf 154 = 32 := by kernel_rfl
theorem se154 : slEl Tryz.prog 154 = none := by kernel_rfl
theorem ae154 : arEl Tryz.prog 154 = none := by kernel_rfl
theorem st154 : isSt Tryz.prog 154 = true := by kernel_rfl
theorem fo154 : fldsOk Tryz.prog 154 = true := by kernel_rfl
theorem fd154_0 : fld Tryz.prog 154 0 = some (0, 3) := by kernel_rfl
theorem fd154_1 : fld Tryz.prog 154 1 = some (1, 3) := by kernel_rfl
theorem fd154_2 : fld Tryz.prog 154 2 = some (2, 152) := by kernel_rfl
theorem zz154 : zc Tryz.prog 154 = [V.int .i64 0, V.int .i64 0, V.int .i64 0, V.int .i64 0] := by kernel_rfl
theorem cz158 : Tryz.prog.cellsOf 158 = 1 := by kernel_rfl
theorem tk158 : tyOk Tryz.prog 158 = true := by kernel_rfl
theorem ag158 : isAg Tryz.prog 158 = false := by kernel_rfl
theorem by158 : Tryz.prog.bytesOf 158 = 8 := by kernel_rfl
theorem se158 : slEl Tryz.prog 158 = none := by kernel_rfl
theorem ae158 : arEl Tryz.prog 158 = none := by kernel_rfl
theorem if158 : isFn Tryz.prog 158 = true := by kernel_rfl
theorem zz158 : zc Tryz.prog 158 = [V.nilf] := by kernel_rfl
theorem cz161 : Tryz.prog.cellsOf 161 = 1 := by kernel_rfl
theorem tk161 : tyOk Tryz.prog 161 = true := by kernel_rfl
theorem ag161 : isAg Tryz.prog 161 = false := by kernel_rfl
theorem by161 : Tryz.prog.bytesOf 161 = 8 := by kernel_rfl
theorem se161 : slEl Tryz.prog 161 = none := by kernel_rfl
theorem ae161 : arEl Tryz.prog 161 = none := by kernel_rfl
theorem if161 : isFn Tryz.prog 161 = true := by kernel_rfl
theorem zz161 : zc Tryz.prog 161 = [V.nilf] := by kernel_rfl
theorem cz162 : Tryz.prog.cellsOf 162 = 1 := by kernel_rfl
theorem tk162 : tyOk Tryz.prog 162 = true := by kernel_rfl
theorem ag162 : isAg Tryz.prog 162 = false := by kernel_rfl
theorem by162 : Tryz.prog.bytesOf 162 = 8 := by kernel_rfl
theorem se162 : slEl Tryz.prog 162 = none := by kernel_rfl
theorem ae162 : arEl Tryz.prog 162 = none := by kernel_rfl
theorem ip162 : isPtr Tryz.prog 162 = true := by kernel_rfl
theorem zz162 : zc Tryz.prog 162 = [V.nilp] := by kernel_rfl
theorem cz166 : Tryz.prog.cellsOf 166 = 1 := by kernel_rfl
theorem tk166 : tyOk Tryz.prog 166 = true := by kernel_rfl
theorem ag166 : isAg Tryz.prog 166 = false := by kernel_rfl
theorem by166 : Tryz.prog.bytesOf 166 = 8 := by kernel_rfl
theorem se166 : slEl Tryz.prog 166 = none := by kernel_rfl
theorem ae166 : arEl Tryz.prog 166 = none := by kernel_rfl
theorem if166 : isFn Tryz.prog 166 = true := by kernel_rfl
theorem zz166 : zc Tryz.prog 166 = [V.nilf] := by kernel_rfl
theorem cz167 : Tryz.prog.cellsOf 167 = 1 := by kernel_rfl
theorem tk167 : tyOk Tryz.prog 167 = true := by kernel_rfl
theorem ag167 : isAg Tryz.prog 167 = false := by kernel_rfl
theorem by167 : Tryz.prog.bytesOf 167 = 8 := by kernel_rfl
theorem se167 : slEl Tryz.prog 167 = none := by kernel_rfl
theorem ae167 : arEl Tryz.prog 167 = none := by kernel_rfl
theorem if167 : isFn Tryz.prog 167 = true := by kernel_rfl
theorem zz167 : zc Tryz.prog 167 = [V.nilf] := by kernel_rfl
theorem cz169 : Tryz.prog.cellsOf 169 = 1 := by kernel_rfl
theorem tk169 : tyOk Tryz.prog 169 = true := by kernel_rfl
theorem ag169 : isAg Tryz.prog 169 = false := by kernel_rfl
theorem by169 : Tryz.prog.bytesOf 169 = 8 := by kernel_rfl
theorem se169 : slEl Tryz.prog 169 = none := by kernel_rfl
theorem ae169 : arEl Tryz.prog 169 = none := by kernel_rfl
theorem if169 : isFn Tryz.prog 169 = true := by kernel_rfl
theorem zz169 : zc Tryz.prog 169 = [V.nilf] := by kernel_rfl
theorem cz173 : Tryz.prog.cellsOf 173 = 1 := by kernel_rfl
theorem tk173 : tyOk Tryz.prog 173 = true := by kernel_rfl
theorem ag173 : isAg Tryz.prog 173 = false := by kernel_rfl
theorem by173 : Tryz.prog.bytesOf 173 = 8 := by kernel_rfl
theorem se173 : slEl Tryz.prog 173 = none := by kernel_rfl
theorem ae173 : arEl Tryz.prog 173 = none := by kernel_rfl
theorem ik173 : intK Tryz.prog 173 = some .u64 := by kernel_rfl
theorem zz173 : zc Tryz.prog 173 = [V.int .u64 0] := by kernel_rfl
theorem cz178 : Tryz.prog.cellsOf 178 = 1 := by kernel_rfl
theorem tk178 : tyOk Tryz.prog 178 = true := by kernel_rfl
theorem ag178 : isAg Tryz.prog 178 = false := by kernel_rfl
theorem by178 : Tryz.prog.bytesOf 178 = 8 := by kernel_rfl
theorem se178 : slEl Tryz.prog 178 = none := by kernel_rfl
theorem ae178 : arEl Tryz.prog 178 = none := by kernel_rfl
theorem if178 : isFn Tryz.prog 178 = true := by kernel_rfl
theorem zz178 : zc Tryz.prog 178 = [V.nilf] := by kernel_rfl
theorem cz179 : Tryz.prog.cellsOf 179 = 1 := by kernel_rfl
theorem tk179 : tyOk Tryz.prog 179 = true := by kernel_rfl
theorem ag179 : isAg Tryz.prog 179 = false := by kernel_rfl
theorem by179 : Tryz.prog.bytesOf 179 = 8 := by kernel_rfl
theorem se179 : slEl Tryz.prog 179 = none := by kernel_rfl
theorem ae179 : arEl Tryz.prog 179 = none := by kernel_rfl
theorem if179 : isFn Tryz.prog 179 = true := by kernel_rfl
theorem zz179 : zc Tryz.prog 179 = [V.nilf] := by kernel_rfl
theorem cz183 : Tryz.prog.cellsOf 183 = 1 := by kernel_rfl
theorem tk183 : tyOk Tryz.prog 183 = true := by kernel_rfl
theorem ag183 : isAg Tryz.prog 183 = false := by kernel_rfl
theorem by183 : Tryz.prog.bytesOf 183 = 8 := by kernel_rfl
theorem se183 : slEl Tryz.prog 183 = none := by kernel_rfl
theorem ae183 : arEl Tryz.prog 183 = none := by kernel_rfl
theorem ik183 : intK Tryz.prog 183 = some .i64 := by kernel_rfl
theorem zz183 : zc Tryz.prog 183 = [V.int .i64 0] := by kernel_rfl
theorem cz186 : Tryz.prog.cellsOf 186 = 1 := by kernel_rfl
theorem tk186 : tyOk Tryz.prog 186 = true := by kernel_rfl
theorem ag186 : isAg Tryz.prog 186 = false := by kernel_rfl
theorem by186 : Tryz.prog.bytesOf 186 = 8 := by kernel_rfl
theorem se186 : slEl Tryz.prog 186 = none := by kernel_rfl
theorem ae186 : arEl Tryz.prog 186 = none := by kernel_rfl
theorem if186 : isFn Tryz.prog 186 = true := by kernel_rfl
theorem zz186 : zc Tryz.prog 186 = [V.nilf] := by kernel_rfl
theorem cz189 : Tryz.prog.cellsOf 189 = 1 := by kernel_rfl
theorem tk189 : tyOk Tryz.prog 189 = true := by kernel_rfl
theorem ag189 : isAg Tryz.prog 189 = false := by kernel_rfl
theorem by189 : Tryz.prog.bytesOf 189 = 8 := by kernel_rfl
theorem se189 : slEl Tryz.prog 189 = none := by kernel_rfl
theorem ae189 : arEl Tryz.prog 189 = none := by kernel_rfl
theorem if189 : isFn Tryz.prog 189 = true := by kernel_rfl
theorem zz189 : zc Tryz.prog 189 = [V.nilf] := by kernel_rfl
theorem cz190 : Tryz.prog.cellsOf 190 = 1 := by kernel_rfl
theorem tk190 : tyOk Tryz.prog 190 = true := by kernel_rfl
theorem ag190 : isAg Tryz.prog 190 = false := by kernel_rfl
theorem by190 : Tryz.prog.bytesOf 190 = 8 := by kernel_rfl
theorem se190 : slEl Tryz.prog 190 = none := by kernel_rfl
theorem ae190 : arEl Tryz.prog 190 = none := by kernel_rfl
theorem if190 : isFn Tryz.prog 190 = true := by kernel_rfl
theorem zz190 : zc Tryz.prog 190 = [V.nilf] := by kernel_rfl
theorem cz191 : Tryz.prog.cellsOf 191 = 1 := by kernel_rfl
theorem tk191 : tyOk Tryz.prog 191 = true := by kernel_rfl
theorem ag191 : isAg Tryz.prog 191 = false := by kernel_rfl
theorem by191 : Tryz.prog.bytesOf 191 = 4 := by kernel_rfl
theorem se191 : slEl Tryz.prog 191 = none := by kernel_rfl
theorem ae191 : arEl Tryz.prog 191 = none := by kernel_rfl
theorem ik191 : intK Tryz.prog 191 = some .u32 := by kernel_rfl
theorem zz191 : zc Tryz.prog 191 = [V.int .u32 0] := by kernel_rfl
theorem cz192 : Tryz.prog.cellsOf 192 = 1 := by kernel_rfl
theorem tk192 : tyOk Tryz.prog 192 = true := by kernel_rfl
theorem ag192 : isAg Tryz.prog 192 = false := by kernel_rfl
theorem by192 : Tryz.prog.bytesOf 192 = 8 := by kernel_rfl
theorem se192 : slEl Tryz.prog 192 = none := by kernel_rfl
theorem ae192 : arEl Tryz.prog 192 = none := by kernel_rfl
theorem if192 : isFn Tryz.prog 192 = true := by kernel_rfl
theorem zz192 : zc Tryz.prog 192 = [V.nilf] := by kernel_rfl
theorem cz193 : Tryz.prog.cellsOf 193 = 1 := by kernel_rfl
theorem tk193 : tyOk Tryz.prog 193 = true := by kernel_rfl
theorem ag193 : isAg Tryz.prog 193 = false := by kernel_rfl
theorem by193 : Tryz.prog.bytesOf 193 = 8 := by kernel_rfl
theorem se193 : slEl Tryz.prog 193 = none := by kernel_rfl
theorem ae193 : arEl Tryz.prog 193 = none := by kernel_rfl
theorem ik193 : intK Tryz.prog 193 = some .u64 := by kernel_rfl
theorem zz193 : zc Tryz.prog 193 = [V.int .u64 0] := by kernel_rfl
theorem cz194 : Tryz.prog.cellsOf 194 = 1 := by kernel_rfl
theorem tk194 : tyOk Tryz.prog 194 = true := by kernel_rfl
theorem ag194 : isAg Tryz.prog 194 = false := by kernel_rfl
theorem by194 : Tryz.prog.bytesOf 194 = 8 := by kernel_rfl
theorem se194 : slEl Tryz.prog 194 = none := by kernel_rfl
theorem ae194 : arEl Tryz.prog 194 = none := by kernel_rfl
theorem ik194 : intK Tryz.prog 194 = some .u64 := by kernel_rfl
theorem zz194 : zc Tryz.prog 194 = [V.int .u64 0] := by kernel_rfl
theorem cz195 : Tryz.prog.cellsOf 195 = 1 := by kernel_rfl
theorem tk195 : tyOk Tryz.prog 195 = true := by kernel_rfl
theorem ag195 : isAg Tryz.prog 195 = false := by kernel_rfl
theorem by195 : Tryz.prog.bytesOf 195 = 8 := by kernel_rfl
theorem se195 : slEl Tryz.prog 195 = none := by kernel_rfl
theorem ae195 : arEl Tryz.prog 195 = none := by kernel_rfl
theorem if195 : isFn Tryz.prog 195 = true := by kernel_rfl
theorem zz195 : zc Tryz.prog 195 = [V.nilf] := by kernel_rfl
theorem cz196 : Tryz.prog.cellsOf 196 = 1 := by kernel_rfl
theorem tk196 : tyOk Tryz.prog 196 = true := by kernel_rfl
theorem ag196 : isAg Tryz.prog 196 = false := by kernel_rfl
theorem by196 : Tryz.prog.bytesOf 196 = 8 := by kernel_rfl
theorem se196 : slEl Tryz.prog 196 = none := by kernel_rfl
theorem ae196 : arEl Tryz.prog 196 = none := by kernel_rfl
theorem if196 : isFn Tryz.prog 196 = true := by kernel_rfl
theorem zz196 : zc Tryz.prog 196 = [V.nilf] := by kernel_rfl
theorem cz197 : Tryz.prog.cellsOf 197 = 1 := by kernel_rfl
theorem tk197 : tyOk Tryz.prog 197 = true := by kernel_rfl
theorem ag197 : isAg Tryz.prog 197 = false := by kernel_rfl
theorem by197 : Tryz.prog.bytesOf 197 = 8 := by kernel_rfl
theorem se197 : slEl Tryz.prog 197 = none := by kernel_rfl
theorem ae197 : arEl Tryz.prog 197 = none := by kernel_rfl
theorem if197 : isFn Tryz.prog 197 = true := by kernel_rfl
theorem zz197 : zc Tryz.prog 197 = [V.nilf] := by kernel_rfl
theorem cz198 : Tryz.prog.cellsOf 198 = 1 := by kernel_rfl
theorem tk198 : tyOk Tryz.prog 198 = true := by kernel_rfl
theorem ag198 : isAg Tryz.prog 198 = false := by kernel_rfl
theorem by198 : Tryz.prog.bytesOf 198 = 8 := by kernel_rfl
theorem se198 : slEl Tryz.prog 198 = none := by kernel_rfl
theorem ae198 : arEl Tryz.prog 198 = none := by kernel_rfl
theorem ip198 : isPtr Tryz.prog 198 = true := by kernel_rfl
theorem zz198 : zc Tryz.prog 198 = [V.nilp] := by kernel_rfl
theorem cz199 : Tryz.prog.cellsOf 199 = 1 := by kernel_rfl
theorem tk199 : tyOk Tryz.prog 199 = true := by kernel_rfl
theorem ag199 : isAg Tryz.prog 199 = false := by kernel_rfl
theorem by199 : Tryz.prog.bytesOf 199 = 8 := by kernel_rfl
theorem se199 : slEl Tryz.prog 199 = none := by kernel_rfl
theorem ae199 : arEl Tryz.prog 199 = none := by kernel_rfl
theorem if199 : isFn Tryz.prog 199 = true := by kernel_rfl
theorem zz199 : zc Tryz.prog 199 = [V.nilf] := by kernel_rfl
theorem cz200 : Tryz.prog.cellsOf 200 = 1 := by kernel_rfl
theorem tk200 : tyOk Tryz.prog 200 = true := by kernel_rfl
theorem ag200 : isAg Tryz.prog 200 = false := by kernel_rfl
theorem by200 : Tryz.prog.bytesOf 200 = 8 := by kernel_rfl
theorem se200 : slEl Tryz.prog 200 = none := by kernel_rfl
theorem ae200 : arEl Tryz.prog 200 = none := by kernel_rfl
theorem if200 : isFn Tryz.prog 200 = true := by kernel_rfl
theorem zz200 : zc Tryz.prog 200 = [V.nilf] := by kernel_rfl
theorem cz201 : Tryz.prog.cellsOf 201 = 1 := by kernel_rfl
theorem tk201 : tyOk Tryz.prog 201 = true := by kernel_rfl
theorem ag201 : isAg Tryz.prog 201 = false := by kernel_rfl
theorem by201 : Tryz.prog.bytesOf 201 = 8 := by kernel_rfl
theorem se201 : slEl Tryz.prog 201 = none := by kernel_rfl
theorem ae201 : arEl Tryz.prog 201 = none := by kernel_rfl
theorem ip201 : isPtr Tryz.prog 201 = true := by kernel_rfl
theorem zz201 : zc Tryz.prog 201 = [V.nilp] := by kernel_rfl
theorem cz202 : Tryz.prog.cellsOf 202 = 1 := by kernel_rfl
theorem tk202 : tyOk Tryz.prog 202 = true := by kernel_rfl
theorem ag202 : isAg Tryz.prog 202 = false := by kernel_rfl
theorem by202 : Tryz.prog.bytesOf 202 = 8 := by kernel_rfl
theorem se202 : slEl Tryz.prog 202 = none := by kernel_rfl
theorem ae202 : arEl Tryz.prog 202 = none := by kernel_rfl
theorem if202 : isFn Tryz.prog 202 = true := by kernel_rfl
theorem zz202 : zc Tryz.prog 202 = [V.nilf] := by kernel_rfl
theorem cz203 : Tryz.prog.cellsOf 203 = 1 := by kernel_rfl
theorem tk203 : tyOk Tryz.prog 203 = true := by kernel_rfl
theorem ag203 : isAg Tryz.prog 203 = false := by kernel_rfl
theorem by203 : Tryz.prog.bytesOf 203 = 8 := by kernel_rfl
theorem se203 : slEl Tryz.prog 203 = none := by kernel_rfl
theorem ae203 : arEl Tryz.prog 203 = none := by kernel_rfl
theorem if203 : isFn Tryz.prog 203 = true := by kernel_rfl
theorem zz203 : zc Tryz.prog 203 = [V.nilf] := by kernel_rfl
theorem cz204 : Tryz.prog.cellsOf 204 = 4 := by kernel_rfl
theorem tk204 : tyOk Tryz.prog 204 = true := by kernel_rfl
theorem ag204 : isAg Tryz.prog 204 = true := by kernel_rfl
theorem by204 : Tryz.prog.bytesOf 204 = 40 := by kernel_rfl
theorem se204 : slEl Tryz.prog 204 = none := by kernel_rfl
theorem ae204 : arEl Tryz.prog 204 = none := by kernel_rfl
theorem st204 : isSt Tryz.prog 204 = true := by kernel_rfl
theorem fo204 : fldsOk Tryz.prog 204 = true := by kernel_rfl
theorem fd204_0 : fld Tryz.prog 204 0 = some (0, 17) := by kernel_rfl
theorem fd204_1 : fld Tryz.prog 204 1 = some (1, 17) := by kernel_rfl
theorem fd204_2 : fld Tryz.prog 204 2 = some (2, 17) := by kernel_rfl
theorem fd204_3 : fld Tryz.prog 204 3 = some (3, 9) := by kernel_rfl
theorem zz204 : zc Tryz.prog 204 = [V.nilp, V.nilp, V.nilp, V.top] := by kernel_rfl
theorem cz205 : Tryz.prog.cellsOf 205 = 4 := by kernel_rfl
theorem tk205 : tyOk Tryz.prog 205 = true := by kernel_rfl
theorem ag205 : isAg Tryz.prog 205 = true := by kernel_rfl
theorem by205 : Tryz.prog.bytesOf 205 = 40 := by kernel_rfl
theorem se205 : slEl Tryz.prog 205 = none := by kernel_rfl
theorem ae205 : arEl Tryz.prog 205 = none := by kernel_rfl
theorem st205 : isSt Tryz.prog 205 = true := by kernel_rfl
theorem fo205 : fldsOk Tryz.prog 205 = true := by kernel_rfl
theorem fd205_0 : fld Tryz.prog 205 0 = some (0, 17) := by kernel_rfl
theorem fd205_1 : fld Tryz.prog 205 1 = some (1, 17) := by kernel_rfl
theorem fd205_2 : fld Tryz.prog 205 2 = some (2, 17) := by kernel_rfl
theorem fd205_3 : fld Tryz.prog 205 3 = some (3, 9) := by kernel_rfl
theorem zz205 : zc Tryz.prog 205 = [V.nilp, V.nilp, V.nilp, V.top] := by kernel_rfl
theorem cz206 : Tryz.prog.cellsOf 206 = 0 := by kernel_rfl
theorem tk206 : tyOk Tryz.prog 206 = true := by kernel_rfl
theorem ag206 : isAg Tryz.prog 206 = true := by kernel_rfl
theorem by206 : Tryz.prog.bytesOf 206 = 0 := by kernel_rfl
theorem se206 : slEl Tryz.prog 206 = none := by kernel_rfl
theorem ae206 : arEl Tryz.prog 206 = some (0, 16) := by kernel_rfl
theorem st206 : isSt Tryz.prog 206 = false := by kernel_rfl
theorem zz206 : zc Tryz.prog 206 = [] := by kernel_rfl
theorem cz208 : Tryz.prog.cellsOf 208 = 0 := by kernel_rfl
theorem tk208 : tyOk Tryz.prog 208 = true := by kernel_rfl
theorem ag208 : isAg Tryz.prog 208 = true := by kernel_rfl
theorem by208 : Tryz.prog.bytesOf 208 = 0 := by kernel_rfl
theorem se208 : slEl Tryz.prog 208 = none := by kernel_rfl
theorem ae208 : arEl Tryz.prog 208 = none := by kernel_rfl
theorem st208 : isSt Tryz.prog 208 = true := by kernel_rfl
theorem fd208_0 : fld Tryz.prog 208 0 = some (0, 206) := by kernel_rfl
theorem zz208 : zc Tryz.prog 208 = [] := by kernel_rfl
theorem cz210 : Tryz.prog.cellsOf 210 = 1 := by kernel_rfl
theorem tk210 : tyOk Tryz.prog 210 = true := by kernel_rfl
theorem ag210 : isAg Tryz.prog 210 = false := by kernel_rfl
theorem by210 : Tryz.prog.bytesOf 210 = 1 := by kernel_rfl
theorem se210 : slEl Tryz.prog 210 = none := by kernel_rfl
theorem ae210 : arEl Tryz.prog 210 = none := by kernel_rfl
theorem ik210 : intK Tryz.prog 210 = some .u8 := by kernel_rfl
theorem zz210 : zc Tryz.prog 210 = [V.int .u8 0] := by kernel_rfl
attribute [simp] cz1 tk1 ag1 by1 se1 ae1 if1 zz1 cz2 tk2 ag2 by2 se2 ae2 ik2 zz2 cz3 tk3 ag3 by3 se3 ae3 ik3 zz3 cz4 tk4 ag4 by4 se4 ae4 ib4 zz4 cz5 tk5 ag5 by5 se5 ae5 ik5 zz5 cz6 tk6 ag6 by6 se6 ae6 ik6 zz6 cz7 tk7 ag7 by7 se7 ae7 st7 fo7 fd7_0 fd7_1 fd7_2 fd7_3 lt7 fe7 zz7 cz8 tk8 ag8 by8 se8 ae8 st8 fo8 fd8_0 fd8_1 fd8_2 fd8_3 lt8 fe8 zz8 cz12 tk12 ag12 by12 se12 ae12 ik12 zz12 cz13 tk13 ag13 by13 se13 ae13 st13 fo13 fd13_0 fd13_1 zz13 cz14 tk14 ag14 by14 se14 ae14 st14 fo14 fd14_0 fd14_1 zz14 cz15 tk15 ag15 by15 se15 ae15 ip15 zz15 cz16 tk16 ag16 by16 se16 ae16 ip16 zz16 cz17 tk17 ag17 by17 se17 ae17 ip17 zz17 cz18 tk18 ag18 by18 se18 ae18 st18 fo18 fd18_0 zz18 cz19 tk19 ag19 by19 se19 ae19 st19 fo19 fd19_0 zz19 cz21 tk21 ag21 by21 se21 ae21 ik21 zz21 cz22 tk22 ag22 by22 se22 ae22 zz22 cz23 tk23 ag23 by23 se23 ae23 zz23 cz24 tk24 ag24 by24 se24 ae24 st24 fo24 fd24_0 fd24_1 fd24_2 zz24 cz25 tk25 ag25 by25 se25 ae25 st25 fo25 fd25_0 fd25_1 fd25_2 zz25 cz26 tk26 ag26 by26 se26 ae26 st26 fo26 fd26_0 fd26_1 fd26_2 fd26_3 fd26_4 fd26_5 fd26_6 fd26_7 fd26_8 fd26_9 zz26 cz27 tk27 ag27 by27 se27 ae27 st27 fo27 fd27_0 fd27_1 fd27_2 fd27_3 fd27_4 fd27_5 fd27_6 fd27_7 fd27_8 fd27_9 zz27 cz28 tk28 ag28 by28 se28 ae28 st28 fo28 fd28_0 fd28_1 lt28 fe28 zz28 cz29 tk29 ag29 by29 se29 ae29 st29 fo29 fd29_0 fd29_1 lt29 fe29 zz29 cz30 tk30 ag30 by30 se30 ae30 st30 fo30 fd30_0 fd30_1 fd30_2 fd30_3 zz30 cz31 tk31 ag31 by31 se31 ae31 st31 fo31 fd31_0 fd31_1 fd31_2 fd31_3 zz31 cz32 tk32 ag32 by32 se32 ae32 st32 fo32 fd32_0 fd32_1 fd32_2 zz32 cz33 tk33 ag33 by33 se33 ae33 st33 fo33 fd33_0 fd33_1 fd33_2 zz33 cz34 tk34 ag34 by34 se34 ae34 zz34 cz35 tk35 ag35 by35 se35 ae35 st35 fo35 fd35_0 fd35_1 fd35_2 fd35_3 fd35_4 fd35_5 zz35 cz36 tk36 ag36 by36 se36 ae36 st36 fo36 fd36_0 fd36_1 fd36_2 fd36_3 fd36_4 fd36_5 zz36 cz37 tk37 ag37 by37 se37 ae37 zz37 cz38 tk38 ag38 by38 se38 ae38 st38 fo38 fd38_0 fd38_1 fd38_2 zz38 cz39 tk39 ag39 by39 se39 ae39 st39 fo39 fd39_0 fd39_1 fd39_2 zz39 cz40 tk40 ag40 by40 se40 ae40 if40 zz40 cz41 tk41 ag41 by41 se41 ae41 if41 zz41 cz42 tk42 ag42 by42 se42 ae42 if42 zz42 cz43 tk43 ag43 by43 se43 ae43 if43 zz43 cz44 tk44 ag44 by44 se44 ae44 ik44 zz44 cz46 tk46 ag46 by46 se46 ae46 if46 zz46 cz47 tk47 ag47 by47 se47 ae47 if47 zz47 cz48 tk48 ag48 by48 se48 ae48 if48 zz48 cz50 tk50 ag50 by50 se50 ae50 if50 zz50 cz51 tk51 ag51 by51 se51 ae51 if51 zz51 cz52 tk52 ag52 by52 se52 ae52 if52 zz52 cz53 tk53 ag53 by53 se53 ae53 if53 zz53 cz54 tk54 ag54 by54 se54 ae54 if54 zz54 cz55 tk55 ag55 by55 se55 ae55 zz55 cz56 tk56 ag56 by56 se56 ae56 st56 fo56 fd56_0 fd56_1 fd56_2 fd56_3 fd56_4 fd56_5 zz56 cz57 tk57 ag57 by57 se57 ae57 st57 fo57 fd57_0 fd57_1 fd57_2 fd57_3 fd57_4 fd57_5 zz57 cz58 tk58 ag58 by58 se58 ae58 zz58 cz60 tk60 ag60 by60 se60 ae60 if60 zz60 cz61 tk61 ag61 by61 se61 ae61 if61 zz61 cz63 tk63 ag63 by63 se63 ae63 if63 zz63 cz65 tk65 ag65 by65 se65 ae65 if65 zz65 cz66 tk66 ag66 by66 se66 ae66 if66 zz66 cz67 tk67 ag67 by67 se67 ae67 if67 zz67 cz68 tk68 ag68 by68 se68 ae68 if68 zz68 cz69 tk69 ag69 by69 se69 ae69 st69 fo69 fd69_0 fd69_1 fd69_2 fd69_3 lt69 fe69 zz69 cz70 tk70 ag70 by70 se70 ae70 st70 fo70 fd70_0 fd70_1 fd70_2 fd70_3 lt70 fe70 zz70 cz71 tk71 ag71 by71 se71 ae71 if71 zz71 cz72 tk72 ag72 by72 se72 ae72 st72 fo72 fd72_0 fd72_1 zz72 cz73 tk73 ag73 by73 se73 ae73 st73 fo73 fd73_0 fd73_1 zz73 cz74 tk74 ag74 by74 se74 ae74 if74 zz74 cz75 tk75 ag75 by75 se75 ae75 if75 zz75 cz76 tk76 ag76 by76 se76 ae76 st76 fo76 fd76_0 fd76_1 fd76_2 lt76 fe76 zz76 cz77 tk77 ag77 by77 se77 ae77 st77 fo77 fd77_0 fd77_1 fd77_2 lt77 fe77 zz77 cz79 tk79 ag79 by79 se79 ae79 st79 fo79 fd79_0 fd79_1 fd79_2 lt79 fe79 zz79 cz80 tk80 ag80 by80 se80 ae80 if80 zz80 cz81 tk81 ag81 by81 se81 ae81 if81 zz81 cz82 tk82 ag82 by82 se82 ae82 st82 fo82 fd82_0 fd82_1 zz82 cz83 tk83 ag83 by83 se83 ae83 st83 fo83 fd83_0 fd83_1 zz83 cz87 tk87 ag87 by87 se87 ae87 st87 fo87 fd87_0 fd87_1 lt87 fe87 zz87 cz88 tk88 ag88 by88 se88 ae88 if88 zz88 cz90 tk90 ag90 by90 se90 ae90 if90 zz90 cz91 tk91 ag91 by91 se91 ae91 if91 zz91 cz94 tk94 ag94 by94 se94 ae94 if94 zz94 cz95 tk95 ag95 by95 se95 ae95 zz95 cz96 tk96 ag96 by96 se96 ae96 zz96 cz97 tk97 ag97 by97 se97 ae97 if97 zz97 cz98 tk98 ag98 by98 se98 ae98 zz98 cz100 tk100 ag100 by100 se100 ae100 st100 fo100 fd100_0 fd100_1 fd100_2 zz100 cz101 tk101 ag101 by101 se101 ae101 if101 zz101 cz102 tk102 ag102 by102 se102 ae102 if102 zz102 cz103 tk103 ag103 by103 se103 ae103 if103 zz103 cz106 tk106 ag106 by106 se106 ae106 if106 zz106 cz109 tk109 ag109 by109 se109 ae109 if109 zz109 cz110 tk110 ag110 by110 se110 ae110 if110 zz110 cz112 tk112 ag112 by112 se112 ae112 if112 zz112 cz113 tk113 ag113 by113 se113 ae113 if113 zz113 cz114 tk114 ag114 by114 se114 ae114 if114 zz114 cz115 tk115 ag115 by115 se115 ae115 if115 zz115 cz118 tk118 ag118 by118 se118 ae118 st118 fo118 fd118_0 fd118_1 lt118 fe118 zz118 cz119 tk119 ag119 by119 se119 ae119 if119 zz119 cz120 tk120 ag120 by120 se120 ae120 if120 zz120 cz121 tk121 ag121 by121 se121 ae121 if121 zz121 cz124 tk124 ag124 by124 se124 ae124 if124 zz124 cz126 tk126 ag126 by126 se126 ae126 if126 zz126 cz127 tk127 ag127 by127 se127 ae127 if127 zz127 cz129 tk129 ag129 by129 se129 ae129 if129 zz129 cz131 tk131 ag131 by131 se131 ae131 if131 zz131 cz134 tk134 ag134 by134 se134 ae134 if134 zz134 cz135 tk135 ag135 by135 se135 ae135 if135 zz135 cz136 tk136 ag136 by136 se136 ae136 if136 zz136 cz137 tk137 ag137 by137 se137 ae137 if137 zz137 cz138 tk138 ag138 by138 se138 ae138 st138 lt138 fe138 zz138 cz141 tk141 ag141 by141 se141 ae141 if141 zz141 cz143 tk143 ag143 by143 se143 ae143 if143 zz143 cz144 tk144 ag144 by144 se144 ae144 if144 zz144 cz146 tk146 ag146 by146 se146 ae146 st146 fo146 fd146_0 fd146_1 fd146_2 zz146 cz147 tk147 ag147 by147 se147 ae147 zz147 cz148 tk148 ag148 by148 se148 ae148 if148 zz148 cz152 tk152 ag152 by152 se152 ae152 st152 fo152 fd152_0 fd152_1 lt152 fe152 zz152 cz154 tk154 ag154 by154 se154 ae154 st154 fo154 fd154_0 fd154_1 fd154_2 zz154 cz158 tk158 ag158 by158 se158 ae158 if158 zz158 cz161 tk161 ag161 by161 se161 ae161 if161 zz161 cz162 tk162 ag162 by162 se162 ae162 ip162 zz162 cz166 tk166 ag166 by166 se166 ae166 if166 zz166 cz167 tk167 ag167 by167 se167 ae167 if167 zz167 cz169 tk169 ag169 by169 se169 ae169 if169 zz169 cz173 tk173 ag173 by173 se173 ae173 ik173 zz173 cz178 tk178 ag178 by178 se178 ae178 if178 zz178 cz179 tk179 ag179 by179 se179 ae179 if179 zz179 cz183 tk183 ag183 by183 se183 ae183 ik183 zz183 cz186 tk186 ag186 by186 se186 ae186 if186 zz186 cz189 tk189 ag189 by189 se189 ae189 if189 zz189 cz190 tk190 ag190 by190 se190 ae190 if190 zz190 cz191 tk191 ag191 by191 se191 ae191 ik191 zz191 cz192 tk192 ag192 by192 se192 ae192 if192 zz192 cz193 tk193 ag193 by193 se193 ae193 ik193 zz193 cz194 tk194 ag194 by194 se194 ae194 ik194 zz194 cz195 tk195 ag195 by195 se195 ae195 if195 zz195 cz196 tk196 ag196 by196 se196 ae196 if196 zz196 cz197 tk197 ag197 by197 se197 ae197 if197 zz197 cz198 tk198 ag198 by198 se198 ae198 ip198 zz198 cz199 tk199 ag199 by199 se199 ae199 if199 zz199 cz200 tk200 ag200 by200 se200 ae200 if200 zz200 cz201 tk201 ag201 by201 se201 ae201 ip201 zz201 cz202 tk202 ag202 by202 se202 ae202 if202 zz202 cz203 tk203 ag203 by203 se203 ae203 if203 zz203 cz204 tk204 ag204 by204 se204 ae204 st204 fo204 fd204_0 fd204_1 fd204_2 fd204_3 zz204 cz205 tk205 ag205 by205 se205 ae205 st205 fo205 fd205_0 fd205_1 fd205_2 fd205_3 zz205 cz206 tk206 ag206 by206 se206 ae206 st206 zz206 cz208 tk208 ag208 by208 se208 ae208 st208 fd208_0 zz208 cz210 tk210 ag210 by210 se210 ae210 ik210 zz210 
end Go.Sx.Ty
