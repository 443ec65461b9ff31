/- What the walk asks of this seat's types: closed facts. Printed by program. No conditions. -/
import Derived.Test.YtcbcajnkdknkdaaDoorProg
import Derived.Test.YtcbcajnkdknkdaaDoorP00
set_option linter.unusedSimpArgs false
set_option linter.unusedVariables false
set_option linter.unusedSectionVars false
namespace Go.Sx.Ty
open Go.Proofs Go.Sx
theorem cz1 : Tryd.prog.cellsOf 1 = 1 := by kernel_rfl
theorem tk1 : tyOk Tryd.prog 1 = true := by kernel_rfl
theorem ag1 : isAg Tryd.prog 1 = false := by kernel_rfl
theorem by1 : Tryd.prog.bytesOf 1 = 8 := by kernel_rfl
theorem se1 : slEl Tryd.prog 1 = none := by kernel_rfl
theorem ae1 : arEl Tryd.prog 1 = none := by kernel_rfl
theorem if1 : isFn Tryd.prog 1 = true := by kernel_rfl
theorem zz1 : zc Tryd.prog 1 = [V.nilf] := by kernel_rfl
theorem cz2 : Tryd.prog.cellsOf 2 = 1 := by kernel_rfl
theorem tk2 : tyOk Tryd.prog 2 = true := by kernel_rfl
theorem ag2 : isAg Tryd.prog 2 = false := by kernel_rfl
theorem by2 : Tryd.prog.bytesOf 2 = 8 := by kernel_rfl
theorem se2 : slEl Tryd.prog 2 = none := by kernel_rfl
theorem ae2 : arEl Tryd.prog 2 = none := by kernel_rfl
theorem ik2 : intK Tryd.prog 2 = some .i64 := by kernel_rfl
theorem zz2 : zc Tryd.prog 2 = [V.int .i64 0] := by kernel_rfl
theorem cz3 : Tryd.prog.cellsOf 3 = 1 := by kernel_rfl
theorem tk3 : tyOk Tryd.prog 3 = true := by kernel_rfl
theorem ag3 : isAg Tryd.prog 3 = false := by kernel_rfl
theorem by3 : Tryd.prog.bytesOf 3 = 8 := by kernel_rfl
theorem se3 : slEl Tryd.prog 3 = none := by kernel_rfl
theorem ae3 : arEl Tryd.prog 3 = none := by kernel_rfl
theorem ik3 : intK Tryd.prog 3 = some .i64 := by kernel_rfl
theorem zz3 : zc Tryd.prog 3 = [V.int .i64 0] := by kernel_rfl
theorem cz4 : Tryd.prog.cellsOf 4 = 1 := by kernel_rfl
theorem tk4 : tyOk Tryd.prog 4 = true := by kernel_rfl
theorem ag4 : isAg Tryd.prog 4 = false := by kernel_rfl
theorem by4 : Tryd.prog.bytesOf 4 = 1 := by kernel_rfl
theorem se4 : slEl Tryd.prog 4 = none := by kernel_rfl
theorem ae4 : arEl Tryd.prog 4 = none := by kernel_rfl
theorem ib4 : isBool Tryd.prog 4 = true := by kernel_rfl
theorem zz4 : zc Tryd.prog 4 = [V.bool false] := by kernel_rfl
theorem cz5 : Tryd.prog.cellsOf 5 = 1 := by kernel_rfl
theorem tk5 : tyOk Tryd.prog 5 = true := by kernel_rfl
theorem ag5 : isAg Tryd.prog 5 = false := by kernel_rfl
theorem by5 : Tryd.prog.bytesOf 5 = 1 := by kernel_rfl
theorem se5 : slEl Tryd.prog 5 = none := by kernel_rfl
theorem ae5 : arEl Tryd.prog 5 = none := by kernel_rfl
theorem ik5 : intK Tryd.prog 5 = some .u8 := by kernel_rfl
theorem zz5 : zc Tryd.prog 5 = [V.int .u8 0] := by kernel_rfl
theorem cz6 : Tryd.prog.cellsOf 6 = 1 := by kernel_rfl
theorem tk6 : tyOk Tryd.prog 6 = true := by kernel_rfl
theorem ag6 : isAg Tryd.prog 6 = false := by kernel_rfl
theorem by6 : Tryd.prog.bytesOf 6 = 1 := by kernel_rfl
theorem se6 : slEl Tryd.prog 6 = none := by kernel_rfl
theorem ae6 : arEl Tryd.prog 6 = none := by kernel_rfl
theorem ik6 : intK Tryd.prog 6 = some .u8 := by kernel_rfl
theorem zz6 : zc Tryd.prog 6 = [V.int .u8 0] := by kernel_rfl
theorem cz7 : Tryd.prog.cellsOf 7 = 4 := by kernel_rfl
theorem tk7 : tyOk Tryd.prog 7 = true := by kernel_rfl
theorem ag7 : isAg Tryd.prog 7 = true := by kernel_rfl
theorem by7 : Tryd.prog.bytesOf 7 = 24 := by kernel_rfl
theorem se7 : slEl Tryd.prog 7 = none := by kernel_rfl
theorem ae7 : arEl Tryd.prog 7 = none := by kernel_rfl
theorem st7 : isSt Tryd.prog 7 = true := by kernel_rfl
theorem fo7 : fldsOk Tryd.prog 7 = true := by kernel_rfl
theorem fd7_0 : fld Tryd.prog 7 0 = some (0, 2) := by kernel_rfl
theorem fd7_1 : fld Tryd.prog 7 1 = some (1, 3) := by kernel_rfl
theorem fd7_2 : fld Tryd.prog 7 2 = some (2, 4) := by kernel_rfl
theorem fd7_3 : fld Tryd.prog 7 3 = some (3, 6) := by kernel_rfl
theorem lt7 : leafTs Tryd.prog 7 = [2, 3, 4, 6] := by kernel_rfl
theorem fe7 : flatEq Tryd.prog 7 = true := by kernel_rfl
theorem zz7 : zc Tryd.prog 7 = [V.int .i64 0, V.int .i64 0, V.bool false, V.int .u8 0] := by kernel_rfl
theorem cz8 : Tryd.prog.cellsOf 8 = 4 := by kernel_rfl
theorem tk8 : tyOk Tryd.prog 8 = true := by kernel_rfl
theorem ag8 : isAg Tryd.prog 8 = true := by kernel_rfl
theorem by8 : Tryd.prog.bytesOf 8 = 24 := by kernel_rfl
theorem se8 : slEl Tryd.prog 8 = none := by kernel_rfl
theorem ae8 : arEl Tryd.prog 8 = none := by kernel_rfl
theorem st8 : isSt Tryd.prog 8 = true := by kernel_rfl
theorem fo8 : fldsOk Tryd.prog 8 = true := by kernel_rfl
theorem fd8_0 : fld Tryd.prog 8 0 = some (0, 2) := by kernel_rfl
theorem fd8_1 : fld Tryd.prog 8 1 = some (1, 3) := by kernel_rfl
theorem fd8_2 : fld Tryd.prog 8 2 = some (2, 4) := by kernel_rfl
theorem fd8_3 : fld Tryd.prog 8 3 = some (3, 6) := by kernel_rfl
theorem lt8 : leafTs Tryd.prog 8 = [2, 3, 4, 6] := by kernel_rfl
theorem fe8 : flatEq Tryd.prog 8 = true := by kernel_rfl
theorem zz8 : zc Tryd.prog 8 = [V.int .i64 0, V.int .i64 0, V.bool false, V.int .u8 0] := by kernel_rfl
theorem cz12 : Tryd.prog.cellsOf 12 = 1 := by kernel_rfl
theorem tk12 : tyOk Tryd.prog 12 = true := by kernel_rfl
theorem ag12 : isAg Tryd.prog 12 = false := by kernel_rfl
theorem by12 : Tryd.prog.bytesOf 12 = 8 := by kernel_rfl
theorem se12 : slEl Tryd.prog 12 = none := by kernel_rfl
theorem ae12 : arEl Tryd.prog 12 = none := by kernel_rfl
theorem ik12 : intK Tryd.prog 12 = some .u64 := by kernel_rfl
theorem zz12 : zc Tryd.prog 12 = [V.int .u64 0] := by kernel_rfl
theorem cz13 : Tryd.prog.cellsOf 13 = 2 := by kernel_rfl
theorem tk13 : tyOk Tryd.prog 13 = true := by kernel_rfl
theorem ag13 : isAg Tryd.prog 13 = true := by kernel_rfl
theorem by13 : Tryd.prog.bytesOf 13 = 24 := by kernel_rfl
theorem se13 : slEl Tryd.prog 13 = none := by kernel_rfl
theorem ae13 : arEl Tryd.prog 13 = none := by kernel_rfl
theorem st13 : isSt Tryd.prog 13 = true := by kernel_rfl
theorem fo13 : fldsOk Tryd.prog 13 = true := by kernel_rfl
theorem fd13_0 : fld Tryd.prog 13 0 = some (0, 9) := by kernel_rfl
theorem fd13_1 : fld Tryd.prog 13 1 = some (1, 12) := by kernel_rfl
theorem zz13 : zc Tryd.prog 13 = [V.top, V.int .u64 0] := by kernel_rfl
theorem cz14 : Tryd.prog.cellsOf 14 = 2 := by kernel_rfl
theorem tk14 : tyOk Tryd.prog 14 = true := by kernel_rfl
theorem ag14 : isAg Tryd.prog 14 = true := by kernel_rfl
theorem by14 : Tryd.prog.bytesOf 14 = 24 := by kernel_rfl
theorem se14 : slEl Tryd.prog 14 = none := by kernel_rfl
theorem ae14 : arEl Tryd.prog 14 = none := by kernel_rfl
theorem st14 : isSt Tryd.prog 14 = true := by kernel_rfl
theorem fo14 : fldsOk Tryd.prog 14 = true := by kernel_rfl
theorem fd14_0 : fld Tryd.prog 14 0 = some (0, 9) := by kernel_rfl
theorem fd14_1 : fld Tryd.prog 14 1 = some (1, 12) := by kernel_rfl
theorem zz14 : zc Tryd.prog 14 = [V.top, V.int .u64 0] := by kernel_rfl
theorem cz15 : Tryd.prog.cellsOf 15 = 1 := by kernel_rfl
theorem tk15 : tyOk Tryd.prog 15 = true := by kernel_rfl
theorem ag15 : isAg Tryd.prog 15 = false := by kernel_rfl
theorem by15 : Tryd.prog.bytesOf 15 = 8 := by kernel_rfl
theorem se15 : slEl Tryd.prog 15 = none := by kernel_rfl
theorem ae15 : arEl Tryd.prog 15 = none := by kernel_rfl
theorem ip15 : isPtr Tryd.prog 15 = true := by kernel_rfl
theorem zz15 : zc Tryd.prog 15 = [V.nilp] := by kernel_rfl
theorem cz16 : Tryd.prog.cellsOf 16 = 1 := by kernel_rfl
theorem tk16 : tyOk Tryd.prog 16 = true := by kernel_rfl
theorem ag16 : isAg Tryd.prog 16 = false := by kernel_rfl
theorem by16 : Tryd.prog.bytesOf 16 = 8 := by kernel_rfl
theorem se16 : slEl Tryd.prog 16 = none := by kernel_rfl
theorem ae16 : arEl Tryd.prog 16 = none := by kernel_rfl
theorem ip16 : isPtr Tryd.prog 16 = true := by kernel_rfl
theorem zz16 : zc Tryd.prog 16 = [V.nilp] := by kernel_rfl
theorem cz17 : Tryd.prog.cellsOf 17 = 1 := by kernel_rfl
theorem tk17 : tyOk Tryd.prog 17 = true := by kernel_rfl
theorem ag17 : isAg Tryd.prog 17 = false := by kernel_rfl
theorem by17 : Tryd.prog.bytesOf 17 = 8 := by kernel_rfl
theorem se17 : slEl Tryd.prog 17 = none := by kernel_rfl
theorem ae17 : arEl Tryd.prog 17 = none := by kernel_rfl
theorem ip17 : isPtr Tryd.prog 17 = true := by kernel_rfl
theorem zz17 : zc Tryd.prog 17 = [V.nilp] := by kernel_rfl
theorem cz18 : Tryd.prog.cellsOf 18 = 1 := by kernel_rfl
theorem tk18 : tyOk Tryd.prog 18 = true := by kernel_rfl
theorem ag18 : isAg Tryd.prog 18 = true := by kernel_rfl
theorem by18 : Tryd.prog.bytesOf 18 = 8 := by kernel_rfl
theorem se18 : slEl Tryd.prog 18 = none := by kernel_rfl
theorem ae18 : arEl Tryd.prog 18 = none := by kernel_rfl
theorem st18 : isSt Tryd.prog 18 = true := by kernel_rfl
theorem fo18 : fldsOk Tryd.prog 18 = true := by kernel_rfl
theorem fd18_0 : fld Tryd.prog 18 0 = some (0, 17) := by kernel_rfl
theorem zz18 : zc Tryd.prog 18 = [V.nilp] := by kernel_rfl
theorem cz19 : Tryd.prog.cellsOf 19 = 1 := by kernel_rfl
theorem tk19 : tyOk Tryd.prog 19 = true := by kernel_rfl
theorem ag19 : isAg Tryd.prog 19 = true := by kernel_rfl
theorem by19 : Tryd.prog.bytesOf 19 = 8 := by kernel_rfl
theorem se19 : slEl Tryd.prog 19 = none := by kernel_rfl
theorem ae19 : arEl Tryd.prog 19 = none := by kernel_rfl
theorem st19 : isSt Tryd.prog 19 = true := by kernel_rfl
theorem fo19 : fldsOk Tryd.prog 19 = true := by kernel_rfl
theorem fd19_0 : fld Tryd.prog 19 0 = some (0, 17) := by kernel_rfl
theorem zz19 : zc Tryd.prog 19 = [V.nilp] := by kernel_rfl
theorem cz21 : Tryd.prog.cellsOf 21 = 1 := by kernel_rfl
theorem tk21 : tyOk Tryd.prog 21 = true := by kernel_rfl
theorem ag21 : isAg Tryd.prog 21 = false := by kernel_rfl
theorem by21 : Tryd.prog.bytesOf 21 = 4 := by kernel_rfl
theorem se21 : slEl Tryd.prog 21 = none := by kernel_rfl
theorem ae21 : arEl Tryd.prog 21 = none := by kernel_rfl
theorem ik21 : intK Tryd.prog 21 = some .i32 := by kernel_rfl
theorem zz21 : zc Tryd.prog 21 = [V.int .i32 0] := by kernel_rfl
theorem cz22 : Tryd.prog.cellsOf 22 = 1 := by kernel_rfl
theorem tk22 : tyOk Tryd.prog 22 = true := by kernel_rfl
theorem ag22 : isAg Tryd.prog 22 = false := by kernel_rfl
theorem by22 : Tryd.prog.bytesOf 22 = 24 := by kernel_rfl
theorem se22 : slEl Tryd.prog 22 = some 3 := by kernel_rfl
theorem ae22 : arEl Tryd.prog 22 = none := by kernel_rfl
theorem zz22 : zc Tryd.prog 22 = [V.nil] := by kernel_rfl
theorem cz23 : Tryd.prog.cellsOf 23 = 2 := by kernel_rfl
theorem tk23 : tyOk Tryd.prog 23 = true := by kernel_rfl
theorem ag23 : isAg Tryd.prog 23 = true := by kernel_rfl
theorem by23 : Tryd.prog.bytesOf 23 = 16 := by kernel_rfl
theorem se23 : slEl Tryd.prog 23 = none := by kernel_rfl
theorem ae23 : arEl Tryd.prog 23 = none := by kernel_rfl
theorem st23 : isSt Tryd.prog 23 = true := by kernel_rfl
theorem fo23 : fldsOk Tryd.prog 23 = true := by kernel_rfl
theorem fd23_0 : fld Tryd.prog 23 0 = some (0, 3) := by kernel_rfl
theorem fd23_1 : fld Tryd.prog 23 1 = some (1, 3) := by kernel_rfl
theorem lt23 : leafTs Tryd.prog 23 = [3, 3] := by kernel_rfl
theorem fe23 : flatEq Tryd.prog 23 = true := by kernel_rfl
theorem zz23 : zc Tryd.prog 23 = [V.int .i64 0, V.int .i64 0] := by kernel_rfl
theorem cz24 : Tryd.prog.cellsOf 24 = 2 := by kernel_rfl
theorem tk24 : tyOk Tryd.prog 24 = true := by kernel_rfl
theorem ag24 : isAg Tryd.prog 24 = true := by kernel_rfl
theorem by24 : Tryd.prog.bytesOf 24 = 16 := by kernel_rfl
theorem se24 : slEl Tryd.prog 24 = none := by kernel_rfl
theorem ae24 : arEl Tryd.prog 24 = none := by kernel_rfl
theorem st24 : isSt Tryd.prog 24 = true := by kernel_rfl
theorem fo24 : fldsOk Tryd.prog 24 = true := by kernel_rfl
theorem fd24_0 : fld Tryd.prog 24 0 = some (0, 3) := by kernel_rfl
theorem fd24_1 : fld Tryd.prog 24 1 = some (1, 3) := by kernel_rfl
theorem lt24 : leafTs Tryd.prog 24 = [3, 3] := by kernel_rfl
theorem fe24 : flatEq Tryd.prog 24 = true := by kernel_rfl
theorem zz24 : zc Tryd.prog 24 = [V.int .i64 0, V.int .i64 0] := by kernel_rfl
theorem cz25 : Tryd.prog.cellsOf 25 = 1 := by kernel_rfl
theorem tk25 : tyOk Tryd.prog 25 = true := by kernel_rfl
theorem ag25 : isAg Tryd.prog 25 = false := by kernel_rfl
theorem by25 : Tryd.prog.bytesOf 25 = 8 := by kernel_rfl
theorem se25 : slEl Tryd.prog 25 = none := by kernel_rfl
theorem ae25 : arEl Tryd.prog 25 = none := by kernel_rfl
theorem if25 : isFn Tryd.prog 25 = true := by kernel_rfl
theorem zz25 : zc Tryd.prog 25 = [V.nilf] := by kernel_rfl
theorem cz26 : Tryd.prog.cellsOf 26 = 1 := by kernel_rfl
theorem tk26 : tyOk Tryd.prog 26 = true := by kernel_rfl
theorem ag26 : isAg Tryd.prog 26 = false := by kernel_rfl
theorem by26 : Tryd.prog.bytesOf 26 = 24 := by kernel_rfl
theorem se26 : slEl Tryd.prog 26 = some 30 := by kernel_rfl
theorem ae26 : arEl Tryd.prog 26 = none := by kernel_rfl
theorem zz26 : zc Tryd.prog 26 = [V.nil] := by kernel_rfl
theorem cz27 : Tryd.prog.cellsOf 27 = 1 := by kernel_rfl
theorem tk27 : tyOk Tryd.prog 27 = true := by kernel_rfl
theorem ag27 : isAg Tryd.prog 27 = false := by kernel_rfl
theorem by27 : Tryd.prog.bytesOf 27 = 8 := by kernel_rfl
theorem se27 : slEl Tryd.prog 27 = none := by kernel_rfl
theorem ae27 : arEl Tryd.prog 27 = none := by kernel_rfl
theorem ik27 : intK Tryd.prog 27 = some .i64 := by kernel_rfl
theorem zz27 : zc Tryd.prog 27 = [V.int .i64 0] := by kernel_rfl
theorem cz29 : Tryd.prog.cellsOf 29 = 1 := by kernel_rfl
theorem tk29 : tyOk Tryd.prog 29 = true := by kernel_rfl
theorem ag29 : isAg Tryd.prog 29 = false := by kernel_rfl
theorem by29 : Tryd.prog.bytesOf 29 = 8 := by kernel_rfl
theorem se29 : slEl Tryd.prog 29 = none := by kernel_rfl
theorem ae29 : arEl Tryd.prog 29 = none := by kernel_rfl
theorem if29 : isFn Tryd.prog 29 = true := by kernel_rfl
theorem zz29 : zc Tryd.prog 29 = [V.nilf] := by kernel_rfl
theorem cz30 : Tryd.prog.cellsOf 30 = 2 := by kernel_rfl
theorem tk30 : tyOk Tryd.prog 30 = true := by kernel_rfl
theorem ag30 : isAg Tryd.prog 30 = true := by kernel_rfl
theorem by30 : Tryd.prog.bytesOf 30 = 16 := by kernel_rfl
theorem se30 : slEl Tryd.prog 30 = none := by kernel_rfl
theorem ae30 : arEl Tryd.prog 30 = some (2, 3) := by kernel_rfl
theorem st30 : isSt Tryd.prog 30 = false := by kernel_rfl
theorem lt30 : leafTs Tryd.prog 30 = [3, 3] := by kernel_rfl
theorem fe30 : flatEq Tryd.prog 30 = true := by kernel_rfl
theorem zz30 : zc Tryd.prog 30 = [V.int .i64 0, V.int .i64 0] := by kernel_rfl
theorem cz31 : Tryd.prog.cellsOf 31 = 1 := by kernel_rfl
theorem tk31 : tyOk Tryd.prog 31 = true := by kernel_rfl
theorem ag31 : isAg Tryd.prog 31 = false := by kernel_rfl
theorem by31 : Tryd.prog.bytesOf 31 = 8 := by kernel_rfl
theorem se31 : slEl Tryd.prog 31 = none := by kernel_rfl
theorem ae31 : arEl Tryd.prog 31 = none := by kernel_rfl
theorem if31 : isFn Tryd.prog 31 = true := by kernel_rfl
theorem zz31 : zc Tryd.prog 31 = [V.nilf] := by kernel_rfl
theorem cz32 : Tryd.prog.cellsOf 32 = 1 := by kernel_rfl
theorem tk32 : tyOk Tryd.prog 32 = true := by kernel_rfl
theorem ag32 : isAg Tryd.prog 32 = false := by kernel_rfl
theorem by32 : Tryd.prog.bytesOf 32 = 8 := by kernel_rfl
theorem se32 : slEl Tryd.prog 32 = none := by kernel_rfl
theorem ae32 : arEl Tryd.prog 32 = none := by kernel_rfl
theorem if32 : isFn Tryd.prog 32 = true := by kernel_rfl
theorem zz32 : zc Tryd.prog 32 = [V.nilf] := by kernel_rfl
theorem cz33 : Tryd.prog.cellsOf 33 = 1 := by kernel_rfl
theorem tk33 : tyOk Tryd.prog 33 = true := by kernel_rfl
theorem ag33 : isAg Tryd.prog 33 = false := by kernel_rfl
theorem by33 : Tryd.prog.bytesOf 33 = 8 := by kernel_rfl
theorem se33 : slEl Tryd.prog 33 = none := by kernel_rfl
theorem ae33 : arEl Tryd.prog 33 = none := by kernel_rfl
theorem if33 : isFn Tryd.prog 33 = true := by kernel_rfl
theorem zz33 : zc Tryd.prog 33 = [V.nilf] := by kernel_rfl
theorem cz34 : Tryd.prog.cellsOf 34 = 1 := by kernel_rfl
theorem tk34 : tyOk Tryd.prog 34 = true := by kernel_rfl
theorem ag34 : isAg Tryd.prog 34 = false := by kernel_rfl
theorem by34 : Tryd.prog.bytesOf 34 = 24 := by kernel_rfl
theorem se34 : slEl Tryd.prog 34 = some 53 := by kernel_rfl
theorem ae34 : arEl Tryd.prog 34 = none := by kernel_rfl
theorem zz34 : zc Tryd.prog 34 = [V.nil] := by kernel_rfl
theorem cz35 : Tryd.prog.cellsOf 35 = 1 := by kernel_rfl
theorem tk35 : tyOk Tryd.prog 35 = true := by kernel_rfl
theorem ag35 : isAg Tryd.prog 35 = false := by kernel_rfl
theorem by35 : Tryd.prog.bytesOf 35 = 24 := by kernel_rfl
theorem se35 : slEl Tryd.prog 35 = some 51 := by kernel_rfl
theorem ae35 : arEl Tryd.prog 35 = none := by kernel_rfl
theorem zz35 : zc Tryd.prog 35 = [V.nil] := by kernel_rfl
theorem cz36 : Tryd.prog.cellsOf 36 = 1 := by kernel_rfl
theorem tk36 : tyOk Tryd.prog 36 = true := by kernel_rfl
theorem ag36 : isAg Tryd.prog 36 = false := by kernel_rfl
theorem by36 : Tryd.prog.bytesOf 36 = 24 := by kernel_rfl
theorem se36 : slEl Tryd.prog 36 = some 121 := by kernel_rfl
theorem ae36 : arEl Tryd.prog 36 = none := by kernel_rfl
theorem zz36 : zc Tryd.prog 36 = [V.nil] := by kernel_rfl
theorem cz37 : Tryd.prog.cellsOf 37 = 4 := by kernel_rfl
theorem tk37 : tyOk Tryd.prog 37 = true := by kernel_rfl
theorem ag37 : isAg Tryd.prog 37 = true := by kernel_rfl
theorem by37 : Tryd.prog.bytesOf 37 = 80 := by kernel_rfl
theorem se37 : slEl Tryd.prog 37 = none := by kernel_rfl
theorem ae37 : arEl Tryd.prog 37 = none := by kernel_rfl
theorem st37 : isSt Tryd.prog 37 = true := by kernel_rfl
theorem fo37 : fldsOk Tryd.prog 37 = true := by kernel_rfl
theorem fd37_0 : fld Tryd.prog 37 0 = some (0, 34) := by kernel_rfl
theorem fd37_1 : fld Tryd.prog 37 1 = some (1, 35) := by kernel_rfl
theorem fd37_2 : fld Tryd.prog 37 2 = some (2, 3) := by kernel_rfl
theorem fd37_3 : fld Tryd.prog 37 3 = some (3, 36) := by kernel_rfl
theorem zz37 : zc Tryd.prog 37 = [V.nil, V.nil, V.int .i64 0, V.nil] := by kernel_rfl
theorem cz38 : Tryd.prog.cellsOf 38 = 4 := by kernel_rfl
theorem tk38 : tyOk Tryd.prog 38 = true := by kernel_rfl
theorem ag38 : isAg Tryd.prog 38 = true := by kernel_rfl
theorem by38 : Tryd.prog.bytesOf 38 = 80 := by kernel_rfl
theorem se38 : slEl Tryd.prog 38 = none := by kernel_rfl
theorem ae38 : arEl Tryd.prog 38 = none := by kernel_rfl
theorem st38 : isSt Tryd.prog 38 = true := by kernel_rfl
theorem fo38 : fldsOk Tryd.prog 38 = true := by kernel_rfl
theorem fd38_0 : fld Tryd.prog 38 0 = some (0, 34) := by kernel_rfl
theorem fd38_1 : fld Tryd.prog 38 1 = some (1, 35) := by kernel_rfl
theorem fd38_2 : fld Tryd.prog 38 2 = some (2, 3) := by kernel_rfl
theorem fd38_3 : fld Tryd.prog 38 3 = some (3, 36) := by kernel_rfl
theorem zz38 : zc Tryd.prog 38 = [V.nil, V.nil, V.int .i64 0, V.nil] := by kernel_rfl
theorem cz39 : Tryd.prog.cellsOf 39 = 1 := by kernel_rfl
theorem tk39 : tyOk Tryd.prog 39 = true := by kernel_rfl
theorem ag39 : isAg Tryd.prog 39 = false := by kernel_rfl
theorem by39 : Tryd.prog.bytesOf 39 = 24 := by kernel_rfl
theorem se39 : slEl Tryd.prog 39 = some 47 := by kernel_rfl
theorem ae39 : arEl Tryd.prog 39 = none := by kernel_rfl
theorem zz39 : zc Tryd.prog 39 = [V.nil] := by kernel_rfl
theorem cz40 : Tryd.prog.cellsOf 40 = 3 := by kernel_rfl
theorem tk40 : tyOk Tryd.prog 40 = true := by kernel_rfl
theorem ag40 : isAg Tryd.prog 40 = true := by kernel_rfl
theorem by40 : Tryd.prog.bytesOf 40 = 24 := by kernel_rfl
theorem se40 : slEl Tryd.prog 40 = none := by kernel_rfl
theorem ae40 : arEl Tryd.prog 40 = none := by kernel_rfl
theorem st40 : isSt Tryd.prog 40 = true := by kernel_rfl
theorem fo40 : fldsOk Tryd.prog 40 = true := by kernel_rfl
theorem fd40_0 : fld Tryd.prog 40 0 = some (0, 3) := by kernel_rfl
theorem fd40_1 : fld Tryd.prog 40 1 = some (1, 3) := by kernel_rfl
theorem fd40_2 : fld Tryd.prog 40 2 = some (2, 3) := by kernel_rfl
theorem lt40 : leafTs Tryd.prog 40 = [3, 3, 3] := by kernel_rfl
theorem fe40 : flatEq Tryd.prog 40 = true := by kernel_rfl
theorem zz40 : zc Tryd.prog 40 = [V.int .i64 0, V.int .i64 0, V.int .i64 0] := by kernel_rfl
theorem cz41 : Tryd.prog.cellsOf 41 = 3 := by kernel_rfl
theorem tk41 : tyOk Tryd.prog 41 = true := by kernel_rfl
theorem ag41 : isAg Tryd.prog 41 = true := by kernel_rfl
theorem by41 : Tryd.prog.bytesOf 41 = 24 := by kernel_rfl
theorem se41 : slEl Tryd.prog 41 = none := by kernel_rfl
theorem ae41 : arEl Tryd.prog 41 = none := by kernel_rfl
theorem st41 : isSt Tryd.prog 41 = true := by kernel_rfl
theorem fo41 : fldsOk Tryd.prog 41 = true := by kernel_rfl
theorem fd41_0 : fld Tryd.prog 41 0 = some (0, 3) := by kernel_rfl
theorem fd41_1 : fld Tryd.prog 41 1 = some (1, 3) := by kernel_rfl
theorem fd41_2 : fld Tryd.prog 41 2 = some (2, 3) := by kernel_rfl
theorem lt41 : leafTs Tryd.prog 41 = [3, 3, 3] := by kernel_rfl
theorem fe41 : flatEq Tryd.prog 41 = true := by kernel_rfl
theorem zz41 : zc Tryd.prog 41 = [V.int .i64 0, V.int .i64 0, V.int .i64 0] := by kernel_rfl
theorem cz42 : Tryd.prog.cellsOf 42 = 1 := by kernel_rfl
theorem tk42 : tyOk Tryd.prog 42 = true := by kernel_rfl
theorem ag42 : isAg Tryd.prog 42 = false := by kernel_rfl
theorem by42 : Tryd.prog.bytesOf 42 = 8 := by kernel_rfl
theorem se42 : slEl Tryd.prog 42 = none := by kernel_rfl
theorem ae42 : arEl Tryd.prog 42 = none := by kernel_rfl
theorem if42 : isFn Tryd.prog 42 = true := by kernel_rfl
theorem zz42 : zc Tryd.prog 42 = [V.nilf] := by kernel_rfl
theorem cz44 : Tryd.prog.cellsOf 44 = 1 := by kernel_rfl
theorem tk44 : tyOk Tryd.prog 44 = true := by kernel_rfl
theorem ag44 : isAg Tryd.prog 44 = false := by kernel_rfl
theorem by44 : Tryd.prog.bytesOf 44 = 8 := by kernel_rfl
theorem se44 : slEl Tryd.prog 44 = none := by kernel_rfl
theorem ae44 : arEl Tryd.prog 44 = none := by kernel_rfl
theorem if44 : isFn Tryd.prog 44 = true := by kernel_rfl
theorem zz44 : zc Tryd.prog 44 = [V.nilf] := by kernel_rfl
theorem cz45 : Tryd.prog.cellsOf 45 = 1 := by kernel_rfl
theorem tk45 : tyOk Tryd.prog 45 = true := by kernel_rfl
theorem ag45 : isAg Tryd.prog 45 = false := by kernel_rfl
theorem by45 : Tryd.prog.bytesOf 45 = 8 := by kernel_rfl
theorem se45 : slEl Tryd.prog 45 = none := by kernel_rfl
theorem ae45 : arEl Tryd.prog 45 = none := by kernel_rfl
theorem if45 : isFn Tryd.prog 45 = true := by kernel_rfl
theorem zz45 : zc Tryd.prog 45 = [V.nilf] := by kernel_rfl
theorem cz46 : Tryd.prog.cellsOf 46 = 4 := by kernel_rfl
theorem tk46 : tyOk Tryd.prog 46 = true := by kernel_rfl
theorem ag46 : isAg Tryd.prog 46 = true := by kernel_rfl
theorem by46 : Tryd.prog.bytesOf 46 = 32 := by kernel_rfl
theorem se46 : slEl Tryd.prog 46 = none := by kernel_rfl
theorem ae46 : arEl Tryd.prog 46 = none := by kernel_rfl
theorem st46 : isSt Tryd.prog 46 = true := by kernel_rfl
theorem fo46 : fldsOk Tryd.prog 46 = true := by kernel_rfl
theorem fd46_0 : fld Tryd.prog 46 0 = some (0, 3) := by kernel_rfl
theorem fd46_1 : fld Tryd.prog 46 1 = some (1, 3) := by kernel_rfl
theorem fd46_2 : fld Tryd.prog 46 2 = some (2, 3) := by kernel_rfl
theorem fd46_3 : fld Tryd.prog 46 3 = some (3, 3) := by kernel_rfl
theorem lt46 : leafTs Tryd.prog 46 = [3, 3, 3, 3] := by kernel_rfl
theorem fe46 : flatEq Tryd.prog 46 = true := by kernel_rfl
theorem zz46 : zc Tryd.prog 46 = [V.int .i64 0, V.int .i64 0, V.int .i64 0, V.int .i64 0] := by kernel_rfl
theorem cz47 : Tryd.prog.cellsOf 47 = 4 := by kernel_rfl
theorem tk47 : tyOk Tryd.prog 47 = true := by kernel_rfl
theorem ag47 : isAg Tryd.prog 47 = true := by kernel_rfl
theorem by47 : Tryd.prog.bytesOf 47 = 32 := by kernel_rfl
theorem se47 : slEl Tryd.prog 47 = none := by kernel_rfl
theorem ae47 : arEl Tryd.prog 47 = none := by kernel_rfl
theorem st47 : isSt Tryd.prog 47 = true := by kernel_rfl
theorem fo47 : fldsOk Tryd.prog 47 = true := by kernel_rfl
theorem fd47_0 : fld Tryd.prog 47 0 = some (0, 3) := by kernel_rfl
theorem fd47_1 : fld Tryd.prog 47 1 = some (1, 3) := by kernel_rfl
theorem fd47_2 : fld Tryd.prog 47 2 = some (2, 3) := by kernel_rfl
theorem fd47_3 : fld Tryd.prog 47 3 = some (3, 3) := by kernel_rfl
theorem lt47 : leafTs Tryd.prog 47 = [3, 3, 3, 3] := by kernel_rfl
theorem fe47 : flatEq Tryd.prog 47 = true := by kernel_rfl
theorem zz47 : zc Tryd.prog 47 = [V.int .i64 0, V.int .i64 0, V.int .i64 0, V.int .i64 0] := by kernel_rfl
theorem cz48 : Tryd.prog.cellsOf 48 = 1 := by kernel_rfl
theorem tk48 : tyOk Tryd.prog 48 = true := by kernel_rfl
theorem ag48 : isAg Tryd.prog 48 = false := by kernel_rfl
theorem by48 : Tryd.prog.bytesOf 48 = 8 := by kernel_rfl
theorem se48 : slEl Tryd.prog 48 = none := by kernel_rfl
theorem ae48 : arEl Tryd.prog 48 = none := by kernel_rfl
theorem if48 : isFn Tryd.prog 48 = true := by kernel_rfl
theorem zz48 : zc Tryd.prog 48 = [V.nilf] := by kernel_rfl
theorem cz49 : Tryd.prog.cellsOf 49 = 1 := by kernel_rfl
theorem tk49 : tyOk Tryd.prog 49 = true := by kernel_rfl
theorem ag49 : isAg Tryd.prog 49 = false := by kernel_rfl
theorem by49 : Tryd.prog.bytesOf 49 = 8 := by kernel_rfl
theorem se49 : slEl Tryd.prog 49 = none := by kernel_rfl
theorem ae49 : arEl Tryd.prog 49 = none := by kernel_rfl
theorem if49 : isFn Tryd.prog 49 = true := by kernel_rfl
theorem zz49 : zc Tryd.prog 49 = [V.nilf] := by kernel_rfl
theorem cz50 : Tryd.prog.cellsOf 50 = 4 := by kernel_rfl
theorem tk50 : tyOk Tryd.prog 50 = true := by kernel_rfl
theorem ag50 : isAg Tryd.prog 50 = true := by kernel_rfl
theorem by50 : Tryd.prog.bytesOf 50 = 32 := by kernel_rfl
theorem se50 : slEl Tryd.prog 50 = none := by kernel_rfl
theorem ae50 : arEl Tryd.prog 50 = none := by kernel_rfl
theorem st50 : isSt Tryd.prog 50 = true := by kernel_rfl
theorem fo50 : fldsOk Tryd.prog 50 = true := by kernel_rfl
theorem fd50_0 : fld Tryd.prog 50 0 = some (0, 3) := by kernel_rfl
theorem fd50_1 : fld Tryd.prog 50 1 = some (1, 3) := by kernel_rfl
theorem fd50_2 : fld Tryd.prog 50 2 = some (2, 3) := by kernel_rfl
theorem fd50_3 : fld Tryd.prog 50 3 = some (3, 4) := by kernel_rfl
theorem lt50 : leafTs Tryd.prog 50 = [3, 3, 3, 4] := by kernel_rfl
theorem fe50 : flatEq Tryd.prog 50 = true := by kernel_rfl
theorem zz50 : zc Tryd.prog 50 = [V.int .i64 0, V.int .i64 0, V.int .i64 0, V.bool false] := by kernel_rfl
theorem cz51 : Tryd.prog.cellsOf 51 = 4 := by kernel_rfl
theorem tk51 : tyOk Tryd.prog 51 = true := by kernel_rfl
theorem ag51 : isAg Tryd.prog 51 = true := by kernel_rfl
theorem by51 : Tryd.prog.bytesOf 51 = 32 := by kernel_rfl
theorem se51 : slEl Tryd.prog 51 = none := by kernel_rfl
theorem ae51 : arEl Tryd.prog 51 = none := by kernel_rfl
theorem st51 : isSt Tryd.prog 51 = true := by kernel_rfl
theorem fo51 : fldsOk Tryd.prog 51 = true := by kernel_rfl
theorem fd51_0 : fld Tryd.prog 51 0 = some (0, 3) := by kernel_rfl
theorem fd51_1 : fld Tryd.prog 51 1 = some (1, 3) := by kernel_rfl
theorem fd51_2 : fld Tryd.prog 51 2 = some (2, 3) := by kernel_rfl
theorem fd51_3 : fld Tryd.prog 51 3 = some (3, 4) := by kernel_rfl
theorem lt51 : leafTs Tryd.prog 51 = [3, 3, 3, 4] := by kernel_rfl
theorem fe51 : flatEq Tryd.prog 51 = true := by kernel_rfl
theorem zz51 : zc Tryd.prog 51 = [V.int .i64 0, V.int .i64 0, V.int .i64 0, V.bool false] := by kernel_rfl
theorem cz52 : Tryd.prog.cellsOf 52 = 3 := by kernel_rfl
theorem tk52 : tyOk Tryd.prog 52 = true := by kernel_rfl
theorem ag52 : isAg Tryd.prog 52 = true := by kernel_rfl
theorem by52 : Tryd.prog.bytesOf 52 = 24 := by kernel_rfl
theorem se52 : slEl Tryd.prog 52 = none := by kernel_rfl
theorem ae52 : arEl Tryd.prog 52 = none := by kernel_rfl
theorem st52 : isSt Tryd.prog 52 = true := by kernel_rfl
theorem fo52 : fldsOk Tryd.prog 52 = true := by kernel_rfl
theorem fd52_0 : fld Tryd.prog 52 0 = some (0, 3) := by kernel_rfl
theorem fd52_1 : fld Tryd.prog 52 1 = some (1, 3) := by kernel_rfl
theorem fd52_2 : fld Tryd.prog 52 2 = some (2, 3) := by kernel_rfl
theorem lt52 : leafTs Tryd.prog 52 = [3, 3, 3] := by kernel_rfl
theorem fe52 : flatEq Tryd.prog 52 = true := by kernel_rfl
theorem zz52 : zc Tryd.prog 52 = [V.int .i64 0, V.int .i64 0, V.int .i64 0] := by kernel_rfl
theorem cz53 : Tryd.prog.cellsOf 53 = 3 := by kernel_rfl
theorem tk53 : tyOk Tryd.prog 53 = true := by kernel_rfl
theorem ag53 : isAg Tryd.prog 53 = true := by kernel_rfl
theorem by53 : Tryd.prog.bytesOf 53 = 24 := by kernel_rfl
theorem se53 : slEl Tryd.prog 53 = none := by kernel_rfl
theorem ae53 : arEl Tryd.prog 53 = none := by kernel_rfl
theorem st53 : isSt Tryd.prog 53 = true := by kernel_rfl
theorem fo53 : fldsOk Tryd.prog 53 = true := by kernel_rfl
theorem fd53_0 : fld Tryd.prog 53 0 = some (0, 3) := by kernel_rfl
theorem fd53_1 : fld Tryd.prog 53 1 = some (1, 3) := by kernel_rfl
theorem fd53_2 : fld Tryd.prog 53 2 = some (2, 3) := by kernel_rfl
theorem lt53 : leafTs Tryd.prog 53 = [3, 3, 3] := by kernel_rfl
theorem fe53 : flatEq Tryd.prog 53 = true := by kernel_rfl
theorem zz53 : zc Tryd.prog 53 = [V.int .i64 0, V.int .i64 0, V.int .i64 0] := by kernel_rfl
theorem cz54 : Tryd.prog.cellsOf 54 = 1 := by kernel_rfl
theorem tk54 : tyOk Tryd.prog 54 = true := by kernel_rfl
theorem ag54 : isAg Tryd.prog 54 = false := by kernel_rfl
theorem by54 : Tryd.prog.bytesOf 54 = 8 := by kernel_rfl
theorem se54 : slEl Tryd.prog 54 = none := by kernel_rfl
theorem ae54 : arEl Tryd.prog 54 = none := by kernel_rfl
theorem if54 : isFn Tryd.prog 54 = true := by kernel_rfl
theorem zz54 : zc Tryd.prog 54 = [V.nilf] := by kernel_rfl
theorem cz56 : Tryd.prog.cellsOf 56 = 1 := by kernel_rfl
theorem tk56 : tyOk Tryd.prog 56 = true := by kernel_rfl
theorem ag56 : isAg Tryd.prog 56 = false := by kernel_rfl
theorem by56 : Tryd.prog.bytesOf 56 = 8 := by kernel_rfl
theorem se56 : slEl Tryd.prog 56 = none := by kernel_rfl
theorem ae56 : arEl Tryd.prog 56 = none := by kernel_rfl
theorem if56 : isFn Tryd.prog 56 = true := by kernel_rfl
theorem zz56 : zc Tryd.prog 56 = [V.nilf] := by kernel_rfl
theorem cz57 : Tryd.prog.cellsOf 57 = 1 := by kernel_rfl
theorem tk57 : tyOk Tryd.prog 57 = true := by kernel_rfl
theorem ag57 : isAg Tryd.prog 57 = false := by kernel_rfl
theorem by57 : Tryd.prog.bytesOf 57 = 24 := by kernel_rfl
theorem se57 : slEl Tryd.prog 57 = some 61 := by kernel_rfl
theorem ae57 : arEl Tryd.prog 57 = none := by kernel_rfl
theorem zz57 : zc Tryd.prog 57 = [V.nil] := by kernel_rfl
theorem cz59 : Tryd.prog.cellsOf 59 = 1 := by kernel_rfl
theorem tk59 : tyOk Tryd.prog 59 = true := by kernel_rfl
theorem ag59 : isAg Tryd.prog 59 = false := by kernel_rfl
theorem by59 : Tryd.prog.bytesOf 59 = 8 := by kernel_rfl
theorem se59 : slEl Tryd.prog 59 = none := by kernel_rfl
theorem ae59 : arEl Tryd.prog 59 = none := by kernel_rfl
theorem if59 : isFn Tryd.prog 59 = true := by kernel_rfl
theorem zz59 : zc Tryd.prog 59 = [V.nilf] := by kernel_rfl
theorem cz60 : Tryd.prog.cellsOf 60 = 6 := by kernel_rfl
theorem tk60 : tyOk Tryd.prog 60 = true := by kernel_rfl
theorem ag60 : isAg Tryd.prog 60 = true := by kernel_rfl
theorem by60 : Tryd.prog.bytesOf 60 = 48 := by kernel_rfl
theorem se60 : slEl Tryd.prog 60 = none := by kernel_rfl
theorem ae60 : arEl Tryd.prog 60 = none := by kernel_rfl
theorem st60 : isSt Tryd.prog 60 = true := by kernel_rfl
theorem fo60 : fldsOk Tryd.prog 60 = true := by kernel_rfl
theorem fd60_0 : fld Tryd.prog 60 0 = some (0, 3) := by kernel_rfl
theorem fd60_1 : fld Tryd.prog 60 1 = some (1, 3) := by kernel_rfl
theorem fd60_2 : fld Tryd.prog 60 2 = some (2, 3) := by kernel_rfl
theorem fd60_3 : fld Tryd.prog 60 3 = some (3, 3) := by kernel_rfl
theorem fd60_4 : fld Tryd.prog 60 4 = some (4, 3) := by kernel_rfl
theorem fd60_5 : fld Tryd.prog 60 5 = some (5, 3) := by kernel_rfl
theorem lt60 : leafTs Tryd.prog 60 = [3, 3, 3, 3, 3, 3] := by kernel_rfl
theorem fe60 : flatEq Tryd.prog 60 = true := by kernel_rfl
theorem zz60 : zc Tryd.prog 60 = [V.int .i64 0, V.int .i64 0, V.int .i64 0, V.int .i64 0, V.int .i64 0, V.int .i64 0] := by kernel_rfl
theorem cz61 : Tryd.prog.cellsOf 61 = 6 := by kernel_rfl
theorem tk61 : tyOk Tryd.prog 61 = true := by kernel_rfl
theorem ag61 : isAg Tryd.prog 61 = true := by kernel_rfl
theorem by61 : Tryd.prog.bytesOf 61 = 48 := by kernel_rfl
theorem se61 : slEl Tryd.prog 61 = none := by kernel_rfl
theorem ae61 : arEl Tryd.prog 61 = none := by kernel_rfl
theorem st61 : isSt Tryd.prog 61 = true := by kernel_rfl
theorem fo61 : fldsOk Tryd.prog 61 = true := by kernel_rfl
theorem fd61_0 : fld Tryd.prog 61 0 = some (0, 3) := by kernel_rfl
theorem fd61_1 : fld Tryd.prog 61 1 = some (1, 3) := by kernel_rfl
theorem fd61_2 : fld Tryd.prog 61 2 = some (2, 3) := by kernel_rfl
theorem fd61_3 : fld Tryd.prog 61 3 = some (3, 3) := by kernel_rfl
theorem fd61_4 : fld Tryd.prog 61 4 = some (4, 3) := by kernel_rfl
theorem fd61_5 : fld Tryd.prog 61 5 = some (5, 3) := by kernel_rfl
theorem lt61 : leafTs Tryd.prog 61 = [3, 3, 3, 3, 3, 3] := by kernel_rfl
theorem fe61 : flatEq Tryd.prog 61 = true := by kernel_rfl
theorem zz61 : zc Tryd.prog 61 = [V.int .i64 0, V.int .i64 0, V.int .i64 0, V.int .i64 0, V.int .i64 0, V.int .i64 0] := by kernel_rfl
theorem cz62 : Tryd.prog.cellsOf 62 = 1 := by kernel_rfl
theorem tk62 : tyOk Tryd.prog 62 = true := by kernel_rfl
theorem ag62 : isAg Tryd.prog 62 = false := by kernel_rfl
theorem by62 : Tryd.prog.bytesOf 62 = 8 := by kernel_rfl
theorem se62 : slEl Tryd.prog 62 = none := by kernel_rfl
theorem ae62 : arEl Tryd.prog 62 = none := by kernel_rfl
theorem if62 : isFn Tryd.prog 62 = true := by kernel_rfl
theorem zz62 : zc Tryd.prog 62 = [V.nilf] := by kernel_rfl
theorem cz63 : Tryd.prog.cellsOf 63 = 1 := by kernel_rfl
theorem tk63 : tyOk Tryd.prog 63 = true := by kernel_rfl
theorem ag63 : isAg Tryd.prog 63 = false := by kernel_rfl
theorem by63 : Tryd.prog.bytesOf 63 = 8 := by kernel_rfl
theorem se63 : slEl Tryd.prog 63 = none := by kernel_rfl
theorem ae63 : arEl Tryd.prog 63 = none := by kernel_rfl
theorem if63 : isFn Tryd.prog 63 = true := by kernel_rfl
theorem zz63 : zc Tryd.prog 63 = [V.nilf] := by kernel_rfl
theorem cz65 : Tryd.prog.cellsOf 65 = 1 := by kernel_rfl
theorem tk65 : tyOk Tryd.prog 65 = true := by kernel_rfl
theorem ag65 : isAg Tryd.prog 65 = false := by kernel_rfl
theorem by65 : Tryd.prog.bytesOf 65 = 8 := by kernel_rfl
theorem se65 : slEl Tryd.prog 65 = none := by kernel_rfl
theorem ae65 : arEl Tryd.prog 65 = none := by kernel_rfl
theorem if65 : isFn Tryd.prog 65 = true := by kernel_rfl
theorem zz65 : zc Tryd.prog 65 = [V.nilf] := by kernel_rfl
theorem cz66 : Tryd.prog.cellsOf 66 = 1 := by kernel_rfl
theorem tk66 : tyOk Tryd.prog 66 = true := by kernel_rfl
theorem ag66 : isAg Tryd.prog 66 = false := by kernel_rfl
theorem by66 : Tryd.prog.bytesOf 66 = 8 := by kernel_rfl
theorem se66 : slEl Tryd.prog 66 = none := by kernel_rfl
theorem ae66 : arEl Tryd.prog 66 = none := by kernel_rfl
theorem if66 : isFn Tryd.prog 66 = true := by kernel_rfl
theorem zz66 : zc Tryd.prog 66 = [V.nilf] := by kernel_rfl
theorem cz67 : Tryd.prog.cellsOf 67 = 1 := by kernel_rfl
theorem tk67 : tyOk Tryd.prog 67 = true := by kernel_rfl
theorem ag67 : isAg Tryd.prog 67 = false := by kernel_rfl
theorem by67 : Tryd.prog.bytesOf 67 = 24 := by kernel_rfl
theorem se67 : slEl Tryd.prog 67 = some 57 := by kernel_rfl
theorem ae67 : arEl Tryd.prog 67 = none := by kernel_rfl
theorem zz67 : zc Tryd.prog 67 = [V.nil] := by kernel_rfl
theorem cz68 : Tryd.prog.cellsOf 68 = 1 := by kernel_rfl
theorem tk68 : tyOk Tryd.prog 68 = true := by kernel_rfl
theorem ag68 : isAg Tryd.prog 68 = false := by kernel_rfl
theorem by68 : Tryd.prog.bytesOf 68 = 8 := by kernel_rfl
theorem se68 : slEl Tryd.prog 68 = none := by kernel_rfl
theorem ae68 : arEl Tryd.prog 68 = none := by kernel_rfl
theorem if68 : isFn Tryd.prog 68 = true := by kernel_rfl
theorem zz68 : zc Tryd.prog 68 = [V.nilf] := by kernel_rfl
theorem cz69 : Tryd.prog.cellsOf 69 = 1 := by kernel_rfl
theorem tk69 : tyOk Tryd.prog 69 = true := by kernel_rfl
theorem ag69 : isAg Tryd.prog 69 = false := by kernel_rfl
theorem by69 : Tryd.prog.bytesOf 69 = 8 := by kernel_rfl
theorem se69 : slEl Tryd.prog 69 = none := by kernel_rfl
theorem ae69 : arEl Tryd.prog 69 = none := by kernel_rfl
theorem if69 : isFn Tryd.prog 69 = true := by kernel_rfl
theorem zz69 : zc Tryd.prog 69 = [V.nilf] := by kernel_rfl
theorem cz70 : Tryd.prog.cellsOf 70 = 1 := by kernel_rfl
theorem tk70 : tyOk Tryd.prog 70 = true := by kernel_rfl
theorem ag70 : isAg Tryd.prog 70 = false := by kernel_rfl
theorem by70 : Tryd.prog.bytesOf 70 = 8 := by kernel_rfl
theorem se70 : slEl Tryd.prog 70 = none := by kernel_rfl
theorem ae70 : arEl Tryd.prog 70 = none := by kernel_rfl
theorem if70 : isFn Tryd.prog 70 = true := by kernel_rfl
theorem zz70 : zc Tryd.prog 70 = [V.nilf] := by kernel_rfl
theorem cz71 : Tryd.prog.cellsOf 71 = 1 := by kernel_rfl
theorem tk71 : tyOk Tryd.prog 71 = true := by kernel_rfl
theorem ag71 : isAg Tryd.prog 71 = false := by kernel_rfl
theorem by71 : Tryd.prog.bytesOf 71 = 8 := by kernel_rfl
theorem se71 : slEl Tryd.prog 71 = none := by kernel_rfl
theorem ae71 : arEl Tryd.prog 71 = none := by kernel_rfl
theorem if71 : isFn Tryd.prog 71 = true := by kernel_rfl
theorem zz71 : zc Tryd.prog 71 = [V.nilf] := by kernel_rfl
theorem cz72 : Tryd.prog.cellsOf 72 = 1 := by kernel_rfl
theorem tk72 : tyOk Tryd.prog 72 = true := by kernel_rfl
theorem ag72 : isAg Tryd.prog 72 = false := by kernel_rfl
theorem by72 : Tryd.prog.bytesOf 72 = 8 := by kernel_rfl
theorem se72 : slEl Tryd.prog 72 = none := by kernel_rfl
theorem ae72 : arEl Tryd.prog 72 = none := by kernel_rfl
theorem if72 : isFn Tryd.prog 72 = true := by kernel_rfl
theorem zz72 : zc Tryd.prog 72 = [V.nilf] := by kernel_rfl
theorem cz74 : Tryd.prog.cellsOf 74 = 1 := by kernel_rfl
theorem tk74 : tyOk Tryd.prog 74 = true := by kernel_rfl
theorem ag74 : isAg Tryd.prog 74 = false := by kernel_rfl
theorem by74 : Tryd.prog.bytesOf 74 = 8 := by kernel_rfl
theorem se74 : slEl Tryd.prog 74 = none := by kernel_rfl
theorem ae74 : arEl Tryd.prog 74 = none := by kernel_rfl
theorem if74 : isFn Tryd.prog 74 = true := by kernel_rfl
theorem zz74 : zc Tryd.prog 74 = [V.nilf] := by kernel_rfl
theorem cz75 : Tryd.prog.cellsOf 75 = 3 := by kernel_rfl
theorem tk75 : tyOk Tryd.prog 75 = true := by kernel_rfl
theorem ag75 : isAg Tryd.prog 75 = true := by kernel_rfl
theorem by75 : Tryd.prog.bytesOf 75 = 40 := by kernel_rfl
theorem se75 : slEl Tryd.prog 75 = none := by kernel_rfl
theorem ae75 : arEl Tryd.prog 75 = none := by kernel_rfl
theorem st75 : isSt Tryd.prog 75 = true := by kernel_rfl
theorem fo75 : fldsOk Tryd.prog 75 = true := by kernel_rfl
theorem fd75_0 : fld Tryd.prog 75 0 = some (0, 22) := by kernel_rfl
theorem fd75_1 : fld Tryd.prog 75 1 = some (1, 3) := by kernel_rfl
theorem fd75_2 : fld Tryd.prog 75 2 = some (2, 3) := by kernel_rfl
theorem zz75 : zc Tryd.prog 75 = [V.nil, V.int .i64 0, V.int .i64 0] := by kernel_rfl
theorem cz76 : Tryd.prog.cellsOf 76 = 3 := by kernel_rfl
theorem tk76 : tyOk Tryd.prog 76 = true := by kernel_rfl
theorem ag76 : isAg Tryd.prog 76 = true := by kernel_rfl
theorem by76 : Tryd.prog.bytesOf 76 = 40 := by kernel_rfl
theorem se76 : slEl Tryd.prog 76 = none := by kernel_rfl
theorem ae76 : arEl Tryd.prog 76 = none := by kernel_rfl
theorem st76 : isSt Tryd.prog 76 = true := by kernel_rfl
theorem fo76 : fldsOk Tryd.prog 76 = true := by kernel_rfl
theorem fd76_0 : fld Tryd.prog 76 0 = some (0, 22) := by kernel_rfl
theorem fd76_1 : fld Tryd.prog 76 1 = some (1, 3) := by kernel_rfl
theorem fd76_2 : fld Tryd.prog 76 2 = some (2, 3) := by kernel_rfl
theorem zz76 : zc Tryd.prog 76 = [V.nil, V.int .i64 0, V.int .i64 0] := by kernel_rfl
theorem cz77 : Tryd.prog.cellsOf 77 = 1 := by kernel_rfl
theorem tk77 : tyOk Tryd.prog 77 = true := by kernel_rfl
theorem ag77 : isAg Tryd.prog 77 = false := by kernel_rfl
theorem by77 : Tryd.prog.bytesOf 77 = 8 := by kernel_rfl
theorem se77 : slEl Tryd.prog 77 = none := by kernel_rfl
theorem ae77 : arEl Tryd.prog 77 = none := by kernel_rfl
theorem if77 : isFn Tryd.prog 77 = true := by kernel_rfl
theorem zz77 : zc Tryd.prog 77 = [V.nilf] := by kernel_rfl
theorem cz78 : Tryd.prog.cellsOf 78 = 1 := by kernel_rfl
theorem tk78 : tyOk Tryd.prog 78 = true := by kernel_rfl
theorem ag78 : isAg Tryd.prog 78 = false := by kernel_rfl
theorem by78 : Tryd.prog.bytesOf 78 = 8 := by kernel_rfl
theorem se78 : slEl Tryd.prog 78 = none := by kernel_rfl
theorem ae78 : arEl Tryd.prog 78 = none := by kernel_rfl
theorem if78 : isFn Tryd.prog 78 = true := by kernel_rfl
theorem zz78 : zc Tryd.prog 78 = [V.nilf] := by kernel_rfl
theorem cz79 : Tryd.prog.cellsOf 79 = 1 := by kernel_rfl
theorem tk79 : tyOk Tryd.prog 79 = true := by kernel_rfl
theorem ag79 : isAg Tryd.prog 79 = false := by kernel_rfl
theorem by79 : Tryd.prog.bytesOf 79 = 8 := by kernel_rfl
theorem se79 : slEl Tryd.prog 79 = none := by kernel_rfl
theorem ae79 : arEl Tryd.prog 79 = none := by kernel_rfl
theorem if79 : isFn Tryd.prog 79 = true := by kernel_rfl
theorem zz79 : zc Tryd.prog 79 = [V.nilf] := by kernel_rfl
theorem cz80 : Tryd.prog.cellsOf 80 = 1 := by kernel_rfl
theorem tk80 : tyOk Tryd.prog 80 = true := by kernel_rfl
theorem ag80 : isAg Tryd.prog 80 = false := by kernel_rfl
theorem by80 : Tryd.prog.bytesOf 80 = 8 := by kernel_rfl
theorem se80 : slEl Tryd.prog 80 = none := by kernel_rfl
theorem ae80 : arEl Tryd.prog 80 = none := by kernel_rfl
theorem if80 : isFn Tryd.prog 80 = true := by kernel_rfl
theorem zz80 : zc Tryd.prog 80 = [V.nilf] := by kernel_rfl
theorem cz82 : Tryd.prog.cellsOf 82 = 1 := by kernel_rfl
theorem tk82 : tyOk Tryd.prog 82 = true := by kernel_rfl
theorem ag82 : isAg Tryd.prog 82 = false := by kernel_rfl
theorem by82 : Tryd.prog.bytesOf 82 = 8 := by kernel_rfl
theorem se82 : slEl Tryd.prog 82 = none := by kernel_rfl
theorem ae82 : arEl Tryd.prog 82 = none := by kernel_rfl
theorem if82 : isFn Tryd.prog 82 = true := by kernel_rfl
theorem zz82 : zc Tryd.prog 82 = [V.nilf] := by kernel_rfl
theorem cz83 : Tryd.prog.cellsOf 83 = 1 := by kernel_rfl
theorem tk83 : tyOk Tryd.prog 83 = true := by kernel_rfl
theorem ag83 : isAg Tryd.prog 83 = false := by kernel_rfl
theorem by83 : Tryd.prog.bytesOf 83 = 8 := by kernel_rfl
theorem se83 : slEl Tryd.prog 83 = none := by kernel_rfl
theorem ae83 : arEl Tryd.prog 83 = none := by kernel_rfl
theorem if83 : isFn Tryd.prog 83 = true := by kernel_rfl
theorem zz83 : zc Tryd.prog 83 = [V.nilf] := by kernel_rfl
theorem cz84 : Tryd.prog.cellsOf 84 = 1 := by kernel_rfl
theorem tk84 : tyOk Tryd.prog 84 = true := by kernel_rfl
theorem ag84 : isAg Tryd.prog 84 = false := by kernel_rfl
theorem by84 : Tryd.prog.bytesOf 84 = 8 := by kernel_rfl
theorem se84 : slEl Tryd.prog 84 = none := by kernel_rfl
theorem ae84 : arEl Tryd.prog 84 = none := by kernel_rfl
theorem if84 : isFn Tryd.prog 84 = true := by kernel_rfl
theorem zz84 : zc Tryd.prog 84 = [V.nilf] := by kernel_rfl
theorem cz85 : Tryd.prog.cellsOf 85 = 1 := by kernel_rfl
theorem tk85 : tyOk Tryd.prog 85 = true := by kernel_rfl
theorem ag85 : isAg Tryd.prog 85 = false := by kernel_rfl
theorem by85 : Tryd.prog.bytesOf 85 = 8 := by kernel_rfl
theorem se85 : slEl Tryd.prog 85 = none := by kernel_rfl
theorem ae85 : arEl Tryd.prog 85 = none := by kernel_rfl
theorem if85 : isFn Tryd.prog 85 = true := by kernel_rfl
theorem zz85 : zc Tryd.prog 85 = [V.nilf] := by kernel_rfl
theorem cz86 : Tryd.prog.cellsOf 86 = 1 := by kernel_rfl
theorem tk86 : tyOk Tryd.prog 86 = true := by kernel_rfl
theorem ag86 : isAg Tryd.prog 86 = false := by kernel_rfl
theorem by86 : Tryd.prog.bytesOf 86 = 8 := by kernel_rfl
theorem se86 : slEl Tryd.prog 86 = none := by kernel_rfl
theorem ae86 : arEl Tryd.prog 86 = none := by kernel_rfl
theorem ip86 : isPtr Tryd.prog 86 = true := by kernel_rfl
theorem zz86 : zc Tryd.prog 86 = [V.nilp] := by kernel_rfl
theorem cz88 : Tryd.prog.cellsOf 88 = 1 := by kernel_rfl
theorem tk88 : tyOk Tryd.prog 88 = true := by kernel_rfl
theorem ag88 : isAg Tryd.prog 88 = false := by kernel_rfl
theorem by88 : Tryd.prog.bytesOf 88 = 8 := by kernel_rfl
theorem se88 : slEl Tryd.prog 88 = none := by kernel_rfl
theorem ae88 : arEl Tryd.prog 88 = none := by kernel_rfl
theorem if88 : isFn Tryd.prog 88 = true := by kernel_rfl
theorem zz88 : zc Tryd.prog 88 = [V.nilf] := by kernel_rfl
theorem cz89 : Tryd.prog.cellsOf 89 = 1 := by kernel_rfl
theorem tk89 : tyOk Tryd.prog 89 = true := by kernel_rfl
theorem ag89 : isAg Tryd.prog 89 = false := by kernel_rfl
theorem by89 : Tryd.prog.bytesOf 89 = 8 := by kernel_rfl
theorem se89 : slEl Tryd.prog 89 = none := by kernel_rfl
theorem ae89 : arEl Tryd.prog 89 = none := by kernel_rfl
theorem if89 : isFn Tryd.prog 89 = true := by kernel_rfl
theorem zz89 : zc Tryd.prog 89 = [V.nilf] := by kernel_rfl
theorem cz90 : Tryd.prog.cellsOf 90 = 1 := by kernel_rfl
theorem tk90 : tyOk Tryd.prog 90 = true := by kernel_rfl
theorem ag90 : isAg Tryd.prog 90 = false := by kernel_rfl
theorem by90 : Tryd.prog.bytesOf 90 = 8 := by kernel_rfl
theorem se90 : slEl Tryd.prog 90 = none := by kernel_rfl
theorem ae90 : arEl Tryd.prog 90 = none := by kernel_rfl
theorem if90 : isFn Tryd.prog 90 = true := by kernel_rfl
theorem zz90 : zc Tryd.prog 90 = [V.nilf] := by kernel_rfl
theorem cz91 : Tryd.prog.cellsOf 91 = 1 := by kernel_rfl
theorem tk91 : tyOk Tryd.prog 91 = true := by kernel_rfl
theorem ag91 : isAg Tryd.prog 91 = false := by kernel_rfl
theorem by91 : Tryd.prog.bytesOf 91 = 8 := by kernel_rfl
theorem se91 : slEl Tryd.prog 91 = none := by kernel_rfl
theorem ae91 : arEl Tryd.prog 91 = none := by kernel_rfl
theorem if91 : isFn Tryd.prog 91 = true := by kernel_rfl
theorem zz91 : zc Tryd.prog 91 = [V.nilf] := by kernel_rfl
theorem cz92 : Tryd.prog.cellsOf 92 = 1 := by kernel_rfl
theorem tk92 : tyOk Tryd.prog 92 = true := by kernel_rfl
theorem ag92 : isAg Tryd.prog 92 = false := by kernel_rfl
theorem by92 : Tryd.prog.bytesOf 92 = 8 := by kernel_rfl
theorem se92 : slEl Tryd.prog 92 = none := by kernel_rfl
theorem ae92 : arEl Tryd.prog 92 = none := by kernel_rfl
theorem if92 : isFn Tryd.prog 92 = true := by kernel_rfl
theorem zz92 : zc Tryd.prog 92 = [V.nilf] := by kernel_rfl
theorem cz93 : Tryd.prog.cellsOf 93 = 1 := by kernel_rfl
theorem tk93 : tyOk Tryd.prog 93 = true := by kernel_rfl
theorem ag93 : isAg Tryd.prog 93 = false := by kernel_rfl
theorem by93 : Tryd.prog.bytesOf 93 = 8 := by kernel_rfl
theorem se93 : slEl Tryd.prog 93 = none := by kernel_rfl
theorem ae93 : arEl Tryd.prog 93 = none := by kernel_rfl
theorem ip93 : isPtr Tryd.prog 93 = true := by kernel_rfl
theorem zz93 : zc Tryd.prog 93 = [V.nilp] := by kernel_rfl
theorem cz94 : Tryd.prog.cellsOf 94 = 2 := by kernel_rfl
theorem tk94 : tyOk Tryd.prog 94 = true := by kernel_rfl
theorem ag94 : isAg Tryd.prog 94 = true := by kernel_rfl
theorem by94 : Tryd.prog.bytesOf 94 = 16 := by kernel_rfl
theorem se94 : slEl Tryd.prog 94 = none := by kernel_rfl
theorem ae94 : arEl Tryd.prog 94 = some (2, 3) := by kernel_rfl
theorem st94 : isSt Tryd.prog 94 = false := by kernel_rfl
theorem lt94 : leafTs Tryd.prog 94 = [3, 3] := by kernel_rfl
theorem fe94 : flatEq Tryd.prog 94 = true := by kernel_rfl
theorem zz94 : zc Tryd.prog 94 = [V.int .i64 0, V.int .i64 0] := by kernel_rfl
theorem cz95 : Tryd.prog.cellsOf 95 = 1 := by kernel_rfl
theorem tk95 : tyOk Tryd.prog 95 = true := by kernel_rfl
theorem ag95 : isAg Tryd.prog 95 = false := by kernel_rfl
theorem by95 : Tryd.prog.bytesOf 95 = 24 := by kernel_rfl
theorem se95 : slEl Tryd.prog 95 = some 4 := by kernel_rfl
theorem ae95 : arEl Tryd.prog 95 = none := by kernel_rfl
theorem zz95 : zc Tryd.prog 95 = [V.nil] := by kernel_rfl
theorem cz96 : Tryd.prog.cellsOf 96 = 8 := by kernel_rfl
theorem tk96 : tyOk Tryd.prog 96 = true := by kernel_rfl
theorem ag96 : isAg Tryd.prog 96 = true := by kernel_rfl
theorem by96 : Tryd.prog.bytesOf 96 = 96 := by kernel_rfl
theorem se96 : slEl Tryd.prog 96 = none := by kernel_rfl
theorem ae96 : arEl Tryd.prog 96 = none := by kernel_rfl
theorem st96 : isSt Tryd.prog 96 = true := by kernel_rfl
theorem fo96 : fldsOk Tryd.prog 96 = true := by kernel_rfl
theorem fd96_0 : fld Tryd.prog 96 0 = some (0, 51) := by kernel_rfl
theorem fd96_1 : fld Tryd.prog 96 1 = some (4, 94) := by kernel_rfl
theorem fd96_2 : fld Tryd.prog 96 2 = some (6, 22) := by kernel_rfl
theorem fd96_3 : fld Tryd.prog 96 3 = some (7, 95) := by kernel_rfl
theorem zz96 : zc Tryd.prog 96 = [V.int .i64 0, V.int .i64 0, V.int .i64 0, V.bool false, V.int .i64 0, V.int .i64 0, V.nil, V.nil] := by kernel_rfl
theorem cz97 : Tryd.prog.cellsOf 97 = 8 := by kernel_rfl
theorem tk97 : tyOk Tryd.prog 97 = true := by kernel_rfl
theorem ag97 : isAg Tryd.prog 97 = true := by kernel_rfl
theorem by97 : Tryd.prog.bytesOf 97 = 96 := by kernel_rfl
theorem se97 : slEl Tryd.prog 97 = none := by kernel_rfl
theorem ae97 : arEl Tryd.prog 97 = none := by kernel_rfl
theorem st97 : isSt Tryd.prog 97 = true := by kernel_rfl
theorem fo97 : fldsOk Tryd.prog 97 = true := by kernel_rfl
theorem fd97_0 : fld Tryd.prog 97 0 = some (0, 51) := by kernel_rfl
theorem fd97_1 : fld Tryd.prog 97 1 = some (4, 94) := by kernel_rfl
theorem fd97_2 : fld Tryd.prog 97 2 = some (6, 22) := by kernel_rfl
theorem fd97_3 : fld Tryd.prog 97 3 = some (7, 95) := by kernel_rfl
theorem zz97 : zc Tryd.prog 97 = [V.int .i64 0, V.int .i64 0, V.int .i64 0, V.bool false, V.int .i64 0, V.int .i64 0, V.nil, V.nil] := by kernel_rfl
theorem cz98 : Tryd.prog.cellsOf 98 = 1 := by kernel_rfl
theorem tk98 : tyOk Tryd.prog 98 = true := by kernel_rfl
theorem ag98 : isAg Tryd.prog 98 = false := by kernel_rfl
theorem by98 : Tryd.prog.bytesOf 98 = 8 := by kernel_rfl
theorem se98 : slEl Tryd.prog 98 = none := by kernel_rfl
theorem ae98 : arEl Tryd.prog 98 = none := by kernel_rfl
theorem if98 : isFn Tryd.prog 98 = true := by kernel_rfl
theorem zz98 : zc Tryd.prog 98 = [V.nilf] := by kernel_rfl
theorem cz99 : Tryd.prog.cellsOf 99 = 1 := by kernel_rfl
theorem tk99 : tyOk Tryd.prog 99 = true := by kernel_rfl
theorem ag99 : isAg Tryd.prog 99 = false := by kernel_rfl
theorem by99 : Tryd.prog.bytesOf 99 = 8 := by kernel_rfl
theorem se99 : slEl Tryd.prog 99 = none := by kernel_rfl
theorem ae99 : arEl Tryd.prog 99 = none := by kernel_rfl
theorem if99 : isFn Tryd.prog 99 = true := by kernel_rfl
theorem zz99 : zc Tryd.prog 99 = [V.nilf] := by kernel_rfl
theorem cz100 : Tryd.prog.cellsOf 100 = 1 := by kernel_rfl
theorem tk100 : tyOk Tryd.prog 100 = true := by kernel_rfl
theorem ag100 : isAg Tryd.prog 100 = false := by kernel_rfl
theorem by100 : Tryd.prog.bytesOf 100 = 24 := by kernel_rfl
theorem se100 : slEl Tryd.prog 100 = some 22 := by kernel_rfl
theorem ae100 : arEl Tryd.prog 100 = none := by kernel_rfl
theorem zz100 : zc Tryd.prog 100 = [V.nil] := by kernel_rfl
theorem cz101 : Tryd.prog.cellsOf 101 = 1 := by kernel_rfl
theorem tk101 : tyOk Tryd.prog 101 = true := by kernel_rfl
theorem ag101 : isAg Tryd.prog 101 = false := by kernel_rfl
theorem by101 : Tryd.prog.bytesOf 101 = 24 := by kernel_rfl
theorem se101 : slEl Tryd.prog 101 = some 95 := by kernel_rfl
theorem ae101 : arEl Tryd.prog 101 = none := by kernel_rfl
theorem zz101 : zc Tryd.prog 101 = [V.nil] := by kernel_rfl
theorem cz102 : Tryd.prog.cellsOf 102 = 5 := by kernel_rfl
theorem tk102 : tyOk Tryd.prog 102 = true := by kernel_rfl
theorem ag102 : isAg Tryd.prog 102 = true := by kernel_rfl
theorem by102 : Tryd.prog.bytesOf 102 = 120 := by kernel_rfl
theorem se102 : slEl Tryd.prog 102 = none := by kernel_rfl
theorem ae102 : arEl Tryd.prog 102 = none := by kernel_rfl
theorem st102 : isSt Tryd.prog 102 = true := by kernel_rfl
theorem fo102 : fldsOk Tryd.prog 102 = true := by kernel_rfl
theorem fd102_0 : fld Tryd.prog 102 0 = some (0, 26) := by kernel_rfl
theorem fd102_1 : fld Tryd.prog 102 1 = some (1, 26) := by kernel_rfl
theorem fd102_2 : fld Tryd.prog 102 2 = some (2, 95) := by kernel_rfl
theorem fd102_3 : fld Tryd.prog 102 3 = some (3, 100) := by kernel_rfl
theorem fd102_4 : fld Tryd.prog 102 4 = some (4, 101) := by kernel_rfl
theorem zz102 : zc Tryd.prog 102 = [V.nil, V.nil, V.nil, V.nil, V.nil] := by kernel_rfl
theorem cz103 : Tryd.prog.cellsOf 103 = 5 := by kernel_rfl
theorem tk103 : tyOk Tryd.prog 103 = true := by kernel_rfl
theorem ag103 : isAg Tryd.prog 103 = true := by kernel_rfl
theorem by103 : Tryd.prog.bytesOf 103 = 120 := by kernel_rfl
theorem se103 : slEl Tryd.prog 103 = none := by kernel_rfl
theorem ae103 : arEl Tryd.prog 103 = none := by kernel_rfl
theorem st103 : isSt Tryd.prog 103 = true := by kernel_rfl
theorem fo103 : fldsOk Tryd.prog 103 = true := by kernel_rfl
theorem fd103_0 : fld Tryd.prog 103 0 = some (0, 26) := by kernel_rfl
theorem fd103_1 : fld Tryd.prog 103 1 = some (1, 26) := by kernel_rfl
theorem fd103_2 : fld Tryd.prog 103 2 = some (2, 95) := by kernel_rfl
theorem fd103_3 : fld Tryd.prog 103 3 = some (3, 100) := by kernel_rfl
theorem fd103_4 : fld Tryd.prog 103 4 = some (4, 101) := by kernel_rfl
theorem zz103 : zc Tryd.prog 103 = [V.nil, V.nil, V.nil, V.nil, V.nil] := by kernel_rfl
theorem cz104 : Tryd.prog.cellsOf 104 = 1 := by kernel_rfl
theorem tk104 : tyOk Tryd.prog 104 = true := by kernel_rfl
theorem ag104 : isAg Tryd.prog 104 = false := by kernel_rfl
theorem by104 : Tryd.prog.bytesOf 104 = 8 := by kernel_rfl
theorem se104 : slEl Tryd.prog 104 = none := by kernel_rfl
theorem ae104 : arEl Tryd.prog 104 = none := by kernel_rfl
theorem if104 : isFn Tryd.prog 104 = true := by kernel_rfl
theorem zz104 : zc Tryd.prog 104 = [V.nilf] := by kernel_rfl
theorem cz106 : Tryd.prog.cellsOf 106 = 1 := by kernel_rfl
theorem tk106 : tyOk Tryd.prog 106 = true := by kernel_rfl
theorem ag106 : isAg Tryd.prog 106 = false := by kernel_rfl
theorem by106 : Tryd.prog.bytesOf 106 = 8 := by kernel_rfl
theorem se106 : slEl Tryd.prog 106 = none := by kernel_rfl
theorem ae106 : arEl Tryd.prog 106 = none := by kernel_rfl
theorem if106 : isFn Tryd.prog 106 = true := by kernel_rfl
theorem zz106 : zc Tryd.prog 106 = [V.nilf] := by kernel_rfl
theorem cz107 : Tryd.prog.cellsOf 107 = 1 := by kernel_rfl
theorem tk107 : tyOk Tryd.prog 107 = true := by kernel_rfl
theorem ag107 : isAg Tryd.prog 107 = false := by kernel_rfl
theorem by107 : Tryd.prog.bytesOf 107 = 8 := by kernel_rfl
theorem se107 : slEl Tryd.prog 107 = none := by kernel_rfl
theorem ae107 : arEl Tryd.prog 107 = none := by kernel_rfl
theorem if107 : isFn Tryd.prog 107 = true := by kernel_rfl
theorem zz107 : zc Tryd.prog 107 = [V.nilf] := by kernel_rfl
theorem cz109 : Tryd.prog.cellsOf 109 = 1 := by kernel_rfl
theorem tk109 : tyOk Tryd.prog 109 = true := by kernel_rfl
theorem ag109 : isAg Tryd.prog 109 = false := by kernel_rfl
theorem by109 : Tryd.prog.bytesOf 109 = 8 := by kernel_rfl
theorem se109 : slEl Tryd.prog 109 = none := by kernel_rfl
theorem ae109 : arEl Tryd.prog 109 = none := by kernel_rfl
theorem if109 : isFn Tryd.prog 109 = true := by kernel_rfl
theorem zz109 : zc Tryd.prog 109 = [V.nilf] := by kernel_rfl
theorem cz110 : Tryd.prog.cellsOf 110 = 1 := by kernel_rfl
theorem tk110 : tyOk Tryd.prog 110 = true := by kernel_rfl
theorem ag110 : isAg Tryd.prog 110 = false := by kernel_rfl
theorem by110 : Tryd.prog.bytesOf 110 = 24 := by kernel_rfl
theorem se110 : slEl Tryd.prog 110 = some 93 := by kernel_rfl
theorem ae110 : arEl Tryd.prog 110 = none := by kernel_rfl
theorem zz110 : zc Tryd.prog 110 = [V.nil] := by kernel_rfl
theorem cz111 : Tryd.prog.cellsOf 111 = 1 := by kernel_rfl
theorem tk111 : tyOk Tryd.prog 111 = true := by kernel_rfl
theorem ag111 : isAg Tryd.prog 111 = false := by kernel_rfl
theorem by111 : Tryd.prog.bytesOf 111 = 24 := by kernel_rfl
theorem se111 : slEl Tryd.prog 111 = some 94 := by kernel_rfl
theorem ae111 : arEl Tryd.prog 111 = none := by kernel_rfl
theorem zz111 : zc Tryd.prog 111 = [V.nil] := by kernel_rfl
theorem cz112 : Tryd.prog.cellsOf 112 = 9 := by kernel_rfl
theorem tk112 : tyOk Tryd.prog 112 = true := by kernel_rfl
theorem ag112 : isAg Tryd.prog 112 = true := by kernel_rfl
theorem by112 : Tryd.prog.bytesOf 112 = 184 := by kernel_rfl
theorem se112 : slEl Tryd.prog 112 = none := by kernel_rfl
theorem ae112 : arEl Tryd.prog 112 = none := by kernel_rfl
theorem st112 : isSt Tryd.prog 112 = true := by kernel_rfl
theorem fo112 : fldsOk Tryd.prog 112 = true := by kernel_rfl
theorem fd112_0 : fld Tryd.prog 112 0 = some (0, 38) := by kernel_rfl
theorem fd112_1 : fld Tryd.prog 112 1 = some (4, 110) := by kernel_rfl
theorem fd112_2 : fld Tryd.prog 112 2 = some (5, 95) := by kernel_rfl
theorem fd112_3 : fld Tryd.prog 112 3 = some (6, 111) := by kernel_rfl
theorem fd112_4 : fld Tryd.prog 112 4 = some (7, 3) := by kernel_rfl
theorem fd112_5 : fld Tryd.prog 112 5 = some (8, 67) := by kernel_rfl
theorem zz112 : zc Tryd.prog 112 = [V.nil, V.nil, V.int .i64 0, V.nil, V.nil, V.nil, V.nil, V.int .i64 0, V.nil] := by kernel_rfl
theorem cz113 : Tryd.prog.cellsOf 113 = 9 := by kernel_rfl
theorem tk113 : tyOk Tryd.prog 113 = true := by kernel_rfl
theorem ag113 : isAg Tryd.prog 113 = true := by kernel_rfl
theorem by113 : Tryd.prog.bytesOf 113 = 184 := by kernel_rfl
theorem se113 : slEl Tryd.prog 113 = none := by kernel_rfl
theorem ae113 : arEl Tryd.prog 113 = none := by kernel_rfl
theorem st113 : isSt Tryd.prog 113 = true := by kernel_rfl
theorem fo113 : fldsOk Tryd.prog 113 = true := by kernel_rfl
theorem fd113_0 : fld Tryd.prog 113 0 = some (0, 38) := by kernel_rfl
theorem fd113_1 : fld Tryd.prog 113 1 = some (4, 110) := by kernel_rfl
theorem fd113_2 : fld Tryd.prog 113 2 = some (5, 95) := by kernel_rfl
theorem fd113_3 : fld Tryd.prog 113 3 = some (6, 111) := by kernel_rfl
theorem fd113_4 : fld Tryd.prog 113 4 = some (7, 3) := by kernel_rfl
theorem fd113_5 : fld Tryd.prog 113 5 = some (8, 67) := by kernel_rfl
theorem zz113 : zc Tryd.prog 113 = [V.nil, V.nil, V.int .i64 0, V.nil, V.nil, V.nil, V.nil, V.int .i64 0, V.nil] := by kernel_rfl
theorem cz114 : Tryd.prog.cellsOf 114 = 1 := by kernel_rfl
theorem tk114 : tyOk Tryd.prog 114 = true := by kernel_rfl
theorem ag114 : isAg Tryd.prog 114 = false := by kernel_rfl
theorem by114 : Tryd.prog.bytesOf 114 = 8 := by kernel_rfl
theorem se114 : slEl Tryd.prog 114 = none := by kernel_rfl
theorem ae114 : arEl Tryd.prog 114 = none := by kernel_rfl
theorem if114 : isFn Tryd.prog 114 = true := by kernel_rfl
theorem zz114 : zc Tryd.prog 114 = [V.nilf] := by kernel_rfl
theorem cz115 : Tryd.prog.cellsOf 115 = 1 := by kernel_rfl
theorem tk115 : tyOk Tryd.prog 115 = true := by kernel_rfl
theorem ag115 : isAg Tryd.prog 115 = false := by kernel_rfl
theorem by115 : Tryd.prog.bytesOf 115 = 8 := by kernel_rfl
theorem se115 : slEl Tryd.prog 115 = none := by kernel_rfl
theorem ae115 : arEl Tryd.prog 115 = none := by kernel_rfl
theorem if115 : isFn Tryd.prog 115 = true := by kernel_rfl
theorem zz115 : zc Tryd.prog 115 = [V.nilf] := by kernel_rfl
theorem cz116 : Tryd.prog.cellsOf 116 = 1 := by kernel_rfl
theorem tk116 : tyOk Tryd.prog 116 = true := by kernel_rfl
theorem ag116 : isAg Tryd.prog 116 = false := by kernel_rfl
theorem by116 : Tryd.prog.bytesOf 116 = 8 := by kernel_rfl
theorem se116 : slEl Tryd.prog 116 = none := by kernel_rfl
theorem ae116 : arEl Tryd.prog 116 = none := by kernel_rfl
theorem if116 : isFn Tryd.prog 116 = true := by kernel_rfl
theorem zz116 : zc Tryd.prog 116 = [V.nilf] := by kernel_rfl
theorem cz117 : Tryd.prog.cellsOf 117 = 1 := by kernel_rfl
theorem tk117 : tyOk Tryd.prog 117 = true := by kernel_rfl
theorem ag117 : isAg Tryd.prog 117 = false := by kernel_rfl
theorem by117 : Tryd.prog.bytesOf 117 = 8 := by kernel_rfl
theorem se117 : slEl Tryd.prog 117 = none := by kernel_rfl
theorem ae117 : arEl Tryd.prog 117 = none := by kernel_rfl
theorem if117 : isFn Tryd.prog 117 = true := by kernel_rfl
theorem zz117 : zc Tryd.prog 117 = [V.nilf] := by kernel_rfl
theorem cz118 : Tryd.prog.cellsOf 118 = 1 := by kernel_rfl
theorem tk118 : tyOk Tryd.prog 118 = true := by kernel_rfl
theorem ag118 : isAg Tryd.prog 118 = false := by kernel_rfl
theorem by118 : Tryd.prog.bytesOf 118 = 8 := by kernel_rfl
theorem se118 : slEl Tryd.prog 118 = none := by kernel_rfl
theorem ae118 : arEl Tryd.prog 118 = none := by kernel_rfl
theorem if118 : isFn Tryd.prog 118 = true := by kernel_rfl
theorem zz118 : zc Tryd.prog 118 = [V.nilf] := by kernel_rfl
theorem cz119 : Tryd.prog.cellsOf 119 = 1 := by kernel_rfl
theorem tk119 : tyOk Tryd.prog 119 = true := by kernel_rfl
theorem ag119 : isAg Tryd.prog 119 = false := by kernel_rfl
theorem by119 : Tryd.prog.bytesOf 119 = 8 := by kernel_rfl
theorem se119 : slEl Tryd.prog 119 = none := by kernel_rfl
theorem ae119 : arEl Tryd.prog 119 = none := by kernel_rfl
theorem if119 : isFn Tryd.prog 119 = true := by kernel_rfl
theorem zz119 : zc Tryd.prog 119 = [V.nilf] := by kernel_rfl
theorem cz120 : Tryd.prog.cellsOf 120 = 2 := by kernel_rfl
theorem tk120 : tyOk Tryd.prog 120 = true := by kernel_rfl
theorem ag120 : isAg Tryd.prog 120 = true := by kernel_rfl
theorem by120 : Tryd.prog.bytesOf 120 = 16 := by kernel_rfl
theorem se120 : slEl Tryd.prog 120 = none := by kernel_rfl
theorem ae120 : arEl Tryd.prog 120 = none := by kernel_rfl
theorem st120 : isSt Tryd.prog 120 = true := by kernel_rfl
theorem fo120 : fldsOk Tryd.prog 120 = true := by kernel_rfl
theorem fd120_0 : fld Tryd.prog 120 0 = some (0, 3) := by kernel_rfl
theorem fd120_1 : fld Tryd.prog 120 1 = some (1, 3) := by kernel_rfl
theorem lt120 : leafTs Tryd.prog 120 = [3, 3] := by kernel_rfl
theorem fe120 : flatEq Tryd.prog 120 = true := by kernel_rfl
theorem zz120 : zc Tryd.prog 120 = [V.int .i64 0, V.int .i64 0] := by kernel_rfl
theorem cz121 : Tryd.prog.cellsOf 121 = 2 := by kernel_rfl
theorem tk121 : tyOk Tryd.prog 121 = true := by kernel_rfl
theorem ag121 : isAg Tryd.prog 121 = true := by kernel_rfl
theorem by121 : Tryd.prog.bytesOf 121 = 16 := by kernel_rfl
theorem se121 : slEl Tryd.prog 121 = none := by kernel_rfl
theorem ae121 : arEl Tryd.prog 121 = none := by kernel_rfl
theorem st121 : isSt Tryd.prog 121 = true := by kernel_rfl
theorem fo121 : fldsOk Tryd.prog 121 = true := by kernel_rfl
theorem fd121_0 : fld Tryd.prog 121 0 = some (0, 3) := by kernel_rfl
theorem fd121_1 : fld Tryd.prog 121 1 = some (1, 3) := by kernel_rfl
theorem lt121 : leafTs Tryd.prog 121 = [3, 3] := by kernel_rfl
theorem fe121 : flatEq Tryd.prog 121 = true := by kernel_rfl
theorem zz121 : zc Tryd.prog 121 = [V.int .i64 0, V.int .i64 0] := by kernel_rfl
theorem cz122 : Tryd.prog.cellsOf 122 = 1 := by kernel_rfl
theorem tk122 : tyOk Tryd.prog 122 = true := by kernel_rfl
theorem ag122 : isAg Tryd.prog 122 = false := by kernel_rfl
theorem by122 : Tryd.prog.bytesOf 122 = 8 := by kernel_rfl
theorem se122 : slEl Tryd.prog 122 = none := by kernel_rfl
theorem ae122 : arEl Tryd.prog 122 = none := by kernel_rfl
theorem if122 : isFn Tryd.prog 122 = true := by kernel_rfl
theorem zz122 : zc Tryd.prog 122 = [V.nilf] := by kernel_rfl
theorem cz123 : Tryd.prog.cellsOf 123 = 1 := by kernel_rfl
theorem tk123 : tyOk Tryd.prog 123 = true := by kernel_rfl
theorem ag123 : isAg Tryd.prog 123 = false := by kernel_rfl
theorem by123 : Tryd.prog.bytesOf 123 = 8 := by kernel_rfl
theorem se123 : slEl Tryd.prog 123 = none := by kernel_rfl
theorem ae123 : arEl Tryd.prog 123 = none := by kernel_rfl
theorem if123 : isFn Tryd.prog 123 = true := by kernel_rfl
theorem zz123 : zc Tryd.prog 123 = [V.nilf] := by kernel_rfl
theorem cz124 : Tryd.prog.cellsOf 124 = 1 := by kernel_rfl
theorem tk124 : tyOk Tryd.prog 124 = true := by kernel_rfl
theorem ag124 : isAg Tryd.prog 124 = false := by kernel_rfl
theorem by124 : Tryd.prog.bytesOf 124 = 8 := by kernel_rfl
theorem se124 : slEl Tryd.prog 124 = none := by kernel_rfl
theorem ae124 : arEl Tryd.prog 124 = none := by kernel_rfl
theorem if124 : isFn Tryd.prog 124 = true := by kernel_rfl
theorem zz124 : zc Tryd.prog 124 = [V.nilf] := by kernel_rfl
theorem cz125 : Tryd.prog.cellsOf 125 = 1 := by kernel_rfl
theorem tk125 : tyOk Tryd.prog 125 = true := by kernel_rfl
theorem ag125 : isAg Tryd.prog 125 = false := by kernel_rfl
theorem by125 : Tryd.prog.bytesOf 125 = 8 := by kernel_rfl
theorem se125 : slEl Tryd.prog 125 = none := by kernel_rfl
theorem ae125 : arEl Tryd.prog 125 = none := by kernel_rfl
theorem if125 : isFn Tryd.prog 125 = true := by kernel_rfl
theorem zz125 : zc Tryd.prog 125 = [V.nilf] := by kernel_rfl
theorem cz126 : Tryd.prog.cellsOf 126 = 1 := by kernel_rfl
theorem tk126 : tyOk Tryd.prog 126 = true := by kernel_rfl
theorem ag126 : isAg Tryd.prog 126 = false := by kernel_rfl
theorem by126 : Tryd.prog.bytesOf 126 = 8 := by kernel_rfl
theorem se126 : slEl Tryd.prog 126 = none := by kernel_rfl
theorem ae126 : arEl Tryd.prog 126 = none := by kernel_rfl
theorem ip126 : isPtr Tryd.prog 126 = true := by kernel_rfl
theorem zz126 : zc Tryd.prog 126 = [V.nilp] := by kernel_rfl
theorem cz127 : Tryd.prog.cellsOf 127 = 3 := by kernel_rfl
theorem tk127 : tyOk Tryd.prog 127 = true := by kernel_rfl
theorem ag127 : isAg Tryd.prog 127 = true := by kernel_rfl
theorem by127 : Tryd.prog.bytesOf 127 = 56 := by kernel_rfl
theorem se127 : slEl Tryd.prog 127 = none := by kernel_rfl
theorem ae127 : arEl Tryd.prog 127 = none := by kernel_rfl
theorem st127 : isSt Tryd.prog 127 = true := by kernel_rfl
theorem fo127 : fldsOk Tryd.prog 127 = true := by kernel_rfl
theorem fd127_0 : fld Tryd.prog 127 0 = some (0, 22) := by kernel_rfl
theorem fd127_1 : fld Tryd.prog 127 1 = some (1, 22) := by kernel_rfl
theorem fd127_2 : fld Tryd.prog 127 2 = some (2, 3) := by kernel_rfl
theorem zz127 : zc Tryd.prog 127 = [V.nil, V.nil, V.int .i64 0] := by kernel_rfl
theorem cz128 : Tryd.prog.cellsOf 128 = 3 := by kernel_rfl
theorem tk128 : tyOk Tryd.prog 128 = true := by kernel_rfl
theorem ag128 : isAg Tryd.prog 128 = true := by kernel_rfl
theorem by128 : Tryd.prog.bytesOf 128 = 56 := by kernel_rfl
theorem se128 : slEl Tryd.prog 128 = none := by kernel_rfl
theorem ae128 : arEl Tryd.prog 128 = none := by kernel_rfl
theorem st128 : isSt Tryd.prog 128 = true := by kernel_rfl
theorem fo128 : fldsOk Tryd.prog 128 = true := by kernel_rfl
theorem fd128_0 : fld Tryd.prog 128 0 = some (0, 22) := by kernel_rfl
theorem fd128_1 : fld Tryd.prog 128 1 = some (1, 22) := by kernel_rfl
theorem fd128_2 : fld Tryd.prog 128 2 = some (2, 3) := by kernel_rfl
theorem zz128 : zc Tryd.prog 128 = [V.nil, V.nil, V.int .i64 0] := by kernel_rfl
theorem cz129 : Tryd.prog.cellsOf 129 = 1 := by kernel_rfl
theorem tk129 : tyOk Tryd.prog 129 = true := by kernel_rfl
theorem ag129 : isAg Tryd.prog 129 = false := by kernel_rfl
theorem by129 : Tryd.prog.bytesOf 129 = 8 := by kernel_rfl
theorem se129 : slEl Tryd.prog 129 = none := by kernel_rfl
theorem ae129 : arEl Tryd.prog 129 = none := by kernel_rfl
theorem if129 : isFn Tryd.prog 129 = true := by kernel_rfl
theorem zz129 : zc Tryd.prog 129 = [V.nilf] := by kernel_rfl
theorem cz131 : Tryd.prog.cellsOf 131 = 1 := by kernel_rfl
theorem tk131 : tyOk Tryd.prog 131 = true := by kernel_rfl
theorem ag131 : isAg Tryd.prog 131 = false := by kernel_rfl
theorem by131 : Tryd.prog.bytesOf 131 = 8 := by kernel_rfl
theorem se131 : slEl Tryd.prog 131 = none := by kernel_rfl
theorem ae131 : arEl Tryd.prog 131 = none := by kernel_rfl
theorem if131 : isFn Tryd.prog 131 = true := by kernel_rfl
theorem zz131 : zc Tryd.prog 131 = [V.nilf] := by kernel_rfl
theorem cz132 : Tryd.prog.cellsOf 132 = 1 := by kernel_rfl
theorem tk132 : tyOk Tryd.prog 132 = true := by kernel_rfl
theorem ag132 : isAg Tryd.prog 132 = false := by kernel_rfl
theorem by132 : Tryd.prog.bytesOf 132 = 8 := by kernel_rfl
theorem se132 : slEl Tryd.prog 132 = none := by kernel_rfl
theorem ae132 : arEl Tryd.prog 132 = none := by kernel_rfl
theorem if132 : isFn Tryd.prog 132 = true := by kernel_rfl
theorem zz132 : zc Tryd.prog 132 = [V.nilf] := by kernel_rfl
theorem cz133 : Tryd.prog.cellsOf 133 = 1 := by kernel_rfl
theorem tk133 : tyOk Tryd.prog 133 = true := by kernel_rfl
theorem ag133 : isAg Tryd.prog 133 = false := by kernel_rfl
theorem by133 : Tryd.prog.bytesOf 133 = 8 := by kernel_rfl
theorem se133 : slEl Tryd.prog 133 = none := by kernel_rfl
theorem ae133 : arEl Tryd.prog 133 = none := by kernel_rfl
theorem if133 : isFn Tryd.prog 133 = true := by kernel_rfl
theorem zz133 : zc Tryd.prog 133 = [V.nilf] := by kernel_rfl
theorem cz134 : Tryd.prog.cellsOf 134 = 1 := by kernel_rfl
theorem tk134 : tyOk Tryd.prog 134 = true := by kernel_rfl
theorem ag134 : isAg Tryd.prog 134 = false := by kernel_rfl
theorem by134 : Tryd.prog.bytesOf 134 = 8 := by kernel_rfl
theorem se134 : slEl Tryd.prog 134 = none := by kernel_rfl
theorem ae134 : arEl Tryd.prog 134 = none := by kernel_rfl
theorem if134 : isFn Tryd.prog 134 = true := by kernel_rfl
theorem zz134 : zc Tryd.prog 134 = [V.nilf] := by kernel_rfl
theorem cz135 : Tryd.prog.cellsOf 135 = 1 := by kernel_rfl
theorem tk135 : tyOk Tryd.prog 135 = true := by kernel_rfl
theorem ag135 : isAg Tryd.prog 135 = false := by kernel_rfl
theorem by135 : Tryd.prog.bytesOf 135 = 8 := by kernel_rfl
theorem se135 : slEl Tryd.prog 135 = none := by kernel_rfl
theorem ae135 : arEl Tryd.prog 135 = none := by kernel_rfl
theorem if135 : isFn Tryd.prog 135 = true := by kernel_rfl
theorem zz135 : zc Tryd.prog 135 = [V.nilf] := by kernel_rfl
theorem cz136 : Tryd.prog.cellsOf 136 = 1 := by kernel_rfl
theorem tk136 : tyOk Tryd.prog 136 = true := by kernel_rfl
theorem ag136 : isAg Tryd.prog 136 = false := by kernel_rfl
theorem by136 : Tryd.prog.bytesOf 136 = 8 := by kernel_rfl
theorem se136 : slEl Tryd.prog 136 = none := by kernel_rfl
theorem ae136 : arEl Tryd.prog 136 = none := by kernel_rfl
theorem if136 : isFn Tryd.prog 136 = true := by kernel_rfl
theorem zz136 : zc Tryd.prog 136 = [V.nilf] := by kernel_rfl
theorem cz137 : Tryd.prog.cellsOf 137 = 1 := by kernel_rfl
theorem tk137 : tyOk Tryd.prog 137 = true := by kernel_rfl
theorem ag137 : isAg Tryd.prog 137 = false := by kernel_rfl
theorem by137 : Tryd.prog.bytesOf 137 = 8 := by kernel_rfl
theorem se137 : slEl Tryd.prog 137 = none := by kernel_rfl
theorem ae137 : arEl Tryd.prog 137 = none := by kernel_rfl
theorem if137 : isFn Tryd.prog 137 = true := by kernel_rfl
theorem zz137 : zc Tryd.prog 137 = [V.nilf] := by kernel_rfl
theorem cz138 : Tryd.prog.cellsOf 138 = 1 := by kernel_rfl
theorem tk138 : tyOk Tryd.prog 138 = true := by kernel_rfl
theorem ag138 : isAg Tryd.prog 138 = false := by kernel_rfl
theorem by138 : Tryd.prog.bytesOf 138 = 8 := by kernel_rfl
theorem se138 : slEl Tryd.prog 138 = none := by kernel_rfl
theorem ae138 : arEl Tryd.prog 138 = none := by kernel_rfl
theorem if138 : isFn Tryd.prog 138 = true := by kernel_rfl
theorem zz138 : zc Tryd.prog 138 = [V.nilf] := by kernel_rfl
theorem cz139 : Tryd.prog.cellsOf 139 = 1 := by kernel_rfl
theorem tk139 : tyOk Tryd.prog 139 = true := by kernel_rfl
theorem ag139 : isAg Tryd.prog 139 = false := by kernel_rfl
theorem by139 : Tryd.prog.bytesOf 139 = 8 := by kernel_rfl
theorem se139 : slEl Tryd.prog 139 = none := by kernel_rfl
theorem ae139 : arEl Tryd.prog 139 = none := by kernel_rfl
theorem ip139 : isPtr Tryd.prog 139 = true := by kernel_rfl
theorem zz139 : zc Tryd.prog 139 = [V.nilp] := by kernel_rfl
theorem cz140 : Tryd.prog.cellsOf 140 = 1 := by kernel_rfl
theorem tk140 : tyOk Tryd.prog 140 = true := by kernel_rfl
theorem ag140 : isAg Tryd.prog 140 = false := by kernel_rfl
theorem by140 : Tryd.prog.bytesOf 140 = 8 := by kernel_rfl
theorem se140 : slEl Tryd.prog 140 = none := by kernel_rfl
theorem ae140 : arEl Tryd.prog 140 = none := by kernel_rfl
theorem if140 : isFn Tryd.prog 140 = true := by kernel_rfl
theorem zz140 : zc Tryd.prog 140 = [V.nilf] := by kernel_rfl
theorem cz141 : Tryd.prog.cellsOf 141 = 1 := by kernel_rfl
theorem tk141 : tyOk Tryd.prog 141 = true := by kernel_rfl
theorem ag141 : isAg Tryd.prog 141 = false := by kernel_rfl
theorem by141 : Tryd.prog.bytesOf 141 = 8 := by kernel_rfl
theorem se141 : slEl Tryd.prog 141 = none := by kernel_rfl
theorem ae141 : arEl Tryd.prog 141 = none := by kernel_rfl
theorem if141 : isFn Tryd.prog 141 = true := by kernel_rfl
theorem zz141 : zc Tryd.prog 141 = [V.nilf] := by kernel_rfl
theorem cz142 : Tryd.prog.cellsOf 142 = 1 := by kernel_rfl
theorem tk142 : tyOk Tryd.prog 142 = true := by kernel_rfl
theorem ag142 : isAg Tryd.prog 142 = false := by kernel_rfl
theorem by142 : Tryd.prog.bytesOf 142 = 8 := by kernel_rfl
theorem se142 : slEl Tryd.prog 142 = none := by kernel_rfl
theorem ae142 : arEl Tryd.prog 142 = none := by kernel_rfl
theorem if142 : isFn Tryd.prog 142 = true := by kernel_rfl
theorem zz142 : zc Tryd.prog 142 = [V.nilf] := by kernel_rfl
theorem cz143 : Tryd.prog.cellsOf 143 = 1 := by kernel_rfl
theorem tk143 : tyOk Tryd.prog 143 = true := by kernel_rfl
theorem ag143 : isAg Tryd.prog 143 = false := by kernel_rfl
theorem by143 : Tryd.prog.bytesOf 143 = 8 := by kernel_rfl
theorem se143 : slEl Tryd.prog 143 = none := by kernel_rfl
theorem ae143 : arEl Tryd.prog 143 = none := by kernel_rfl
theorem if143 : isFn Tryd.prog 143 = true := by kernel_rfl
theorem zz143 : zc Tryd.prog 143 = [V.nilf] := by kernel_rfl
theorem cz144 : Tryd.prog.cellsOf 144 = 1 := by kernel_rfl
theorem tk144 : tyOk Tryd.prog 144 = true := by kernel_rfl
theorem ag144 : isAg Tryd.prog 144 = false := by kernel_rfl
theorem by144 : Tryd.prog.bytesOf 144 = 8 := by kernel_rfl
theorem se144 : slEl Tryd.prog 144 = none := by kernel_rfl
theorem ae144 : arEl Tryd.prog 144 = none := by kernel_rfl
theorem if144 : isFn Tryd.prog 144 = true := by kernel_rfl
theorem zz144 : zc Tryd.prog 144 = [V.nilf] := by kernel_rfl
theorem cz145 : Tryd.prog.cellsOf 145 = 1 := by kernel_rfl
theorem tk145 : tyOk Tryd.prog 145 = true := by kernel_rfl
theorem ag145 : isAg Tryd.prog 145 = false := by kernel_rfl
theorem by145 : Tryd.prog.bytesOf 145 = 8 := by kernel_rfl
theorem se145 : slEl Tryd.prog 145 = none := by kernel_rfl
theorem ae145 : arEl Tryd.prog 145 = none := by kernel_rfl
theorem if145 : isFn Tryd.prog 145 = true := by kernel_rfl
theorem zz145 : zc Tryd.prog 145 = [V.nilf] := by kernel_rfl
theorem cz146 : Tryd.prog.cellsOf 146 = 1 := by kernel_rfl
theorem tk146 : tyOk Tryd.prog 146 = true := by kernel_rfl
theorem ag146 : isAg Tryd.prog 146 = false := by kernel_rfl
theorem by146 : Tryd.prog.bytesOf 146 = 8 := by kernel_rfl
theorem se146 : slEl Tryd.prog 146 = none := by kernel_rfl
theorem ae146 : arEl Tryd.prog 146 = none := by kernel_rfl
theorem if146 : isFn Tryd.prog 146 = true := by kernel_rfl
theorem zz146 : zc Tryd.prog 146 = [V.nilf] := by kernel_rfl
theorem cz147 : Tryd.prog.cellsOf 147 = 1 := by kernel_rfl
theorem tk147 : tyOk Tryd.prog 147 = true := by kernel_rfl
theorem ag147 : isAg Tryd.prog 147 = false := by kernel_rfl
theorem by147 : Tryd.prog.bytesOf 147 = 8 := by kernel_rfl
theorem se147 : slEl Tryd.prog 147 = none := by kernel_rfl
theorem ae147 : arEl Tryd.prog 147 = none := by kernel_rfl
theorem if147 : isFn Tryd.prog 147 = true := by kernel_rfl
theorem zz147 : zc Tryd.prog 147 = [V.nilf] := by kernel_rfl
theorem cz148 : Tryd.prog.cellsOf 148 = 1 := by kernel_rfl
theorem tk148 : tyOk Tryd.prog 148 = true := by kernel_rfl
theorem ag148 : isAg Tryd.prog 148 = false := by kernel_rfl
theorem by148 : Tryd.prog.bytesOf 148 = 8 := by kernel_rfl
theorem se148 : slEl Tryd.prog 148 = none := by kernel_rfl
theorem ae148 : arEl Tryd.prog 148 = none := by kernel_rfl
theorem if148 : isFn Tryd.prog 148 = true := by kernel_rfl
theorem zz148 : zc Tryd.prog 148 = [V.nilf] := by kernel_rfl
theorem cz149 : Tryd.prog.cellsOf 149 = 1 := by kernel_rfl
theorem tk149 : tyOk Tryd.prog 149 = true := by kernel_rfl
theorem ag149 : isAg Tryd.prog 149 = false := by kernel_rfl
theorem by149 : Tryd.prog.bytesOf 149 = 8 := by kernel_rfl
theorem se149 : slEl Tryd.prog 149 = none := by kernel_rfl
theorem ae149 : arEl Tryd.prog 149 = none := by kernel_rfl
theorem if149 : isFn Tryd.prog 149 = true := by kernel_rfl
theorem zz149 : zc Tryd.prog 149 = [V.nilf] := by kernel_rfl
theorem cz150 : Tryd.prog.cellsOf 150 = 1 := by kernel_rfl
theorem tk150 : tyOk Tryd.prog 150 = true := by kernel_rfl
theorem ag150 : isAg Tryd.prog 150 = false := by kernel_rfl
theorem by150 : Tryd.prog.bytesOf 150 = 8 := by kernel_rfl
theorem se150 : slEl Tryd.prog 150 = none := by kernel_rfl
theorem ae150 : arEl Tryd.prog 150 = none := by kernel_rfl
theorem if150 : isFn Tryd.prog 150 = true := by kernel_rfl
theorem zz150 : zc Tryd.prog 150 = [V.nilf] := by kernel_rfl
theorem cz151 : Tryd.prog.cellsOf 151 = 1 := by kernel_rfl
theorem tk151 : tyOk Tryd.prog 151 = true := by kernel_rfl
theorem ag151 : isAg Tryd.prog 151 = false := by kernel_rfl
theorem by151 : Tryd.prog.bytesOf 151 = 8 := by kernel_rfl
theorem se151 : slEl Tryd.prog 151 = none := by kernel_rfl
theorem ae151 : arEl Tryd.prog 151 = none := by kernel_rfl
theorem if151 : isFn Tryd.prog 151 = true := by kernel_rfl
theorem zz151 : zc Tryd.prog 151 = [V.nilf] := by kernel_rfl
theorem cz152 : Tryd.prog.cellsOf 152 = 1 := by kernel_rfl
theorem tk152 : tyOk Tryd.prog 152 = true := by kernel_rfl
theorem ag152 : isAg Tryd.prog 152 = false := by kernel_rfl
theorem by152 : Tryd.prog.bytesOf 152 = 8 := by kernel_rfl
theorem se152 : slEl Tryd.prog 152 = none := by kernel_rfl
theorem ae152 : arEl Tryd.prog 152 = none := by kernel_rfl
theorem if152 : isFn Tryd.prog 152 = true := by kernel_rfl
theorem zz152 : zc Tryd.prog 152 = [V.nilf] := by kernel_rfl
theorem cz153 : Tryd.prog.cellsOf 153 = 1 := by kernel_rfl
theorem tk153 : tyOk Tryd.prog 153 = true := by kernel_rfl
theorem ag153 : isAg Tryd.prog 153 = false := by kernel_rfl
theorem by153 : Tryd.prog.bytesOf 153 = 8 := by kernel_rfl
theorem se153 : slEl Tryd.prog 153 = none := by kernel_rfl
theorem ae153 : arEl Tryd.prog 153 = none := by kernel_rfl
theorem if153 : isFn Tryd.prog 153 = true := by kernel_rfl
theorem zz153 : zc Tryd.prog 153 = [V.nilf] := by kernel_rfl
theorem cz154 : Tryd.prog.cellsOf 154 = 1 := by kernel_rfl
theorem tk154 : tyOk Tryd.prog 154 = true := by kernel_rfl
theorem ag154 : isAg Tryd.prog 154 = false := by kernel_rfl
theorem by154 : Tryd.prog.bytesOf 154 = 8 := by kernel_rfl
theorem se154 : slEl Tryd.prog 154 = none := by kernel_rfl
theorem ae154 : arEl Tryd.prog 154 = none := by kernel_rfl
theorem if154 : isFn Tryd.prog 154 = true := by kernel_rfl
theorem zz154 : zc Tryd.prog 154 = [V.nilf] := by kernel_rfl
theorem cz155 : Tryd.prog.cellsOf 155 = 4 := by kernel_rfl
theorem tk155 : tyOk Tryd.prog 155 = true := by kernel_rfl
theorem ag155 : isAg Tryd.prog 155 = true := by kernel_rfl
theorem by155 : Tryd.prog.bytesOf 155 = 40 := by kernel_rfl
theorem se155 : slEl Tryd.prog 155 = none := by kernel_rfl
theorem ae155 : arEl Tryd.prog 155 = none := by kernel_rfl
theorem st155 : isSt Tryd.prog 155 = true := by kernel_rfl
theorem fo155 : fldsOk Tryd.prog 155 = true := by kernel_rfl
theorem fd155_0 : fld Tryd.prog 155 0 = some (0, 17) := by kernel_rfl
theorem fd155_1 : fld Tryd.prog 155 1 = some (1, 17) := by kernel_rfl
theorem fd155_2 : fld Tryd.prog 155 2 = some (2, 17) := by kernel_rfl
theorem fd155_3 : fld Tryd.prog 155 3 = some (3, 9) := by kernel_rfl
theorem zz155 : zc Tryd.prog 155 = [V.nilp, V.nilp, V.nilp, V.top] := by kernel_rfl
theorem cz156 : Tryd.prog.cellsOf 156 = 4 := by kernel_rfl
theorem tk156 : tyOk Tryd.prog 156 = true := by kernel_rfl
theorem ag156 : isAg Tryd.prog 156 = true := by kernel_rfl
theorem by156 : Tryd.prog.bytesOf 156 = 40 := by kernel_rfl
theorem se156 : slEl Tryd.prog 156 = none := by kernel_rfl
theorem ae156 : arEl Tryd.prog 156 = none := by kernel_rfl
theorem st156 : isSt Tryd.prog 156 = true := by kernel_rfl
theorem fo156 : fldsOk Tryd.prog 156 = true := by kernel_rfl
theorem fd156_0 : fld Tryd.prog 156 0 = some (0, 17) := by kernel_rfl
theorem fd156_1 : fld Tryd.prog 156 1 = some (1, 17) := by kernel_rfl
theorem fd156_2 : fld Tryd.prog 156 2 = some (2, 17) := by kernel_rfl
theorem fd156_3 : fld Tryd.prog 156 3 = some (3, 9) := by kernel_rfl
theorem zz156 : zc Tryd.prog 156 = [V.nilp, V.nilp, V.nilp, V.top] := by kernel_rfl
theorem cz157 : Tryd.prog.cellsOf 157 = 0 := by kernel_rfl
theorem tk157 : tyOk Tryd.prog 157 = true := by kernel_rfl
theorem ag157 : isAg Tryd.prog 157 = true := by kernel_rfl
theorem by157 : Tryd.prog.bytesOf 157 = 0 := by kernel_rfl
theorem se157 : slEl Tryd.prog 157 = none := by kernel_rfl
theorem ae157 : arEl Tryd.prog 157 = some (0, 16) := by kernel_rfl
theorem st157 : isSt Tryd.prog 157 = false := by kernel_rfl
theorem zz157 : zc Tryd.prog 157 = [] := by kernel_rfl
theorem cz158 : Tryd.prog.cellsOf 158 = 0 := by kernel_rfl
theorem tk158 : tyOk Tryd.prog 158 = true := by kernel_rfl
theorem ag158 : isAg Tryd.prog 158 = true := by kernel_rfl
theorem by158 : Tryd.prog.bytesOf 158 = 0 := by kernel_rfl
theorem se158 : slEl Tryd.prog 158 = none := by kernel_rfl
theorem ae158 : arEl Tryd.prog 158 = none := by kernel_rfl
theorem st158 : isSt Tryd.prog 158 = true := by kernel_rfl
theorem fd158_0 : fld Tryd.prog 158 0 = some (0, 157) := by kernel_rfl
theorem zz158 : zc Tryd.prog 158 = [] := by kernel_rfl
theorem cz159 : Tryd.prog.cellsOf 159 = 0 := by kernel_rfl
theorem tk159 : tyOk Tryd.prog 159 = true := by kernel_rfl
theorem ag159 : isAg Tryd.prog 159 = true := by kernel_rfl
theorem by159 : Tryd.prog.bytesOf 159 = 0 := by kernel_rfl
theorem se159 : slEl Tryd.prog 159 = none := by kernel_rfl
theorem ae159 : arEl Tryd.prog 159 = none := by kernel_rfl
theorem st159 : isSt Tryd.prog 159 = true := by kernel_rfl
theorem fd159_0 : fld Tryd.prog 159 0 = some (0, 157) := by kernel_rfl
theorem zz159 : zc Tryd.prog 159 = [] := by kernel_rfl
theorem cz160 : Tryd.prog.cellsOf 160 = 1 := by kernel_rfl
theorem tk160 : tyOk Tryd.prog 160 = true := by kernel_rfl
theorem ag160 : isAg Tryd.prog 160 = false := by kernel_rfl
theorem by160 : Tryd.prog.bytesOf 160 = 8 := by kernel_rfl
theorem se160 : slEl Tryd.prog 160 = none := by kernel_rfl
theorem ae160 : arEl Tryd.prog 160 = none := by kernel_rfl
theorem if160 : isFn Tryd.prog 160 = true := by kernel_rfl
theorem zz160 : zc Tryd.prog 160 = [V.nilf] := by kernel_rfl
theorem cz161 : Tryd.prog.cellsOf 161 = 1 := by kernel_rfl
theorem tk161 : tyOk Tryd.prog 161 = true := by kernel_rfl
theorem ag161 : isAg Tryd.prog 161 = false := by kernel_rfl
theorem by161 : Tryd.prog.bytesOf 161 = 4 := by kernel_rfl
theorem se161 : slEl Tryd.prog 161 = none := by kernel_rfl
theorem ae161 : arEl Tryd.prog 161 = none := by kernel_rfl
theorem ik161 : intK Tryd.prog 161 = some .u32 := by kernel_rfl
theorem zz161 : zc Tryd.prog 161 = [V.int .u32 0] := by kernel_rfl
theorem cz162 : Tryd.prog.cellsOf 162 = 1 := by kernel_rfl
theorem tk162 : tyOk Tryd.prog 162 = true := by kernel_rfl
theorem ag162 : isAg Tryd.prog 162 = false := by kernel_rfl
theorem by162 : Tryd.prog.bytesOf 162 = 1 := by kernel_rfl
theorem se162 : slEl Tryd.prog 162 = none := by kernel_rfl
theorem ae162 : arEl Tryd.prog 162 = none := by kernel_rfl
theorem ik162 : intK Tryd.prog 162 = some .u8 := by kernel_rfl
theorem zz162 : zc Tryd.prog 162 = [V.int .u8 0] := by kernel_rfl
theorem cz163 : Tryd.prog.cellsOf 163 = 1 := by kernel_rfl
theorem tk163 : tyOk Tryd.prog 163 = true := by kernel_rfl
theorem ag163 : isAg Tryd.prog 163 = false := by kernel_rfl
theorem by163 : Tryd.prog.bytesOf 163 = 1 := by kernel_rfl
theorem se163 : slEl Tryd.prog 163 = none := by kernel_rfl
theorem ae163 : arEl Tryd.prog 163 = none := by kernel_rfl
theorem ik163 : intK Tryd.prog 163 = some .u8 := by kernel_rfl
theorem zz163 : zc Tryd.prog 163 = [V.int .u8 0] := by kernel_rfl
theorem cz164 : Tryd.prog.cellsOf 164 = 1 := by kernel_rfl
theorem tk164 : tyOk Tryd.prog 164 = true := by kernel_rfl
theorem ag164 : isAg Tryd.prog 164 = false := by kernel_rfl
theorem by164 : Tryd.prog.bytesOf 164 = 8 := by kernel_rfl
theorem se164 : slEl Tryd.prog 164 = none := by kernel_rfl
theorem ae164 : arEl Tryd.prog 164 = none := by kernel_rfl
theorem if164 : isFn Tryd.prog 164 = true := by kernel_rfl
theorem zz164 : zc Tryd.prog 164 = [V.nilf] := by kernel_rfl
theorem cz165 : Tryd.prog.cellsOf 165 = 1 := by kernel_rfl
theorem tk165 : tyOk Tryd.prog 165 = true := by kernel_rfl
theorem ag165 : isAg Tryd.prog 165 = false := by kernel_rfl
theorem by165 : Tryd.prog.bytesOf 165 = 8 := by kernel_rfl
theorem se165 : slEl Tryd.prog 165 = none := by kernel_rfl
theorem ae165 : arEl Tryd.prog 165 = none := by kernel_rfl
theorem ip165 : isPtr Tryd.prog 165 = true := by kernel_rfl
theorem zz165 : zc Tryd.prog 165 = [V.nilp] := by kernel_rfl
theorem cz166 : Tryd.prog.cellsOf 166 = 1 := by kernel_rfl
theorem tk166 : tyOk Tryd.prog 166 = true := by kernel_rfl
theorem ag166 : isAg Tryd.prog 166 = false := by kernel_rfl
theorem by166 : Tryd.prog.bytesOf 166 = 4 := by kernel_rfl
theorem se166 : slEl Tryd.prog 166 = none := by kernel_rfl
theorem ae166 : arEl Tryd.prog 166 = none := by kernel_rfl
theorem ik166 : intK Tryd.prog 166 = some .i32 := by kernel_rfl
theorem zz166 : zc Tryd.prog 166 = [V.int .i32 0] := by kernel_rfl
theorem cz167 : Tryd.prog.cellsOf 167 = 1 := by kernel_rfl
theorem tk167 : tyOk Tryd.prog 167 = true := by kernel_rfl
theorem ag167 : isAg Tryd.prog 167 = false := by kernel_rfl
theorem by167 : Tryd.prog.bytesOf 167 = 4 := by kernel_rfl
theorem se167 : slEl Tryd.prog 167 = none := by kernel_rfl
theorem ae167 : arEl Tryd.prog 167 = none := by kernel_rfl
theorem ik167 : intK Tryd.prog 167 = some .i32 := by kernel_rfl
theorem zz167 : zc Tryd.prog 167 = [V.int .i32 0] := by kernel_rfl
theorem cz168 : Tryd.prog.cellsOf 168 = 11 := by kernel_rfl
theorem tk168 : tyOk Tryd.prog 168 = true := by kernel_rfl
theorem ag168 : isAg Tryd.prog 168 = true := by kernel_rfl
theorem by168 : Tryd.prog.bytesOf 168 = 48 := by kernel_rfl
theorem se168 : slEl Tryd.prog 168 = none := by kernel_rfl
theorem ae168 : arEl Tryd.prog 168 = none := by kernel_rfl
theorem st168 : isSt Tryd.prog 168 = true := by kernel_rfl
theorem fo168 : fldsOk Tryd.prog 168 = true := by kernel_rfl
theorem fd168_0 : fld Tryd.prog 168 0 = some (0, 12) := by kernel_rfl
theorem fd168_1 : fld Tryd.prog 168 1 = some (1, 12) := by kernel_rfl
theorem fd168_2 : fld Tryd.prog 168 2 = some (2, 161) := by kernel_rfl
theorem fd168_3 : fld Tryd.prog 168 3 = some (3, 162) := by kernel_rfl
theorem fd168_4 : fld Tryd.prog 168 4 = some (4, 5) := by kernel_rfl
theorem fd168_5 : fld Tryd.prog 168 5 = some (5, 5) := by kernel_rfl
theorem fd168_6 : fld Tryd.prog 168 6 = some (6, 163) := by kernel_rfl
theorem fd168_7 : fld Tryd.prog 168 7 = some (7, 164) := by kernel_rfl
theorem fd168_8 : fld Tryd.prog 168 8 = some (8, 165) := by kernel_rfl
theorem fd168_9 : fld Tryd.prog 168 9 = some (9, 166) := by kernel_rfl
theorem fd168_10 : fld Tryd.prog 168 10 = some (10, 167) := by kernel_rfl
theorem zz168 : zc Tryd.prog 168 = [V.int .u64 0, V.int .u64 0, V.int .u32 0, V.int .u8 0, V.int .u8 0, V.int .u8 0, V.int .u8 0, V.nilf, V.nilp, V.int .i32 0, V.int .i32 0] := by kernel_rfl
theorem cz169 : Tryd.prog.cellsOf 169 = 11 := by kernel_rfl
theorem tk169 : tyOk Tryd.prog 169 = true := by kernel_rfl
theorem ag169 : isAg Tryd.prog 169 = true := by kernel_rfl
theorem by169 : Tryd.prog.bytesOf 169 = 48 := by kernel_rfl
theorem se169 : slEl Tryd.prog 169 = none := by kernel_rfl
theorem ae169 : arEl Tryd.prog 169 = none := by kernel_rfl
theorem st169 : isSt Tryd.prog 169 = true := by kernel_rfl
theorem fo169 : fldsOk Tryd.prog 169 = true := by kernel_rfl
theorem fd169_0 : fld Tryd.prog 169 0 = some (0, 12) := by kernel_rfl
theorem fd169_1 : fld Tryd.prog 169 1 = some (1, 12) := by kernel_rfl
theorem fd169_2 : fld Tryd.prog 169 2 = some (2, 161) := by kernel_rfl
theorem fd169_3 : fld Tryd.prog 169 3 = some (3, 162) := by kernel_rfl
theorem fd169_4 : fld Tryd.prog 169 4 = some (4, 5) := by kernel_rfl
theorem fd169_5 : fld Tryd.prog 169 5 = some (5, 5) := by kernel_rfl
theorem fd169_6 : fld Tryd.prog 169 6 = some (6, 163) := by kernel_rfl
theorem fd169_7 : fld Tryd.prog 169 7 = some (7, 164) := by kernel_rfl
theorem fd169_8 : fld Tryd.prog 169 8 = some (8, 165) := by kernel_rfl
theorem fd169_9 : fld Tryd.prog 169 9 = some (9, 166) := by kernel_rfl
theorem fd169_10 : fld Tryd.prog 169 10 = some (10, 167) := by kernel_rfl
theorem zz169 : zc Tryd.prog 169 = [V.int .u64 0, V.int .u64 0, V.int .u32 0, V.int .u8 0, V.int .u8 0, V.int .u8 0, V.int .u8 0, V.nilf, V.nilp, V.int .i32 0, V.int .i32 0] := by kernel_rfl
attribute [simp] cz1 tk1 ag1 by1 se1 ae1 if1 zz1 cz2 tk2 ag2 by2 se2 ae2 ik2 zz2 cz3 tk3 ag3 by3 se3 ae3 ik3 zz3 cz4 tk4 ag4 by4 se4 ae4 ib4 zz4 cz5 tk5 ag5 by5 se5 ae5 ik5 zz5 cz6 tk6 ag6 by6 se6 ae6 ik6 zz6 cz7 tk7 ag7 by7 se7 ae7 st7 fo7 fd7_0 fd7_1 fd7_2 fd7_3 lt7 fe7 zz7 cz8 tk8 ag8 by8 se8 ae8 st8 fo8 fd8_0 fd8_1 fd8_2 fd8_3 lt8 fe8 zz8 cz12 tk12 ag12 by12 se12 ae12 ik12 zz12 cz13 tk13 ag13 by13 se13 ae13 st13 fo13 fd13_0 fd13_1 zz13 cz14 tk14 ag14 by14 se14 ae14 st14 fo14 fd14_0 fd14_1 zz14 cz15 tk15 ag15 by15 se15 ae15 ip15 zz15 cz16 tk16 ag16 by16 se16 ae16 ip16 zz16 cz17 tk17 ag17 by17 se17 ae17 ip17 zz17 cz18 tk18 ag18 by18 se18 ae18 st18 fo18 fd18_0 zz18 cz19 tk19 ag19 by19 se19 ae19 st19 fo19 fd19_0 zz19 cz21 tk21 ag21 by21 se21 ae21 ik21 zz21 cz22 tk22 ag22 by22 se22 ae22 zz22 cz23 tk23 ag23 by23 se23 ae23 st23 fo23 fd23_0 fd23_1 lt23 fe23 zz23 cz24 tk24 ag24 by24 se24 ae24 st24 fo24 fd24_0 fd24_1 lt24 fe24 zz24 cz25 tk25 ag25 by25 se25 ae25 if25 zz25 cz26 tk26 ag26 by26 se26 ae26 zz26 cz27 tk27 ag27 by27 se27 ae27 ik27 zz27 cz29 tk29 ag29 by29 se29 ae29 if29 zz29 cz30 tk30 ag30 by30 se30 ae30 st30 lt30 fe30 zz30 cz31 tk31 ag31 by31 se31 ae31 if31 zz31 cz32 tk32 ag32 by32 se32 ae32 if32 zz32 cz33 tk33 ag33 by33 se33 ae33 if33 zz33 cz34 tk34 ag34 by34 se34 ae34 zz34 cz35 tk35 ag35 by35 se35 ae35 zz35 cz36 tk36 ag36 by36 se36 ae36 zz36 cz37 tk37 ag37 by37 se37 ae37 st37 fo37 fd37_0 fd37_1 fd37_2 fd37_3 zz37 cz38 tk38 ag38 by38 se38 ae38 st38 fo38 fd38_0 fd38_1 fd38_2 fd38_3 zz38 cz39 tk39 ag39 by39 se39 ae39 zz39 cz40 tk40 ag40 by40 se40 ae40 st40 fo40 fd40_0 fd40_1 fd40_2 lt40 fe40 zz40 cz41 tk41 ag41 by41 se41 ae41 st41 fo41 fd41_0 fd41_1 fd41_2 lt41 fe41 zz41 cz42 tk42 ag42 by42 se42 ae42 if42 zz42 cz44 tk44 ag44 by44 se44 ae44 if44 zz44 cz45 tk45 ag45 by45 se45 ae45 if45 zz45 cz46 tk46 ag46 by46 se46 ae46 st46 fo46 fd46_0 fd46_1 fd46_2 fd46_3 lt46 fe46 zz46 cz47 tk47 ag47 by47 se47 ae47 st47 fo47 fd47_0 fd47_1 fd47_2 fd47_3 lt47 fe47 zz47 cz48 tk48 ag48 by48 se48 ae48 if48 zz48 cz49 tk49 ag49 by49 se49 ae49 if49 zz49 cz50 tk50 ag50 by50 se50 ae50 st50 fo50 fd50_0 fd50_1 fd50_2 fd50_3 lt50 fe50 zz50 cz51 tk51 ag51 by51 se51 ae51 st51 fo51 fd51_0 fd51_1 fd51_2 fd51_3 lt51 fe51 zz51 cz52 tk52 ag52 by52 se52 ae52 st52 fo52 fd52_0 fd52_1 fd52_2 lt52 fe52 zz52 cz53 tk53 ag53 by53 se53 ae53 st53 fo53 fd53_0 fd53_1 fd53_2 lt53 fe53 zz53 cz54 tk54 ag54 by54 se54 ae54 if54 zz54 cz56 tk56 ag56 by56 se56 ae56 if56 zz56 cz57 tk57 ag57 by57 se57 ae57 zz57 cz59 tk59 ag59 by59 se59 ae59 if59 zz59 cz60 tk60 ag60 by60 se60 ae60 st60 fo60 fd60_0 fd60_1 fd60_2 fd60_3 fd60_4 fd60_5 lt60 fe60 zz60 cz61 tk61 ag61 by61 se61 ae61 st61 fo61 fd61_0 fd61_1 fd61_2 fd61_3 fd61_4 fd61_5 lt61 fe61 zz61 cz62 tk62 ag62 by62 se62 ae62 if62 zz62 cz63 tk63 ag63 by63 se63 ae63 if63 zz63 cz65 tk65 ag65 by65 se65 ae65 if65 zz65 cz66 tk66 ag66 by66 se66 ae66 if66 zz66 cz67 tk67 ag67 by67 se67 ae67 zz67 cz68 tk68 ag68 by68 se68 ae68 if68 zz68 cz69 tk69 ag69 by69 se69 ae69 if69 zz69 cz70 tk70 ag70 by70 se70 ae70 if70 zz70 cz71 tk71 ag71 by71 se71 ae71 if71 zz71 cz72 tk72 ag72 by72 se72 ae72 if72 zz72 cz74 tk74 ag74 by74 se74 ae74 if74 zz74 cz75 tk75 ag75 by75 se75 ae75 st75 fo75 fd75_0 fd75_1 fd75_2 zz75 cz76 tk76 ag76 by76 se76 ae76 st76 fo76 fd76_0 fd76_1 fd76_2 zz76 cz77 tk77 ag77 by77 se77 ae77 if77 zz77 cz78 tk78 ag78 by78 se78 ae78 if78 zz78 cz79 tk79 ag79 by79 se79 ae79 if79 zz79 cz80 tk80 ag80 by80 se80 ae80 if80 zz80 cz82 tk82 ag82 by82 se82 ae82 if82 zz82 cz83 tk83 ag83 by83 se83 ae83 if83 zz83 cz84 tk84 ag84 by84 se84 ae84 if84 zz84 cz85 tk85 ag85 by85 se85 ae85 if85 zz85 cz86 tk86 ag86 by86 se86 ae86 ip86 zz86 cz88 tk88 ag88 by88 se88 ae88 if88 zz88 cz89 tk89 ag89 by89 se89 ae89 if89 zz89 cz90 tk90 ag90 by90 se90 ae90 if90 zz90 cz91 tk91 ag91 by91 se91 ae91 if91 zz91 cz92 tk92 ag92 by92 se92 ae92 if92 zz92 cz93 tk93 ag93 by93 se93 ae93 ip93 zz93 cz94 tk94 ag94 by94 se94 ae94 st94 lt94 fe94 zz94 cz95 tk95 ag95 by95 se95 ae95 zz95 cz96 tk96 ag96 by96 se96 ae96 st96 fo96 fd96_0 fd96_1 fd96_2 fd96_3 zz96 cz97 tk97 ag97 by97 se97 ae97 st97 fo97 fd97_0 fd97_1 fd97_2 fd97_3 zz97 cz98 tk98 ag98 by98 se98 ae98 if98 zz98 cz99 tk99 ag99 by99 se99 ae99 if99 zz99 cz100 tk100 ag100 by100 se100 ae100 zz100 cz101 tk101 ag101 by101 se101 ae101 zz101 cz102 tk102 ag102 by102 se102 ae102 st102 fo102 fd102_0 fd102_1 fd102_2 fd102_3 fd102_4 zz102 cz103 tk103 ag103 by103 se103 ae103 st103 fo103 fd103_0 fd103_1 fd103_2 fd103_3 fd103_4 zz103 cz104 tk104 ag104 by104 se104 ae104 if104 zz104 cz106 tk106 ag106 by106 se106 ae106 if106 zz106 cz107 tk107 ag107 by107 se107 ae107 if107 zz107 cz109 tk109 ag109 by109 se109 ae109 if109 zz109 cz110 tk110 ag110 by110 se110 ae110 zz110 cz111 tk111 ag111 by111 se111 ae111 zz111 cz112 tk112 ag112 by112 se112 ae112 st112 fo112 fd112_0 fd112_1 fd112_2 fd112_3 fd112_4 fd112_5 zz112 cz113 tk113 ag113 by113 se113 ae113 st113 fo113 fd113_0 fd113_1 fd113_2 fd113_3 fd113_4 fd113_5 zz113 cz114 tk114 ag114 by114 se114 ae114 if114 zz114 cz115 tk115 ag115 by115 se115 ae115 if115 zz115 cz116 tk116 ag116 by116 se116 ae116 if116 zz116 cz117 tk117 ag117 by117 se117 ae117 if117 zz117 cz118 tk118 ag118 by118 se118 ae118 if118 zz118 cz119 tk119 ag119 by119 se119 ae119 if119 zz119 cz120 tk120 ag120 by120 se120 ae120 st120 fo120 fd120_0 fd120_1 lt120 fe120 zz120 cz121 tk121 ag121 by121 se121 ae121 st121 fo121 fd121_0 fd121_1 lt121 fe121 zz121 cz122 tk122 ag122 by122 se122 ae122 if122 zz122 cz123 tk123 ag123 by123 se123 ae123 if123 zz123 cz124 tk124 ag124 by124 se124 ae124 if124 zz124 cz125 tk125 ag125 by125 se125 ae125 if125 zz125 cz126 tk126 ag126 by126 se126 ae126 ip126 zz126 cz127 tk127 ag127 by127 se127 ae127 st127 fo127 fd127_0 fd127_1 fd127_2 zz127 cz128 tk128 ag128 by128 se128 ae128 st128 fo128 fd128_0 fd128_1 fd128_2 zz128 cz129 tk129 ag129 by129 se129 ae129 if129 zz129 cz131 tk131 ag131 by131 se131 ae131 if131 zz131 cz132 tk132 ag132 by132 se132 ae132 if132 zz132 cz133 tk133 ag133 by133 se133 ae133 if133 zz133 cz134 tk134 ag134 by134 se134 ae134 if134 zz134 cz135 tk135 ag135 by135 se135 ae135 if135 zz135 cz136 tk136 ag136 by136 se136 ae136 if136 zz136 cz137 tk137 ag137 by137 se137 ae137 if137 zz137 cz138 tk138 ag138 by138 se138 ae138 if138 zz138 cz139 tk139 ag139 by139 se139 ae139 ip139 zz139 cz140 tk140 ag140 by140 se140 ae140 if140 zz140 cz141 tk141 ag141 by141 se141 ae141 if141 zz141 cz142 tk142 ag142 by142 se142 ae142 if142 zz142 cz143 tk143 ag143 by143 se143 ae143 if143 zz143 cz144 tk144 ag144 by144 se144 ae144 if144 zz144 cz145 tk145 ag145 by145 se145 ae145 if145 zz145 cz146 tk146 ag146 by146 se146 ae146 if146 zz146 cz147 tk147 ag147 by147 se147 ae147 if147 zz147 cz148 tk148 ag148 by148 se148 ae148 if148 zz148 cz149 tk149 ag149 by149 se149 ae149 if149 zz149 cz150 tk150 ag150 by150 se150 ae150 if150 zz150 cz151 tk151 ag151 by151 se151 ae151 if151 zz151 cz152 tk152 ag152 by152 se152 ae152 if152 zz152 cz153 tk153 ag153 by153 se153 ae153 if153 zz153 cz154 tk154 ag154 by154 se154 ae154 if154 zz154 cz155 tk155 ag155 by155 se155 ae155 st155 fo155 fd155_0 fd155_1 fd155_2 fd155_3 zz155 cz156 tk156 ag156 by156 se156 ae156 st156 fo156 fd156_0 fd156_1 fd156_2 fd156_3 zz156 cz157 tk157 ag157 by157 se157 ae157 st157 zz157 cz158 tk158 ag158 by158 se158 ae158 st158 fd158_0 zz158 cz159 tk159 ag159 by159 se159 ae159 st159 fd159_0 zz159 cz160 tk160 ag160 by160 se160 ae160 if160 zz160 cz161 tk161 ag161 by161 se161 ae161 ik161 zz161 cz162 tk162 ag162 by162 se162 ae162 ik162 zz162 cz163 tk163 ag163 by163 se163 ae163 ik163 zz163 cz164 tk164 ag164 by164 se164 ae164 if164 zz164 cz165 tk165 ag165 by165 se165 ae165 ip165 zz165 cz166 tk166 ag166 by166 se166 ae166 ik166 zz166 cz167 tk167 ag167 by167 se167 ae167 ik167 zz167 cz168 tk168 ag168 by168 se168 ae168 st168 fo168 fd168_0 fd168_1 fd168_2 fd168_3 fd168_4 fd168_5 fd168_6 fd168_7 fd168_8 fd168_9 fd168_10 zz168 cz169 tk169 ag169 by169 se169 ae169 st169 fo169 fd169_0 fd169_1 fd169_2 fd169_3 fd169_4 fd169_5 fd169_6 fd169_7 fd169_8 fd169_9 fd169_10 zz169
end Go.Sx.Ty
