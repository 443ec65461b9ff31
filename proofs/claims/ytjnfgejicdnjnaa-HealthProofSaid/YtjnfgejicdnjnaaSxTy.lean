/- What the walk asks of this seat's types: closed facts. Printed by program. No conditions. -/
import Derived.Test.YtjnfgejicdnjnaaProg
import Derived.Test.YtjnfgejicdnjnaaSxB
set_option linter.unusedSimpArgs false
set_option linter.unusedVariables false
namespace Go.Sx.Ty
open Go.Proofs Go.Sx
theorem cz1 : Try.prog.cellsOf 1 = 1 := by kernel_rfl
theorem tk1 : tyOk Try.prog 1 = true := by kernel_rfl
theorem ag1 : isAg Try.prog 1 = false := by kernel_rfl
theorem by1 : Try.prog.bytesOf 1 = 8 := by kernel_rfl
theorem se1 : slEl Try.prog 1 = none := by kernel_rfl
theorem ae1 : arEl Try.prog 1 = none := by kernel_rfl
theorem if1 : isFn Try.prog 1 = true := by kernel_rfl
theorem zz1 : zc Try.prog 1 = [V.nilf] := by kernel_rfl
theorem cz2 : Try.prog.cellsOf 2 = 1 := by kernel_rfl
theorem tk2 : tyOk Try.prog 2 = true := by kernel_rfl
theorem ag2 : isAg Try.prog 2 = false := by kernel_rfl
theorem by2 : Try.prog.bytesOf 2 = 8 := by kernel_rfl
theorem se2 : slEl Try.prog 2 = none := by kernel_rfl
theorem ae2 : arEl Try.prog 2 = none := by kernel_rfl
theorem ik2 : intK Try.prog 2 = some .i64 := by kernel_rfl
theorem zz2 : zc Try.prog 2 = [V.int .i64 0] := by kernel_rfl
theorem cz3 : Try.prog.cellsOf 3 = 1 := by kernel_rfl
theorem tk3 : tyOk Try.prog 3 = true := by kernel_rfl
theorem ag3 : isAg Try.prog 3 = false := by kernel_rfl
theorem by3 : Try.prog.bytesOf 3 = 8 := by kernel_rfl
theorem se3 : slEl Try.prog 3 = none := by kernel_rfl
theorem ae3 : arEl Try.prog 3 = none := by kernel_rfl
theorem ik3 : intK Try.prog 3 = some .i64 := by kernel_rfl
theorem zz3 : zc Try.prog 3 = [V.int .i64 0] := by kernel_rfl
theorem cz4 : Try.prog.cellsOf 4 = 1 := by kernel_rfl
theorem tk4 : tyOk Try.prog 4 = true := by kernel_rfl
theorem ag4 : isAg Try.prog 4 = false := by kernel_rfl
theorem by4 : Try.prog.bytesOf 4 = 1 := by kernel_rfl
theorem se4 : slEl Try.prog 4 = none := by kernel_rfl
theorem ae4 : arEl Try.prog 4 = none := by kernel_rfl
theorem ib4 : isBool Try.prog 4 = true := by kernel_rfl
theorem zz4 : zc Try.prog 4 = [V.bool false] := by kernel_rfl
theorem cz5 : Try.prog.cellsOf 5 = 1 := by kernel_rfl
theorem tk5 : tyOk Try.prog 5 = true := by kernel_rfl
theorem ag5 : isAg Try.prog 5 = false := by kernel_rfl
theorem by5 : Try.prog.bytesOf 5 = 1 := by kernel_rfl
theorem se5 : slEl Try.prog 5 = none := by kernel_rfl
theorem ae5 : arEl Try.prog 5 = none := by kernel_rfl
theorem ik5 : intK Try.prog 5 = some .u8 := by kernel_rfl
theorem zz5 : zc Try.prog 5 = [V.int .u8 0] := by kernel_rfl
theorem cz6 : Try.prog.cellsOf 6 = 1 := by kernel_rfl
theorem tk6 : tyOk Try.prog 6 = true := by kernel_rfl
theorem ag6 : isAg Try.prog 6 = false := by kernel_rfl
theorem by6 : Try.prog.bytesOf 6 = 1 := by kernel_rfl
theorem se6 : slEl Try.prog 6 = none := by kernel_rfl
theorem ae6 : arEl Try.prog 6 = none := by kernel_rfl
theorem ik6 : intK Try.prog 6 = some .u8 := by kernel_rfl
theorem zz6 : zc Try.prog 6 = [V.int .u8 0] := by kernel_rfl
theorem cz7 : Try.prog.cellsOf 7 = 4 := by kernel_rfl
theorem tk7 : tyOk Try.prog 7 = true := by kernel_rfl
theorem ag7 : isAg Try.prog 7 = true := by kernel_rfl
theorem by7 : Try.prog.bytesOf 7 = 24 := by kernel_rfl
theorem se7 : slEl Try.prog 7 = none := by kernel_rfl
theorem ae7 : arEl Try.prog 7 = none := by kernel_rfl
theorem st7 : isSt Try.prog 7 = true := by kernel_rfl
theorem fo7 : fldsOk Try.prog 7 = true := by kernel_rfl
theorem fd7_0 : fld Try.prog 7 0 = some (0, 2) := by kernel_rfl
theorem fd7_1 : fld Try.prog 7 1 = some (1, 3) := by kernel_rfl
theorem fd7_2 : fld Try.prog 7 2 = some (2, 4) := by kernel_rfl
theorem fd7_3 : fld Try.prog 7 3 = some (3, 6) := by kernel_rfl
theorem lt7 : leafTs Try.prog 7 = [2, 3, 4, 6] := by kernel_rfl
theorem fe7 : flatEq Try.prog 7 = true := by kernel_rfl
theorem zz7 : zc Try.prog 7 = [V.int .i64 0, V.int .i64 0, V.bool false, V.int .u8 0] := by kernel_rfl
theorem cz8 : Try.prog.cellsOf 8 = 4 := by kernel_rfl
theorem tk8 : tyOk Try.prog 8 = true := by kernel_rfl
theorem ag8 : isAg Try.prog 8 = true := by kernel_rfl
theorem by8 : Try.prog.bytesOf 8 = 24 := by kernel_rfl
theorem se8 : slEl Try.prog 8 = none := by kernel_rfl
theorem ae8 : arEl Try.prog 8 = none := by kernel_rfl
theorem st8 : isSt Try.prog 8 = true := by kernel_rfl
theorem fo8 : fldsOk Try.prog 8 = true := by kernel_rfl
theorem fd8_0 : fld Try.prog 8 0 = some (0, 2) := by kernel_rfl
theorem fd8_1 : fld Try.prog 8 1 = some (1, 3) := by kernel_rfl
theorem fd8_2 : fld Try.prog 8 2 = some (2, 4) := by kernel_rfl
theorem fd8_3 : fld Try.prog 8 3 = some (3, 6) := by kernel_rfl
theorem lt8 : leafTs Try.prog 8 = [2, 3, 4, 6] := by kernel_rfl
theorem fe8 : flatEq Try.prog 8 = true := by kernel_rfl
theorem zz8 : zc Try.prog 8 = [V.int .i64 0, V.int .i64 0, V.bool false, V.int .u8 0] := by kernel_rfl
theorem cz12 : Try.prog.cellsOf 12 = 1 := by kernel_rfl
theorem tk12 : tyOk Try.prog 12 = true := by kernel_rfl
theorem ag12 : isAg Try.prog 12 = false := by kernel_rfl
theorem by12 : Try.prog.bytesOf 12 = 8 := by kernel_rfl
theorem se12 : slEl Try.prog 12 = none := by kernel_rfl
theorem ae12 : arEl Try.prog 12 = none := by kernel_rfl
theorem ik12 : intK Try.prog 12 = some .u64 := by kernel_rfl
theorem zz12 : zc Try.prog 12 = [V.int .u64 0] := by kernel_rfl
theorem cz13 : Try.prog.cellsOf 13 = 2 := by kernel_rfl
theorem tk13 : tyOk Try.prog 13 = true := by kernel_rfl
theorem ag13 : isAg Try.prog 13 = true := by kernel_rfl
theorem by13 : Try.prog.bytesOf 13 = 24 := by kernel_rfl
theorem se13 : slEl Try.prog 13 = none := by kernel_rfl
theorem ae13 : arEl Try.prog 13 = none := by kernel_rfl
theorem st13 : isSt Try.prog 13 = true := by kernel_rfl
theorem fo13 : fldsOk Try.prog 13 = true := by kernel_rfl
theorem fd13_0 : fld Try.prog 13 0 = some (0, 9) := by kernel_rfl
theorem fd13_1 : fld Try.prog 13 1 = some (1, 12) := by kernel_rfl
theorem zz13 : zc Try.prog 13 = [V.top, V.int .u64 0] := by kernel_rfl
theorem cz14 : Try.prog.cellsOf 14 = 2 := by kernel_rfl
theorem tk14 : tyOk Try.prog 14 = true := by kernel_rfl
theorem ag14 : isAg Try.prog 14 = true := by kernel_rfl
theorem by14 : Try.prog.bytesOf 14 = 24 := by kernel_rfl
theorem se14 : slEl Try.prog 14 = none := by kernel_rfl
theorem ae14 : arEl Try.prog 14 = none := by kernel_rfl
theorem st14 : isSt Try.prog 14 = true := by kernel_rfl
theorem fo14 : fldsOk Try.prog 14 = true := by kernel_rfl
theorem fd14_0 : fld Try.prog 14 0 = some (0, 9) := by kernel_rfl
theorem fd14_1 : fld Try.prog 14 1 = some (1, 12) := by kernel_rfl
theorem zz14 : zc Try.prog 14 = [V.top, V.int .u64 0] := by kernel_rfl
theorem cz15 : Try.prog.cellsOf 15 = 1 := by kernel_rfl
theorem tk15 : tyOk Try.prog 15 = true := by kernel_rfl
theorem ag15 : isAg Try.prog 15 = false := by kernel_rfl
theorem by15 : Try.prog.bytesOf 15 = 8 := by kernel_rfl
theorem se15 : slEl Try.prog 15 = none := by kernel_rfl
theorem ae15 : arEl Try.prog 15 = none := by kernel_rfl
theorem ip15 : isPtr Try.prog 15 = true := by kernel_rfl
theorem zz15 : zc Try.prog 15 = [V.nilp] := by kernel_rfl
theorem cz16 : Try.prog.cellsOf 16 = 1 := by kernel_rfl
theorem tk16 : tyOk Try.prog 16 = true := by kernel_rfl
theorem ag16 : isAg Try.prog 16 = false := by kernel_rfl
theorem by16 : Try.prog.bytesOf 16 = 8 := by kernel_rfl
theorem se16 : slEl Try.prog 16 = none := by kernel_rfl
theorem ae16 : arEl Try.prog 16 = none := by kernel_rfl
theorem ip16 : isPtr Try.prog 16 = true := by kernel_rfl
theorem zz16 : zc Try.prog 16 = [V.nilp] := by kernel_rfl
theorem cz17 : Try.prog.cellsOf 17 = 1 := by kernel_rfl
theorem tk17 : tyOk Try.prog 17 = true := by kernel_rfl
theorem ag17 : isAg Try.prog 17 = false := by kernel_rfl
theorem by17 : Try.prog.bytesOf 17 = 8 := by kernel_rfl
theorem se17 : slEl Try.prog 17 = none := by kernel_rfl
theorem ae17 : arEl Try.prog 17 = none := by kernel_rfl
theorem ip17 : isPtr Try.prog 17 = true := by kernel_rfl
theorem zz17 : zc Try.prog 17 = [V.nilp] := by kernel_rfl
theorem cz18 : Try.prog.cellsOf 18 = 1 := by kernel_rfl
theorem tk18 : tyOk Try.prog 18 = true := by kernel_rfl
theorem ag18 : isAg Try.prog 18 = true := by kernel_rfl
theorem by18 : Try.prog.bytesOf 18 = 8 := by kernel_rfl
theorem se18 : slEl Try.prog 18 = none := by kernel_rfl
theorem ae18 : arEl Try.prog 18 = none := by kernel_rfl
theorem st18 : isSt Try.prog 18 = true := by kernel_rfl
theorem fo18 : fldsOk Try.prog 18 = true := by kernel_rfl
theorem fd18_0 : fld Try.prog 18 0 = some (0, 17) := by kernel_rfl
theorem zz18 : zc Try.prog 18 = [V.nilp] := by kernel_rfl
theorem cz19 : Try.prog.cellsOf 19 = 1 := by kernel_rfl
theorem tk19 : tyOk Try.prog 19 = true := by kernel_rfl
theorem ag19 : isAg Try.prog 19 = true := by kernel_rfl
theorem by19 : Try.prog.bytesOf 19 = 8 := by kernel_rfl
theorem se19 : slEl Try.prog 19 = none := by kernel_rfl
theorem ae19 : arEl Try.prog 19 = none := by kernel_rfl
theorem st19 : isSt Try.prog 19 = true := by kernel_rfl
theorem fo19 : fldsOk Try.prog 19 = true := by kernel_rfl
theorem fd19_0 : fld Try.prog 19 0 = some (0, 17) := by kernel_rfl
theorem zz19 : zc Try.prog 19 = [V.nilp] := by kernel_rfl
theorem cz21 : Try.prog.cellsOf 21 = 1 := by kernel_rfl
theorem tk21 : tyOk Try.prog 21 = true := by kernel_rfl
theorem ag21 : isAg Try.prog 21 = false := by kernel_rfl
theorem by21 : Try.prog.bytesOf 21 = 4 := by kernel_rfl
theorem se21 : slEl Try.prog 21 = none := by kernel_rfl
theorem ae21 : arEl Try.prog 21 = none := by kernel_rfl
theorem ik21 : intK Try.prog 21 = some .i32 := by kernel_rfl
theorem zz21 : zc Try.prog 21 = [V.int .i32 0] := by kernel_rfl
theorem cz22 : Try.prog.cellsOf 22 = 1 := by kernel_rfl
theorem tk22 : tyOk Try.prog 22 = true := by kernel_rfl
theorem ag22 : isAg Try.prog 22 = false := by kernel_rfl
theorem by22 : Try.prog.bytesOf 22 = 24 := by kernel_rfl
theorem se22 : slEl Try.prog 22 = some 3 := by kernel_rfl
theorem ae22 : arEl Try.prog 22 = none := by kernel_rfl
theorem zz22 : zc Try.prog 22 = [V.nil] := by kernel_rfl
theorem cz23 : Try.prog.cellsOf 23 = 1 := by kernel_rfl
theorem tk23 : tyOk Try.prog 23 = true := by kernel_rfl
theorem ag23 : isAg Try.prog 23 = false := by kernel_rfl
theorem by23 : Try.prog.bytesOf 23 = 8 := by kernel_rfl
theorem se23 : slEl Try.prog 23 = none := by kernel_rfl
theorem ae23 : arEl Try.prog 23 = none := by kernel_rfl
theorem ik23 : intK Try.prog 23 = some .i64 := by kernel_rfl
theorem zz23 : zc Try.prog 23 = [V.int .i64 0] := by kernel_rfl
theorem cz25 : Try.prog.cellsOf 25 = 1 := by kernel_rfl
theorem tk25 : tyOk Try.prog 25 = true := by kernel_rfl
theorem ag25 : isAg Try.prog 25 = false := by kernel_rfl
theorem by25 : Try.prog.bytesOf 25 = 8 := by kernel_rfl
theorem se25 : slEl Try.prog 25 = none := by kernel_rfl
theorem ae25 : arEl Try.prog 25 = none := by kernel_rfl
theorem if25 : isFn Try.prog 25 = true := by kernel_rfl
theorem zz25 : zc Try.prog 25 = [V.nilf] := by kernel_rfl
theorem cz26 : Try.prog.cellsOf 26 = 1 := by kernel_rfl
theorem tk26 : tyOk Try.prog 26 = true := by kernel_rfl
theorem ag26 : isAg Try.prog 26 = false := by kernel_rfl
theorem by26 : Try.prog.bytesOf 26 = 8 := by kernel_rfl
theorem se26 : slEl Try.prog 26 = none := by kernel_rfl
theorem ae26 : arEl Try.prog 26 = none := by kernel_rfl
theorem if26 : isFn Try.prog 26 = true := by kernel_rfl
theorem zz26 : zc Try.prog 26 = [V.nilf] := by kernel_rfl
theorem cz27 : Try.prog.cellsOf 27 = 1 := by kernel_rfl
theorem tk27 : tyOk Try.prog 27 = true := by kernel_rfl
theorem ag27 : isAg Try.prog 27 = false := by kernel_rfl
theorem by27 : Try.prog.bytesOf 27 = 8 := by kernel_rfl
theorem se27 : slEl Try.prog 27 = none := by kernel_rfl
theorem ae27 : arEl Try.prog 27 = none := by kernel_rfl
theorem if27 : isFn Try.prog 27 = true := by kernel_rfl
theorem zz27 : zc Try.prog 27 = [V.nilf] := by kernel_rfl
theorem cz29 : Try.prog.cellsOf 29 = 1 := by kernel_rfl
theorem tk29 : tyOk Try.prog 29 = true := by kernel_rfl
theorem ag29 : isAg Try.prog 29 = false := by kernel_rfl
theorem by29 : Try.prog.bytesOf 29 = 8 := by kernel_rfl
theorem se29 : slEl Try.prog 29 = none := by kernel_rfl
theorem ae29 : arEl Try.prog 29 = none := by kernel_rfl
theorem if29 : isFn Try.prog 29 = true := by kernel_rfl
theorem zz29 : zc Try.prog 29 = [V.nilf] := by kernel_rfl
theorem cz30 : Try.prog.cellsOf 30 = 4 := by kernel_rfl
theorem tk30 : tyOk Try.prog 30 = true := by kernel_rfl
theorem ag30 : isAg Try.prog 30 = true := by kernel_rfl
theorem by30 : Try.prog.bytesOf 30 = 32 := by kernel_rfl
theorem se30 : slEl Try.prog 30 = none := by kernel_rfl
theorem ae30 : arEl Try.prog 30 = none := by kernel_rfl
theorem st30 : isSt Try.prog 30 = true := by kernel_rfl
theorem fo30 : fldsOk Try.prog 30 = true := by kernel_rfl
theorem fd30_0 : fld Try.prog 30 0 = some (0, 3) := by kernel_rfl
theorem fd30_1 : fld Try.prog 30 1 = some (1, 3) := by kernel_rfl
theorem fd30_2 : fld Try.prog 30 2 = some (2, 3) := by kernel_rfl
theorem fd30_3 : fld Try.prog 30 3 = some (3, 3) := by kernel_rfl
theorem lt30 : leafTs Try.prog 30 = [3, 3, 3, 3] := by kernel_rfl
theorem fe30 : flatEq Try.prog 30 = true := by kernel_rfl
theorem zz30 : zc Try.prog 30 = [V.int .i64 0, V.int .i64 0, V.int .i64 0, V.int .i64 0] := by kernel_rfl
theorem cz31 : Try.prog.cellsOf 31 = 4 := by kernel_rfl
theorem tk31 : tyOk Try.prog 31 = true := by kernel_rfl
theorem ag31 : isAg Try.prog 31 = true := by kernel_rfl
theorem by31 : Try.prog.bytesOf 31 = 32 := by kernel_rfl
theorem se31 : slEl Try.prog 31 = none := by kernel_rfl
theorem ae31 : arEl Try.prog 31 = none := by kernel_rfl
theorem st31 : isSt Try.prog 31 = true := by kernel_rfl
theorem fo31 : fldsOk Try.prog 31 = true := by kernel_rfl
theorem fd31_0 : fld Try.prog 31 0 = some (0, 3) := by kernel_rfl
theorem fd31_1 : fld Try.prog 31 1 = some (1, 3) := by kernel_rfl
theorem fd31_2 : fld Try.prog 31 2 = some (2, 3) := by kernel_rfl
theorem fd31_3 : fld Try.prog 31 3 = some (3, 3) := by kernel_rfl
theorem lt31 : leafTs Try.prog 31 = [3, 3, 3, 3] := by kernel_rfl
theorem fe31 : flatEq Try.prog 31 = true := by kernel_rfl
theorem zz31 : zc Try.prog 31 = [V.int .i64 0, V.int .i64 0, V.int .i64 0, V.int .i64 0] := by kernel_rfl
theorem cz32 : Try.prog.cellsOf 32 = 1 := by kernel_rfl
theorem tk32 : tyOk Try.prog 32 = true := by kernel_rfl
theorem ag32 : isAg Try.prog 32 = false := by kernel_rfl
theorem by32 : Try.prog.bytesOf 32 = 8 := by kernel_rfl
theorem se32 : slEl Try.prog 32 = none := by kernel_rfl
theorem ae32 : arEl Try.prog 32 = none := by kernel_rfl
theorem if32 : isFn Try.prog 32 = true := by kernel_rfl
theorem zz32 : zc Try.prog 32 = [V.nilf] := by kernel_rfl
theorem cz33 : Try.prog.cellsOf 33 = 1 := by kernel_rfl
theorem tk33 : tyOk Try.prog 33 = true := by kernel_rfl
theorem ag33 : isAg Try.prog 33 = false := by kernel_rfl
theorem by33 : Try.prog.bytesOf 33 = 8 := by kernel_rfl
theorem se33 : slEl Try.prog 33 = none := by kernel_rfl
theorem ae33 : arEl Try.prog 33 = none := by kernel_rfl
theorem if33 : isFn Try.prog 33 = true := by kernel_rfl
theorem zz33 : zc Try.prog 33 = [V.nilf] := by kernel_rfl
theorem cz34 : Try.prog.cellsOf 34 = 3 := by kernel_rfl
theorem tk34 : tyOk Try.prog 34 = true := by kernel_rfl
theorem ag34 : isAg Try.prog 34 = true := by kernel_rfl
theorem by34 : Try.prog.bytesOf 34 = 24 := by kernel_rfl
theorem se34 : slEl Try.prog 34 = none := by kernel_rfl
theorem ae34 : arEl Try.prog 34 = none := by kernel_rfl
theorem st34 : isSt Try.prog 34 = true := by kernel_rfl
theorem fo34 : fldsOk Try.prog 34 = true := by kernel_rfl
theorem fd34_0 : fld Try.prog 34 0 = some (0, 3) := by kernel_rfl
theorem fd34_1 : fld Try.prog 34 1 = some (1, 3) := by kernel_rfl
theorem fd34_2 : fld Try.prog 34 2 = some (2, 3) := by kernel_rfl
theorem lt34 : leafTs Try.prog 34 = [3, 3, 3] := by kernel_rfl
theorem fe34 : flatEq Try.prog 34 = true := by kernel_rfl
theorem zz34 : zc Try.prog 34 = [V.int .i64 0, V.int .i64 0, V.int .i64 0] := by kernel_rfl
theorem cz35 : Try.prog.cellsOf 35 = 3 := by kernel_rfl
theorem tk35 : tyOk Try.prog 35 = true := by kernel_rfl
theorem ag35 : isAg Try.prog 35 = true := by kernel_rfl
theorem by35 : Try.prog.bytesOf 35 = 24 := by kernel_rfl
theorem se35 : slEl Try.prog 35 = none := by kernel_rfl
theorem ae35 : arEl Try.prog 35 = none := by kernel_rfl
theorem st35 : isSt Try.prog 35 = true := by kernel_rfl
theorem fo35 : fldsOk Try.prog 35 = true := by kernel_rfl
theorem fd35_0 : fld Try.prog 35 0 = some (0, 3) := by kernel_rfl
theorem fd35_1 : fld Try.prog 35 1 = some (1, 3) := by kernel_rfl
theorem fd35_2 : fld Try.prog 35 2 = some (2, 3) := by kernel_rfl
theorem lt35 : leafTs Try.prog 35 = [3, 3, 3] := by kernel_rfl
theorem fe35 : flatEq Try.prog 35 = true := by kernel_rfl
theorem zz35 : zc Try.prog 35 = [V.int .i64 0, V.int .i64 0, V.int .i64 0] := by kernel_rfl
theorem cz36 : Try.prog.cellsOf 36 = 1 := by kernel_rfl
theorem tk36 : tyOk Try.prog 36 = true := by kernel_rfl
theorem ag36 : isAg Try.prog 36 = false := by kernel_rfl
theorem by36 : Try.prog.bytesOf 36 = 8 := by kernel_rfl
theorem se36 : slEl Try.prog 36 = none := by kernel_rfl
theorem ae36 : arEl Try.prog 36 = none := by kernel_rfl
theorem if36 : isFn Try.prog 36 = true := by kernel_rfl
theorem zz36 : zc Try.prog 36 = [V.nilf] := by kernel_rfl
theorem cz37 : Try.prog.cellsOf 37 = 1 := by kernel_rfl
theorem tk37 : tyOk Try.prog 37 = true := by kernel_rfl
theorem ag37 : isAg Try.prog 37 = false := by kernel_rfl
theorem by37 : Try.prog.bytesOf 37 = 8 := by kernel_rfl
theorem se37 : slEl Try.prog 37 = none := by kernel_rfl
theorem ae37 : arEl Try.prog 37 = none := by kernel_rfl
theorem if37 : isFn Try.prog 37 = true := by kernel_rfl
theorem zz37 : zc Try.prog 37 = [V.nilf] := by kernel_rfl
theorem cz38 : Try.prog.cellsOf 38 = 1 := by kernel_rfl
theorem tk38 : tyOk Try.prog 38 = true := by kernel_rfl
theorem ag38 : isAg Try.prog 38 = false := by kernel_rfl
theorem by38 : Try.prog.bytesOf 38 = 24 := by kernel_rfl
theorem se38 : slEl Try.prog 38 = some 22 := by kernel_rfl
theorem ae38 : arEl Try.prog 38 = none := by kernel_rfl
theorem zz38 : zc Try.prog 38 = [V.nil] := by kernel_rfl
theorem cz39 : Try.prog.cellsOf 39 = 1 := by kernel_rfl
theorem tk39 : tyOk Try.prog 39 = true := by kernel_rfl
theorem ag39 : isAg Try.prog 39 = false := by kernel_rfl
theorem by39 : Try.prog.bytesOf 39 = 24 := by kernel_rfl
theorem se39 : slEl Try.prog 39 = some 69 := by kernel_rfl
theorem ae39 : arEl Try.prog 39 = none := by kernel_rfl
theorem zz39 : zc Try.prog 39 = [V.nil] := by kernel_rfl
theorem cz41 : Try.prog.cellsOf 41 = 1 := by kernel_rfl
theorem tk41 : tyOk Try.prog 41 = true := by kernel_rfl
theorem ag41 : isAg Try.prog 41 = false := by kernel_rfl
theorem by41 : Try.prog.bytesOf 41 = 8 := by kernel_rfl
theorem se41 : slEl Try.prog 41 = none := by kernel_rfl
theorem ae41 : arEl Try.prog 41 = none := by kernel_rfl
theorem if41 : isFn Try.prog 41 = true := by kernel_rfl
theorem zz41 : zc Try.prog 41 = [V.nilf] := by kernel_rfl
theorem cz42 : Try.prog.cellsOf 42 = 1 := by kernel_rfl
theorem tk42 : tyOk Try.prog 42 = true := by kernel_rfl
theorem ag42 : isAg Try.prog 42 = false := by kernel_rfl
theorem by42 : Try.prog.bytesOf 42 = 8 := by kernel_rfl
theorem se42 : slEl Try.prog 42 = none := by kernel_rfl
theorem ae42 : arEl Try.prog 42 = none := by kernel_rfl
theorem if42 : isFn Try.prog 42 = true := by kernel_rfl
theorem zz42 : zc Try.prog 42 = [V.nilf] := by kernel_rfl
theorem cz43 : Try.prog.cellsOf 43 = 1 := by kernel_rfl
theorem tk43 : tyOk Try.prog 43 = true := by kernel_rfl
theorem ag43 : isAg Try.prog 43 = false := by kernel_rfl
theorem by43 : Try.prog.bytesOf 43 = 8 := by kernel_rfl
theorem se43 : slEl Try.prog 43 = none := by kernel_rfl
theorem ae43 : arEl Try.prog 43 = none := by kernel_rfl
theorem if43 : isFn Try.prog 43 = true := by kernel_rfl
theorem zz43 : zc Try.prog 43 = [V.nilf] := by kernel_rfl
theorem cz44 : Try.prog.cellsOf 44 = 2 := by kernel_rfl
theorem tk44 : tyOk Try.prog 44 = true := by kernel_rfl
theorem ag44 : isAg Try.prog 44 = true := by kernel_rfl
theorem by44 : Try.prog.bytesOf 44 = 16 := by kernel_rfl
theorem se44 : slEl Try.prog 44 = none := by kernel_rfl
theorem ae44 : arEl Try.prog 44 = none := by kernel_rfl
theorem st44 : isSt Try.prog 44 = true := by kernel_rfl
theorem fo44 : fldsOk Try.prog 44 = true := by kernel_rfl
theorem fd44_0 : fld Try.prog 44 0 = some (0, 3) := by kernel_rfl
theorem fd44_1 : fld Try.prog 44 1 = some (1, 3) := by kernel_rfl
theorem lt44 : leafTs Try.prog 44 = [3, 3] := by kernel_rfl
theorem fe44 : flatEq Try.prog 44 = true := by kernel_rfl
theorem zz44 : zc Try.prog 44 = [V.int .i64 0, V.int .i64 0] := by kernel_rfl
theorem cz45 : Try.prog.cellsOf 45 = 2 := by kernel_rfl
theorem tk45 : tyOk Try.prog 45 = true := by kernel_rfl
theorem ag45 : isAg Try.prog 45 = true := by kernel_rfl
theorem by45 : Try.prog.bytesOf 45 = 16 := by kernel_rfl
theorem se45 : slEl Try.prog 45 = none := by kernel_rfl
theorem ae45 : arEl Try.prog 45 = none := by kernel_rfl
theorem st45 : isSt Try.prog 45 = true := by kernel_rfl
theorem fo45 : fldsOk Try.prog 45 = true := by kernel_rfl
theorem fd45_0 : fld Try.prog 45 0 = some (0, 3) := by kernel_rfl
theorem fd45_1 : fld Try.prog 45 1 = some (1, 3) := by kernel_rfl
theorem lt45 : leafTs Try.prog 45 = [3, 3] := by kernel_rfl
theorem fe45 : flatEq Try.prog 45 = true := by kernel_rfl
theorem zz45 : zc Try.prog 45 = [V.int .i64 0, V.int .i64 0] := by kernel_rfl
theorem cz47 : Try.prog.cellsOf 47 = 1 := by kernel_rfl
theorem tk47 : tyOk Try.prog 47 = true := by kernel_rfl
theorem ag47 : isAg Try.prog 47 = false := by kernel_rfl
theorem by47 : Try.prog.bytesOf 47 = 8 := by kernel_rfl
theorem se47 : slEl Try.prog 47 = none := by kernel_rfl
theorem ae47 : arEl Try.prog 47 = none := by kernel_rfl
theorem if47 : isFn Try.prog 47 = true := by kernel_rfl
theorem zz47 : zc Try.prog 47 = [V.nilf] := by kernel_rfl
theorem cz48 : Try.prog.cellsOf 48 = 1 := by kernel_rfl
theorem tk48 : tyOk Try.prog 48 = true := by kernel_rfl
theorem ag48 : isAg Try.prog 48 = false := by kernel_rfl
theorem by48 : Try.prog.bytesOf 48 = 8 := by kernel_rfl
theorem se48 : slEl Try.prog 48 = none := by kernel_rfl
theorem ae48 : arEl Try.prog 48 = none := by kernel_rfl
theorem if48 : isFn Try.prog 48 = true := by kernel_rfl
theorem zz48 : zc Try.prog 48 = [V.nilf] := by kernel_rfl
theorem cz49 : Try.prog.cellsOf 49 = 1 := by kernel_rfl
theorem tk49 : tyOk Try.prog 49 = true := by kernel_rfl
theorem ag49 : isAg Try.prog 49 = false := by kernel_rfl
theorem by49 : Try.prog.bytesOf 49 = 8 := by kernel_rfl
theorem se49 : slEl Try.prog 49 = none := by kernel_rfl
theorem ae49 : arEl Try.prog 49 = none := by kernel_rfl
theorem if49 : isFn Try.prog 49 = true := by kernel_rfl
theorem zz49 : zc Try.prog 49 = [V.nilf] := by kernel_rfl
theorem cz50 : Try.prog.cellsOf 50 = 1 := by kernel_rfl
theorem tk50 : tyOk Try.prog 50 = true := by kernel_rfl
theorem ag50 : isAg Try.prog 50 = false := by kernel_rfl
theorem by50 : Try.prog.bytesOf 50 = 8 := by kernel_rfl
theorem se50 : slEl Try.prog 50 = none := by kernel_rfl
theorem ae50 : arEl Try.prog 50 = none := by kernel_rfl
theorem if50 : isFn Try.prog 50 = true := by kernel_rfl
theorem zz50 : zc Try.prog 50 = [V.nilf] := by kernel_rfl
theorem cz51 : Try.prog.cellsOf 51 = 2 := by kernel_rfl
theorem tk51 : tyOk Try.prog 51 = true := by kernel_rfl
theorem ag51 : isAg Try.prog 51 = true := by kernel_rfl
theorem by51 : Try.prog.bytesOf 51 = 48 := by kernel_rfl
theorem se51 : slEl Try.prog 51 = none := by kernel_rfl
theorem ae51 : arEl Try.prog 51 = none := by kernel_rfl
theorem st51 : isSt Try.prog 51 = true := by kernel_rfl
theorem fo51 : fldsOk Try.prog 51 = true := by kernel_rfl
theorem fd51_0 : fld Try.prog 51 0 = some (0, 22) := by kernel_rfl
theorem fd51_1 : fld Try.prog 51 1 = some (1, 22) := by kernel_rfl
theorem zz51 : zc Try.prog 51 = [V.nil, V.nil] := by kernel_rfl
theorem cz52 : Try.prog.cellsOf 52 = 2 := by kernel_rfl
theorem tk52 : tyOk Try.prog 52 = true := by kernel_rfl
theorem ag52 : isAg Try.prog 52 = true := by kernel_rfl
theorem by52 : Try.prog.bytesOf 52 = 48 := by kernel_rfl
theorem se52 : slEl Try.prog 52 = none := by kernel_rfl
theorem ae52 : arEl Try.prog 52 = none := by kernel_rfl
theorem st52 : isSt Try.prog 52 = true := by kernel_rfl
theorem fo52 : fldsOk Try.prog 52 = true := by kernel_rfl
theorem fd52_0 : fld Try.prog 52 0 = some (0, 22) := by kernel_rfl
theorem fd52_1 : fld Try.prog 52 1 = some (1, 22) := by kernel_rfl
theorem zz52 : zc Try.prog 52 = [V.nil, V.nil] := by kernel_rfl
theorem cz53 : Try.prog.cellsOf 53 = 1 := by kernel_rfl
theorem tk53 : tyOk Try.prog 53 = true := by kernel_rfl
theorem ag53 : isAg Try.prog 53 = false := by kernel_rfl
theorem by53 : Try.prog.bytesOf 53 = 8 := by kernel_rfl
theorem se53 : slEl Try.prog 53 = none := by kernel_rfl
theorem ae53 : arEl Try.prog 53 = none := by kernel_rfl
theorem if53 : isFn Try.prog 53 = true := by kernel_rfl
theorem zz53 : zc Try.prog 53 = [V.nilf] := by kernel_rfl
theorem cz55 : Try.prog.cellsOf 55 = 1 := by kernel_rfl
theorem tk55 : tyOk Try.prog 55 = true := by kernel_rfl
theorem ag55 : isAg Try.prog 55 = false := by kernel_rfl
theorem by55 : Try.prog.bytesOf 55 = 8 := by kernel_rfl
theorem se55 : slEl Try.prog 55 = none := by kernel_rfl
theorem ae55 : arEl Try.prog 55 = none := by kernel_rfl
theorem if55 : isFn Try.prog 55 = true := by kernel_rfl
theorem zz55 : zc Try.prog 55 = [V.nilf] := by kernel_rfl
theorem cz56 : Try.prog.cellsOf 56 = 1 := by kernel_rfl
theorem tk56 : tyOk Try.prog 56 = true := by kernel_rfl
theorem ag56 : isAg Try.prog 56 = false := by kernel_rfl
theorem by56 : Try.prog.bytesOf 56 = 8 := by kernel_rfl
theorem se56 : slEl Try.prog 56 = none := by kernel_rfl
theorem ae56 : arEl Try.prog 56 = none := by kernel_rfl
theorem if56 : isFn Try.prog 56 = true := by kernel_rfl
theorem zz56 : zc Try.prog 56 = [V.nilf] := by kernel_rfl
theorem cz57 : Try.prog.cellsOf 57 = 1 := by kernel_rfl
theorem tk57 : tyOk Try.prog 57 = true := by kernel_rfl
theorem ag57 : isAg Try.prog 57 = false := by kernel_rfl
theorem by57 : Try.prog.bytesOf 57 = 8 := by kernel_rfl
theorem se57 : slEl Try.prog 57 = none := by kernel_rfl
theorem ae57 : arEl Try.prog 57 = none := by kernel_rfl
theorem if57 : isFn Try.prog 57 = true := by kernel_rfl
theorem zz57 : zc Try.prog 57 = [V.nilf] := by kernel_rfl
theorem cz59 : Try.prog.cellsOf 59 = 1 := by kernel_rfl
theorem tk59 : tyOk Try.prog 59 = true := by kernel_rfl
theorem ag59 : isAg Try.prog 59 = false := by kernel_rfl
theorem by59 : Try.prog.bytesOf 59 = 8 := by kernel_rfl
theorem se59 : slEl Try.prog 59 = none := by kernel_rfl
theorem ae59 : arEl Try.prog 59 = none := by kernel_rfl
theorem if59 : isFn Try.prog 59 = true := by kernel_rfl
theorem zz59 : zc Try.prog 59 = [V.nilf] := by kernel_rfl
theorem cz61 : Try.prog.cellsOf 61 = 1 := by kernel_rfl
theorem tk61 : tyOk Try.prog 61 = true := by kernel_rfl
theorem ag61 : isAg Try.prog 61 = false := by kernel_rfl
theorem by61 : Try.prog.bytesOf 61 = 8 := by kernel_rfl
theorem se61 : slEl Try.prog 61 = none := by kernel_rfl
theorem ae61 : arEl Try.prog 61 = none := by kernel_rfl
theorem if61 : isFn Try.prog 61 = true := by kernel_rfl
theorem zz61 : zc Try.prog 61 = [V.nilf] := by kernel_rfl
theorem cz62 : Try.prog.cellsOf 62 = 1 := by kernel_rfl
theorem tk62 : tyOk Try.prog 62 = true := by kernel_rfl
theorem ag62 : isAg Try.prog 62 = false := by kernel_rfl
theorem by62 : Try.prog.bytesOf 62 = 8 := by kernel_rfl
theorem se62 : slEl Try.prog 62 = none := by kernel_rfl
theorem ae62 : arEl Try.prog 62 = none := by kernel_rfl
theorem if62 : isFn Try.prog 62 = true := by kernel_rfl
theorem zz62 : zc Try.prog 62 = [V.nilf] := by kernel_rfl
theorem cz63 : Try.prog.cellsOf 63 = 1 := by kernel_rfl
theorem tk63 : tyOk Try.prog 63 = true := by kernel_rfl
theorem ag63 : isAg Try.prog 63 = false := by kernel_rfl
theorem by63 : Try.prog.bytesOf 63 = 8 := by kernel_rfl
theorem se63 : slEl Try.prog 63 = none := by kernel_rfl
theorem ae63 : arEl Try.prog 63 = none := by kernel_rfl
theorem if63 : isFn Try.prog 63 = true := by kernel_rfl
theorem zz63 : zc Try.prog 63 = [V.nilf] := by kernel_rfl
theorem cz64 : Try.prog.cellsOf 64 = 2 := by kernel_rfl
theorem tk64 : tyOk Try.prog 64 = true := by kernel_rfl
theorem ag64 : isAg Try.prog 64 = true := by kernel_rfl
theorem by64 : Try.prog.bytesOf 64 = 48 := by kernel_rfl
theorem se64 : slEl Try.prog 64 = none := by kernel_rfl
theorem ae64 : arEl Try.prog 64 = none := by kernel_rfl
theorem st64 : isSt Try.prog 64 = true := by kernel_rfl
theorem fo64 : fldsOk Try.prog 64 = true := by kernel_rfl
theorem fd64_0 : fld Try.prog 64 0 = some (0, 22) := by kernel_rfl
theorem fd64_1 : fld Try.prog 64 1 = some (1, 22) := by kernel_rfl
theorem zz64 : zc Try.prog 64 = [V.nil, V.nil] := by kernel_rfl
theorem cz65 : Try.prog.cellsOf 65 = 2 := by kernel_rfl
theorem tk65 : tyOk Try.prog 65 = true := by kernel_rfl
theorem ag65 : isAg Try.prog 65 = true := by kernel_rfl
theorem by65 : Try.prog.bytesOf 65 = 48 := by kernel_rfl
theorem se65 : slEl Try.prog 65 = none := by kernel_rfl
theorem ae65 : arEl Try.prog 65 = none := by kernel_rfl
theorem st65 : isSt Try.prog 65 = true := by kernel_rfl
theorem fo65 : fldsOk Try.prog 65 = true := by kernel_rfl
theorem fd65_0 : fld Try.prog 65 0 = some (0, 22) := by kernel_rfl
theorem fd65_1 : fld Try.prog 65 1 = some (1, 22) := by kernel_rfl
theorem zz65 : zc Try.prog 65 = [V.nil, V.nil] := by kernel_rfl
theorem cz66 : Try.prog.cellsOf 66 = 1 := by kernel_rfl
theorem tk66 : tyOk Try.prog 66 = true := by kernel_rfl
theorem ag66 : isAg Try.prog 66 = false := by kernel_rfl
theorem by66 : Try.prog.bytesOf 66 = 8 := by kernel_rfl
theorem se66 : slEl Try.prog 66 = none := by kernel_rfl
theorem ae66 : arEl Try.prog 66 = none := by kernel_rfl
theorem if66 : isFn Try.prog 66 = true := by kernel_rfl
theorem zz66 : zc Try.prog 66 = [V.nilf] := by kernel_rfl
theorem cz67 : Try.prog.cellsOf 67 = 1 := by kernel_rfl
theorem tk67 : tyOk Try.prog 67 = true := by kernel_rfl
theorem ag67 : isAg Try.prog 67 = false := by kernel_rfl
theorem by67 : Try.prog.bytesOf 67 = 8 := by kernel_rfl
theorem se67 : slEl Try.prog 67 = none := by kernel_rfl
theorem ae67 : arEl Try.prog 67 = none := by kernel_rfl
theorem if67 : isFn Try.prog 67 = true := by kernel_rfl
theorem zz67 : zc Try.prog 67 = [V.nilf] := by kernel_rfl
theorem cz68 : Try.prog.cellsOf 68 = 1 := by kernel_rfl
theorem tk68 : tyOk Try.prog 68 = true := by kernel_rfl
theorem ag68 : isAg Try.prog 68 = false := by kernel_rfl
theorem by68 : Try.prog.bytesOf 68 = 8 := by kernel_rfl
theorem se68 : slEl Try.prog 68 = none := by kernel_rfl
theorem ae68 : arEl Try.prog 68 = none := by kernel_rfl
theorem if68 : isFn Try.prog 68 = true := by kernel_rfl
theorem zz68 : zc Try.prog 68 = [V.nilf] := by kernel_rfl
theorem cz69 : Try.prog.cellsOf 69 = 2 := by kernel_rfl
theorem tk69 : tyOk Try.prog 69 = true := by kernel_rfl
theorem ag69 : isAg Try.prog 69 = true := by kernel_rfl
theorem by69 : Try.prog.bytesOf 69 = 16 := by kernel_rfl
theorem se69 : slEl Try.prog 69 = none := by kernel_rfl
theorem ae69 : arEl Try.prog 69 = some (2, 3) := by kernel_rfl
theorem st69 : isSt Try.prog 69 = false := by kernel_rfl
theorem lt69 : leafTs Try.prog 69 = [3, 3] := by kernel_rfl
theorem fe69 : flatEq Try.prog 69 = true := by kernel_rfl
theorem zz69 : zc Try.prog 69 = [V.int .i64 0, V.int .i64 0] := by kernel_rfl
theorem cz70 : Try.prog.cellsOf 70 = 1 := by kernel_rfl
theorem tk70 : tyOk Try.prog 70 = true := by kernel_rfl
theorem ag70 : isAg Try.prog 70 = false := by kernel_rfl
theorem by70 : Try.prog.bytesOf 70 = 8 := by kernel_rfl
theorem se70 : slEl Try.prog 70 = none := by kernel_rfl
theorem ae70 : arEl Try.prog 70 = none := by kernel_rfl
theorem if70 : isFn Try.prog 70 = true := by kernel_rfl
theorem zz70 : zc Try.prog 70 = [V.nilf] := by kernel_rfl
theorem cz71 : Try.prog.cellsOf 71 = 1 := by kernel_rfl
theorem tk71 : tyOk Try.prog 71 = true := by kernel_rfl
theorem ag71 : isAg Try.prog 71 = false := by kernel_rfl
theorem by71 : Try.prog.bytesOf 71 = 8 := by kernel_rfl
theorem se71 : slEl Try.prog 71 = none := by kernel_rfl
theorem ae71 : arEl Try.prog 71 = none := by kernel_rfl
theorem if71 : isFn Try.prog 71 = true := by kernel_rfl
theorem zz71 : zc Try.prog 71 = [V.nilf] := by kernel_rfl
theorem cz73 : Try.prog.cellsOf 73 = 2 := by kernel_rfl
theorem tk73 : tyOk Try.prog 73 = true := by kernel_rfl
theorem ag73 : isAg Try.prog 73 = true := by kernel_rfl
theorem by73 : Try.prog.bytesOf 73 = 16 := by kernel_rfl
theorem se73 : slEl Try.prog 73 = none := by kernel_rfl
theorem ae73 : arEl Try.prog 73 = none := by kernel_rfl
theorem st73 : isSt Try.prog 73 = true := by kernel_rfl
theorem fo73 : fldsOk Try.prog 73 = true := by kernel_rfl
theorem fd73_0 : fld Try.prog 73 0 = some (0, 3) := by kernel_rfl
theorem fd73_1 : fld Try.prog 73 1 = some (1, 3) := by kernel_rfl
theorem lt73 : leafTs Try.prog 73 = [3, 3] := by kernel_rfl
theorem fe73 : flatEq Try.prog 73 = true := by kernel_rfl
theorem zz73 : zc Try.prog 73 = [V.int .i64 0, V.int .i64 0] := by kernel_rfl
theorem cz74 : Try.prog.cellsOf 74 = 2 := by kernel_rfl
theorem tk74 : tyOk Try.prog 74 = true := by kernel_rfl
theorem ag74 : isAg Try.prog 74 = true := by kernel_rfl
theorem by74 : Try.prog.bytesOf 74 = 16 := by kernel_rfl
theorem se74 : slEl Try.prog 74 = none := by kernel_rfl
theorem ae74 : arEl Try.prog 74 = none := by kernel_rfl
theorem st74 : isSt Try.prog 74 = true := by kernel_rfl
theorem fo74 : fldsOk Try.prog 74 = true := by kernel_rfl
theorem fd74_0 : fld Try.prog 74 0 = some (0, 3) := by kernel_rfl
theorem fd74_1 : fld Try.prog 74 1 = some (1, 3) := by kernel_rfl
theorem lt74 : leafTs Try.prog 74 = [3, 3] := by kernel_rfl
theorem fe74 : flatEq Try.prog 74 = true := by kernel_rfl
theorem zz74 : zc Try.prog 74 = [V.int .i64 0, V.int .i64 0] := by kernel_rfl
theorem cz75 : Try.prog.cellsOf 75 = 1 := by kernel_rfl
theorem tk75 : tyOk Try.prog 75 = true := by kernel_rfl
theorem ag75 : isAg Try.prog 75 = false := by kernel_rfl
theorem by75 : Try.prog.bytesOf 75 = 8 := by kernel_rfl
theorem se75 : slEl Try.prog 75 = none := by kernel_rfl
theorem ae75 : arEl Try.prog 75 = none := by kernel_rfl
theorem if75 : isFn Try.prog 75 = true := by kernel_rfl
theorem zz75 : zc Try.prog 75 = [V.nilf] := by kernel_rfl
theorem cz76 : Try.prog.cellsOf 76 = 1 := by kernel_rfl
theorem tk76 : tyOk Try.prog 76 = true := by kernel_rfl
theorem ag76 : isAg Try.prog 76 = false := by kernel_rfl
theorem by76 : Try.prog.bytesOf 76 = 8 := by kernel_rfl
theorem se76 : slEl Try.prog 76 = none := by kernel_rfl
theorem ae76 : arEl Try.prog 76 = none := by kernel_rfl
theorem if76 : isFn Try.prog 76 = true := by kernel_rfl
theorem zz76 : zc Try.prog 76 = [V.nilf] := by kernel_rfl
theorem cz77 : Try.prog.cellsOf 77 = 1 := by kernel_rfl
theorem tk77 : tyOk Try.prog 77 = true := by kernel_rfl
theorem ag77 : isAg Try.prog 77 = false := by kernel_rfl
theorem by77 : Try.prog.bytesOf 77 = 8 := by kernel_rfl
theorem se77 : slEl Try.prog 77 = none := by kernel_rfl
theorem ae77 : arEl Try.prog 77 = none := by kernel_rfl
theorem if77 : isFn Try.prog 77 = true := by kernel_rfl
theorem zz77 : zc Try.prog 77 = [V.nilf] := by kernel_rfl
theorem cz78 : Try.prog.cellsOf 78 = 1 := by kernel_rfl
theorem tk78 : tyOk Try.prog 78 = true := by kernel_rfl
theorem ag78 : isAg Try.prog 78 = false := by kernel_rfl
theorem by78 : Try.prog.bytesOf 78 = 8 := by kernel_rfl
theorem se78 : slEl Try.prog 78 = none := by kernel_rfl
theorem ae78 : arEl Try.prog 78 = none := by kernel_rfl
theorem if78 : isFn Try.prog 78 = true := by kernel_rfl
theorem zz78 : zc Try.prog 78 = [V.nilf] := by kernel_rfl
theorem cz79 : Try.prog.cellsOf 79 = 1 := by kernel_rfl
theorem tk79 : tyOk Try.prog 79 = true := by kernel_rfl
theorem ag79 : isAg Try.prog 79 = false := by kernel_rfl
theorem by79 : Try.prog.bytesOf 79 = 8 := by kernel_rfl
theorem se79 : slEl Try.prog 79 = none := by kernel_rfl
theorem ae79 : arEl Try.prog 79 = none := by kernel_rfl
theorem if79 : isFn Try.prog 79 = true := by kernel_rfl
theorem zz79 : zc Try.prog 79 = [V.nilf] := by kernel_rfl
theorem cz80 : Try.prog.cellsOf 80 = 1 := by kernel_rfl
theorem tk80 : tyOk Try.prog 80 = true := by kernel_rfl
theorem ag80 : isAg Try.prog 80 = false := by kernel_rfl
theorem by80 : Try.prog.bytesOf 80 = 8 := by kernel_rfl
theorem se80 : slEl Try.prog 80 = none := by kernel_rfl
theorem ae80 : arEl Try.prog 80 = none := by kernel_rfl
theorem if80 : isFn Try.prog 80 = true := by kernel_rfl
theorem zz80 : zc Try.prog 80 = [V.nilf] := by kernel_rfl
theorem cz81 : Try.prog.cellsOf 81 = 1 := by kernel_rfl
theorem tk81 : tyOk Try.prog 81 = true := by kernel_rfl
theorem ag81 : isAg Try.prog 81 = false := by kernel_rfl
theorem by81 : Try.prog.bytesOf 81 = 8 := by kernel_rfl
theorem se81 : slEl Try.prog 81 = none := by kernel_rfl
theorem ae81 : arEl Try.prog 81 = none := by kernel_rfl
theorem if81 : isFn Try.prog 81 = true := by kernel_rfl
theorem zz81 : zc Try.prog 81 = [V.nilf] := by kernel_rfl
theorem cz82 : Try.prog.cellsOf 82 = 1 := by kernel_rfl
theorem tk82 : tyOk Try.prog 82 = true := by kernel_rfl
theorem ag82 : isAg Try.prog 82 = false := by kernel_rfl
theorem by82 : Try.prog.bytesOf 82 = 8 := by kernel_rfl
theorem se82 : slEl Try.prog 82 = none := by kernel_rfl
theorem ae82 : arEl Try.prog 82 = none := by kernel_rfl
theorem ip82 : isPtr Try.prog 82 = true := by kernel_rfl
theorem zz82 : zc Try.prog 82 = [V.nilp] := by kernel_rfl
theorem cz84 : Try.prog.cellsOf 84 = 1 := by kernel_rfl
theorem tk84 : tyOk Try.prog 84 = true := by kernel_rfl
theorem ag84 : isAg Try.prog 84 = false := by kernel_rfl
theorem by84 : Try.prog.bytesOf 84 = 8 := by kernel_rfl
theorem se84 : slEl Try.prog 84 = none := by kernel_rfl
theorem ae84 : arEl Try.prog 84 = none := by kernel_rfl
theorem if84 : isFn Try.prog 84 = true := by kernel_rfl
theorem zz84 : zc Try.prog 84 = [V.nilf] := by kernel_rfl
theorem cz85 : Try.prog.cellsOf 85 = 2 := by kernel_rfl
theorem tk85 : tyOk Try.prog 85 = true := by kernel_rfl
theorem ag85 : isAg Try.prog 85 = true := by kernel_rfl
theorem by85 : Try.prog.bytesOf 85 = 48 := by kernel_rfl
theorem se85 : slEl Try.prog 85 = none := by kernel_rfl
theorem ae85 : arEl Try.prog 85 = none := by kernel_rfl
theorem st85 : isSt Try.prog 85 = true := by kernel_rfl
theorem fo85 : fldsOk Try.prog 85 = true := by kernel_rfl
theorem fd85_0 : fld Try.prog 85 0 = some (0, 22) := by kernel_rfl
theorem fd85_1 : fld Try.prog 85 1 = some (1, 22) := by kernel_rfl
theorem zz85 : zc Try.prog 85 = [V.nil, V.nil] := by kernel_rfl
theorem cz86 : Try.prog.cellsOf 86 = 2 := by kernel_rfl
theorem tk86 : tyOk Try.prog 86 = true := by kernel_rfl
theorem ag86 : isAg Try.prog 86 = true := by kernel_rfl
theorem by86 : Try.prog.bytesOf 86 = 48 := by kernel_rfl
theorem se86 : slEl Try.prog 86 = none := by kernel_rfl
theorem ae86 : arEl Try.prog 86 = none := by kernel_rfl
theorem st86 : isSt Try.prog 86 = true := by kernel_rfl
theorem fo86 : fldsOk Try.prog 86 = true := by kernel_rfl
theorem fd86_0 : fld Try.prog 86 0 = some (0, 22) := by kernel_rfl
theorem fd86_1 : fld Try.prog 86 1 = some (1, 22) := by kernel_rfl
theorem zz86 : zc Try.prog 86 = [V.nil, V.nil] := by kernel_rfl
theorem cz87 : Try.prog.cellsOf 87 = 1 := by kernel_rfl
theorem tk87 : tyOk Try.prog 87 = true := by kernel_rfl
theorem ag87 : isAg Try.prog 87 = false := by kernel_rfl
theorem by87 : Try.prog.bytesOf 87 = 8 := by kernel_rfl
theorem se87 : slEl Try.prog 87 = none := by kernel_rfl
theorem ae87 : arEl Try.prog 87 = none := by kernel_rfl
theorem if87 : isFn Try.prog 87 = true := by kernel_rfl
theorem zz87 : zc Try.prog 87 = [V.nilf] := by kernel_rfl
theorem cz88 : Try.prog.cellsOf 88 = 1 := by kernel_rfl
theorem tk88 : tyOk Try.prog 88 = true := by kernel_rfl
theorem ag88 : isAg Try.prog 88 = false := by kernel_rfl
theorem by88 : Try.prog.bytesOf 88 = 24 := by kernel_rfl
theorem se88 : slEl Try.prog 88 = some 86 := by kernel_rfl
theorem ae88 : arEl Try.prog 88 = none := by kernel_rfl
theorem zz88 : zc Try.prog 88 = [V.nil] := by kernel_rfl
theorem cz89 : Try.prog.cellsOf 89 = 1 := by kernel_rfl
theorem tk89 : tyOk Try.prog 89 = true := by kernel_rfl
theorem ag89 : isAg Try.prog 89 = false := by kernel_rfl
theorem by89 : Try.prog.bytesOf 89 = 8 := by kernel_rfl
theorem se89 : slEl Try.prog 89 = none := by kernel_rfl
theorem ae89 : arEl Try.prog 89 = none := by kernel_rfl
theorem if89 : isFn Try.prog 89 = true := by kernel_rfl
theorem zz89 : zc Try.prog 89 = [V.nilf] := by kernel_rfl
theorem cz90 : Try.prog.cellsOf 90 = 1 := by kernel_rfl
theorem tk90 : tyOk Try.prog 90 = true := by kernel_rfl
theorem ag90 : isAg Try.prog 90 = false := by kernel_rfl
theorem by90 : Try.prog.bytesOf 90 = 8 := by kernel_rfl
theorem se90 : slEl Try.prog 90 = none := by kernel_rfl
theorem ae90 : arEl Try.prog 90 = none := by kernel_rfl
theorem if90 : isFn Try.prog 90 = true := by kernel_rfl
theorem zz90 : zc Try.prog 90 = [V.nilf] := by kernel_rfl
theorem cz91 : Try.prog.cellsOf 91 = 1 := by kernel_rfl
theorem tk91 : tyOk Try.prog 91 = true := by kernel_rfl
theorem ag91 : isAg Try.prog 91 = false := by kernel_rfl
theorem by91 : Try.prog.bytesOf 91 = 8 := by kernel_rfl
theorem se91 : slEl Try.prog 91 = none := by kernel_rfl
theorem ae91 : arEl Try.prog 91 = none := by kernel_rfl
theorem if91 : isFn Try.prog 91 = true := by kernel_rfl
theorem zz91 : zc Try.prog 91 = [V.nilf] := by kernel_rfl
theorem cz92 : Try.prog.cellsOf 92 = 1 := by kernel_rfl
theorem tk92 : tyOk Try.prog 92 = true := by kernel_rfl
theorem ag92 : isAg Try.prog 92 = false := by kernel_rfl
theorem by92 : Try.prog.bytesOf 92 = 8 := by kernel_rfl
theorem se92 : slEl Try.prog 92 = none := by kernel_rfl
theorem ae92 : arEl Try.prog 92 = none := by kernel_rfl
theorem if92 : isFn Try.prog 92 = true := by kernel_rfl
theorem zz92 : zc Try.prog 92 = [V.nilf] := by kernel_rfl
theorem cz94 : Try.prog.cellsOf 94 = 1 := by kernel_rfl
theorem tk94 : tyOk Try.prog 94 = true := by kernel_rfl
theorem ag94 : isAg Try.prog 94 = false := by kernel_rfl
theorem by94 : Try.prog.bytesOf 94 = 8 := by kernel_rfl
theorem se94 : slEl Try.prog 94 = none := by kernel_rfl
theorem ae94 : arEl Try.prog 94 = none := by kernel_rfl
theorem if94 : isFn Try.prog 94 = true := by kernel_rfl
theorem zz94 : zc Try.prog 94 = [V.nilf] := by kernel_rfl
theorem cz95 : Try.prog.cellsOf 95 = 1 := by kernel_rfl
theorem tk95 : tyOk Try.prog 95 = true := by kernel_rfl
theorem ag95 : isAg Try.prog 95 = false := by kernel_rfl
theorem by95 : Try.prog.bytesOf 95 = 8 := by kernel_rfl
theorem se95 : slEl Try.prog 95 = none := by kernel_rfl
theorem ae95 : arEl Try.prog 95 = none := by kernel_rfl
theorem ik95 : intK Try.prog 95 = some .u64 := by kernel_rfl
theorem zz95 : zc Try.prog 95 = [V.int .u64 0] := by kernel_rfl
theorem cz96 : Try.prog.cellsOf 96 = 1 := by kernel_rfl
theorem tk96 : tyOk Try.prog 96 = true := by kernel_rfl
theorem ag96 : isAg Try.prog 96 = false := by kernel_rfl
theorem by96 : Try.prog.bytesOf 96 = 8 := by kernel_rfl
theorem se96 : slEl Try.prog 96 = none := by kernel_rfl
theorem ae96 : arEl Try.prog 96 = none := by kernel_rfl
theorem if96 : isFn Try.prog 96 = true := by kernel_rfl
theorem zz96 : zc Try.prog 96 = [V.nilf] := by kernel_rfl
theorem cz97 : Try.prog.cellsOf 97 = 1 := by kernel_rfl
theorem tk97 : tyOk Try.prog 97 = true := by kernel_rfl
theorem ag97 : isAg Try.prog 97 = false := by kernel_rfl
theorem by97 : Try.prog.bytesOf 97 = 8 := by kernel_rfl
theorem se97 : slEl Try.prog 97 = none := by kernel_rfl
theorem ae97 : arEl Try.prog 97 = none := by kernel_rfl
theorem if97 : isFn Try.prog 97 = true := by kernel_rfl
theorem zz97 : zc Try.prog 97 = [V.nilf] := by kernel_rfl
theorem cz98 : Try.prog.cellsOf 98 = 1 := by kernel_rfl
theorem tk98 : tyOk Try.prog 98 = true := by kernel_rfl
theorem ag98 : isAg Try.prog 98 = false := by kernel_rfl
theorem by98 : Try.prog.bytesOf 98 = 8 := by kernel_rfl
theorem se98 : slEl Try.prog 98 = none := by kernel_rfl
theorem ae98 : arEl Try.prog 98 = none := by kernel_rfl
theorem if98 : isFn Try.prog 98 = true := by kernel_rfl
theorem zz98 : zc Try.prog 98 = [V.nilf] := by kernel_rfl
theorem cz99 : Try.prog.cellsOf 99 = 2 := by kernel_rfl
theorem tk99 : tyOk Try.prog 99 = true := by kernel_rfl
theorem ag99 : isAg Try.prog 99 = true := by kernel_rfl
theorem by99 : Try.prog.bytesOf 99 = 32 := by kernel_rfl
theorem se99 : slEl Try.prog 99 = none := by kernel_rfl
theorem ae99 : arEl Try.prog 99 = none := by kernel_rfl
theorem st99 : isSt Try.prog 99 = true := by kernel_rfl
theorem fo99 : fldsOk Try.prog 99 = true := by kernel_rfl
theorem fd99_0 : fld Try.prog 99 0 = some (0, 22) := by kernel_rfl
theorem fd99_1 : fld Try.prog 99 1 = some (1, 3) := by kernel_rfl
theorem zz99 : zc Try.prog 99 = [V.nil, V.int .i64 0] := by kernel_rfl
theorem cz100 : Try.prog.cellsOf 100 = 2 := by kernel_rfl
theorem tk100 : tyOk Try.prog 100 = true := by kernel_rfl
theorem ag100 : isAg Try.prog 100 = true := by kernel_rfl
theorem by100 : Try.prog.bytesOf 100 = 32 := by kernel_rfl
theorem se100 : slEl Try.prog 100 = none := by kernel_rfl
theorem ae100 : arEl Try.prog 100 = none := by kernel_rfl
theorem st100 : isSt Try.prog 100 = true := by kernel_rfl
theorem fo100 : fldsOk Try.prog 100 = true := by kernel_rfl
theorem fd100_0 : fld Try.prog 100 0 = some (0, 22) := by kernel_rfl
theorem fd100_1 : fld Try.prog 100 1 = some (1, 3) := by kernel_rfl
theorem zz100 : zc Try.prog 100 = [V.nil, V.int .i64 0] := by kernel_rfl
theorem cz102 : Try.prog.cellsOf 102 = 1 := by kernel_rfl
theorem tk102 : tyOk Try.prog 102 = true := by kernel_rfl
theorem ag102 : isAg Try.prog 102 = false := by kernel_rfl
theorem by102 : Try.prog.bytesOf 102 = 8 := by kernel_rfl
theorem se102 : slEl Try.prog 102 = none := by kernel_rfl
theorem ae102 : arEl Try.prog 102 = none := by kernel_rfl
theorem if102 : isFn Try.prog 102 = true := by kernel_rfl
theorem zz102 : zc Try.prog 102 = [V.nilf] := by kernel_rfl
theorem cz103 : Try.prog.cellsOf 103 = 1 := by kernel_rfl
theorem tk103 : tyOk Try.prog 103 = true := by kernel_rfl
theorem ag103 : isAg Try.prog 103 = false := by kernel_rfl
theorem by103 : Try.prog.bytesOf 103 = 8 := by kernel_rfl
theorem se103 : slEl Try.prog 103 = none := by kernel_rfl
theorem ae103 : arEl Try.prog 103 = none := by kernel_rfl
theorem if103 : isFn Try.prog 103 = true := by kernel_rfl
theorem zz103 : zc Try.prog 103 = [V.nilf] := by kernel_rfl
theorem cz104 : Try.prog.cellsOf 104 = 1 := by kernel_rfl
theorem tk104 : tyOk Try.prog 104 = true := by kernel_rfl
theorem ag104 : isAg Try.prog 104 = false := by kernel_rfl
theorem by104 : Try.prog.bytesOf 104 = 8 := by kernel_rfl
theorem se104 : slEl Try.prog 104 = none := by kernel_rfl
theorem ae104 : arEl Try.prog 104 = none := by kernel_rfl
theorem if104 : isFn Try.prog 104 = true := by kernel_rfl
theorem zz104 : zc Try.prog 104 = [V.nilf] := by kernel_rfl
theorem cz105 : Try.prog.cellsOf 105 = 1 := by kernel_rfl
theorem tk105 : tyOk Try.prog 105 = true := by kernel_rfl
theorem ag105 : isAg Try.prog 105 = false := by kernel_rfl
theorem by105 : Try.prog.bytesOf 105 = 8 := by kernel_rfl
theorem se105 : slEl Try.prog 105 = none := by kernel_rfl
theorem ae105 : arEl Try.prog 105 = none := by kernel_rfl
theorem if105 : isFn Try.prog 105 = true := by kernel_rfl
theorem zz105 : zc Try.prog 105 = [V.nilf] := by kernel_rfl
theorem cz106 : Try.prog.cellsOf 106 = 1 := by kernel_rfl
theorem tk106 : tyOk Try.prog 106 = true := by kernel_rfl
theorem ag106 : isAg Try.prog 106 = false := by kernel_rfl
theorem by106 : Try.prog.bytesOf 106 = 8 := by kernel_rfl
theorem se106 : slEl Try.prog 106 = none := by kernel_rfl
theorem ae106 : arEl Try.prog 106 = none := by kernel_rfl
theorem ip106 : isPtr Try.prog 106 = true := by kernel_rfl
theorem zz106 : zc Try.prog 106 = [V.nilp] := by kernel_rfl
theorem cz107 : Try.prog.cellsOf 107 = 1 := by kernel_rfl
theorem tk107 : tyOk Try.prog 107 = true := by kernel_rfl
theorem ag107 : isAg Try.prog 107 = false := by kernel_rfl
theorem by107 : Try.prog.bytesOf 107 = 8 := by kernel_rfl
theorem se107 : slEl Try.prog 107 = none := by kernel_rfl
theorem ae107 : arEl Try.prog 107 = none := by kernel_rfl
theorem if107 : isFn Try.prog 107 = true := by kernel_rfl
theorem zz107 : zc Try.prog 107 = [V.nilf] := by kernel_rfl
theorem cz108 : Try.prog.cellsOf 108 = 4 := by kernel_rfl
theorem tk108 : tyOk Try.prog 108 = true := by kernel_rfl
theorem ag108 : isAg Try.prog 108 = true := by kernel_rfl
theorem by108 : Try.prog.bytesOf 108 = 64 := by kernel_rfl
theorem se108 : slEl Try.prog 108 = none := by kernel_rfl
theorem ae108 : arEl Try.prog 108 = none := by kernel_rfl
theorem st108 : isSt Try.prog 108 = true := by kernel_rfl
theorem fo108 : fldsOk Try.prog 108 = true := by kernel_rfl
theorem fd108_0 : fld Try.prog 108 0 = some (0, 3) := by kernel_rfl
theorem fd108_1 : fld Try.prog 108 1 = some (1, 3) := by kernel_rfl
theorem fd108_2 : fld Try.prog 108 2 = some (2, 39) := by kernel_rfl
theorem fd108_3 : fld Try.prog 108 3 = some (3, 22) := by kernel_rfl
theorem zz108 : zc Try.prog 108 = [V.int .i64 0, V.int .i64 0, V.nil, V.nil] := by kernel_rfl
theorem cz109 : Try.prog.cellsOf 109 = 4 := by kernel_rfl
theorem tk109 : tyOk Try.prog 109 = true := by kernel_rfl
theorem ag109 : isAg Try.prog 109 = true := by kernel_rfl
theorem by109 : Try.prog.bytesOf 109 = 64 := by kernel_rfl
theorem se109 : slEl Try.prog 109 = none := by kernel_rfl
theorem ae109 : arEl Try.prog 109 = none := by kernel_rfl
theorem st109 : isSt Try.prog 109 = true := by kernel_rfl
theorem fo109 : fldsOk Try.prog 109 = true := by kernel_rfl
theorem fd109_0 : fld Try.prog 109 0 = some (0, 3) := by kernel_rfl
theorem fd109_1 : fld Try.prog 109 1 = some (1, 3) := by kernel_rfl
theorem fd109_2 : fld Try.prog 109 2 = some (2, 39) := by kernel_rfl
theorem fd109_3 : fld Try.prog 109 3 = some (3, 22) := by kernel_rfl
theorem zz109 : zc Try.prog 109 = [V.int .i64 0, V.int .i64 0, V.nil, V.nil] := by kernel_rfl
theorem cz110 : Try.prog.cellsOf 110 = 1 := by kernel_rfl
theorem tk110 : tyOk Try.prog 110 = true := by kernel_rfl
theorem ag110 : isAg Try.prog 110 = false := by kernel_rfl
theorem by110 : Try.prog.bytesOf 110 = 8 := by kernel_rfl
theorem se110 : slEl Try.prog 110 = none := by kernel_rfl
theorem ae110 : arEl Try.prog 110 = none := by kernel_rfl
theorem if110 : isFn Try.prog 110 = true := by kernel_rfl
theorem zz110 : zc Try.prog 110 = [V.nilf] := by kernel_rfl
theorem cz111 : Try.prog.cellsOf 111 = 1 := by kernel_rfl
theorem tk111 : tyOk Try.prog 111 = true := by kernel_rfl
theorem ag111 : isAg Try.prog 111 = false := by kernel_rfl
theorem by111 : Try.prog.bytesOf 111 = 8 := by kernel_rfl
theorem se111 : slEl Try.prog 111 = none := by kernel_rfl
theorem ae111 : arEl Try.prog 111 = none := by kernel_rfl
theorem if111 : isFn Try.prog 111 = true := by kernel_rfl
theorem zz111 : zc Try.prog 111 = [V.nilf] := by kernel_rfl
theorem cz112 : Try.prog.cellsOf 112 = 1 := by kernel_rfl
theorem tk112 : tyOk Try.prog 112 = true := by kernel_rfl
theorem ag112 : isAg Try.prog 112 = false := by kernel_rfl
theorem by112 : Try.prog.bytesOf 112 = 8 := by kernel_rfl
theorem se112 : slEl Try.prog 112 = none := by kernel_rfl
theorem ae112 : arEl Try.prog 112 = none := by kernel_rfl
theorem if112 : isFn Try.prog 112 = true := by kernel_rfl
theorem zz112 : zc Try.prog 112 = [V.nilf] := by kernel_rfl
theorem cz113 : Try.prog.cellsOf 113 = 1 := by kernel_rfl
theorem tk113 : tyOk Try.prog 113 = true := by kernel_rfl
theorem ag113 : isAg Try.prog 113 = false := by kernel_rfl
theorem by113 : Try.prog.bytesOf 113 = 8 := by kernel_rfl
theorem se113 : slEl Try.prog 113 = none := by kernel_rfl
theorem ae113 : arEl Try.prog 113 = none := by kernel_rfl
theorem if113 : isFn Try.prog 113 = true := by kernel_rfl
theorem zz113 : zc Try.prog 113 = [V.nilf] := by kernel_rfl
theorem cz114 : Try.prog.cellsOf 114 = 1 := by kernel_rfl
theorem tk114 : tyOk Try.prog 114 = true := by kernel_rfl
theorem ag114 : isAg Try.prog 114 = false := by kernel_rfl
theorem by114 : Try.prog.bytesOf 114 = 8 := by kernel_rfl
theorem se114 : slEl Try.prog 114 = none := by kernel_rfl
theorem ae114 : arEl Try.prog 114 = none := by kernel_rfl
theorem if114 : isFn Try.prog 114 = true := by kernel_rfl
theorem zz114 : zc Try.prog 114 = [V.nilf] := by kernel_rfl
theorem cz115 : Try.prog.cellsOf 115 = 1 := by kernel_rfl
theorem tk115 : tyOk Try.prog 115 = true := by kernel_rfl
theorem ag115 : isAg Try.prog 115 = false := by kernel_rfl
theorem by115 : Try.prog.bytesOf 115 = 8 := by kernel_rfl
theorem se115 : slEl Try.prog 115 = none := by kernel_rfl
theorem ae115 : arEl Try.prog 115 = none := by kernel_rfl
theorem if115 : isFn Try.prog 115 = true := by kernel_rfl
theorem zz115 : zc Try.prog 115 = [V.nilf] := by kernel_rfl
theorem cz116 : Try.prog.cellsOf 116 = 1 := by kernel_rfl
theorem tk116 : tyOk Try.prog 116 = true := by kernel_rfl
theorem ag116 : isAg Try.prog 116 = false := by kernel_rfl
theorem by116 : Try.prog.bytesOf 116 = 8 := by kernel_rfl
theorem se116 : slEl Try.prog 116 = none := by kernel_rfl
theorem ae116 : arEl Try.prog 116 = none := by kernel_rfl
theorem if116 : isFn Try.prog 116 = true := by kernel_rfl
theorem zz116 : zc Try.prog 116 = [V.nilf] := by kernel_rfl
theorem cz117 : Try.prog.cellsOf 117 = 1 := by kernel_rfl
theorem tk117 : tyOk Try.prog 117 = true := by kernel_rfl
theorem ag117 : isAg Try.prog 117 = false := by kernel_rfl
theorem by117 : Try.prog.bytesOf 117 = 8 := by kernel_rfl
theorem se117 : slEl Try.prog 117 = none := by kernel_rfl
theorem ae117 : arEl Try.prog 117 = none := by kernel_rfl
theorem if117 : isFn Try.prog 117 = true := by kernel_rfl
theorem zz117 : zc Try.prog 117 = [V.nilf] := by kernel_rfl
theorem cz118 : Try.prog.cellsOf 118 = 1 := by kernel_rfl
theorem tk118 : tyOk Try.prog 118 = true := by kernel_rfl
theorem ag118 : isAg Try.prog 118 = false := by kernel_rfl
theorem by118 : Try.prog.bytesOf 118 = 8 := by kernel_rfl
theorem se118 : slEl Try.prog 118 = none := by kernel_rfl
theorem ae118 : arEl Try.prog 118 = none := by kernel_rfl
theorem if118 : isFn Try.prog 118 = true := by kernel_rfl
theorem zz118 : zc Try.prog 118 = [V.nilf] := by kernel_rfl
theorem cz119 : Try.prog.cellsOf 119 = 1 := by kernel_rfl
theorem tk119 : tyOk Try.prog 119 = true := by kernel_rfl
theorem ag119 : isAg Try.prog 119 = false := by kernel_rfl
theorem by119 : Try.prog.bytesOf 119 = 8 := by kernel_rfl
theorem se119 : slEl Try.prog 119 = none := by kernel_rfl
theorem ae119 : arEl Try.prog 119 = none := by kernel_rfl
theorem if119 : isFn Try.prog 119 = true := by kernel_rfl
theorem zz119 : zc Try.prog 119 = [V.nilf] := by kernel_rfl
theorem cz120 : Try.prog.cellsOf 120 = 1 := by kernel_rfl
theorem tk120 : tyOk Try.prog 120 = true := by kernel_rfl
theorem ag120 : isAg Try.prog 120 = false := by kernel_rfl
theorem by120 : Try.prog.bytesOf 120 = 8 := by kernel_rfl
theorem se120 : slEl Try.prog 120 = none := by kernel_rfl
theorem ae120 : arEl Try.prog 120 = none := by kernel_rfl
theorem if120 : isFn Try.prog 120 = true := by kernel_rfl
theorem zz120 : zc Try.prog 120 = [V.nilf] := by kernel_rfl
theorem cz122 : Try.prog.cellsOf 122 = 1 := by kernel_rfl
theorem tk122 : tyOk Try.prog 122 = true := by kernel_rfl
theorem ag122 : isAg Try.prog 122 = false := by kernel_rfl
theorem by122 : Try.prog.bytesOf 122 = 8 := by kernel_rfl
theorem se122 : slEl Try.prog 122 = none := by kernel_rfl
theorem ae122 : arEl Try.prog 122 = none := by kernel_rfl
theorem if122 : isFn Try.prog 122 = true := by kernel_rfl
theorem zz122 : zc Try.prog 122 = [V.nilf] := by kernel_rfl
theorem cz123 : Try.prog.cellsOf 123 = 1 := by kernel_rfl
theorem tk123 : tyOk Try.prog 123 = true := by kernel_rfl
theorem ag123 : isAg Try.prog 123 = false := by kernel_rfl
theorem by123 : Try.prog.bytesOf 123 = 8 := by kernel_rfl
theorem se123 : slEl Try.prog 123 = none := by kernel_rfl
theorem ae123 : arEl Try.prog 123 = none := by kernel_rfl
theorem if123 : isFn Try.prog 123 = true := by kernel_rfl
theorem zz123 : zc Try.prog 123 = [V.nilf] := by kernel_rfl
theorem cz124 : Try.prog.cellsOf 124 = 1 := by kernel_rfl
theorem tk124 : tyOk Try.prog 124 = true := by kernel_rfl
theorem ag124 : isAg Try.prog 124 = false := by kernel_rfl
theorem by124 : Try.prog.bytesOf 124 = 8 := by kernel_rfl
theorem se124 : slEl Try.prog 124 = none := by kernel_rfl
theorem ae124 : arEl Try.prog 124 = none := by kernel_rfl
theorem if124 : isFn Try.prog 124 = true := by kernel_rfl
theorem zz124 : zc Try.prog 124 = [V.nilf] := by kernel_rfl
theorem cz125 : Try.prog.cellsOf 125 = 1 := by kernel_rfl
theorem tk125 : tyOk Try.prog 125 = true := by kernel_rfl
theorem ag125 : isAg Try.prog 125 = false := by kernel_rfl
theorem by125 : Try.prog.bytesOf 125 = 8 := by kernel_rfl
theorem se125 : slEl Try.prog 125 = none := by kernel_rfl
theorem ae125 : arEl Try.prog 125 = none := by kernel_rfl
theorem if125 : isFn Try.prog 125 = true := by kernel_rfl
theorem zz125 : zc Try.prog 125 = [V.nilf] := by kernel_rfl
theorem cz126 : Try.prog.cellsOf 126 = 1 := by kernel_rfl
theorem tk126 : tyOk Try.prog 126 = true := by kernel_rfl
theorem ag126 : isAg Try.prog 126 = false := by kernel_rfl
theorem by126 : Try.prog.bytesOf 126 = 4 := by kernel_rfl
theorem se126 : slEl Try.prog 126 = none := by kernel_rfl
theorem ae126 : arEl Try.prog 126 = none := by kernel_rfl
theorem ik126 : intK Try.prog 126 = some .u32 := by kernel_rfl
theorem zz126 : zc Try.prog 126 = [V.int .u32 0] := by kernel_rfl
theorem cz128 : Try.prog.cellsOf 128 = 1 := by kernel_rfl
theorem tk128 : tyOk Try.prog 128 = true := by kernel_rfl
theorem ag128 : isAg Try.prog 128 = false := by kernel_rfl
theorem by128 : Try.prog.bytesOf 128 = 8 := by kernel_rfl
theorem se128 : slEl Try.prog 128 = none := by kernel_rfl
theorem ae128 : arEl Try.prog 128 = none := by kernel_rfl
theorem if128 : isFn Try.prog 128 = true := by kernel_rfl
theorem zz128 : zc Try.prog 128 = [V.nilf] := by kernel_rfl
theorem cz129 : Try.prog.cellsOf 129 = 1 := by kernel_rfl
theorem tk129 : tyOk Try.prog 129 = true := by kernel_rfl
theorem ag129 : isAg Try.prog 129 = false := by kernel_rfl
theorem by129 : Try.prog.bytesOf 129 = 8 := by kernel_rfl
theorem se129 : slEl Try.prog 129 = none := by kernel_rfl
theorem ae129 : arEl Try.prog 129 = none := by kernel_rfl
theorem ik129 : intK Try.prog 129 = some .u64 := by kernel_rfl
theorem zz129 : zc Try.prog 129 = [V.int .u64 0] := by kernel_rfl
theorem cz131 : Try.prog.cellsOf 131 = 1 := by kernel_rfl
theorem tk131 : tyOk Try.prog 131 = true := by kernel_rfl
theorem ag131 : isAg Try.prog 131 = false := by kernel_rfl
theorem by131 : Try.prog.bytesOf 131 = 8 := by kernel_rfl
theorem se131 : slEl Try.prog 131 = none := by kernel_rfl
theorem ae131 : arEl Try.prog 131 = none := by kernel_rfl
theorem if131 : isFn Try.prog 131 = true := by kernel_rfl
theorem zz131 : zc Try.prog 131 = [V.nilf] := by kernel_rfl
theorem cz132 : Try.prog.cellsOf 132 = 1 := by kernel_rfl
theorem tk132 : tyOk Try.prog 132 = true := by kernel_rfl
theorem ag132 : isAg Try.prog 132 = false := by kernel_rfl
theorem by132 : Try.prog.bytesOf 132 = 8 := by kernel_rfl
theorem se132 : slEl Try.prog 132 = none := by kernel_rfl
theorem ae132 : arEl Try.prog 132 = none := by kernel_rfl
theorem if132 : isFn Try.prog 132 = true := by kernel_rfl
theorem zz132 : zc Try.prog 132 = [V.nilf] := by kernel_rfl
theorem cz133 : Try.prog.cellsOf 133 = 4 := by kernel_rfl
theorem tk133 : tyOk Try.prog 133 = true := by kernel_rfl
theorem ag133 : isAg Try.prog 133 = true := by kernel_rfl
theorem by133 : Try.prog.bytesOf 133 = 40 := by kernel_rfl
theorem se133 : slEl Try.prog 133 = none := by kernel_rfl
theorem ae133 : arEl Try.prog 133 = none := by kernel_rfl
theorem st133 : isSt Try.prog 133 = true := by kernel_rfl
theorem fo133 : fldsOk Try.prog 133 = true := by kernel_rfl
theorem fd133_0 : fld Try.prog 133 0 = some (0, 17) := by kernel_rfl
theorem fd133_1 : fld Try.prog 133 1 = some (1, 17) := by kernel_rfl
theorem fd133_2 : fld Try.prog 133 2 = some (2, 17) := by kernel_rfl
theorem fd133_3 : fld Try.prog 133 3 = some (3, 9) := by kernel_rfl
theorem zz133 : zc Try.prog 133 = [V.nilp, V.nilp, V.nilp, V.top] := by kernel_rfl
theorem cz134 : Try.prog.cellsOf 134 = 4 := by kernel_rfl
theorem tk134 : tyOk Try.prog 134 = true := by kernel_rfl
theorem ag134 : isAg Try.prog 134 = true := by kernel_rfl
theorem by134 : Try.prog.bytesOf 134 = 40 := by kernel_rfl
theorem se134 : slEl Try.prog 134 = none := by kernel_rfl
theorem ae134 : arEl Try.prog 134 = none := by kernel_rfl
theorem st134 : isSt Try.prog 134 = true := by kernel_rfl
theorem fo134 : fldsOk Try.prog 134 = true := by kernel_rfl
theorem fd134_0 : fld Try.prog 134 0 = some (0, 17) := by kernel_rfl
theorem fd134_1 : fld Try.prog 134 1 = some (1, 17) := by kernel_rfl
theorem fd134_2 : fld Try.prog 134 2 = some (2, 17) := by kernel_rfl
theorem fd134_3 : fld Try.prog 134 3 = some (3, 9) := by kernel_rfl
theorem zz134 : zc Try.prog 134 = [V.nilp, V.nilp, V.nilp, V.top] := by kernel_rfl
theorem cz135 : Try.prog.cellsOf 135 = 0 := by kernel_rfl
theorem tk135 : tyOk Try.prog 135 = true := by kernel_rfl
theorem ag135 : isAg Try.prog 135 = true := by kernel_rfl
theorem by135 : Try.prog.bytesOf 135 = 0 := by kernel_rfl
theorem se135 : slEl Try.prog 135 = none := by kernel_rfl
theorem ae135 : arEl Try.prog 135 = some (0, 16) := by kernel_rfl
theorem st135 : isSt Try.prog 135 = false := by kernel_rfl
theorem zz135 : zc Try.prog 135 = [] := by kernel_rfl
theorem cz136 : Try.prog.cellsOf 136 = 0 := by kernel_rfl
theorem tk136 : tyOk Try.prog 136 = true := by kernel_rfl
theorem ag136 : isAg Try.prog 136 = true := by kernel_rfl
theorem by136 : Try.prog.bytesOf 136 = 0 := by kernel_rfl
theorem se136 : slEl Try.prog 136 = none := by kernel_rfl
theorem ae136 : arEl Try.prog 136 = none := by kernel_rfl
theorem st136 : isSt Try.prog 136 = true := by kernel_rfl
theorem fd136_0 : fld Try.prog 136 0 = some (0, 135) := by kernel_rfl
theorem zz136 : zc Try.prog 136 = [] := by kernel_rfl
theorem cz137 : Try.prog.cellsOf 137 = 0 := by kernel_rfl
theorem tk137 : tyOk Try.prog 137 = true := by kernel_rfl
theorem ag137 : isAg Try.prog 137 = true := by kernel_rfl
theorem by137 : Try.prog.bytesOf 137 = 0 := by kernel_rfl
theorem se137 : slEl Try.prog 137 = none := by kernel_rfl
theorem ae137 : arEl Try.prog 137 = none := by kernel_rfl
theorem st137 : isSt Try.prog 137 = true := by kernel_rfl
theorem fd137_0 : fld Try.prog 137 0 = some (0, 135) := by kernel_rfl
theorem zz137 : zc Try.prog 137 = [] := by kernel_rfl
theorem cz138 : Try.prog.cellsOf 138 = 1 := by kernel_rfl
theorem tk138 : tyOk Try.prog 138 = true := by kernel_rfl
theorem ag138 : isAg Try.prog 138 = false := by kernel_rfl
theorem by138 : Try.prog.bytesOf 138 = 1 := by kernel_rfl
theorem se138 : slEl Try.prog 138 = none := by kernel_rfl
theorem ae138 : arEl Try.prog 138 = none := by kernel_rfl
theorem ik138 : intK Try.prog 138 = some .u8 := by kernel_rfl
theorem zz138 : zc Try.prog 138 = [V.int .u8 0] := by kernel_rfl
theorem cz139 : Try.prog.cellsOf 139 = 1 := by kernel_rfl
theorem tk139 : tyOk Try.prog 139 = true := by kernel_rfl
theorem ag139 : isAg Try.prog 139 = false := by kernel_rfl
theorem by139 : Try.prog.bytesOf 139 = 1 := by kernel_rfl
theorem se139 : slEl Try.prog 139 = none := by kernel_rfl
theorem ae139 : arEl Try.prog 139 = none := by kernel_rfl
theorem ik139 : intK Try.prog 139 = some .u8 := by kernel_rfl
theorem zz139 : zc Try.prog 139 = [V.int .u8 0] := by kernel_rfl
theorem cz140 : Try.prog.cellsOf 140 = 1 := by kernel_rfl
theorem tk140 : tyOk Try.prog 140 = true := by kernel_rfl
theorem ag140 : isAg Try.prog 140 = false := by kernel_rfl
theorem by140 : Try.prog.bytesOf 140 = 8 := by kernel_rfl
theorem se140 : slEl Try.prog 140 = none := by kernel_rfl
theorem ae140 : arEl Try.prog 140 = none := by kernel_rfl
theorem if140 : isFn Try.prog 140 = true := by kernel_rfl
theorem zz140 : zc Try.prog 140 = [V.nilf] := by kernel_rfl
theorem cz141 : Try.prog.cellsOf 141 = 1 := by kernel_rfl
theorem tk141 : tyOk Try.prog 141 = true := by kernel_rfl
theorem ag141 : isAg Try.prog 141 = false := by kernel_rfl
theorem by141 : Try.prog.bytesOf 141 = 8 := by kernel_rfl
theorem se141 : slEl Try.prog 141 = none := by kernel_rfl
theorem ae141 : arEl Try.prog 141 = none := by kernel_rfl
theorem ip141 : isPtr Try.prog 141 = true := by kernel_rfl
theorem zz141 : zc Try.prog 141 = [V.nilp] := by kernel_rfl
theorem cz142 : Try.prog.cellsOf 142 = 1 := by kernel_rfl
theorem tk142 : tyOk Try.prog 142 = true := by kernel_rfl
theorem ag142 : isAg Try.prog 142 = false := by kernel_rfl
theorem by142 : Try.prog.bytesOf 142 = 4 := by kernel_rfl
theorem se142 : slEl Try.prog 142 = none := by kernel_rfl
theorem ae142 : arEl Try.prog 142 = none := by kernel_rfl
theorem ik142 : intK Try.prog 142 = some .i32 := by kernel_rfl
theorem zz142 : zc Try.prog 142 = [V.int .i32 0] := by kernel_rfl
theorem cz143 : Try.prog.cellsOf 143 = 1 := by kernel_rfl
theorem tk143 : tyOk Try.prog 143 = true := by kernel_rfl
theorem ag143 : isAg Try.prog 143 = false := by kernel_rfl
theorem by143 : Try.prog.bytesOf 143 = 4 := by kernel_rfl
theorem se143 : slEl Try.prog 143 = none := by kernel_rfl
theorem ae143 : arEl Try.prog 143 = none := by kernel_rfl
theorem ik143 : intK Try.prog 143 = some .i32 := by kernel_rfl
theorem zz143 : zc Try.prog 143 = [V.int .i32 0] := by kernel_rfl
theorem cz144 : Try.prog.cellsOf 144 = 11 := by kernel_rfl
theorem tk144 : tyOk Try.prog 144 = true := by kernel_rfl
theorem ag144 : isAg Try.prog 144 = true := by kernel_rfl
theorem by144 : Try.prog.bytesOf 144 = 48 := by kernel_rfl
theorem se144 : slEl Try.prog 144 = none := by kernel_rfl
theorem ae144 : arEl Try.prog 144 = none := by kernel_rfl
theorem st144 : isSt Try.prog 144 = true := by kernel_rfl
theorem fo144 : fldsOk Try.prog 144 = true := by kernel_rfl
theorem fd144_0 : fld Try.prog 144 0 = some (0, 12) := by kernel_rfl
theorem fd144_1 : fld Try.prog 144 1 = some (1, 12) := by kernel_rfl
theorem fd144_2 : fld Try.prog 144 2 = some (2, 126) := by kernel_rfl
theorem fd144_3 : fld Try.prog 144 3 = some (3, 138) := by kernel_rfl
theorem fd144_4 : fld Try.prog 144 4 = some (4, 5) := by kernel_rfl
theorem fd144_5 : fld Try.prog 144 5 = some (5, 5) := by kernel_rfl
theorem fd144_6 : fld Try.prog 144 6 = some (6, 139) := by kernel_rfl
theorem fd144_7 : fld Try.prog 144 7 = some (7, 140) := by kernel_rfl
theorem fd144_8 : fld Try.prog 144 8 = some (8, 141) := by kernel_rfl
theorem fd144_9 : fld Try.prog 144 9 = some (9, 142) := by kernel_rfl
theorem fd144_10 : fld Try.prog 144 10 = some (10, 143) := by kernel_rfl
theorem zz144 : zc Try.prog 144 = [V.int .u64 0, V.int .u64 0, V.int .u32 0, V.int .u8 0, V.int .u8 0, V.int .u8 0, V.int .u8 0, V.nilf, V.nilp, V.int .i32 0, V.int .i32 0] := by kernel_rfl
theorem cz145 : Try.prog.cellsOf 145 = 11 := by kernel_rfl
theorem tk145 : tyOk Try.prog 145 = true := by kernel_rfl
theorem ag145 : isAg Try.prog 145 = true := by kernel_rfl
theorem by145 : Try.prog.bytesOf 145 = 48 := by kernel_rfl
theorem se145 : slEl Try.prog 145 = none := by kernel_rfl
theorem ae145 : arEl Try.prog 145 = none := by kernel_rfl
theorem st145 : isSt Try.prog 145 = true := by kernel_rfl
theorem fo145 : fldsOk Try.prog 145 = true := by kernel_rfl
theorem fd145_0 : fld Try.prog 145 0 = some (0, 12) := by kernel_rfl
theorem fd145_1 : fld Try.prog 145 1 = some (1, 12) := by kernel_rfl
theorem fd145_2 : fld Try.prog 145 2 = some (2, 126) := by kernel_rfl
theorem fd145_3 : fld Try.prog 145 3 = some (3, 138) := by kernel_rfl
theorem fd145_4 : fld Try.prog 145 4 = some (4, 5) := by kernel_rfl
theorem fd145_5 : fld Try.prog 145 5 = some (5, 5) := by kernel_rfl
theorem fd145_6 : fld Try.prog 145 6 = some (6, 139) := by kernel_rfl
theorem fd145_7 : fld Try.prog 145 7 = some (7, 140) := by kernel_rfl
theorem fd145_8 : fld Try.prog 145 8 = some (8, 141) := by kernel_rfl
theorem fd145_9 : fld Try.prog 145 9 = some (9, 142) := by kernel_rfl
theorem fd145_10 : fld Try.prog 145 10 = some (10, 143) := by kernel_rfl
theorem zz145 : zc Try.prog 145 = [V.int .u64 0, V.int .u64 0, V.int .u32 0, V.int .u8 0, V.int .u8 0, V.int .u8 0, V.int .u8 0, V.nilf, V.nilp, V.int .i32 0, V.int .i32 0] := by kernel_rfl
attribute [simp] cz1 tk1 ag1 by1 se1 ae1 if1 zz1 cz2 tk2 ag2 by2 se2 ae2 ik2 zz2 cz3 tk3 ag3 by3 se3 ae3 ik3 zz3 cz4 tk4 ag4 by4 se4 ae4 ib4 zz4 cz5 tk5 ag5 by5 se5 ae5 ik5 zz5 cz6 tk6 ag6 by6 se6 ae6 ik6 zz6 cz7 tk7 ag7 by7 se7 ae7 st7 fo7 fd7_0 fd7_1 fd7_2 fd7_3 lt7 fe7 zz7 cz8 tk8 ag8 by8 se8 ae8 st8 fo8 fd8_0 fd8_1 fd8_2 fd8_3 lt8 fe8 zz8 cz12 tk12 ag12 by12 se12 ae12 ik12 zz12 cz13 tk13 ag13 by13 se13 ae13 st13 fo13 fd13_0 fd13_1 zz13 cz14 tk14 ag14 by14 se14 ae14 st14 fo14 fd14_0 fd14_1 zz14 cz15 tk15 ag15 by15 se15 ae15 ip15 zz15 cz16 tk16 ag16 by16 se16 ae16 ip16 zz16 cz17 tk17 ag17 by17 se17 ae17 ip17 zz17 cz18 tk18 ag18 by18 se18 ae18 st18 fo18 fd18_0 zz18 cz19 tk19 ag19 by19 se19 ae19 st19 fo19 fd19_0 zz19 cz21 tk21 ag21 by21 se21 ae21 ik21 zz21 cz22 tk22 ag22 by22 se22 ae22 zz22 cz23 tk23 ag23 by23 se23 ae23 ik23 zz23 cz25 tk25 ag25 by25 se25 ae25 if25 zz25 cz26 tk26 ag26 by26 se26 ae26 if26 zz26 cz27 tk27 ag27 by27 se27 ae27 if27 zz27 cz29 tk29 ag29 by29 se29 ae29 if29 zz29 cz30 tk30 ag30 by30 se30 ae30 st30 fo30 fd30_0 fd30_1 fd30_2 fd30_3 lt30 fe30 zz30 cz31 tk31 ag31 by31 se31 ae31 st31 fo31 fd31_0 fd31_1 fd31_2 fd31_3 lt31 fe31 zz31 cz32 tk32 ag32 by32 se32 ae32 if32 zz32 cz33 tk33 ag33 by33 se33 ae33 if33 zz33 cz34 tk34 ag34 by34 se34 ae34 st34 fo34 fd34_0 fd34_1 fd34_2 lt34 fe34 zz34 cz35 tk35 ag35 by35 se35 ae35 st35 fo35 fd35_0 fd35_1 fd35_2 lt35 fe35 zz35 cz36 tk36 ag36 by36 se36 ae36 if36 zz36 cz37 tk37 ag37 by37 se37 ae37 if37 zz37 cz38 tk38 ag38 by38 se38 ae38 zz38 cz39 tk39 ag39 by39 se39 ae39 zz39 cz41 tk41 ag41 by41 se41 ae41 if41 zz41 cz42 tk42 ag42 by42 se42 ae42 if42 zz42 cz43 tk43 ag43 by43 se43 ae43 if43 zz43 cz44 tk44 ag44 by44 se44 ae44 st44 fo44 fd44_0 fd44_1 lt44 fe44 zz44 cz45 tk45 ag45 by45 se45 ae45 st45 fo45 fd45_0 fd45_1 lt45 fe45 zz45 cz47 tk47 ag47 by47 se47 ae47 if47 zz47 cz48 tk48 ag48 by48 se48 ae48 if48 zz48 cz49 tk49 ag49 by49 se49 ae49 if49 zz49 cz50 tk50 ag50 by50 se50 ae50 if50 zz50 cz51 tk51 ag51 by51 se51 ae51 st51 fo51 fd51_0 fd51_1 zz51 cz52 tk52 ag52 by52 se52 ae52 st52 fo52 fd52_0 fd52_1 zz52 cz53 tk53 ag53 by53 se53 ae53 if53 zz53 cz55 tk55 ag55 by55 se55 ae55 if55 zz55 cz56 tk56 ag56 by56 se56 ae56 if56 zz56 cz57 tk57 ag57 by57 se57 ae57 if57 zz57 cz59 tk59 ag59 by59 se59 ae59 if59 zz59 cz61 tk61 ag61 by61 se61 ae61 if61 zz61 cz62 tk62 ag62 by62 se62 ae62 if62 zz62 cz63 tk63 ag63 by63 se63 ae63 if63 zz63 cz64 tk64 ag64 by64 se64 ae64 st64 fo64 fd64_0 fd64_1 zz64 cz65 tk65 ag65 by65 se65 ae65 st65 fo65 fd65_0 fd65_1 zz65 cz66 tk66 ag66 by66 se66 ae66 if66 zz66 cz67 tk67 ag67 by67 se67 ae67 if67 zz67 cz68 tk68 ag68 by68 se68 ae68 if68 zz68 cz69 tk69 ag69 by69 se69 ae69 st69 lt69 fe69 zz69 cz70 tk70 ag70 by70 se70 ae70 if70 zz70 cz71 tk71 ag71 by71 se71 ae71 if71 zz71 cz73 tk73 ag73 by73 se73 ae73 st73 fo73 fd73_0 fd73_1 lt73 fe73 zz73 cz74 tk74 ag74 by74 se74 ae74 st74 fo74 fd74_0 fd74_1 lt74 fe74 zz74 cz75 tk75 ag75 by75 se75 ae75 if75 zz75 cz76 tk76 ag76 by76 se76 ae76 if76 zz76 cz77 tk77 ag77 by77 se77 ae77 if77 zz77 cz78 tk78 ag78 by78 se78 ae78 if78 zz78 cz79 tk79 ag79 by79 se79 ae79 if79 zz79 cz80 tk80 ag80 by80 se80 ae80 if80 zz80 cz81 tk81 ag81 by81 se81 ae81 if81 zz81 cz82 tk82 ag82 by82 se82 ae82 ip82 zz82 cz84 tk84 ag84 by84 se84 ae84 if84 zz84 cz85 tk85 ag85 by85 se85 ae85 st85 fo85 fd85_0 fd85_1 zz85 cz86 tk86 ag86 by86 se86 ae86 st86 fo86 fd86_0 fd86_1 zz86 cz87 tk87 ag87 by87 se87 ae87 if87 zz87 cz88 tk88 ag88 by88 se88 ae88 zz88 cz89 tk89 ag89 by89 se89 ae89 if89 zz89 cz90 tk90 ag90 by90 se90 ae90 if90 zz90 cz91 tk91 ag91 by91 se91 ae91 if91 zz91 cz92 tk92 ag92 by92 se92 ae92 if92 zz92 cz94 tk94 ag94 by94 se94 ae94 if94 zz94 cz95 tk95 ag95 by95 se95 ae95 ik95 zz95 cz96 tk96 ag96 by96 se96 ae96 if96 zz96 cz97 tk97 ag97 by97 se97 ae97 if97 zz97 cz98 tk98 ag98 by98 se98 ae98 if98 zz98 cz99 tk99 ag99 by99 se99 ae99 st99 fo99 fd99_0 fd99_1 zz99 cz100 tk100 ag100 by100 se100 ae100 st100 fo100 fd100_0 fd100_1 zz100 cz102 tk102 ag102 by102 se102 ae102 if102 zz102 cz103 tk103 ag103 by103 se103 ae103 if103 zz103 cz104 tk104 ag104 by104 se104 ae104 if104 zz104 cz105 tk105 ag105 by105 se105 ae105 if105 zz105 cz106 tk106 ag106 by106 se106 ae106 ip106 zz106 cz107 tk107 ag107 by107 se107 ae107 if107 zz107 cz108 tk108 ag108 by108 se108 ae108 st108 fo108 fd108_0 fd108_1 fd108_2 fd108_3 zz108 cz109 tk109 ag109 by109 se109 ae109 st109 fo109 fd109_0 fd109_1 fd109_2 fd109_3 zz109 cz110 tk110 ag110 by110 se110 ae110 if110 zz110 cz111 tk111 ag111 by111 se111 ae111 if111 zz111 cz112 tk112 ag112 by112 se112 ae112 if112 zz112 cz113 tk113 ag113 by113 se113 ae113 if113 zz113 cz114 tk114 ag114 by114 se114 ae114 if114 zz114 cz115 tk115 ag115 by115 se115 ae115 if115 zz115 cz116 tk116 ag116 by116 se116 ae116 if116 zz116 cz117 tk117 ag117 by117 se117 ae117 if117 zz117 cz118 tk118 ag118 by118 se118 ae118 if118 zz118 cz119 tk119 ag119 by119 se119 ae119 if119 zz119 cz120 tk120 ag120 by120 se120 ae120 if120 zz120 cz122 tk122 ag122 by122 se122 ae122 if122 zz122 cz123 tk123 ag123 by123 se123 ae123 if123 zz123 cz124 tk124 ag124 by124 se124 ae124 if124 zz124 cz125 tk125 ag125 by125 se125 ae125 if125 zz125 cz126 tk126 ag126 by126 se126 ae126 ik126 zz126 cz128 tk128 ag128 by128 se128 ae128 if128 zz128 cz129 tk129 ag129 by129 se129 ae129 ik129 zz129 cz131 tk131 ag131 by131 se131 ae131 if131 zz131 cz132 tk132 ag132 by132 se132 ae132 if132 zz132 cz133 tk133 ag133 by133 se133 ae133 st133 fo133 fd133_0 fd133_1 fd133_2 fd133_3 zz133 cz134 tk134 ag134 by134 se134 ae134 st134 fo134 fd134_0 fd134_1 fd134_2 fd134_3 zz134 cz135 tk135 ag135 by135 se135 ae135 st135 zz135 cz136 tk136 ag136 by136 se136 ae136 st136 fd136_0 zz136 cz137 tk137 ag137 by137 se137 ae137 st137 fd137_0 zz137 cz138 tk138 ag138 by138 se138 ae138 ik138 zz138 cz139 tk139 ag139 by139 se139 ae139 ik139 zz139 cz140 tk140 ag140 by140 se140 ae140 if140 zz140 cz141 tk141 ag141 by141 se141 ae141 ip141 zz141 cz142 tk142 ag142 by142 se142 ae142 ik142 zz142 cz143 tk143 ag143 by143 se143 ae143 ik143 zz143 cz144 tk144 ag144 by144 se144 ae144 st144 fo144 fd144_0 fd144_1 fd144_2 fd144_3 fd144_4 fd144_5 fd144_6 fd144_7 fd144_8 fd144_9 fd144_10 zz144 cz145 tk145 ag145 by145 se145 ae145 st145 fo145 fd145_0 fd145_1 fd145_2 fd145_3 fd145_4 fd145_5 fd145_6 fd145_7 fd145_8 fd145_9 fd145_10 zz145
end Go.Sx.Ty
