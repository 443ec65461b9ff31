/- What the walk asks of this seat's types: closed facts. Printed by program. No conditions. -/
import Derived.Test.YtnpdjaikmdagmaaProg
import Derived.Test.YtnpdjaikmdagmaaP00
set_option linter.unusedSimpArgs false
set_option linter.unusedVariables false
set_option linter.unusedSectionVars false
namespace Go.Sx.Ty
open Go.Proofs Go.Sx
theorem cz1 : Try.prog.cellsOf 1 = 1 := by kernel_rfl
theorem tk1 : tyOk Try.prog 1 = true := by kernel_rfl
theorem ag1 : isAg Try.prog 1 = false := by kernel_rfl
theorem by1 : Try.prog.bytesOf 1 = 8 := by kernel_rfl
theorem se1 : slEl Try.prog 1 = none := by kernel_rfl
theorem ae1 : arEl Try.prog 1 = none := by kernel_rfl
theorem if1 : isFn Try.prog 1 = true := by kernel_rfl
theorem zz1 : zc Try.prog 1 = [V.nilf] := by kernel_rfl
theorem cz2 : Try.prog.cellsOf 2 = 1 := by kernel_rfl
theorem tk2 : tyOk Try.prog 2 = true := by kernel_rfl
theorem ag2 : isAg Try.prog 2 = false := by kernel_rfl
theorem by2 : Try.prog.bytesOf 2 = 8 := by kernel_rfl
theorem se2 : slEl Try.prog 2 = none := by kernel_rfl
theorem ae2 : arEl Try.prog 2 = none := by kernel_rfl
theorem ik2 : intK Try.prog 2 = some .i64 := by kernel_rfl
theorem zz2 : zc Try.prog 2 = [V.int .i64 0] := by kernel_rfl
theorem cz3 : Try.prog.cellsOf 3 = 1 := by kernel_rfl
theorem tk3 : tyOk Try.prog 3 = true := by kernel_rfl
theorem ag3 : isAg Try.prog 3 = false := by kernel_rfl
theorem by3 : Try.prog.bytesOf 3 = 8 := by kernel_rfl
theorem se3 : slEl Try.prog 3 = none := by kernel_rfl
theorem ae3 : arEl Try.prog 3 = none := by kernel_rfl
theorem ik3 : intK Try.prog 3 = some .i64 := by kernel_rfl
theorem zz3 : zc Try.prog 3 = [V.int .i64 0] := by kernel_rfl
theorem cz4 : Try.prog.cellsOf 4 = 1 := by kernel_rfl
theorem tk4 : tyOk Try.prog 4 = true := by kernel_rfl
theorem ag4 : isAg Try.prog 4 = false := by kernel_rfl
theorem by4 : Try.prog.bytesOf 4 = 1 := by kernel_rfl
theorem se4 : slEl Try.prog 4 = none := by kernel_rfl
theorem ae4 : arEl Try.prog 4 = none := by kernel_rfl
theorem ib4 : isBool Try.prog 4 = true := by kernel_rfl
theorem zz4 : zc Try.prog 4 = [V.bool false] := by kernel_rfl
theorem cz5 : Try.prog.cellsOf 5 = 1 := by kernel_rfl
theorem tk5 : tyOk Try.prog 5 = true := by kernel_rfl
theorem ag5 : isAg Try.prog 5 = false := by kernel_rfl
theorem by5 : Try.prog.bytesOf 5 = 1 := by kernel_rfl
theorem se5 : slEl Try.prog 5 = none := by kernel_rfl
theorem ae5 : arEl Try.prog 5 = none := by kernel_rfl
theorem ik5 : intK Try.prog 5 = some .u8 := by kernel_rfl
theorem zz5 : zc Try.prog 5 = [V.int .u8 0] := by kernel_rfl
theorem cz6 : Try.prog.cellsOf 6 = 1 := by kernel_rfl
theorem tk6 : tyOk Try.prog 6 = true := by kernel_rfl
theorem ag6 : isAg Try.prog 6 = false := by kernel_rfl
theorem by6 : Try.prog.bytesOf 6 = 1 := by kernel_rfl
theorem se6 : slEl Try.prog 6 = none := by kernel_rfl
theorem ae6 : arEl Try.prog 6 = none := by kernel_rfl
theorem ik6 : intK Try.prog 6 = some .u8 := by kernel_rfl
theorem zz6 : zc Try.prog 6 = [V.int .u8 0] := by kernel_rfl
theorem cz7 : Try.prog.cellsOf 7 = 4 := by kernel_rfl
theorem tk7 : tyOk Try.prog 7 = true := by kernel_rfl
theorem ag7 : isAg Try.prog 7 = true := by kernel_rfl
theorem by7 : Try.prog.bytesOf 7 = 24 := by kernel_rfl
theorem se7 : slEl Try.prog 7 = none := by kernel_rfl
theorem ae7 : arEl Try.prog 7 = none := by kernel_rfl
theorem st7 : isSt Try.prog 7 = true := by kernel_rfl
theorem fo7 : fldsOk Try.prog 7 = true := by kernel_rfl
theorem fd7_0 : fld Try.prog 7 0 = some (0, 2) := by kernel_rfl
theorem fd7_1 : fld Try.prog 7 1 = some (1, 3) := by kernel_rfl
theorem fd7_2 : fld Try.prog 7 2 = some (2, 4) := by kernel_rfl
theorem fd7_3 : fld Try.prog 7 3 = some (3, 6) := by kernel_rfl
theorem lt7 : leafTs Try.prog 7 = [2, 3, 4, 6] := by kernel_rfl
theorem fe7 : flatEq Try.prog 7 = true := by kernel_rfl
theorem zz7 : zc Try.prog 7 = [V.int .i64 0, V.int .i64 0, V.bool false, V.int .u8 0] := by kernel_rfl
theorem cz8 : Try.prog.cellsOf 8 = 4 := by kernel_rfl
theorem tk8 : tyOk Try.prog 8 = true := by kernel_rfl
theorem ag8 : isAg Try.prog 8 = true := by kernel_rfl
theorem by8 : Try.prog.bytesOf 8 = 24 := by kernel_rfl
theorem se8 : slEl Try.prog 8 = none := by kernel_rfl
theorem ae8 : arEl Try.prog 8 = none := by kernel_rfl
theorem st8 : isSt Try.prog 8 = true := by kernel_rfl
theorem fo8 : fldsOk Try.prog 8 = true := by kernel_rfl
theorem fd8_0 : fld Try.prog 8 0 = some (0, 2) := by kernel_rfl
theorem fd8_1 : fld Try.prog 8 1 = some (1, 3) := by kernel_rfl
theorem fd8_2 : fld Try.prog 8 2 = some (2, 4) := by kernel_rfl
theorem fd8_3 : fld Try.prog 8 3 = some (3, 6) := by kernel_rfl
theorem lt8 : leafTs Try.prog 8 = [2, 3, 4, 6] := by kernel_rfl
theorem fe8 : flatEq Try.prog 8 = true := by kernel_rfl
theorem zz8 : zc Try.prog 8 = [V.int .i64 0, V.int .i64 0, V.bool false, V.int .u8 0] := by kernel_rfl
theorem cz12 : Try.prog.cellsOf 12 = 1 := by kernel_rfl
theorem tk12 : tyOk Try.prog 12 = true := by kernel_rfl
theorem ag12 : isAg Try.prog 12 = false := by kernel_rfl
theorem by12 : Try.prog.bytesOf 12 = 8 := by kernel_rfl
theorem se12 : slEl Try.prog 12 = none := by kernel_rfl
theorem ae12 : arEl Try.prog 12 = none := by kernel_rfl
theorem ik12 : intK Try.prog 12 = some .u64 := by kernel_rfl
theorem zz12 : zc Try.prog 12 = [V.int .u64 0] := by kernel_rfl
theorem cz13 : Try.prog.cellsOf 13 = 2 := by kernel_rfl
theorem tk13 : tyOk Try.prog 13 = true := by kernel_rfl
theorem ag13 : isAg Try.prog 13 = true := by kernel_rfl
theorem by13 : Try.prog.bytesOf 13 = 24 := by kernel_rfl
theorem se13 : slEl Try.prog 13 = none := by kernel_rfl
theorem ae13 : arEl Try.prog 13 = none := by kernel_rfl
theorem st13 : isSt Try.prog 13 = true := by kernel_rfl
theorem fo13 : fldsOk Try.prog 13 = true := by kernel_rfl
theorem fd13_0 : fld Try.prog 13 0 = some (0, 9) := by kernel_rfl
theorem fd13_1 : fld Try.prog 13 1 = some (1, 12) := by kernel_rfl
theorem zz13 : zc Try.prog 13 = [V.top, V.int .u64 0] := by kernel_rfl
theorem cz14 : Try.prog.cellsOf 14 = 2 := by kernel_rfl
theorem tk14 : tyOk Try.prog 14 = true := by kernel_rfl
theorem ag14 : isAg Try.prog 14 = true := by kernel_rfl
theorem by14 : Try.prog.bytesOf 14 = 24 := by kernel_rfl
theorem se14 : slEl Try.prog 14 = none := by kernel_rfl
theorem ae14 : arEl Try.prog 14 = none := by kernel_rfl
theorem st14 : isSt Try.prog 14 = true := by kernel_rfl
theorem fo14 : fldsOk Try.prog 14 = true := by kernel_rfl
theorem fd14_0 : fld Try.prog 14 0 = some (0, 9) := by kernel_rfl
theorem fd14_1 : fld Try.prog 14 1 = some (1, 12) := by kernel_rfl
theorem zz14 : zc Try.prog 14 = [V.top, V.int .u64 0] := by kernel_rfl
theorem cz15 : Try.prog.cellsOf 15 = 1 := by kernel_rfl
theorem tk15 : tyOk Try.prog 15 = true := by kernel_rfl
theorem ag15 : isAg Try.prog 15 = false := by kernel_rfl
theorem by15 : Try.prog.bytesOf 15 = 8 := by kernel_rfl
theorem se15 : slEl Try.prog 15 = none := by kernel_rfl
theorem ae15 : arEl Try.prog 15 = none := by kernel_rfl
theorem ip15 : isPtr Try.prog 15 = true := by kernel_rfl
theorem zz15 : zc Try.prog 15 = [V.nilp] := by kernel_rfl
theorem cz16 : Try.prog.cellsOf 16 = 1 := by kernel_rfl
theorem tk16 : tyOk Try.prog 16 = true := by kernel_rfl
theorem ag16 : isAg Try.prog 16 = false := by kernel_rfl
theorem by16 : Try.prog.bytesOf 16 = 8 := by kernel_rfl
theorem se16 : slEl Try.prog 16 = none := by kernel_rfl
theorem ae16 : arEl Try.prog 16 = none := by kernel_rfl
theorem ip16 : isPtr Try.prog 16 = true := by kernel_rfl
theorem zz16 : zc Try.prog 16 = [V.nilp] := by kernel_rfl
theorem cz17 : Try.prog.cellsOf 17 = 1 := by kernel_rfl
theorem tk17 : tyOk Try.prog 17 = true := by kernel_rfl
theorem ag17 : isAg Try.prog 17 = false := by kernel_rfl
theorem by17 : Try.prog.bytesOf 17 = 8 := by kernel_rfl
theorem se17 : slEl Try.prog 17 = none := by kernel_rfl
theorem ae17 : arEl Try.prog 17 = none := by kernel_rfl
theorem ip17 : isPtr Try.prog 17 = true := by kernel_rfl
theorem zz17 : zc Try.prog 17 = [V.nilp] := by kernel_rfl
theorem cz18 : Try.prog.cellsOf 18 = 1 := by kernel_rfl
theorem tk18 : tyOk Try.prog 18 = true := by kernel_rfl
theorem ag18 : isAg Try.prog 18 = true := by kernel_rfl
theorem by18 : Try.prog.bytesOf 18 = 8 := by kernel_rfl
theorem se18 : slEl Try.prog 18 = none := by kernel_rfl
theorem ae18 : arEl Try.prog 18 = none := by kernel_rfl
theorem st18 : isSt Try.prog 18 = true := by kernel_rfl
theorem fo18 : fldsOk Try.prog 18 = true := by kernel_rfl
theorem fd18_0 : fld Try.prog 18 0 = some (0, 17) := by kernel_rfl
theorem zz18 : zc Try.prog 18 = [V.nilp] := by kernel_rfl
theorem cz19 : Try.prog.cellsOf 19 = 1 := by kernel_rfl
theorem tk19 : tyOk Try.prog 19 = true := by kernel_rfl
theorem ag19 : isAg Try.prog 19 = true := by kernel_rfl
theorem by19 : Try.prog.bytesOf 19 = 8 := by kernel_rfl
theorem se19 : slEl Try.prog 19 = none := by kernel_rfl
theorem ae19 : arEl Try.prog 19 = none := by kernel_rfl
theorem st19 : isSt Try.prog 19 = true := by kernel_rfl
theorem fo19 : fldsOk Try.prog 19 = true := by kernel_rfl
theorem fd19_0 : fld Try.prog 19 0 = some (0, 17) := by kernel_rfl
theorem zz19 : zc Try.prog 19 = [V.nilp] := by kernel_rfl
theorem cz21 : Try.prog.cellsOf 21 = 1 := by kernel_rfl
theorem tk21 : tyOk Try.prog 21 = true := by kernel_rfl
theorem ag21 : isAg Try.prog 21 = false := by kernel_rfl
theorem by21 : Try.prog.bytesOf 21 = 4 := by kernel_rfl
theorem se21 : slEl Try.prog 21 = none := by kernel_rfl
theorem ae21 : arEl Try.prog 21 = none := by kernel_rfl
theorem ik21 : intK Try.prog 21 = some .i32 := by kernel_rfl
theorem zz21 : zc Try.prog 21 = [V.int .i32 0] := by kernel_rfl
theorem cz22 : Try.prog.cellsOf 22 = 1 := by kernel_rfl
theorem tk22 : tyOk Try.prog 22 = true := by kernel_rfl
theorem ag22 : isAg Try.prog 22 = false := by kernel_rfl
theorem by22 : Try.prog.bytesOf 22 = 24 := by kernel_rfl
theorem se22 : slEl Try.prog 22 = some 88 := by kernel_rfl
theorem ae22 : arEl Try.prog 22 = none := by kernel_rfl
theorem zz22 : zc Try.prog 22 = [V.nil] := by kernel_rfl
theorem cz23 : Try.prog.cellsOf 23 = 1 := by kernel_rfl
theorem tk23 : tyOk Try.prog 23 = true := by kernel_rfl
theorem ag23 : isAg Try.prog 23 = false := by kernel_rfl
theorem by23 : Try.prog.bytesOf 23 = 8 := by kernel_rfl
theorem se23 : slEl Try.prog 23 = none := by kernel_rfl
theorem ae23 : arEl Try.prog 23 = none := by kernel_rfl
theorem if23 : isFn Try.prog 23 = true := by kernel_rfl
theorem zz23 : zc Try.prog 23 = [V.nilf] := by kernel_rfl
theorem cz24 : Try.prog.cellsOf 24 = 1 := by kernel_rfl
theorem tk24 : tyOk Try.prog 24 = true := by kernel_rfl
theorem ag24 : isAg Try.prog 24 = false := by kernel_rfl
theorem by24 : Try.prog.bytesOf 24 = 24 := by kernel_rfl
theorem se24 : slEl Try.prog 24 = some 3 := by kernel_rfl
theorem ae24 : arEl Try.prog 24 = none := by kernel_rfl
theorem zz24 : zc Try.prog 24 = [V.nil] := by kernel_rfl
theorem cz25 : Try.prog.cellsOf 25 = 1 := by kernel_rfl
theorem tk25 : tyOk Try.prog 25 = true := by kernel_rfl
theorem ag25 : isAg Try.prog 25 = false := by kernel_rfl
theorem by25 : Try.prog.bytesOf 25 = 8 := by kernel_rfl
theorem se25 : slEl Try.prog 25 = none := by kernel_rfl
theorem ae25 : arEl Try.prog 25 = none := by kernel_rfl
theorem ik25 : intK Try.prog 25 = some .i64 := by kernel_rfl
theorem zz25 : zc Try.prog 25 = [V.int .i64 0] := by kernel_rfl
theorem cz27 : Try.prog.cellsOf 27 = 1 := by kernel_rfl
theorem tk27 : tyOk Try.prog 27 = true := by kernel_rfl
theorem ag27 : isAg Try.prog 27 = false := by kernel_rfl
theorem by27 : Try.prog.bytesOf 27 = 8 := by kernel_rfl
theorem se27 : slEl Try.prog 27 = none := by kernel_rfl
theorem ae27 : arEl Try.prog 27 = none := by kernel_rfl
theorem if27 : isFn Try.prog 27 = true := by kernel_rfl
theorem zz27 : zc Try.prog 27 = [V.nilf] := by kernel_rfl
theorem cz28 : Try.prog.cellsOf 28 = 1 := by kernel_rfl
theorem tk28 : tyOk Try.prog 28 = true := by kernel_rfl
theorem ag28 : isAg Try.prog 28 = false := by kernel_rfl
theorem by28 : Try.prog.bytesOf 28 = 8 := by kernel_rfl
theorem se28 : slEl Try.prog 28 = none := by kernel_rfl
theorem ae28 : arEl Try.prog 28 = none := by kernel_rfl
theorem if28 : isFn Try.prog 28 = true := by kernel_rfl
theorem zz28 : zc Try.prog 28 = [V.nilf] := by kernel_rfl
theorem cz29 : Try.prog.cellsOf 29 = 1 := by kernel_rfl
theorem tk29 : tyOk Try.prog 29 = true := by kernel_rfl
theorem ag29 : isAg Try.prog 29 = false := by kernel_rfl
theorem by29 : Try.prog.bytesOf 29 = 8 := by kernel_rfl
theorem se29 : slEl Try.prog 29 = none := by kernel_rfl
theorem ae29 : arEl Try.prog 29 = none := by kernel_rfl
theorem if29 : isFn Try.prog 29 = true := by kernel_rfl
theorem zz29 : zc Try.prog 29 = [V.nilf] := by kernel_rfl
theorem cz30 : Try.prog.cellsOf 30 = 1 := by kernel_rfl
theorem tk30 : tyOk Try.prog 30 = true := by kernel_rfl
theorem ag30 : isAg Try.prog 30 = false := by kernel_rfl
theorem by30 : Try.prog.bytesOf 30 = 8 := by kernel_rfl
theorem se30 : slEl Try.prog 30 = none := by kernel_rfl
theorem ae30 : arEl Try.prog 30 = none := by kernel_rfl
theorem if30 : isFn Try.prog 30 = true := by kernel_rfl
theorem zz30 : zc Try.prog 30 = [V.nilf] := by kernel_rfl
theorem cz31 : Try.prog.cellsOf 31 = 1 := by kernel_rfl
theorem tk31 : tyOk Try.prog 31 = true := by kernel_rfl
theorem ag31 : isAg Try.prog 31 = false := by kernel_rfl
theorem by31 : Try.prog.bytesOf 31 = 24 := by kernel_rfl
theorem se31 : slEl Try.prog 31 = some 69 := by kernel_rfl
theorem ae31 : arEl Try.prog 31 = none := by kernel_rfl
theorem zz31 : zc Try.prog 31 = [V.nil] := by kernel_rfl
theorem cz32 : Try.prog.cellsOf 32 = 6 := by kernel_rfl
theorem tk32 : tyOk Try.prog 32 = true := by kernel_rfl
theorem ag32 : isAg Try.prog 32 = true := by kernel_rfl
theorem by32 : Try.prog.bytesOf 32 = 64 := by kernel_rfl
theorem se32 : slEl Try.prog 32 = none := by kernel_rfl
theorem ae32 : arEl Try.prog 32 = none := by kernel_rfl
theorem st32 : isSt Try.prog 32 = true := by kernel_rfl
theorem fo32 : fldsOk Try.prog 32 = true := by kernel_rfl
theorem fd32_0 : fld Try.prog 32 0 = some (0, 31) := by kernel_rfl
theorem fd32_1 : fld Try.prog 32 1 = some (1, 3) := by kernel_rfl
theorem fd32_2 : fld Try.prog 32 2 = some (2, 3) := by kernel_rfl
theorem fd32_3 : fld Try.prog 32 3 = some (3, 3) := by kernel_rfl
theorem fd32_4 : fld Try.prog 32 4 = some (4, 3) := by kernel_rfl
theorem fd32_5 : fld Try.prog 32 5 = some (5, 3) := by kernel_rfl
theorem zz32 : zc Try.prog 32 = [V.nil, V.int .i64 0, V.int .i64 0, V.int .i64 0, V.int .i64 0, V.int .i64 0] := by kernel_rfl
theorem cz33 : Try.prog.cellsOf 33 = 6 := by kernel_rfl
theorem tk33 : tyOk Try.prog 33 = true := by kernel_rfl
theorem ag33 : isAg Try.prog 33 = true := by kernel_rfl
theorem by33 : Try.prog.bytesOf 33 = 64 := by kernel_rfl
theorem se33 : slEl Try.prog 33 = none := by kernel_rfl
theorem ae33 : arEl Try.prog 33 = none := by kernel_rfl
theorem st33 : isSt Try.prog 33 = true := by kernel_rfl
theorem fo33 : fldsOk Try.prog 33 = true := by kernel_rfl
theorem fd33_0 : fld Try.prog 33 0 = some (0, 31) := by kernel_rfl
theorem fd33_1 : fld Try.prog 33 1 = some (1, 3) := by kernel_rfl
theorem fd33_2 : fld Try.prog 33 2 = some (2, 3) := by kernel_rfl
theorem fd33_3 : fld Try.prog 33 3 = some (3, 3) := by kernel_rfl
theorem fd33_4 : fld Try.prog 33 4 = some (4, 3) := by kernel_rfl
theorem fd33_5 : fld Try.prog 33 5 = some (5, 3) := by kernel_rfl
theorem zz33 : zc Try.prog 33 = [V.nil, V.int .i64 0, V.int .i64 0, V.int .i64 0, V.int .i64 0, V.int .i64 0] := by kernel_rfl
theorem cz34 : Try.prog.cellsOf 34 = 1 := by kernel_rfl
theorem tk34 : tyOk Try.prog 34 = true := by kernel_rfl
theorem ag34 : isAg Try.prog 34 = false := by kernel_rfl
theorem by34 : Try.prog.bytesOf 34 = 24 := by kernel_rfl
theorem se34 : slEl Try.prog 34 = some 66 := by kernel_rfl
theorem ae34 : arEl Try.prog 34 = none := by kernel_rfl
theorem zz34 : zc Try.prog 34 = [V.nil] := by kernel_rfl
theorem cz35 : Try.prog.cellsOf 35 = 4 := by kernel_rfl
theorem tk35 : tyOk Try.prog 35 = true := by kernel_rfl
theorem ag35 : isAg Try.prog 35 = true := by kernel_rfl
theorem by35 : Try.prog.bytesOf 35 = 32 := by kernel_rfl
theorem se35 : slEl Try.prog 35 = none := by kernel_rfl
theorem ae35 : arEl Try.prog 35 = none := by kernel_rfl
theorem st35 : isSt Try.prog 35 = true := by kernel_rfl
theorem fo35 : fldsOk Try.prog 35 = true := by kernel_rfl
theorem fd35_0 : fld Try.prog 35 0 = some (0, 3) := by kernel_rfl
theorem fd35_1 : fld Try.prog 35 1 = some (1, 3) := by kernel_rfl
theorem fd35_2 : fld Try.prog 35 2 = some (2, 3) := by kernel_rfl
theorem fd35_3 : fld Try.prog 35 3 = some (3, 4) := by kernel_rfl
theorem lt35 : leafTs Try.prog 35 = [3, 3, 3, 4] := by kernel_rfl
theorem fe35 : flatEq Try.prog 35 = true := by kernel_rfl
theorem zz35 : zc Try.prog 35 = [V.int .i64 0, V.int .i64 0, V.int .i64 0, V.bool false] := by kernel_rfl
theorem cz36 : Try.prog.cellsOf 36 = 4 := by kernel_rfl
theorem tk36 : tyOk Try.prog 36 = true := by kernel_rfl
theorem ag36 : isAg Try.prog 36 = true := by kernel_rfl
theorem by36 : Try.prog.bytesOf 36 = 32 := by kernel_rfl
theorem se36 : slEl Try.prog 36 = none := by kernel_rfl
theorem ae36 : arEl Try.prog 36 = none := by kernel_rfl
theorem st36 : isSt Try.prog 36 = true := by kernel_rfl
theorem fo36 : fldsOk Try.prog 36 = true := by kernel_rfl
theorem fd36_0 : fld Try.prog 36 0 = some (0, 3) := by kernel_rfl
theorem fd36_1 : fld Try.prog 36 1 = some (1, 3) := by kernel_rfl
theorem fd36_2 : fld Try.prog 36 2 = some (2, 3) := by kernel_rfl
theorem fd36_3 : fld Try.prog 36 3 = some (3, 4) := by kernel_rfl
theorem lt36 : leafTs Try.prog 36 = [3, 3, 3, 4] := by kernel_rfl
theorem fe36 : flatEq Try.prog 36 = true := by kernel_rfl
theorem zz36 : zc Try.prog 36 = [V.int .i64 0, V.int .i64 0, V.int .i64 0, V.bool false] := by kernel_rfl
theorem cz37 : Try.prog.cellsOf 37 = 5 := by kernel_rfl
theorem tk37 : tyOk Try.prog 37 = true := by kernel_rfl
theorem ag37 : isAg Try.prog 37 = true := by kernel_rfl
theorem by37 : Try.prog.bytesOf 37 = 40 := by kernel_rfl
theorem se37 : slEl Try.prog 37 = none := by kernel_rfl
theorem ae37 : arEl Try.prog 37 = none := by kernel_rfl
theorem st37 : isSt Try.prog 37 = true := by kernel_rfl
theorem fo37 : fldsOk Try.prog 37 = true := by kernel_rfl
theorem fd37_0 : fld Try.prog 37 0 = some (0, 36) := by kernel_rfl
theorem fd37_1 : fld Try.prog 37 1 = some (4, 3) := by kernel_rfl
theorem zz37 : zc Try.prog 37 = [V.int .i64 0, V.int .i64 0, V.int .i64 0, V.bool false, V.int .i64 0] := by kernel_rfl
theorem cz38 : Try.prog.cellsOf 38 = 5 := by kernel_rfl
theorem tk38 : tyOk Try.prog 38 = true := by kernel_rfl
theorem ag38 : isAg Try.prog 38 = true := by kernel_rfl
theorem by38 : Try.prog.bytesOf 38 = 40 := by kernel_rfl
theorem se38 : slEl Try.prog 38 = none := by kernel_rfl
theorem ae38 : arEl Try.prog 38 = none := by kernel_rfl
theorem st38 : isSt Try.prog 38 = true := by kernel_rfl
theorem fo38 : fldsOk Try.prog 38 = true := by kernel_rfl
theorem fd38_0 : fld Try.prog 38 0 = some (0, 36) := by kernel_rfl
theorem fd38_1 : fld Try.prog 38 1 = some (4, 3) := by kernel_rfl
theorem zz38 : zc Try.prog 38 = [V.int .i64 0, V.int .i64 0, V.int .i64 0, V.bool false, V.int .i64 0] := by kernel_rfl
theorem cz39 : Try.prog.cellsOf 39 = 9 := by kernel_rfl
theorem tk39 : tyOk Try.prog 39 = true := by kernel_rfl
theorem ag39 : isAg Try.prog 39 = true := by kernel_rfl
theorem by39 : Try.prog.bytesOf 39 = 72 := by kernel_rfl
theorem se39 : slEl Try.prog 39 = none := by kernel_rfl
theorem ae39 : arEl Try.prog 39 = none := by kernel_rfl
theorem st39 : isSt Try.prog 39 = true := by kernel_rfl
theorem fo39 : fldsOk Try.prog 39 = true := by kernel_rfl
theorem fd39_0 : fld Try.prog 39 0 = some (0, 38) := by kernel_rfl
theorem fd39_1 : fld Try.prog 39 1 = some (5, 3) := by kernel_rfl
theorem fd39_2 : fld Try.prog 39 2 = some (6, 3) := by kernel_rfl
theorem fd39_3 : fld Try.prog 39 3 = some (7, 3) := by kernel_rfl
theorem fd39_4 : fld Try.prog 39 4 = some (8, 3) := by kernel_rfl
theorem zz39 : zc Try.prog 39 = [V.int .i64 0, V.int .i64 0, V.int .i64 0, V.bool false, V.int .i64 0, V.int .i64 0, V.int .i64 0, V.int .i64 0, V.int .i64 0] := by kernel_rfl
theorem cz40 : Try.prog.cellsOf 40 = 9 := by kernel_rfl
theorem tk40 : tyOk Try.prog 40 = true := by kernel_rfl
theorem ag40 : isAg Try.prog 40 = true := by kernel_rfl
theorem by40 : Try.prog.bytesOf 40 = 72 := by kernel_rfl
theorem se40 : slEl Try.prog 40 = none := by kernel_rfl
theorem ae40 : arEl Try.prog 40 = none := by kernel_rfl
theorem st40 : isSt Try.prog 40 = true := by kernel_rfl
theorem fo40 : fldsOk Try.prog 40 = true := by kernel_rfl
theorem fd40_0 : fld Try.prog 40 0 = some (0, 38) := by kernel_rfl
theorem fd40_1 : fld Try.prog 40 1 = some (5, 3) := by kernel_rfl
theorem fd40_2 : fld Try.prog 40 2 = some (6, 3) := by kernel_rfl
theorem fd40_3 : fld Try.prog 40 3 = some (7, 3) := by kernel_rfl
theorem fd40_4 : fld Try.prog 40 4 = some (8, 3) := by kernel_rfl
theorem zz40 : zc Try.prog 40 = [V.int .i64 0, V.int .i64 0, V.int .i64 0, V.bool false, V.int .i64 0, V.int .i64 0, V.int .i64 0, V.int .i64 0, V.int .i64 0] := by kernel_rfl
theorem cz41 : Try.prog.cellsOf 41 = 1 := by kernel_rfl
theorem tk41 : tyOk Try.prog 41 = true := by kernel_rfl
theorem ag41 : isAg Try.prog 41 = false := by kernel_rfl
theorem by41 : Try.prog.bytesOf 41 = 8 := by kernel_rfl
theorem se41 : slEl Try.prog 41 = none := by kernel_rfl
theorem ae41 : arEl Try.prog 41 = none := by kernel_rfl
theorem if41 : isFn Try.prog 41 = true := by kernel_rfl
theorem zz41 : zc Try.prog 41 = [V.nilf] := by kernel_rfl
theorem cz42 : Try.prog.cellsOf 42 = 1 := by kernel_rfl
theorem tk42 : tyOk Try.prog 42 = true := by kernel_rfl
theorem ag42 : isAg Try.prog 42 = false := by kernel_rfl
theorem by42 : Try.prog.bytesOf 42 = 8 := by kernel_rfl
theorem se42 : slEl Try.prog 42 = none := by kernel_rfl
theorem ae42 : arEl Try.prog 42 = none := by kernel_rfl
theorem if42 : isFn Try.prog 42 = true := by kernel_rfl
theorem zz42 : zc Try.prog 42 = [V.nilf] := by kernel_rfl
theorem cz43 : Try.prog.cellsOf 43 = 1 := by kernel_rfl
theorem tk43 : tyOk Try.prog 43 = true := by kernel_rfl
theorem ag43 : isAg Try.prog 43 = false := by kernel_rfl
theorem by43 : Try.prog.bytesOf 43 = 8 := by kernel_rfl
theorem se43 : slEl Try.prog 43 = none := by kernel_rfl
theorem ae43 : arEl Try.prog 43 = none := by kernel_rfl
theorem if43 : isFn Try.prog 43 = true := by kernel_rfl
theorem zz43 : zc Try.prog 43 = [V.nilf] := by kernel_rfl
theorem cz44 : Try.prog.cellsOf 44 = 1 := by kernel_rfl
theorem tk44 : tyOk Try.prog 44 = true := by kernel_rfl
theorem ag44 : isAg Try.prog 44 = false := by kernel_rfl
theorem by44 : Try.prog.bytesOf 44 = 8 := by kernel_rfl
theorem se44 : slEl Try.prog 44 = none := by kernel_rfl
theorem ae44 : arEl Try.prog 44 = none := by kernel_rfl
theorem if44 : isFn Try.prog 44 = true := by kernel_rfl
theorem zz44 : zc Try.prog 44 = [V.nilf] := by kernel_rfl
theorem cz45 : Try.prog.cellsOf 45 = 1 := by kernel_rfl
theorem tk45 : tyOk Try.prog 45 = true := by kernel_rfl
theorem ag45 : isAg Try.prog 45 = false := by kernel_rfl
theorem by45 : Try.prog.bytesOf 45 = 8 := by kernel_rfl
theorem se45 : slEl Try.prog 45 = none := by kernel_rfl
theorem ae45 : arEl Try.prog 45 = none := by kernel_rfl
theorem if45 : isFn Try.prog 45 = true := by kernel_rfl
theorem zz45 : zc Try.prog 45 = [V.nilf] := by kernel_rfl
theorem cz46 : Try.prog.cellsOf 46 = 1 := by kernel_rfl
theorem tk46 : tyOk Try.prog 46 = true := by kernel_rfl
theorem ag46 : isAg Try.prog 46 = false := by kernel_rfl
theorem by46 : Try.prog.bytesOf 46 = 8 := by kernel_rfl
theorem se46 : slEl Try.prog 46 = none := by kernel_rfl
theorem ae46 : arEl Try.prog 46 = none := by kernel_rfl
theorem if46 : isFn Try.prog 46 = true := by kernel_rfl
theorem zz46 : zc Try.prog 46 = [V.nilf] := by kernel_rfl
theorem cz47 : Try.prog.cellsOf 47 = 1 := by kernel_rfl
theorem tk47 : tyOk Try.prog 47 = true := by kernel_rfl
theorem ag47 : isAg Try.prog 47 = false := by kernel_rfl
theorem by47 : Try.prog.bytesOf 47 = 24 := by kernel_rfl
theorem se47 : slEl Try.prog 47 = some 115 := by kernel_rfl
theorem ae47 : arEl Try.prog 47 = none := by kernel_rfl
theorem zz47 : zc Try.prog 47 = [V.nil] := by kernel_rfl
theorem cz48 : Try.prog.cellsOf 48 = 6 := by kernel_rfl
theorem tk48 : tyOk Try.prog 48 = true := by kernel_rfl
theorem ag48 : isAg Try.prog 48 = true := by kernel_rfl
theorem by48 : Try.prog.bytesOf 48 = 64 := by kernel_rfl
theorem se48 : slEl Try.prog 48 = none := by kernel_rfl
theorem ae48 : arEl Try.prog 48 = none := by kernel_rfl
theorem st48 : isSt Try.prog 48 = true := by kernel_rfl
theorem fo48 : fldsOk Try.prog 48 = true := by kernel_rfl
theorem fd48_0 : fld Try.prog 48 0 = some (0, 3) := by kernel_rfl
theorem fd48_1 : fld Try.prog 48 1 = some (1, 3) := by kernel_rfl
theorem fd48_2 : fld Try.prog 48 2 = some (2, 47) := by kernel_rfl
theorem fd48_3 : fld Try.prog 48 3 = some (3, 3) := by kernel_rfl
theorem fd48_4 : fld Try.prog 48 4 = some (4, 3) := by kernel_rfl
theorem fd48_5 : fld Try.prog 48 5 = some (5, 3) := by kernel_rfl
theorem zz48 : zc Try.prog 48 = [V.int .i64 0, V.int .i64 0, V.nil, V.int .i64 0, V.int .i64 0, V.int .i64 0] := by kernel_rfl
theorem cz49 : Try.prog.cellsOf 49 = 6 := by kernel_rfl
theorem tk49 : tyOk Try.prog 49 = true := by kernel_rfl
theorem ag49 : isAg Try.prog 49 = true := by kernel_rfl
theorem by49 : Try.prog.bytesOf 49 = 64 := by kernel_rfl
theorem se49 : slEl Try.prog 49 = none := by kernel_rfl
theorem ae49 : arEl Try.prog 49 = none := by kernel_rfl
theorem st49 : isSt Try.prog 49 = true := by kernel_rfl
theorem fo49 : fldsOk Try.prog 49 = true := by kernel_rfl
theorem fd49_0 : fld Try.prog 49 0 = some (0, 3) := by kernel_rfl
theorem fd49_1 : fld Try.prog 49 1 = some (1, 3) := by kernel_rfl
theorem fd49_2 : fld Try.prog 49 2 = some (2, 47) := by kernel_rfl
theorem fd49_3 : fld Try.prog 49 3 = some (3, 3) := by kernel_rfl
theorem fd49_4 : fld Try.prog 49 4 = some (4, 3) := by kernel_rfl
theorem fd49_5 : fld Try.prog 49 5 = some (5, 3) := by kernel_rfl
theorem zz49 : zc Try.prog 49 = [V.int .i64 0, V.int .i64 0, V.nil, V.int .i64 0, V.int .i64 0, V.int .i64 0] := by kernel_rfl
theorem cz50 : Try.prog.cellsOf 50 = 2 := by kernel_rfl
theorem tk50 : tyOk Try.prog 50 = true := by kernel_rfl
theorem ag50 : isAg Try.prog 50 = true := by kernel_rfl
theorem by50 : Try.prog.bytesOf 50 = 16 := by kernel_rfl
theorem se50 : slEl Try.prog 50 = none := by kernel_rfl
theorem ae50 : arEl Try.prog 50 = none := by kernel_rfl
theorem st50 : isSt Try.prog 50 = true := by kernel_rfl
theorem fo50 : fldsOk Try.prog 50 = true := by kernel_rfl
theorem fd50_0 : fld Try.prog 50 0 = some (0, 3) := by kernel_rfl
theorem fd50_1 : fld Try.prog 50 1 = some (1, 3) := by kernel_rfl
theorem lt50 : leafTs Try.prog 50 = [3, 3] := by kernel_rfl
theorem fe50 : flatEq Try.prog 50 = true := by kernel_rfl
theorem zz50 : zc Try.prog 50 = [V.int .i64 0, V.int .i64 0] := by kernel_rfl
theorem cz51 : Try.prog.cellsOf 51 = 2 := by kernel_rfl
theorem tk51 : tyOk Try.prog 51 = true := by kernel_rfl
theorem ag51 : isAg Try.prog 51 = true := by kernel_rfl
theorem by51 : Try.prog.bytesOf 51 = 16 := by kernel_rfl
theorem se51 : slEl Try.prog 51 = none := by kernel_rfl
theorem ae51 : arEl Try.prog 51 = none := by kernel_rfl
theorem st51 : isSt Try.prog 51 = true := by kernel_rfl
theorem fo51 : fldsOk Try.prog 51 = true := by kernel_rfl
theorem fd51_0 : fld Try.prog 51 0 = some (0, 3) := by kernel_rfl
theorem fd51_1 : fld Try.prog 51 1 = some (1, 3) := by kernel_rfl
theorem lt51 : leafTs Try.prog 51 = [3, 3] := by kernel_rfl
theorem fe51 : flatEq Try.prog 51 = true := by kernel_rfl
theorem zz51 : zc Try.prog 51 = [V.int .i64 0, V.int .i64 0] := by kernel_rfl
theorem cz52 : Try.prog.cellsOf 52 = 3 := by kernel_rfl
theorem tk52 : tyOk Try.prog 52 = true := by kernel_rfl
theorem ag52 : isAg Try.prog 52 = true := by kernel_rfl
theorem by52 : Try.prog.bytesOf 52 = 40 := by kernel_rfl
theorem se52 : slEl Try.prog 52 = none := by kernel_rfl
theorem ae52 : arEl Try.prog 52 = none := by kernel_rfl
theorem st52 : isSt Try.prog 52 = true := by kernel_rfl
theorem fo52 : fldsOk Try.prog 52 = true := by kernel_rfl
theorem fd52_0 : fld Try.prog 52 0 = some (0, 51) := by kernel_rfl
theorem fd52_1 : fld Try.prog 52 1 = some (2, 24) := by kernel_rfl
theorem zz52 : zc Try.prog 52 = [V.int .i64 0, V.int .i64 0, V.nil] := by kernel_rfl
theorem cz53 : Try.prog.cellsOf 53 = 3 := by kernel_rfl
theorem tk53 : tyOk Try.prog 53 = true := by kernel_rfl
theorem ag53 : isAg Try.prog 53 = true := by kernel_rfl
theorem by53 : Try.prog.bytesOf 53 = 40 := by kernel_rfl
theorem se53 : slEl Try.prog 53 = none := by kernel_rfl
theorem ae53 : arEl Try.prog 53 = none := by kernel_rfl
theorem st53 : isSt Try.prog 53 = true := by kernel_rfl
theorem fo53 : fldsOk Try.prog 53 = true := by kernel_rfl
theorem fd53_0 : fld Try.prog 53 0 = some (0, 51) := by kernel_rfl
theorem fd53_1 : fld Try.prog 53 1 = some (2, 24) := by kernel_rfl
theorem zz53 : zc Try.prog 53 = [V.int .i64 0, V.int .i64 0, V.nil] := by kernel_rfl
theorem cz54 : Try.prog.cellsOf 54 = 1 := by kernel_rfl
theorem tk54 : tyOk Try.prog 54 = true := by kernel_rfl
theorem ag54 : isAg Try.prog 54 = false := by kernel_rfl
theorem by54 : Try.prog.bytesOf 54 = 8 := by kernel_rfl
theorem se54 : slEl Try.prog 54 = none := by kernel_rfl
theorem ae54 : arEl Try.prog 54 = none := by kernel_rfl
theorem if54 : isFn Try.prog 54 = true := by kernel_rfl
theorem zz54 : zc Try.prog 54 = [V.nilf] := by kernel_rfl
theorem cz55 : Try.prog.cellsOf 55 = 1 := by kernel_rfl
theorem tk55 : tyOk Try.prog 55 = true := by kernel_rfl
theorem ag55 : isAg Try.prog 55 = false := by kernel_rfl
theorem by55 : Try.prog.bytesOf 55 = 8 := by kernel_rfl
theorem se55 : slEl Try.prog 55 = none := by kernel_rfl
theorem ae55 : arEl Try.prog 55 = none := by kernel_rfl
theorem if55 : isFn Try.prog 55 = true := by kernel_rfl
theorem zz55 : zc Try.prog 55 = [V.nilf] := by kernel_rfl
theorem cz56 : Try.prog.cellsOf 56 = 1 := by kernel_rfl
theorem tk56 : tyOk Try.prog 56 = true := by kernel_rfl
theorem ag56 : isAg Try.prog 56 = false := by kernel_rfl
theorem by56 : Try.prog.bytesOf 56 = 8 := by kernel_rfl
theorem se56 : slEl Try.prog 56 = none := by kernel_rfl
theorem ae56 : arEl Try.prog 56 = none := by kernel_rfl
theorem if56 : isFn Try.prog 56 = true := by kernel_rfl
theorem zz56 : zc Try.prog 56 = [V.nilf] := by kernel_rfl
theorem cz58 : Try.prog.cellsOf 58 = 1 := by kernel_rfl
theorem tk58 : tyOk Try.prog 58 = true := by kernel_rfl
theorem ag58 : isAg Try.prog 58 = false := by kernel_rfl
theorem by58 : Try.prog.bytesOf 58 = 8 := by kernel_rfl
theorem se58 : slEl Try.prog 58 = none := by kernel_rfl
theorem ae58 : arEl Try.prog 58 = none := by kernel_rfl
theorem if58 : isFn Try.prog 58 = true := by kernel_rfl
theorem zz58 : zc Try.prog 58 = [V.nilf] := by kernel_rfl
theorem cz59 : Try.prog.cellsOf 59 = 1 := by kernel_rfl
theorem tk59 : tyOk Try.prog 59 = true := by kernel_rfl
theorem ag59 : isAg Try.prog 59 = false := by kernel_rfl
theorem by59 : Try.prog.bytesOf 59 = 8 := by kernel_rfl
theorem se59 : slEl Try.prog 59 = none := by kernel_rfl
theorem ae59 : arEl Try.prog 59 = none := by kernel_rfl
theorem if59 : isFn Try.prog 59 = true := by kernel_rfl
theorem zz59 : zc Try.prog 59 = [V.nilf] := by kernel_rfl
theorem cz61 : Try.prog.cellsOf 61 = 1 := by kernel_rfl
theorem tk61 : tyOk Try.prog 61 = true := by kernel_rfl
theorem ag61 : isAg Try.prog 61 = false := by kernel_rfl
theorem by61 : Try.prog.bytesOf 61 = 8 := by kernel_rfl
theorem se61 : slEl Try.prog 61 = none := by kernel_rfl
theorem ae61 : arEl Try.prog 61 = none := by kernel_rfl
theorem if61 : isFn Try.prog 61 = true := by kernel_rfl
theorem zz61 : zc Try.prog 61 = [V.nilf] := by kernel_rfl
theorem cz62 : Try.prog.cellsOf 62 = 1 := by kernel_rfl
theorem tk62 : tyOk Try.prog 62 = true := by kernel_rfl
theorem ag62 : isAg Try.prog 62 = false := by kernel_rfl
theorem by62 : Try.prog.bytesOf 62 = 24 := by kernel_rfl
theorem se62 : slEl Try.prog 62 = some 67 := by kernel_rfl
theorem ae62 : arEl Try.prog 62 = none := by kernel_rfl
theorem zz62 : zc Try.prog 62 = [V.nil] := by kernel_rfl
theorem cz64 : Try.prog.cellsOf 64 = 1 := by kernel_rfl
theorem tk64 : tyOk Try.prog 64 = true := by kernel_rfl
theorem ag64 : isAg Try.prog 64 = false := by kernel_rfl
theorem by64 : Try.prog.bytesOf 64 = 8 := by kernel_rfl
theorem se64 : slEl Try.prog 64 = none := by kernel_rfl
theorem ae64 : arEl Try.prog 64 = none := by kernel_rfl
theorem if64 : isFn Try.prog 64 = true := by kernel_rfl
theorem zz64 : zc Try.prog 64 = [V.nilf] := by kernel_rfl
theorem cz65 : Try.prog.cellsOf 65 = 3 := by kernel_rfl
theorem tk65 : tyOk Try.prog 65 = true := by kernel_rfl
theorem ag65 : isAg Try.prog 65 = true := by kernel_rfl
theorem by65 : Try.prog.bytesOf 65 = 24 := by kernel_rfl
theorem se65 : slEl Try.prog 65 = none := by kernel_rfl
theorem ae65 : arEl Try.prog 65 = none := by kernel_rfl
theorem st65 : isSt Try.prog 65 = true := by kernel_rfl
theorem fo65 : fldsOk Try.prog 65 = true := by kernel_rfl
theorem fd65_0 : fld Try.prog 65 0 = some (0, 3) := by kernel_rfl
theorem fd65_1 : fld Try.prog 65 1 = some (1, 3) := by kernel_rfl
theorem fd65_2 : fld Try.prog 65 2 = some (2, 3) := by kernel_rfl
theorem lt65 : leafTs Try.prog 65 = [3, 3, 3] := by kernel_rfl
theorem fe65 : flatEq Try.prog 65 = true := by kernel_rfl
theorem zz65 : zc Try.prog 65 = [V.int .i64 0, V.int .i64 0, V.int .i64 0] := by kernel_rfl
theorem cz66 : Try.prog.cellsOf 66 = 3 := by kernel_rfl
theorem tk66 : tyOk Try.prog 66 = true := by kernel_rfl
theorem ag66 : isAg Try.prog 66 = true := by kernel_rfl
theorem by66 : Try.prog.bytesOf 66 = 24 := by kernel_rfl
theorem se66 : slEl Try.prog 66 = none := by kernel_rfl
theorem ae66 : arEl Try.prog 66 = none := by kernel_rfl
theorem st66 : isSt Try.prog 66 = true := by kernel_rfl
theorem fo66 : fldsOk Try.prog 66 = true := by kernel_rfl
theorem fd66_0 : fld Try.prog 66 0 = some (0, 3) := by kernel_rfl
theorem fd66_1 : fld Try.prog 66 1 = some (1, 3) := by kernel_rfl
theorem fd66_2 : fld Try.prog 66 2 = some (2, 3) := by kernel_rfl
theorem lt66 : leafTs Try.prog 66 = [3, 3, 3] := by kernel_rfl
theorem fe66 : flatEq Try.prog 66 = true := by kernel_rfl
theorem zz66 : zc Try.prog 66 = [V.int .i64 0, V.int .i64 0, V.int .i64 0] := by kernel_rfl
theorem cz67 : Try.prog.cellsOf 67 = 2 := by kernel_rfl
theorem tk67 : tyOk Try.prog 67 = true := by kernel_rfl
theorem ag67 : isAg Try.prog 67 = true := by kernel_rfl
theorem by67 : Try.prog.bytesOf 67 = 16 := by kernel_rfl
theorem se67 : slEl Try.prog 67 = none := by kernel_rfl
theorem ae67 : arEl Try.prog 67 = some (2, 3) := by kernel_rfl
theorem st67 : isSt Try.prog 67 = false := by kernel_rfl
theorem lt67 : leafTs Try.prog 67 = [3, 3] := by kernel_rfl
theorem fe67 : flatEq Try.prog 67 = true := by kernel_rfl
theorem zz67 : zc Try.prog 67 = [V.int .i64 0, V.int .i64 0] := by kernel_rfl
theorem cz68 : Try.prog.cellsOf 68 = 3 := by kernel_rfl
theorem tk68 : tyOk Try.prog 68 = true := by kernel_rfl
theorem ag68 : isAg Try.prog 68 = true := by kernel_rfl
theorem by68 : Try.prog.bytesOf 68 = 24 := by kernel_rfl
theorem se68 : slEl Try.prog 68 = none := by kernel_rfl
theorem ae68 : arEl Try.prog 68 = none := by kernel_rfl
theorem st68 : isSt Try.prog 68 = true := by kernel_rfl
theorem fo68 : fldsOk Try.prog 68 = true := by kernel_rfl
theorem fd68_0 : fld Try.prog 68 0 = some (0, 3) := by kernel_rfl
theorem fd68_1 : fld Try.prog 68 1 = some (1, 3) := by kernel_rfl
theorem fd68_2 : fld Try.prog 68 2 = some (2, 3) := by kernel_rfl
theorem lt68 : leafTs Try.prog 68 = [3, 3, 3] := by kernel_rfl
theorem fe68 : flatEq Try.prog 68 = true := by kernel_rfl
theorem zz68 : zc Try.prog 68 = [V.int .i64 0, V.int .i64 0, V.int .i64 0] := by kernel_rfl
theorem cz69 : Try.prog.cellsOf 69 = 3 := by kernel_rfl
theorem tk69 : tyOk Try.prog 69 = true := by kernel_rfl
theorem ag69 : isAg Try.prog 69 = true := by kernel_rfl
theorem by69 : Try.prog.bytesOf 69 = 24 := by kernel_rfl
theorem se69 : slEl Try.prog 69 = none := by kernel_rfl
theorem ae69 : arEl Try.prog 69 = none := by kernel_rfl
theorem st69 : isSt Try.prog 69 = true := by kernel_rfl
theorem fo69 : fldsOk Try.prog 69 = true := by kernel_rfl
theorem fd69_0 : fld Try.prog 69 0 = some (0, 3) := by kernel_rfl
theorem fd69_1 : fld Try.prog 69 1 = some (1, 3) := by kernel_rfl
theorem fd69_2 : fld Try.prog 69 2 = some (2, 3) := by kernel_rfl
theorem lt69 : leafTs Try.prog 69 = [3, 3, 3] := by kernel_rfl
theorem fe69 : flatEq Try.prog 69 = true := by kernel_rfl
theorem zz69 : zc Try.prog 69 = [V.int .i64 0, V.int .i64 0, V.int .i64 0] := by kernel_rfl
theorem cz70 : Try.prog.cellsOf 70 = 1 := by kernel_rfl
theorem tk70 : tyOk Try.prog 70 = true := by kernel_rfl
theorem ag70 : isAg Try.prog 70 = false := by kernel_rfl
theorem by70 : Try.prog.bytesOf 70 = 8 := by kernel_rfl
theorem se70 : slEl Try.prog 70 = none := by kernel_rfl
theorem ae70 : arEl Try.prog 70 = none := by kernel_rfl
theorem if70 : isFn Try.prog 70 = true := by kernel_rfl
theorem zz70 : zc Try.prog 70 = [V.nilf] := by kernel_rfl
theorem cz71 : Try.prog.cellsOf 71 = 5 := by kernel_rfl
theorem tk71 : tyOk Try.prog 71 = true := by kernel_rfl
theorem ag71 : isAg Try.prog 71 = true := by kernel_rfl
theorem by71 : Try.prog.bytesOf 71 = 56 := by kernel_rfl
theorem se71 : slEl Try.prog 71 = none := by kernel_rfl
theorem ae71 : arEl Try.prog 71 = none := by kernel_rfl
theorem st71 : isSt Try.prog 71 = true := by kernel_rfl
theorem fo71 : fldsOk Try.prog 71 = true := by kernel_rfl
theorem fd71_0 : fld Try.prog 71 0 = some (0, 53) := by kernel_rfl
theorem fd71_1 : fld Try.prog 71 1 = some (3, 67) := by kernel_rfl
theorem zz71 : zc Try.prog 71 = [V.int .i64 0, V.int .i64 0, V.nil, V.int .i64 0, V.int .i64 0] := by kernel_rfl
theorem cz72 : Try.prog.cellsOf 72 = 5 := by kernel_rfl
theorem tk72 : tyOk Try.prog 72 = true := by kernel_rfl
theorem ag72 : isAg Try.prog 72 = true := by kernel_rfl
theorem by72 : Try.prog.bytesOf 72 = 56 := by kernel_rfl
theorem se72 : slEl Try.prog 72 = none := by kernel_rfl
theorem ae72 : arEl Try.prog 72 = none := by kernel_rfl
theorem st72 : isSt Try.prog 72 = true := by kernel_rfl
theorem fo72 : fldsOk Try.prog 72 = true := by kernel_rfl
theorem fd72_0 : fld Try.prog 72 0 = some (0, 53) := by kernel_rfl
theorem fd72_1 : fld Try.prog 72 1 = some (3, 67) := by kernel_rfl
theorem zz72 : zc Try.prog 72 = [V.int .i64 0, V.int .i64 0, V.nil, V.int .i64 0, V.int .i64 0] := by kernel_rfl
theorem cz73 : Try.prog.cellsOf 73 = 1 := by kernel_rfl
theorem tk73 : tyOk Try.prog 73 = true := by kernel_rfl
theorem ag73 : isAg Try.prog 73 = false := by kernel_rfl
theorem by73 : Try.prog.bytesOf 73 = 8 := by kernel_rfl
theorem se73 : slEl Try.prog 73 = none := by kernel_rfl
theorem ae73 : arEl Try.prog 73 = none := by kernel_rfl
theorem if73 : isFn Try.prog 73 = true := by kernel_rfl
theorem zz73 : zc Try.prog 73 = [V.nilf] := by kernel_rfl
theorem cz75 : Try.prog.cellsOf 75 = 1 := by kernel_rfl
theorem tk75 : tyOk Try.prog 75 = true := by kernel_rfl
theorem ag75 : isAg Try.prog 75 = false := by kernel_rfl
theorem by75 : Try.prog.bytesOf 75 = 8 := by kernel_rfl
theorem se75 : slEl Try.prog 75 = none := by kernel_rfl
theorem ae75 : arEl Try.prog 75 = none := by kernel_rfl
theorem if75 : isFn Try.prog 75 = true := by kernel_rfl
theorem zz75 : zc Try.prog 75 = [V.nilf] := by kernel_rfl
theorem cz77 : Try.prog.cellsOf 77 = 1 := by kernel_rfl
theorem tk77 : tyOk Try.prog 77 = true := by kernel_rfl
theorem ag77 : isAg Try.prog 77 = false := by kernel_rfl
theorem by77 : Try.prog.bytesOf 77 = 8 := by kernel_rfl
theorem se77 : slEl Try.prog 77 = none := by kernel_rfl
theorem ae77 : arEl Try.prog 77 = none := by kernel_rfl
theorem if77 : isFn Try.prog 77 = true := by kernel_rfl
theorem zz77 : zc Try.prog 77 = [V.nilf] := by kernel_rfl
theorem cz78 : Try.prog.cellsOf 78 = 1 := by kernel_rfl
theorem tk78 : tyOk Try.prog 78 = true := by kernel_rfl
theorem ag78 : isAg Try.prog 78 = false := by kernel_rfl
theorem by78 : Try.prog.bytesOf 78 = 8 := by kernel_rfl
theorem se78 : slEl Try.prog 78 = none := by kernel_rfl
theorem ae78 : arEl Try.prog 78 = none := by kernel_rfl
theorem if78 : isFn Try.prog 78 = true := by kernel_rfl
theorem zz78 : zc Try.prog 78 = [V.nilf] := by kernel_rfl
theorem cz79 : Try.prog.cellsOf 79 = 1 := by kernel_rfl
theorem tk79 : tyOk Try.prog 79 = true := by kernel_rfl
theorem ag79 : isAg Try.prog 79 = false := by kernel_rfl
theorem by79 : Try.prog.bytesOf 79 = 8 := by kernel_rfl
theorem se79 : slEl Try.prog 79 = none := by kernel_rfl
theorem ae79 : arEl Try.prog 79 = none := by kernel_rfl
theorem if79 : isFn Try.prog 79 = true := by kernel_rfl
theorem zz79 : zc Try.prog 79 = [V.nilf] := by kernel_rfl
theorem cz81 : Try.prog.cellsOf 81 = 1 := by kernel_rfl
theorem tk81 : tyOk Try.prog 81 = true := by kernel_rfl
theorem ag81 : isAg Try.prog 81 = false := by kernel_rfl
theorem by81 : Try.prog.bytesOf 81 = 8 := by kernel_rfl
theorem se81 : slEl Try.prog 81 = none := by kernel_rfl
theorem ae81 : arEl Try.prog 81 = none := by kernel_rfl
theorem if81 : isFn Try.prog 81 = true := by kernel_rfl
theorem zz81 : zc Try.prog 81 = [V.nilf] := by kernel_rfl
theorem cz82 : Try.prog.cellsOf 82 = 1 := by kernel_rfl
theorem tk82 : tyOk Try.prog 82 = true := by kernel_rfl
theorem ag82 : isAg Try.prog 82 = false := by kernel_rfl
theorem by82 : Try.prog.bytesOf 82 = 8 := by kernel_rfl
theorem se82 : slEl Try.prog 82 = none := by kernel_rfl
theorem ae82 : arEl Try.prog 82 = none := by kernel_rfl
theorem if82 : isFn Try.prog 82 = true := by kernel_rfl
theorem zz82 : zc Try.prog 82 = [V.nilf] := by kernel_rfl
theorem cz84 : Try.prog.cellsOf 84 = 1 := by kernel_rfl
theorem tk84 : tyOk Try.prog 84 = true := by kernel_rfl
theorem ag84 : isAg Try.prog 84 = false := by kernel_rfl
theorem by84 : Try.prog.bytesOf 84 = 8 := by kernel_rfl
theorem se84 : slEl Try.prog 84 = none := by kernel_rfl
theorem ae84 : arEl Try.prog 84 = none := by kernel_rfl
theorem if84 : isFn Try.prog 84 = true := by kernel_rfl
theorem zz84 : zc Try.prog 84 = [V.nilf] := by kernel_rfl
theorem cz85 : Try.prog.cellsOf 85 = 1 := by kernel_rfl
theorem tk85 : tyOk Try.prog 85 = true := by kernel_rfl
theorem ag85 : isAg Try.prog 85 = false := by kernel_rfl
theorem by85 : Try.prog.bytesOf 85 = 8 := by kernel_rfl
theorem se85 : slEl Try.prog 85 = none := by kernel_rfl
theorem ae85 : arEl Try.prog 85 = none := by kernel_rfl
theorem if85 : isFn Try.prog 85 = true := by kernel_rfl
theorem zz85 : zc Try.prog 85 = [V.nilf] := by kernel_rfl
theorem cz86 : Try.prog.cellsOf 86 = 1 := by kernel_rfl
theorem tk86 : tyOk Try.prog 86 = true := by kernel_rfl
theorem ag86 : isAg Try.prog 86 = false := by kernel_rfl
theorem by86 : Try.prog.bytesOf 86 = 8 := by kernel_rfl
theorem se86 : slEl Try.prog 86 = none := by kernel_rfl
theorem ae86 : arEl Try.prog 86 = none := by kernel_rfl
theorem if86 : isFn Try.prog 86 = true := by kernel_rfl
theorem zz86 : zc Try.prog 86 = [V.nilf] := by kernel_rfl
theorem cz87 : Try.prog.cellsOf 87 = 4 := by kernel_rfl
theorem tk87 : tyOk Try.prog 87 = true := by kernel_rfl
theorem ag87 : isAg Try.prog 87 = true := by kernel_rfl
theorem by87 : Try.prog.bytesOf 87 = 32 := by kernel_rfl
theorem se87 : slEl Try.prog 87 = none := by kernel_rfl
theorem ae87 : arEl Try.prog 87 = none := by kernel_rfl
theorem st87 : isSt Try.prog 87 = true := by kernel_rfl
theorem fo87 : fldsOk Try.prog 87 = true := by kernel_rfl
theorem fd87_0 : fld Try.prog 87 0 = some (0, 3) := by kernel_rfl
theorem fd87_1 : fld Try.prog 87 1 = some (1, 4) := by kernel_rfl
theorem fd87_2 : fld Try.prog 87 2 = some (2, 3) := by kernel_rfl
theorem fd87_3 : fld Try.prog 87 3 = some (3, 4) := by kernel_rfl
theorem lt87 : leafTs Try.prog 87 = [3, 4, 3, 4] := by kernel_rfl
theorem fe87 : flatEq Try.prog 87 = true := by kernel_rfl
theorem zz87 : zc Try.prog 87 = [V.int .i64 0, V.bool false, V.int .i64 0, V.bool false] := by kernel_rfl
theorem cz88 : Try.prog.cellsOf 88 = 4 := by kernel_rfl
theorem tk88 : tyOk Try.prog 88 = true := by kernel_rfl
theorem ag88 : isAg Try.prog 88 = true := by kernel_rfl
theorem by88 : Try.prog.bytesOf 88 = 32 := by kernel_rfl
theorem se88 : slEl Try.prog 88 = none := by kernel_rfl
theorem ae88 : arEl Try.prog 88 = none := by kernel_rfl
theorem st88 : isSt Try.prog 88 = true := by kernel_rfl
theorem fo88 : fldsOk Try.prog 88 = true := by kernel_rfl
theorem fd88_0 : fld Try.prog 88 0 = some (0, 3) := by kernel_rfl
theorem fd88_1 : fld Try.prog 88 1 = some (1, 4) := by kernel_rfl
theorem fd88_2 : fld Try.prog 88 2 = some (2, 3) := by kernel_rfl
theorem fd88_3 : fld Try.prog 88 3 = some (3, 4) := by kernel_rfl
theorem lt88 : leafTs Try.prog 88 = [3, 4, 3, 4] := by kernel_rfl
theorem fe88 : flatEq Try.prog 88 = true := by kernel_rfl
theorem zz88 : zc Try.prog 88 = [V.int .i64 0, V.bool false, V.int .i64 0, V.bool false] := by kernel_rfl
theorem cz89 : Try.prog.cellsOf 89 = 1 := by kernel_rfl
theorem tk89 : tyOk Try.prog 89 = true := by kernel_rfl
theorem ag89 : isAg Try.prog 89 = false := by kernel_rfl
theorem by89 : Try.prog.bytesOf 89 = 8 := by kernel_rfl
theorem se89 : slEl Try.prog 89 = none := by kernel_rfl
theorem ae89 : arEl Try.prog 89 = none := by kernel_rfl
theorem if89 : isFn Try.prog 89 = true := by kernel_rfl
theorem zz89 : zc Try.prog 89 = [V.nilf] := by kernel_rfl
theorem cz90 : Try.prog.cellsOf 90 = 1 := by kernel_rfl
theorem tk90 : tyOk Try.prog 90 = true := by kernel_rfl
theorem ag90 : isAg Try.prog 90 = false := by kernel_rfl
theorem by90 : Try.prog.bytesOf 90 = 8 := by kernel_rfl
theorem se90 : slEl Try.prog 90 = none := by kernel_rfl
theorem ae90 : arEl Try.prog 90 = none := by kernel_rfl
theorem if90 : isFn Try.prog 90 = true := by kernel_rfl
theorem zz90 : zc Try.prog 90 = [V.nilf] := by kernel_rfl
theorem cz91 : Try.prog.cellsOf 91 = 1 := by kernel_rfl
theorem tk91 : tyOk Try.prog 91 = true := by kernel_rfl
theorem ag91 : isAg Try.prog 91 = false := by kernel_rfl
theorem by91 : Try.prog.bytesOf 91 = 8 := by kernel_rfl
theorem se91 : slEl Try.prog 91 = none := by kernel_rfl
theorem ae91 : arEl Try.prog 91 = none := by kernel_rfl
theorem if91 : isFn Try.prog 91 = true := by kernel_rfl
theorem zz91 : zc Try.prog 91 = [V.nilf] := by kernel_rfl
theorem cz92 : Try.prog.cellsOf 92 = 1 := by kernel_rfl
theorem tk92 : tyOk Try.prog 92 = true := by kernel_rfl
theorem ag92 : isAg Try.prog 92 = false := by kernel_rfl
theorem by92 : Try.prog.bytesOf 92 = 8 := by kernel_rfl
theorem se92 : slEl Try.prog 92 = none := by kernel_rfl
theorem ae92 : arEl Try.prog 92 = none := by kernel_rfl
theorem if92 : isFn Try.prog 92 = true := by kernel_rfl
theorem zz92 : zc Try.prog 92 = [V.nilf] := by kernel_rfl
theorem cz93 : Try.prog.cellsOf 93 = 1 := by kernel_rfl
theorem tk93 : tyOk Try.prog 93 = true := by kernel_rfl
theorem ag93 : isAg Try.prog 93 = false := by kernel_rfl
theorem by93 : Try.prog.bytesOf 93 = 8 := by kernel_rfl
theorem se93 : slEl Try.prog 93 = none := by kernel_rfl
theorem ae93 : arEl Try.prog 93 = none := by kernel_rfl
theorem if93 : isFn Try.prog 93 = true := by kernel_rfl
theorem zz93 : zc Try.prog 93 = [V.nilf] := by kernel_rfl
theorem cz94 : Try.prog.cellsOf 94 = 1 := by kernel_rfl
theorem tk94 : tyOk Try.prog 94 = true := by kernel_rfl
theorem ag94 : isAg Try.prog 94 = false := by kernel_rfl
theorem by94 : Try.prog.bytesOf 94 = 8 := by kernel_rfl
theorem se94 : slEl Try.prog 94 = none := by kernel_rfl
theorem ae94 : arEl Try.prog 94 = none := by kernel_rfl
theorem if94 : isFn Try.prog 94 = true := by kernel_rfl
theorem zz94 : zc Try.prog 94 = [V.nilf] := by kernel_rfl
theorem cz96 : Try.prog.cellsOf 96 = 1 := by kernel_rfl
theorem tk96 : tyOk Try.prog 96 = true := by kernel_rfl
theorem ag96 : isAg Try.prog 96 = false := by kernel_rfl
theorem by96 : Try.prog.bytesOf 96 = 8 := by kernel_rfl
theorem se96 : slEl Try.prog 96 = none := by kernel_rfl
theorem ae96 : arEl Try.prog 96 = none := by kernel_rfl
theorem if96 : isFn Try.prog 96 = true := by kernel_rfl
theorem zz96 : zc Try.prog 96 = [V.nilf] := by kernel_rfl
theorem cz97 : Try.prog.cellsOf 97 = 1 := by kernel_rfl
theorem tk97 : tyOk Try.prog 97 = true := by kernel_rfl
theorem ag97 : isAg Try.prog 97 = false := by kernel_rfl
theorem by97 : Try.prog.bytesOf 97 = 8 := by kernel_rfl
theorem se97 : slEl Try.prog 97 = none := by kernel_rfl
theorem ae97 : arEl Try.prog 97 = none := by kernel_rfl
theorem if97 : isFn Try.prog 97 = true := by kernel_rfl
theorem zz97 : zc Try.prog 97 = [V.nilf] := by kernel_rfl
theorem cz98 : Try.prog.cellsOf 98 = 1 := by kernel_rfl
theorem tk98 : tyOk Try.prog 98 = true := by kernel_rfl
theorem ag98 : isAg Try.prog 98 = false := by kernel_rfl
theorem by98 : Try.prog.bytesOf 98 = 8 := by kernel_rfl
theorem se98 : slEl Try.prog 98 = none := by kernel_rfl
theorem ae98 : arEl Try.prog 98 = none := by kernel_rfl
theorem if98 : isFn Try.prog 98 = true := by kernel_rfl
theorem zz98 : zc Try.prog 98 = [V.nilf] := by kernel_rfl
theorem cz99 : Try.prog.cellsOf 99 = 1 := by kernel_rfl
theorem tk99 : tyOk Try.prog 99 = true := by kernel_rfl
theorem ag99 : isAg Try.prog 99 = false := by kernel_rfl
theorem by99 : Try.prog.bytesOf 99 = 8 := by kernel_rfl
theorem se99 : slEl Try.prog 99 = none := by kernel_rfl
theorem ae99 : arEl Try.prog 99 = none := by kernel_rfl
theorem if99 : isFn Try.prog 99 = true := by kernel_rfl
theorem zz99 : zc Try.prog 99 = [V.nilf] := by kernel_rfl
theorem cz100 : Try.prog.cellsOf 100 = 1 := by kernel_rfl
theorem tk100 : tyOk Try.prog 100 = true := by kernel_rfl
theorem ag100 : isAg Try.prog 100 = false := by kernel_rfl
theorem by100 : Try.prog.bytesOf 100 = 8 := by kernel_rfl
theorem se100 : slEl Try.prog 100 = none := by kernel_rfl
theorem ae100 : arEl Try.prog 100 = none := by kernel_rfl
theorem if100 : isFn Try.prog 100 = true := by kernel_rfl
theorem zz100 : zc Try.prog 100 = [V.nilf] := by kernel_rfl
theorem cz101 : Try.prog.cellsOf 101 = 7 := by kernel_rfl
theorem tk101 : tyOk Try.prog 101 = true := by kernel_rfl
theorem ag101 : isAg Try.prog 101 = true := by kernel_rfl
theorem by101 : Try.prog.bytesOf 101 = 88 := by kernel_rfl
theorem se101 : slEl Try.prog 101 = none := by kernel_rfl
theorem ae101 : arEl Try.prog 101 = none := by kernel_rfl
theorem st101 : isSt Try.prog 101 = true := by kernel_rfl
theorem fo101 : fldsOk Try.prog 101 = true := by kernel_rfl
theorem fd101_0 : fld Try.prog 101 0 = some (0, 33) := by kernel_rfl
theorem fd101_1 : fld Try.prog 101 1 = some (6, 34) := by kernel_rfl
theorem zz101 : zc Try.prog 101 = [V.nil, V.int .i64 0, V.int .i64 0, V.int .i64 0, V.int .i64 0, V.int .i64 0, V.nil] := by kernel_rfl
theorem cz102 : Try.prog.cellsOf 102 = 7 := by kernel_rfl
theorem tk102 : tyOk Try.prog 102 = true := by kernel_rfl
theorem ag102 : isAg Try.prog 102 = true := by kernel_rfl
theorem by102 : Try.prog.bytesOf 102 = 88 := by kernel_rfl
theorem se102 : slEl Try.prog 102 = none := by kernel_rfl
theorem ae102 : arEl Try.prog 102 = none := by kernel_rfl
theorem st102 : isSt Try.prog 102 = true := by kernel_rfl
theorem fo102 : fldsOk Try.prog 102 = true := by kernel_rfl
theorem fd102_0 : fld Try.prog 102 0 = some (0, 33) := by kernel_rfl
theorem fd102_1 : fld Try.prog 102 1 = some (6, 34) := by kernel_rfl
theorem zz102 : zc Try.prog 102 = [V.nil, V.int .i64 0, V.int .i64 0, V.int .i64 0, V.int .i64 0, V.int .i64 0, V.nil] := by kernel_rfl
theorem cz103 : Try.prog.cellsOf 103 = 1 := by kernel_rfl
theorem tk103 : tyOk Try.prog 103 = true := by kernel_rfl
theorem ag103 : isAg Try.prog 103 = false := by kernel_rfl
theorem by103 : Try.prog.bytesOf 103 = 8 := by kernel_rfl
theorem se103 : slEl Try.prog 103 = none := by kernel_rfl
theorem ae103 : arEl Try.prog 103 = none := by kernel_rfl
theorem if103 : isFn Try.prog 103 = true := by kernel_rfl
theorem zz103 : zc Try.prog 103 = [V.nilf] := by kernel_rfl
theorem cz104 : Try.prog.cellsOf 104 = 1 := by kernel_rfl
theorem tk104 : tyOk Try.prog 104 = true := by kernel_rfl
theorem ag104 : isAg Try.prog 104 = false := by kernel_rfl
theorem by104 : Try.prog.bytesOf 104 = 8 := by kernel_rfl
theorem se104 : slEl Try.prog 104 = none := by kernel_rfl
theorem ae104 : arEl Try.prog 104 = none := by kernel_rfl
theorem if104 : isFn Try.prog 104 = true := by kernel_rfl
theorem zz104 : zc Try.prog 104 = [V.nilf] := by kernel_rfl
theorem cz105 : Try.prog.cellsOf 105 = 1 := by kernel_rfl
theorem tk105 : tyOk Try.prog 105 = true := by kernel_rfl
theorem ag105 : isAg Try.prog 105 = false := by kernel_rfl
theorem by105 : Try.prog.bytesOf 105 = 8 := by kernel_rfl
theorem se105 : slEl Try.prog 105 = none := by kernel_rfl
theorem ae105 : arEl Try.prog 105 = none := by kernel_rfl
theorem if105 : isFn Try.prog 105 = true := by kernel_rfl
theorem zz105 : zc Try.prog 105 = [V.nilf] := by kernel_rfl
theorem cz106 : Try.prog.cellsOf 106 = 1 := by kernel_rfl
theorem tk106 : tyOk Try.prog 106 = true := by kernel_rfl
theorem ag106 : isAg Try.prog 106 = false := by kernel_rfl
theorem by106 : Try.prog.bytesOf 106 = 8 := by kernel_rfl
theorem se106 : slEl Try.prog 106 = none := by kernel_rfl
theorem ae106 : arEl Try.prog 106 = none := by kernel_rfl
theorem if106 : isFn Try.prog 106 = true := by kernel_rfl
theorem zz106 : zc Try.prog 106 = [V.nilf] := by kernel_rfl
theorem cz107 : Try.prog.cellsOf 107 = 1 := by kernel_rfl
theorem tk107 : tyOk Try.prog 107 = true := by kernel_rfl
theorem ag107 : isAg Try.prog 107 = false := by kernel_rfl
theorem by107 : Try.prog.bytesOf 107 = 8 := by kernel_rfl
theorem se107 : slEl Try.prog 107 = none := by kernel_rfl
theorem ae107 : arEl Try.prog 107 = none := by kernel_rfl
theorem if107 : isFn Try.prog 107 = true := by kernel_rfl
theorem zz107 : zc Try.prog 107 = [V.nilf] := by kernel_rfl
theorem cz108 : Try.prog.cellsOf 108 = 1 := by kernel_rfl
theorem tk108 : tyOk Try.prog 108 = true := by kernel_rfl
theorem ag108 : isAg Try.prog 108 = false := by kernel_rfl
theorem by108 : Try.prog.bytesOf 108 = 8 := by kernel_rfl
theorem se108 : slEl Try.prog 108 = none := by kernel_rfl
theorem ae108 : arEl Try.prog 108 = none := by kernel_rfl
theorem if108 : isFn Try.prog 108 = true := by kernel_rfl
theorem zz108 : zc Try.prog 108 = [V.nilf] := by kernel_rfl
theorem cz109 : Try.prog.cellsOf 109 = 1 := by kernel_rfl
theorem tk109 : tyOk Try.prog 109 = true := by kernel_rfl
theorem ag109 : isAg Try.prog 109 = false := by kernel_rfl
theorem by109 : Try.prog.bytesOf 109 = 8 := by kernel_rfl
theorem se109 : slEl Try.prog 109 = none := by kernel_rfl
theorem ae109 : arEl Try.prog 109 = none := by kernel_rfl
theorem if109 : isFn Try.prog 109 = true := by kernel_rfl
theorem zz109 : zc Try.prog 109 = [V.nilf] := by kernel_rfl
theorem cz110 : Try.prog.cellsOf 110 = 2 := by kernel_rfl
theorem tk110 : tyOk Try.prog 110 = true := by kernel_rfl
theorem ag110 : isAg Try.prog 110 = true := by kernel_rfl
theorem by110 : Try.prog.bytesOf 110 = 16 := by kernel_rfl
theorem se110 : slEl Try.prog 110 = none := by kernel_rfl
theorem ae110 : arEl Try.prog 110 = none := by kernel_rfl
theorem st110 : isSt Try.prog 110 = true := by kernel_rfl
theorem fo110 : fldsOk Try.prog 110 = true := by kernel_rfl
theorem fd110_0 : fld Try.prog 110 0 = some (0, 3) := by kernel_rfl
theorem fd110_1 : fld Try.prog 110 1 = some (1, 3) := by kernel_rfl
theorem lt110 : leafTs Try.prog 110 = [3, 3] := by kernel_rfl
theorem fe110 : flatEq Try.prog 110 = true := by kernel_rfl
theorem zz110 : zc Try.prog 110 = [V.int .i64 0, V.int .i64 0] := by kernel_rfl
theorem cz111 : Try.prog.cellsOf 111 = 2 := by kernel_rfl
theorem tk111 : tyOk Try.prog 111 = true := by kernel_rfl
theorem ag111 : isAg Try.prog 111 = true := by kernel_rfl
theorem by111 : Try.prog.bytesOf 111 = 16 := by kernel_rfl
theorem se111 : slEl Try.prog 111 = none := by kernel_rfl
theorem ae111 : arEl Try.prog 111 = none := by kernel_rfl
theorem st111 : isSt Try.prog 111 = true := by kernel_rfl
theorem fo111 : fldsOk Try.prog 111 = true := by kernel_rfl
theorem fd111_0 : fld Try.prog 111 0 = some (0, 3) := by kernel_rfl
theorem fd111_1 : fld Try.prog 111 1 = some (1, 3) := by kernel_rfl
theorem lt111 : leafTs Try.prog 111 = [3, 3] := by kernel_rfl
theorem fe111 : flatEq Try.prog 111 = true := by kernel_rfl
theorem zz111 : zc Try.prog 111 = [V.int .i64 0, V.int .i64 0] := by kernel_rfl
theorem cz112 : Try.prog.cellsOf 112 = 1 := by kernel_rfl
theorem tk112 : tyOk Try.prog 112 = true := by kernel_rfl
theorem ag112 : isAg Try.prog 112 = false := by kernel_rfl
theorem by112 : Try.prog.bytesOf 112 = 8 := by kernel_rfl
theorem se112 : slEl Try.prog 112 = none := by kernel_rfl
theorem ae112 : arEl Try.prog 112 = none := by kernel_rfl
theorem if112 : isFn Try.prog 112 = true := by kernel_rfl
theorem zz112 : zc Try.prog 112 = [V.nilf] := by kernel_rfl
theorem cz113 : Try.prog.cellsOf 113 = 1 := by kernel_rfl
theorem tk113 : tyOk Try.prog 113 = true := by kernel_rfl
theorem ag113 : isAg Try.prog 113 = false := by kernel_rfl
theorem by113 : Try.prog.bytesOf 113 = 8 := by kernel_rfl
theorem se113 : slEl Try.prog 113 = none := by kernel_rfl
theorem ae113 : arEl Try.prog 113 = none := by kernel_rfl
theorem if113 : isFn Try.prog 113 = true := by kernel_rfl
theorem zz113 : zc Try.prog 113 = [V.nilf] := by kernel_rfl
theorem cz114 : Try.prog.cellsOf 114 = 2 := by kernel_rfl
theorem tk114 : tyOk Try.prog 114 = true := by kernel_rfl
theorem ag114 : isAg Try.prog 114 = true := by kernel_rfl
theorem by114 : Try.prog.bytesOf 114 = 16 := by kernel_rfl
theorem se114 : slEl Try.prog 114 = none := by kernel_rfl
theorem ae114 : arEl Try.prog 114 = none := by kernel_rfl
theorem st114 : isSt Try.prog 114 = true := by kernel_rfl
theorem fo114 : fldsOk Try.prog 114 = true := by kernel_rfl
theorem fd114_0 : fld Try.prog 114 0 = some (0, 3) := by kernel_rfl
theorem fd114_1 : fld Try.prog 114 1 = some (1, 4) := by kernel_rfl
theorem lt114 : leafTs Try.prog 114 = [3, 4] := by kernel_rfl
theorem fe114 : flatEq Try.prog 114 = true := by kernel_rfl
theorem zz114 : zc Try.prog 114 = [V.int .i64 0, V.bool false] := by kernel_rfl
theorem cz115 : Try.prog.cellsOf 115 = 2 := by kernel_rfl
theorem tk115 : tyOk Try.prog 115 = true := by kernel_rfl
theorem ag115 : isAg Try.prog 115 = true := by kernel_rfl
theorem by115 : Try.prog.bytesOf 115 = 16 := by kernel_rfl
theorem se115 : slEl Try.prog 115 = none := by kernel_rfl
theorem ae115 : arEl Try.prog 115 = none := by kernel_rfl
theorem st115 : isSt Try.prog 115 = true := by kernel_rfl
theorem fo115 : fldsOk Try.prog 115 = true := by kernel_rfl
theorem fd115_0 : fld Try.prog 115 0 = some (0, 3) := by kernel_rfl
theorem fd115_1 : fld Try.prog 115 1 = some (1, 4) := by kernel_rfl
theorem lt115 : leafTs Try.prog 115 = [3, 4] := by kernel_rfl
theorem fe115 : flatEq Try.prog 115 = true := by kernel_rfl
theorem zz115 : zc Try.prog 115 = [V.int .i64 0, V.bool false] := by kernel_rfl
theorem cz116 : Try.prog.cellsOf 116 = 1 := by kernel_rfl
theorem tk116 : tyOk Try.prog 116 = true := by kernel_rfl
theorem ag116 : isAg Try.prog 116 = false := by kernel_rfl
theorem by116 : Try.prog.bytesOf 116 = 8 := by kernel_rfl
theorem se116 : slEl Try.prog 116 = none := by kernel_rfl
theorem ae116 : arEl Try.prog 116 = none := by kernel_rfl
theorem if116 : isFn Try.prog 116 = true := by kernel_rfl
theorem zz116 : zc Try.prog 116 = [V.nilf] := by kernel_rfl
theorem cz117 : Try.prog.cellsOf 117 = 1 := by kernel_rfl
theorem tk117 : tyOk Try.prog 117 = true := by kernel_rfl
theorem ag117 : isAg Try.prog 117 = false := by kernel_rfl
theorem by117 : Try.prog.bytesOf 117 = 8 := by kernel_rfl
theorem se117 : slEl Try.prog 117 = none := by kernel_rfl
theorem ae117 : arEl Try.prog 117 = none := by kernel_rfl
theorem if117 : isFn Try.prog 117 = true := by kernel_rfl
theorem zz117 : zc Try.prog 117 = [V.nilf] := by kernel_rfl
theorem cz118 : Try.prog.cellsOf 118 = 1 := by kernel_rfl
theorem tk118 : tyOk Try.prog 118 = true := by kernel_rfl
theorem ag118 : isAg Try.prog 118 = false := by kernel_rfl
theorem by118 : Try.prog.bytesOf 118 = 8 := by kernel_rfl
theorem se118 : slEl Try.prog 118 = none := by kernel_rfl
theorem ae118 : arEl Try.prog 118 = none := by kernel_rfl
theorem if118 : isFn Try.prog 118 = true := by kernel_rfl
theorem zz118 : zc Try.prog 118 = [V.nilf] := by kernel_rfl
theorem cz119 : Try.prog.cellsOf 119 = 1 := by kernel_rfl
theorem tk119 : tyOk Try.prog 119 = true := by kernel_rfl
theorem ag119 : isAg Try.prog 119 = false := by kernel_rfl
theorem by119 : Try.prog.bytesOf 119 = 8 := by kernel_rfl
theorem se119 : slEl Try.prog 119 = none := by kernel_rfl
theorem ae119 : arEl Try.prog 119 = none := by kernel_rfl
theorem if119 : isFn Try.prog 119 = true := by kernel_rfl
theorem zz119 : zc Try.prog 119 = [V.nilf] := by kernel_rfl
theorem cz120 : Try.prog.cellsOf 120 = 1 := by kernel_rfl
theorem tk120 : tyOk Try.prog 120 = true := by kernel_rfl
theorem ag120 : isAg Try.prog 120 = false := by kernel_rfl
theorem by120 : Try.prog.bytesOf 120 = 24 := by kernel_rfl
theorem se120 : slEl Try.prog 120 = some 51 := by kernel_rfl
theorem ae120 : arEl Try.prog 120 = none := by kernel_rfl
theorem zz120 : zc Try.prog 120 = [V.nil] := by kernel_rfl
theorem cz121 : Try.prog.cellsOf 121 = 1 := by kernel_rfl
theorem tk121 : tyOk Try.prog 121 = true := by kernel_rfl
theorem ag121 : isAg Try.prog 121 = false := by kernel_rfl
theorem by121 : Try.prog.bytesOf 121 = 24 := by kernel_rfl
theorem se121 : slEl Try.prog 121 = some 51 := by kernel_rfl
theorem ae121 : arEl Try.prog 121 = none := by kernel_rfl
theorem zz121 : zc Try.prog 121 = [V.nil] := by kernel_rfl
theorem cz122 : Try.prog.cellsOf 122 = 1 := by kernel_rfl
theorem tk122 : tyOk Try.prog 122 = true := by kernel_rfl
theorem ag122 : isAg Try.prog 122 = false := by kernel_rfl
theorem by122 : Try.prog.bytesOf 122 = 8 := by kernel_rfl
theorem se122 : slEl Try.prog 122 = none := by kernel_rfl
theorem ae122 : arEl Try.prog 122 = none := by kernel_rfl
theorem if122 : isFn Try.prog 122 = true := by kernel_rfl
theorem zz122 : zc Try.prog 122 = [V.nilf] := by kernel_rfl
theorem cz123 : Try.prog.cellsOf 123 = 1 := by kernel_rfl
theorem tk123 : tyOk Try.prog 123 = true := by kernel_rfl
theorem ag123 : isAg Try.prog 123 = false := by kernel_rfl
theorem by123 : Try.prog.bytesOf 123 = 8 := by kernel_rfl
theorem se123 : slEl Try.prog 123 = none := by kernel_rfl
theorem ae123 : arEl Try.prog 123 = none := by kernel_rfl
theorem if123 : isFn Try.prog 123 = true := by kernel_rfl
theorem zz123 : zc Try.prog 123 = [V.nilf] := by kernel_rfl
theorem cz124 : Try.prog.cellsOf 124 = 1 := by kernel_rfl
theorem tk124 : tyOk Try.prog 124 = true := by kernel_rfl
theorem ag124 : isAg Try.prog 124 = false := by kernel_rfl
theorem by124 : Try.prog.bytesOf 124 = 8 := by kernel_rfl
theorem se124 : slEl Try.prog 124 = none := by kernel_rfl
theorem ae124 : arEl Try.prog 124 = none := by kernel_rfl
theorem if124 : isFn Try.prog 124 = true := by kernel_rfl
theorem zz124 : zc Try.prog 124 = [V.nilf] := by kernel_rfl
theorem cz125 : Try.prog.cellsOf 125 = 1 := by kernel_rfl
theorem tk125 : tyOk Try.prog 125 = true := by kernel_rfl
theorem ag125 : isAg Try.prog 125 = false := by kernel_rfl
theorem by125 : Try.prog.bytesOf 125 = 8 := by kernel_rfl
theorem se125 : slEl Try.prog 125 = none := by kernel_rfl
theorem ae125 : arEl Try.prog 125 = none := by kernel_rfl
theorem if125 : isFn Try.prog 125 = true := by kernel_rfl
theorem zz125 : zc Try.prog 125 = [V.nilf] := by kernel_rfl
theorem cz126 : Try.prog.cellsOf 126 = 1 := by kernel_rfl
theorem tk126 : tyOk Try.prog 126 = true := by kernel_rfl
theorem ag126 : isAg Try.prog 126 = false := by kernel_rfl
theorem by126 : Try.prog.bytesOf 126 = 8 := by kernel_rfl
theorem se126 : slEl Try.prog 126 = none := by kernel_rfl
theorem ae126 : arEl Try.prog 126 = none := by kernel_rfl
theorem if126 : isFn Try.prog 126 = true := by kernel_rfl
theorem zz126 : zc Try.prog 126 = [V.nilf] := by kernel_rfl
theorem cz127 : Try.prog.cellsOf 127 = 1 := by kernel_rfl
theorem tk127 : tyOk Try.prog 127 = true := by kernel_rfl
theorem ag127 : isAg Try.prog 127 = false := by kernel_rfl
theorem by127 : Try.prog.bytesOf 127 = 8 := by kernel_rfl
theorem se127 : slEl Try.prog 127 = none := by kernel_rfl
theorem ae127 : arEl Try.prog 127 = none := by kernel_rfl
theorem if127 : isFn Try.prog 127 = true := by kernel_rfl
theorem zz127 : zc Try.prog 127 = [V.nilf] := by kernel_rfl
theorem cz128 : Try.prog.cellsOf 128 = 1 := by kernel_rfl
theorem tk128 : tyOk Try.prog 128 = true := by kernel_rfl
theorem ag128 : isAg Try.prog 128 = false := by kernel_rfl
theorem by128 : Try.prog.bytesOf 128 = 8 := by kernel_rfl
theorem se128 : slEl Try.prog 128 = none := by kernel_rfl
theorem ae128 : arEl Try.prog 128 = none := by kernel_rfl
theorem if128 : isFn Try.prog 128 = true := by kernel_rfl
theorem zz128 : zc Try.prog 128 = [V.nilf] := by kernel_rfl
theorem cz129 : Try.prog.cellsOf 129 = 1 := by kernel_rfl
theorem tk129 : tyOk Try.prog 129 = true := by kernel_rfl
theorem ag129 : isAg Try.prog 129 = false := by kernel_rfl
theorem by129 : Try.prog.bytesOf 129 = 8 := by kernel_rfl
theorem se129 : slEl Try.prog 129 = none := by kernel_rfl
theorem ae129 : arEl Try.prog 129 = none := by kernel_rfl
theorem if129 : isFn Try.prog 129 = true := by kernel_rfl
theorem zz129 : zc Try.prog 129 = [V.nilf] := by kernel_rfl
theorem cz130 : Try.prog.cellsOf 130 = 1 := by kernel_rfl
theorem tk130 : tyOk Try.prog 130 = true := by kernel_rfl
theorem ag130 : isAg Try.prog 130 = false := by kernel_rfl
theorem by130 : Try.prog.bytesOf 130 = 8 := by kernel_rfl
theorem se130 : slEl Try.prog 130 = none := by kernel_rfl
theorem ae130 : arEl Try.prog 130 = none := by kernel_rfl
theorem if130 : isFn Try.prog 130 = true := by kernel_rfl
theorem zz130 : zc Try.prog 130 = [V.nilf] := by kernel_rfl
theorem cz131 : Try.prog.cellsOf 131 = 1 := by kernel_rfl
theorem tk131 : tyOk Try.prog 131 = true := by kernel_rfl
theorem ag131 : isAg Try.prog 131 = false := by kernel_rfl
theorem by131 : Try.prog.bytesOf 131 = 8 := by kernel_rfl
theorem se131 : slEl Try.prog 131 = none := by kernel_rfl
theorem ae131 : arEl Try.prog 131 = none := by kernel_rfl
theorem if131 : isFn Try.prog 131 = true := by kernel_rfl
theorem zz131 : zc Try.prog 131 = [V.nilf] := by kernel_rfl
theorem cz132 : Try.prog.cellsOf 132 = 1 := by kernel_rfl
theorem tk132 : tyOk Try.prog 132 = true := by kernel_rfl
theorem ag132 : isAg Try.prog 132 = false := by kernel_rfl
theorem by132 : Try.prog.bytesOf 132 = 8 := by kernel_rfl
theorem se132 : slEl Try.prog 132 = none := by kernel_rfl
theorem ae132 : arEl Try.prog 132 = none := by kernel_rfl
theorem if132 : isFn Try.prog 132 = true := by kernel_rfl
theorem zz132 : zc Try.prog 132 = [V.nilf] := by kernel_rfl
theorem cz133 : Try.prog.cellsOf 133 = 1 := by kernel_rfl
theorem tk133 : tyOk Try.prog 133 = true := by kernel_rfl
theorem ag133 : isAg Try.prog 133 = false := by kernel_rfl
theorem by133 : Try.prog.bytesOf 133 = 8 := by kernel_rfl
theorem se133 : slEl Try.prog 133 = none := by kernel_rfl
theorem ae133 : arEl Try.prog 133 = none := by kernel_rfl
theorem if133 : isFn Try.prog 133 = true := by kernel_rfl
theorem zz133 : zc Try.prog 133 = [V.nilf] := by kernel_rfl
theorem cz134 : Try.prog.cellsOf 134 = 1 := by kernel_rfl
theorem tk134 : tyOk Try.prog 134 = true := by kernel_rfl
theorem ag134 : isAg Try.prog 134 = false := by kernel_rfl
theorem by134 : Try.prog.bytesOf 134 = 8 := by kernel_rfl
theorem se134 : slEl Try.prog 134 = none := by kernel_rfl
theorem ae134 : arEl Try.prog 134 = none := by kernel_rfl
theorem if134 : isFn Try.prog 134 = true := by kernel_rfl
theorem zz134 : zc Try.prog 134 = [V.nilf] := by kernel_rfl
theorem cz135 : Try.prog.cellsOf 135 = 1 := by kernel_rfl
theorem tk135 : tyOk Try.prog 135 = true := by kernel_rfl
theorem ag135 : isAg Try.prog 135 = false := by kernel_rfl
theorem by135 : Try.prog.bytesOf 135 = 8 := by kernel_rfl
theorem se135 : slEl Try.prog 135 = none := by kernel_rfl
theorem ae135 : arEl Try.prog 135 = none := by kernel_rfl
theorem if135 : isFn Try.prog 135 = true := by kernel_rfl
theorem zz135 : zc Try.prog 135 = [V.nilf] := by kernel_rfl
theorem cz136 : Try.prog.cellsOf 136 = 1 := by kernel_rfl
theorem tk136 : tyOk Try.prog 136 = true := by kernel_rfl
theorem ag136 : isAg Try.prog 136 = false := by kernel_rfl
theorem by136 : Try.prog.bytesOf 136 = 8 := by kernel_rfl
theorem se136 : slEl Try.prog 136 = none := by kernel_rfl
theorem ae136 : arEl Try.prog 136 = none := by kernel_rfl
theorem if136 : isFn Try.prog 136 = true := by kernel_rfl
theorem zz136 : zc Try.prog 136 = [V.nilf] := by kernel_rfl
theorem cz137 : Try.prog.cellsOf 137 = 1 := by kernel_rfl
theorem tk137 : tyOk Try.prog 137 = true := by kernel_rfl
theorem ag137 : isAg Try.prog 137 = false := by kernel_rfl
theorem by137 : Try.prog.bytesOf 137 = 8 := by kernel_rfl
theorem se137 : slEl Try.prog 137 = none := by kernel_rfl
theorem ae137 : arEl Try.prog 137 = none := by kernel_rfl
theorem if137 : isFn Try.prog 137 = true := by kernel_rfl
theorem zz137 : zc Try.prog 137 = [V.nilf] := by kernel_rfl
theorem cz138 : Try.prog.cellsOf 138 = 1 := by kernel_rfl
theorem tk138 : tyOk Try.prog 138 = true := by kernel_rfl
theorem ag138 : isAg Try.prog 138 = false := by kernel_rfl
theorem by138 : Try.prog.bytesOf 138 = 8 := by kernel_rfl
theorem se138 : slEl Try.prog 138 = none := by kernel_rfl
theorem ae138 : arEl Try.prog 138 = none := by kernel_rfl
theorem if138 : isFn Try.prog 138 = true := by kernel_rfl
theorem zz138 : zc Try.prog 138 = [V.nilf] := by kernel_rfl
theorem cz139 : Try.prog.cellsOf 139 = 1 := by kernel_rfl
theorem tk139 : tyOk Try.prog 139 = true := by kernel_rfl
theorem ag139 : isAg Try.prog 139 = false := by kernel_rfl
theorem by139 : Try.prog.bytesOf 139 = 8 := by kernel_rfl
theorem se139 : slEl Try.prog 139 = none := by kernel_rfl
theorem ae139 : arEl Try.prog 139 = none := by kernel_rfl
theorem if139 : isFn Try.prog 139 = true := by kernel_rfl
theorem zz139 : zc Try.prog 139 = [V.nilf] := by kernel_rfl
theorem cz140 : Try.prog.cellsOf 140 = 1 := by kernel_rfl
theorem tk140 : tyOk Try.prog 140 = true := by kernel_rfl
theorem ag140 : isAg Try.prog 140 = false := by kernel_rfl
theorem by140 : Try.prog.bytesOf 140 = 8 := by kernel_rfl
theorem se140 : slEl Try.prog 140 = none := by kernel_rfl
theorem ae140 : arEl Try.prog 140 = none := by kernel_rfl
theorem if140 : isFn Try.prog 140 = true := by kernel_rfl
theorem zz140 : zc Try.prog 140 = [V.nilf] := by kernel_rfl
theorem cz141 : Try.prog.cellsOf 141 = 1 := by kernel_rfl
theorem tk141 : tyOk Try.prog 141 = true := by kernel_rfl
theorem ag141 : isAg Try.prog 141 = false := by kernel_rfl
theorem by141 : Try.prog.bytesOf 141 = 8 := by kernel_rfl
theorem se141 : slEl Try.prog 141 = none := by kernel_rfl
theorem ae141 : arEl Try.prog 141 = none := by kernel_rfl
theorem if141 : isFn Try.prog 141 = true := by kernel_rfl
theorem zz141 : zc Try.prog 141 = [V.nilf] := by kernel_rfl
theorem cz142 : Try.prog.cellsOf 142 = 1 := by kernel_rfl
theorem tk142 : tyOk Try.prog 142 = true := by kernel_rfl
theorem ag142 : isAg Try.prog 142 = false := by kernel_rfl
theorem by142 : Try.prog.bytesOf 142 = 8 := by kernel_rfl
theorem se142 : slEl Try.prog 142 = none := by kernel_rfl
theorem ae142 : arEl Try.prog 142 = none := by kernel_rfl
theorem ip142 : isPtr Try.prog 142 = true := by kernel_rfl
theorem zz142 : zc Try.prog 142 = [V.nilp] := by kernel_rfl
theorem cz143 : Try.prog.cellsOf 143 = 1 := by kernel_rfl
theorem tk143 : tyOk Try.prog 143 = true := by kernel_rfl
theorem ag143 : isAg Try.prog 143 = false := by kernel_rfl
theorem by143 : Try.prog.bytesOf 143 = 8 := by kernel_rfl
theorem se143 : slEl Try.prog 143 = none := by kernel_rfl
theorem ae143 : arEl Try.prog 143 = none := by kernel_rfl
theorem if143 : isFn Try.prog 143 = true := by kernel_rfl
theorem zz143 : zc Try.prog 143 = [V.nilf] := by kernel_rfl
theorem cz144 : Try.prog.cellsOf 144 = 1 := by kernel_rfl
theorem tk144 : tyOk Try.prog 144 = true := by kernel_rfl
theorem ag144 : isAg Try.prog 144 = false := by kernel_rfl
theorem by144 : Try.prog.bytesOf 144 = 8 := by kernel_rfl
theorem se144 : slEl Try.prog 144 = none := by kernel_rfl
theorem ae144 : arEl Try.prog 144 = none := by kernel_rfl
theorem if144 : isFn Try.prog 144 = true := by kernel_rfl
theorem zz144 : zc Try.prog 144 = [V.nilf] := by kernel_rfl
theorem cz145 : Try.prog.cellsOf 145 = 1 := by kernel_rfl
theorem tk145 : tyOk Try.prog 145 = true := by kernel_rfl
theorem ag145 : isAg Try.prog 145 = false := by kernel_rfl
theorem by145 : Try.prog.bytesOf 145 = 8 := by kernel_rfl
theorem se145 : slEl Try.prog 145 = none := by kernel_rfl
theorem ae145 : arEl Try.prog 145 = none := by kernel_rfl
theorem if145 : isFn Try.prog 145 = true := by kernel_rfl
theorem zz145 : zc Try.prog 145 = [V.nilf] := by kernel_rfl
theorem cz146 : Try.prog.cellsOf 146 = 1 := by kernel_rfl
theorem tk146 : tyOk Try.prog 146 = true := by kernel_rfl
theorem ag146 : isAg Try.prog 146 = false := by kernel_rfl
theorem by146 : Try.prog.bytesOf 146 = 8 := by kernel_rfl
theorem se146 : slEl Try.prog 146 = none := by kernel_rfl
theorem ae146 : arEl Try.prog 146 = none := by kernel_rfl
theorem if146 : isFn Try.prog 146 = true := by kernel_rfl
theorem zz146 : zc Try.prog 146 = [V.nilf] := by kernel_rfl
theorem cz147 : Try.prog.cellsOf 147 = 1 := by kernel_rfl
theorem tk147 : tyOk Try.prog 147 = true := by kernel_rfl
theorem ag147 : isAg Try.prog 147 = false := by kernel_rfl
theorem by147 : Try.prog.bytesOf 147 = 8 := by kernel_rfl
theorem se147 : slEl Try.prog 147 = none := by kernel_rfl
theorem ae147 : arEl Try.prog 147 = none := by kernel_rfl
theorem if147 : isFn Try.prog 147 = true := by kernel_rfl
theorem zz147 : zc Try.prog 147 = [V.nilf] := by kernel_rfl
theorem cz148 : Try.prog.cellsOf 148 = 1 := by kernel_rfl
theorem tk148 : tyOk Try.prog 148 = true := by kernel_rfl
theorem ag148 : isAg Try.prog 148 = false := by kernel_rfl
theorem by148 : Try.prog.bytesOf 148 = 8 := by kernel_rfl
theorem se148 : slEl Try.prog 148 = none := by kernel_rfl
theorem ae148 : arEl Try.prog 148 = none := by kernel_rfl
theorem if148 : isFn Try.prog 148 = true := by kernel_rfl
theorem zz148 : zc Try.prog 148 = [V.nilf] := by kernel_rfl
theorem cz149 : Try.prog.cellsOf 149 = 1 := by kernel_rfl
theorem tk149 : tyOk Try.prog 149 = true := by kernel_rfl
theorem ag149 : isAg Try.prog 149 = false := by kernel_rfl
theorem by149 : Try.prog.bytesOf 149 = 8 := by kernel_rfl
theorem se149 : slEl Try.prog 149 = none := by kernel_rfl
theorem ae149 : arEl Try.prog 149 = none := by kernel_rfl
theorem if149 : isFn Try.prog 149 = true := by kernel_rfl
theorem zz149 : zc Try.prog 149 = [V.nilf] := by kernel_rfl
theorem cz150 : Try.prog.cellsOf 150 = 1 := by kernel_rfl
theorem tk150 : tyOk Try.prog 150 = true := by kernel_rfl
theorem ag150 : isAg Try.prog 150 = false := by kernel_rfl
theorem by150 : Try.prog.bytesOf 150 = 8 := by kernel_rfl
theorem se150 : slEl Try.prog 150 = none := by kernel_rfl
theorem ae150 : arEl Try.prog 150 = none := by kernel_rfl
theorem if150 : isFn Try.prog 150 = true := by kernel_rfl
theorem zz150 : zc Try.prog 150 = [V.nilf] := by kernel_rfl
theorem cz151 : Try.prog.cellsOf 151 = 1 := by kernel_rfl
theorem tk151 : tyOk Try.prog 151 = true := by kernel_rfl
theorem ag151 : isAg Try.prog 151 = false := by kernel_rfl
theorem by151 : Try.prog.bytesOf 151 = 8 := by kernel_rfl
theorem se151 : slEl Try.prog 151 = none := by kernel_rfl
theorem ae151 : arEl Try.prog 151 = none := by kernel_rfl
theorem ik151 : intK Try.prog 151 = some .u64 := by kernel_rfl
theorem zz151 : zc Try.prog 151 = [V.int .u64 0] := by kernel_rfl
theorem cz152 : Try.prog.cellsOf 152 = 1 := by kernel_rfl
theorem tk152 : tyOk Try.prog 152 = true := by kernel_rfl
theorem ag152 : isAg Try.prog 152 = false := by kernel_rfl
theorem by152 : Try.prog.bytesOf 152 = 8 := by kernel_rfl
theorem se152 : slEl Try.prog 152 = none := by kernel_rfl
theorem ae152 : arEl Try.prog 152 = none := by kernel_rfl
theorem if152 : isFn Try.prog 152 = true := by kernel_rfl
theorem zz152 : zc Try.prog 152 = [V.nilf] := by kernel_rfl
theorem cz153 : Try.prog.cellsOf 153 = 1 := by kernel_rfl
theorem tk153 : tyOk Try.prog 153 = true := by kernel_rfl
theorem ag153 : isAg Try.prog 153 = false := by kernel_rfl
theorem by153 : Try.prog.bytesOf 153 = 8 := by kernel_rfl
theorem se153 : slEl Try.prog 153 = none := by kernel_rfl
theorem ae153 : arEl Try.prog 153 = none := by kernel_rfl
theorem ik153 : intK Try.prog 153 = some .i64 := by kernel_rfl
theorem zz153 : zc Try.prog 153 = [V.int .i64 0] := by kernel_rfl
theorem cz155 : Try.prog.cellsOf 155 = 1 := by kernel_rfl
theorem tk155 : tyOk Try.prog 155 = true := by kernel_rfl
theorem ag155 : isAg Try.prog 155 = false := by kernel_rfl
theorem by155 : Try.prog.bytesOf 155 = 8 := by kernel_rfl
theorem se155 : slEl Try.prog 155 = none := by kernel_rfl
theorem ae155 : arEl Try.prog 155 = none := by kernel_rfl
theorem if155 : isFn Try.prog 155 = true := by kernel_rfl
theorem zz155 : zc Try.prog 155 = [V.nilf] := by kernel_rfl
theorem cz156 : Try.prog.cellsOf 156 = 1 := by kernel_rfl
theorem tk156 : tyOk Try.prog 156 = true := by kernel_rfl
theorem ag156 : isAg Try.prog 156 = false := by kernel_rfl
theorem by156 : Try.prog.bytesOf 156 = 8 := by kernel_rfl
theorem se156 : slEl Try.prog 156 = none := by kernel_rfl
theorem ae156 : arEl Try.prog 156 = none := by kernel_rfl
theorem if156 : isFn Try.prog 156 = true := by kernel_rfl
theorem zz156 : zc Try.prog 156 = [V.nilf] := by kernel_rfl
theorem cz157 : Try.prog.cellsOf 157 = 1 := by kernel_rfl
theorem tk157 : tyOk Try.prog 157 = true := by kernel_rfl
theorem ag157 : isAg Try.prog 157 = false := by kernel_rfl
theorem by157 : Try.prog.bytesOf 157 = 8 := by kernel_rfl
theorem se157 : slEl Try.prog 157 = none := by kernel_rfl
theorem ae157 : arEl Try.prog 157 = none := by kernel_rfl
theorem if157 : isFn Try.prog 157 = true := by kernel_rfl
theorem zz157 : zc Try.prog 157 = [V.nilf] := by kernel_rfl
theorem cz159 : Try.prog.cellsOf 159 = 1 := by kernel_rfl
theorem tk159 : tyOk Try.prog 159 = true := by kernel_rfl
theorem ag159 : isAg Try.prog 159 = false := by kernel_rfl
theorem by159 : Try.prog.bytesOf 159 = 8 := by kernel_rfl
theorem se159 : slEl Try.prog 159 = none := by kernel_rfl
theorem ae159 : arEl Try.prog 159 = none := by kernel_rfl
theorem if159 : isFn Try.prog 159 = true := by kernel_rfl
theorem zz159 : zc Try.prog 159 = [V.nilf] := by kernel_rfl
theorem cz160 : Try.prog.cellsOf 160 = 1 := by kernel_rfl
theorem tk160 : tyOk Try.prog 160 = true := by kernel_rfl
theorem ag160 : isAg Try.prog 160 = false := by kernel_rfl
theorem by160 : Try.prog.bytesOf 160 = 8 := by kernel_rfl
theorem se160 : slEl Try.prog 160 = none := by kernel_rfl
theorem ae160 : arEl Try.prog 160 = none := by kernel_rfl
theorem if160 : isFn Try.prog 160 = true := by kernel_rfl
theorem zz160 : zc Try.prog 160 = [V.nilf] := by kernel_rfl
theorem cz161 : Try.prog.cellsOf 161 = 1 := by kernel_rfl
theorem tk161 : tyOk Try.prog 161 = true := by kernel_rfl
theorem ag161 : isAg Try.prog 161 = false := by kernel_rfl
theorem by161 : Try.prog.bytesOf 161 = 4 := by kernel_rfl
theorem se161 : slEl Try.prog 161 = none := by kernel_rfl
theorem ae161 : arEl Try.prog 161 = none := by kernel_rfl
theorem ik161 : intK Try.prog 161 = some .u32 := by kernel_rfl
theorem zz161 : zc Try.prog 161 = [V.int .u32 0] := by kernel_rfl
theorem cz162 : Try.prog.cellsOf 162 = 1 := by kernel_rfl
theorem tk162 : tyOk Try.prog 162 = true := by kernel_rfl
theorem ag162 : isAg Try.prog 162 = false := by kernel_rfl
theorem by162 : Try.prog.bytesOf 162 = 8 := by kernel_rfl
theorem se162 : slEl Try.prog 162 = none := by kernel_rfl
theorem ae162 : arEl Try.prog 162 = none := by kernel_rfl
theorem if162 : isFn Try.prog 162 = true := by kernel_rfl
theorem zz162 : zc Try.prog 162 = [V.nilf] := by kernel_rfl
theorem cz163 : Try.prog.cellsOf 163 = 1 := by kernel_rfl
theorem tk163 : tyOk Try.prog 163 = true := by kernel_rfl
theorem ag163 : isAg Try.prog 163 = false := by kernel_rfl
theorem by163 : Try.prog.bytesOf 163 = 8 := by kernel_rfl
theorem se163 : slEl Try.prog 163 = none := by kernel_rfl
theorem ae163 : arEl Try.prog 163 = none := by kernel_rfl
theorem ik163 : intK Try.prog 163 = some .u64 := by kernel_rfl
theorem zz163 : zc Try.prog 163 = [V.int .u64 0] := by kernel_rfl
theorem cz164 : Try.prog.cellsOf 164 = 1 := by kernel_rfl
theorem tk164 : tyOk Try.prog 164 = true := by kernel_rfl
theorem ag164 : isAg Try.prog 164 = false := by kernel_rfl
theorem by164 : Try.prog.bytesOf 164 = 8 := by kernel_rfl
theorem se164 : slEl Try.prog 164 = none := by kernel_rfl
theorem ae164 : arEl Try.prog 164 = none := by kernel_rfl
theorem ik164 : intK Try.prog 164 = some .u64 := by kernel_rfl
theorem zz164 : zc Try.prog 164 = [V.int .u64 0] := by kernel_rfl
theorem cz165 : Try.prog.cellsOf 165 = 1 := by kernel_rfl
theorem tk165 : tyOk Try.prog 165 = true := by kernel_rfl
theorem ag165 : isAg Try.prog 165 = false := by kernel_rfl
theorem by165 : Try.prog.bytesOf 165 = 8 := by kernel_rfl
theorem se165 : slEl Try.prog 165 = none := by kernel_rfl
theorem ae165 : arEl Try.prog 165 = none := by kernel_rfl
theorem if165 : isFn Try.prog 165 = true := by kernel_rfl
theorem zz165 : zc Try.prog 165 = [V.nilf] := by kernel_rfl
theorem cz166 : Try.prog.cellsOf 166 = 1 := by kernel_rfl
theorem tk166 : tyOk Try.prog 166 = true := by kernel_rfl
theorem ag166 : isAg Try.prog 166 = false := by kernel_rfl
theorem by166 : Try.prog.bytesOf 166 = 8 := by kernel_rfl
theorem se166 : slEl Try.prog 166 = none := by kernel_rfl
theorem ae166 : arEl Try.prog 166 = none := by kernel_rfl
theorem if166 : isFn Try.prog 166 = true := by kernel_rfl
theorem zz166 : zc Try.prog 166 = [V.nilf] := by kernel_rfl
theorem cz167 : Try.prog.cellsOf 167 = 1 := by kernel_rfl
theorem tk167 : tyOk Try.prog 167 = true := by kernel_rfl
theorem ag167 : isAg Try.prog 167 = false := by kernel_rfl
theorem by167 : Try.prog.bytesOf 167 = 8 := by kernel_rfl
theorem se167 : slEl Try.prog 167 = none := by kernel_rfl
theorem ae167 : arEl Try.prog 167 = none := by kernel_rfl
theorem if167 : isFn Try.prog 167 = true := by kernel_rfl
theorem zz167 : zc Try.prog 167 = [V.nilf] := by kernel_rfl
theorem cz168 : Try.prog.cellsOf 168 = 1 := by kernel_rfl
theorem tk168 : tyOk Try.prog 168 = true := by kernel_rfl
theorem ag168 : isAg Try.prog 168 = false := by kernel_rfl
theorem by168 : Try.prog.bytesOf 168 = 8 := by kernel_rfl
theorem se168 : slEl Try.prog 168 = none := by kernel_rfl
theorem ae168 : arEl Try.prog 168 = none := by kernel_rfl
theorem ip168 : isPtr Try.prog 168 = true := by kernel_rfl
theorem zz168 : zc Try.prog 168 = [V.nilp] := by kernel_rfl
theorem cz169 : Try.prog.cellsOf 169 = 1 := by kernel_rfl
theorem tk169 : tyOk Try.prog 169 = true := by kernel_rfl
theorem ag169 : isAg Try.prog 169 = false := by kernel_rfl
theorem by169 : Try.prog.bytesOf 169 = 8 := by kernel_rfl
theorem se169 : slEl Try.prog 169 = none := by kernel_rfl
theorem ae169 : arEl Try.prog 169 = none := by kernel_rfl
theorem if169 : isFn Try.prog 169 = true := by kernel_rfl
theorem zz169 : zc Try.prog 169 = [V.nilf] := by kernel_rfl
theorem cz170 : Try.prog.cellsOf 170 = 1 := by kernel_rfl
theorem tk170 : tyOk Try.prog 170 = true := by kernel_rfl
theorem ag170 : isAg Try.prog 170 = false := by kernel_rfl
theorem by170 : Try.prog.bytesOf 170 = 8 := by kernel_rfl
theorem se170 : slEl Try.prog 170 = none := by kernel_rfl
theorem ae170 : arEl Try.prog 170 = none := by kernel_rfl
theorem ip170 : isPtr Try.prog 170 = true := by kernel_rfl
theorem zz170 : zc Try.prog 170 = [V.nilp] := by kernel_rfl
theorem cz171 : Try.prog.cellsOf 171 = 1 := by kernel_rfl
theorem tk171 : tyOk Try.prog 171 = true := by kernel_rfl
theorem ag171 : isAg Try.prog 171 = false := by kernel_rfl
theorem by171 : Try.prog.bytesOf 171 = 8 := by kernel_rfl
theorem se171 : slEl Try.prog 171 = none := by kernel_rfl
theorem ae171 : arEl Try.prog 171 = none := by kernel_rfl
theorem if171 : isFn Try.prog 171 = true := by kernel_rfl
theorem zz171 : zc Try.prog 171 = [V.nilf] := by kernel_rfl
theorem cz172 : Try.prog.cellsOf 172 = 1 := by kernel_rfl
theorem tk172 : tyOk Try.prog 172 = true := by kernel_rfl
theorem ag172 : isAg Try.prog 172 = false := by kernel_rfl
theorem by172 : Try.prog.bytesOf 172 = 8 := by kernel_rfl
theorem se172 : slEl Try.prog 172 = none := by kernel_rfl
theorem ae172 : arEl Try.prog 172 = none := by kernel_rfl
theorem if172 : isFn Try.prog 172 = true := by kernel_rfl
theorem zz172 : zc Try.prog 172 = [V.nilf] := by kernel_rfl
theorem cz173 : Try.prog.cellsOf 173 = 4 := by kernel_rfl
theorem tk173 : tyOk Try.prog 173 = true := by kernel_rfl
theorem ag173 : isAg Try.prog 173 = true := by kernel_rfl
theorem by173 : Try.prog.bytesOf 173 = 40 := by kernel_rfl
theorem se173 : slEl Try.prog 173 = none := by kernel_rfl
theorem ae173 : arEl Try.prog 173 = none := by kernel_rfl
theorem st173 : isSt Try.prog 173 = true := by kernel_rfl
theorem fo173 : fldsOk Try.prog 173 = true := by kernel_rfl
theorem fd173_0 : fld Try.prog 173 0 = some (0, 17) := by kernel_rfl
theorem fd173_1 : fld Try.prog 173 1 = some (1, 17) := by kernel_rfl
theorem fd173_2 : fld Try.prog 173 2 = some (2, 17) := by kernel_rfl
theorem fd173_3 : fld Try.prog 173 3 = some (3, 9) := by kernel_rfl
theorem zz173 : zc Try.prog 173 = [V.nilp, V.nilp, V.nilp, V.top] := by kernel_rfl
theorem cz174 : Try.prog.cellsOf 174 = 4 := by kernel_rfl
theorem tk174 : tyOk Try.prog 174 = true := by kernel_rfl
theorem ag174 : isAg Try.prog 174 = true := by kernel_rfl
theorem by174 : Try.prog.bytesOf 174 = 40 := by kernel_rfl
theorem se174 : slEl Try.prog 174 = none := by kernel_rfl
theorem ae174 : arEl Try.prog 174 = none := by kernel_rfl
theorem st174 : isSt Try.prog 174 = true := by kernel_rfl
theorem fo174 : fldsOk Try.prog 174 = true := by kernel_rfl
theorem fd174_0 : fld Try.prog 174 0 = some (0, 17) := by kernel_rfl
theorem fd174_1 : fld Try.prog 174 1 = some (1, 17) := by kernel_rfl
theorem fd174_2 : fld Try.prog 174 2 = some (2, 17) := by kernel_rfl
theorem fd174_3 : fld Try.prog 174 3 = some (3, 9) := by kernel_rfl
theorem zz174 : zc Try.prog 174 = [V.nilp, V.nilp, V.nilp, V.top] := by kernel_rfl
theorem cz175 : Try.prog.cellsOf 175 = 0 := by kernel_rfl
theorem tk175 : tyOk Try.prog 175 = true := by kernel_rfl
theorem ag175 : isAg Try.prog 175 = true := by kernel_rfl
theorem by175 : Try.prog.bytesOf 175 = 0 := by kernel_rfl
theorem se175 : slEl Try.prog 175 = none := by kernel_rfl
theorem ae175 : arEl Try.prog 175 = some (0, 16) := by kernel_rfl
theorem st175 : isSt Try.prog 175 = false := by kernel_rfl
theorem zz175 : zc Try.prog 175 = [] := by kernel_rfl
theorem cz176 : Try.prog.cellsOf 176 = 0 := by kernel_rfl
theorem tk176 : tyOk Try.prog 176 = true := by kernel_rfl
theorem ag176 : isAg Try.prog 176 = true := by kernel_rfl
theorem by176 : Try.prog.bytesOf 176 = 0 := by kernel_rfl
theorem se176 : slEl Try.prog 176 = none := by kernel_rfl
theorem ae176 : arEl Try.prog 176 = none := by kernel_rfl
theorem st176 : isSt Try.prog 176 = true := by kernel_rfl
theorem fd176_0 : fld Try.prog 176 0 = some (0, 175) := by kernel_rfl
theorem zz176 : zc Try.prog 176 = [] := by kernel_rfl
theorem cz177 : Try.prog.cellsOf 177 = 0 := by kernel_rfl
theorem tk177 : tyOk Try.prog 177 = true := by kernel_rfl
theorem ag177 : isAg Try.prog 177 = true := by kernel_rfl
theorem by177 : Try.prog.bytesOf 177 = 0 := by kernel_rfl
theorem se177 : slEl Try.prog 177 = none := by kernel_rfl
theorem ae177 : arEl Try.prog 177 = none := by kernel_rfl
theorem st177 : isSt Try.prog 177 = true := by kernel_rfl
theorem fd177_0 : fld Try.prog 177 0 = some (0, 175) := by kernel_rfl
theorem zz177 : zc Try.prog 177 = [] := by kernel_rfl
theorem cz178 : Try.prog.cellsOf 178 = 1 := by kernel_rfl
theorem tk178 : tyOk Try.prog 178 = true := by kernel_rfl
theorem ag178 : isAg Try.prog 178 = false := by kernel_rfl
theorem by178 : Try.prog.bytesOf 178 = 8 := by kernel_rfl
theorem se178 : slEl Try.prog 178 = none := by kernel_rfl
theorem ae178 : arEl Try.prog 178 = none := by kernel_rfl
theorem if178 : isFn Try.prog 178 = true := by kernel_rfl
theorem zz178 : zc Try.prog 178 = [V.nilf] := by kernel_rfl
theorem cz179 : Try.prog.cellsOf 179 = 1 := by kernel_rfl
theorem tk179 : tyOk Try.prog 179 = true := by kernel_rfl
theorem ag179 : isAg Try.prog 179 = false := by kernel_rfl
theorem by179 : Try.prog.bytesOf 179 = 1 := by kernel_rfl
theorem se179 : slEl Try.prog 179 = none := by kernel_rfl
theorem ae179 : arEl Try.prog 179 = none := by kernel_rfl
theorem ik179 : intK Try.prog 179 = some .u8 := by kernel_rfl
theorem zz179 : zc Try.prog 179 = [V.int .u8 0] := by kernel_rfl
theorem cz180 : Try.prog.cellsOf 180 = 1 := by kernel_rfl
theorem tk180 : tyOk Try.prog 180 = true := by kernel_rfl
theorem ag180 : isAg Try.prog 180 = false := by kernel_rfl
theorem by180 : Try.prog.bytesOf 180 = 1 := by kernel_rfl
theorem se180 : slEl Try.prog 180 = none := by kernel_rfl
theorem ae180 : arEl Try.prog 180 = none := by kernel_rfl
theorem ik180 : intK Try.prog 180 = some .u8 := by kernel_rfl
theorem zz180 : zc Try.prog 180 = [V.int .u8 0] := by kernel_rfl
theorem cz181 : Try.prog.cellsOf 181 = 1 := by kernel_rfl
theorem tk181 : tyOk Try.prog 181 = true := by kernel_rfl
theorem ag181 : isAg Try.prog 181 = false := by kernel_rfl
theorem by181 : Try.prog.bytesOf 181 = 8 := by kernel_rfl
theorem se181 : slEl Try.prog 181 = none := by kernel_rfl
theorem ae181 : arEl Try.prog 181 = none := by kernel_rfl
theorem if181 : isFn Try.prog 181 = true := by kernel_rfl
theorem zz181 : zc Try.prog 181 = [V.nilf] := by kernel_rfl
theorem cz182 : Try.prog.cellsOf 182 = 1 := by kernel_rfl
theorem tk182 : tyOk Try.prog 182 = true := by kernel_rfl
theorem ag182 : isAg Try.prog 182 = false := by kernel_rfl
theorem by182 : Try.prog.bytesOf 182 = 8 := by kernel_rfl
theorem se182 : slEl Try.prog 182 = none := by kernel_rfl
theorem ae182 : arEl Try.prog 182 = none := by kernel_rfl
theorem ip182 : isPtr Try.prog 182 = true := by kernel_rfl
theorem zz182 : zc Try.prog 182 = [V.nilp] := by kernel_rfl
theorem cz183 : Try.prog.cellsOf 183 = 1 := by kernel_rfl
theorem tk183 : tyOk Try.prog 183 = true := by kernel_rfl
theorem ag183 : isAg Try.prog 183 = false := by kernel_rfl
theorem by183 : Try.prog.bytesOf 183 = 4 := by kernel_rfl
theorem se183 : slEl Try.prog 183 = none := by kernel_rfl
theorem ae183 : arEl Try.prog 183 = none := by kernel_rfl
theorem ik183 : intK Try.prog 183 = some .i32 := by kernel_rfl
theorem zz183 : zc Try.prog 183 = [V.int .i32 0] := by kernel_rfl
theorem cz184 : Try.prog.cellsOf 184 = 1 := by kernel_rfl
theorem tk184 : tyOk Try.prog 184 = true := by kernel_rfl
theorem ag184 : isAg Try.prog 184 = false := by kernel_rfl
theorem by184 : Try.prog.bytesOf 184 = 4 := by kernel_rfl
theorem se184 : slEl Try.prog 184 = none := by kernel_rfl
theorem ae184 : arEl Try.prog 184 = none := by kernel_rfl
theorem ik184 : intK Try.prog 184 = some .i32 := by kernel_rfl
theorem zz184 : zc Try.prog 184 = [V.int .i32 0] := by kernel_rfl
theorem cz185 : Try.prog.cellsOf 185 = 11 := by kernel_rfl
theorem tk185 : tyOk Try.prog 185 = true := by kernel_rfl
theorem ag185 : isAg Try.prog 185 = true := by kernel_rfl
theorem by185 : Try.prog.bytesOf 185 = 48 := by kernel_rfl
theorem se185 : slEl Try.prog 185 = none := by kernel_rfl
theorem ae185 : arEl Try.prog 185 = none := by kernel_rfl
theorem st185 : isSt Try.prog 185 = true := by kernel_rfl
theorem fo185 : fldsOk Try.prog 185 = true := by kernel_rfl
theorem fd185_0 : fld Try.prog 185 0 = some (0, 12) := by kernel_rfl
theorem fd185_1 : fld Try.prog 185 1 = some (1, 12) := by kernel_rfl
theorem fd185_2 : fld Try.prog 185 2 = some (2, 161) := by kernel_rfl
theorem fd185_3 : fld Try.prog 185 3 = some (3, 179) := by kernel_rfl
theorem fd185_4 : fld Try.prog 185 4 = some (4, 5) := by kernel_rfl
theorem fd185_5 : fld Try.prog 185 5 = some (5, 5) := by kernel_rfl
theorem fd185_6 : fld Try.prog 185 6 = some (6, 180) := by kernel_rfl
theorem fd185_7 : fld Try.prog 185 7 = some (7, 181) := by kernel_rfl
theorem fd185_8 : fld Try.prog 185 8 = some (8, 182) := by kernel_rfl
theorem fd185_9 : fld Try.prog 185 9 = some (9, 183) := by kernel_rfl
theorem fd185_10 : fld Try.prog 185 10 = some (10, 184) := by kernel_rfl
theorem zz185 : zc Try.prog 185 = [V.int .u64 0, V.int .u64 0, V.int .u32 0, V.int .u8 0, V.int .u8 0, V.int .u8 0, V.int .u8 0, V.nilf, V.nilp, V.int .i32 0, V.int .i32 0] := by kernel_rfl
theorem cz186 : Try.prog.cellsOf 186 = 11 := by kernel_rfl
theorem tk186 : tyOk Try.prog 186 = true := by kernel_rfl
theorem ag186 : isAg Try.prog 186 = true := by kernel_rfl
theorem by186 : Try.prog.bytesOf 186 = 48 := by kernel_rfl
theorem se186 : slEl Try.prog 186 = none := by kernel_rfl
theorem ae186 : arEl Try.prog 186 = none := by kernel_rfl
theorem st186 : isSt Try.prog 186 = true := by kernel_rfl
theorem fo186 : fldsOk Try.prog 186 = true := by kernel_rfl
theorem fd186_0 : fld Try.prog 186 0 = some (0, 12) := by kernel_rfl
theorem fd186_1 : fld Try.prog 186 1 = some (1, 12) := by kernel_rfl
theorem fd186_2 : fld Try.prog 186 2 = some (2, 161) := by kernel_rfl
theorem fd186_3 : fld Try.prog 186 3 = some (3, 179) := by kernel_rfl
theorem fd186_4 : fld Try.prog 186 4 = some (4, 5) := by kernel_rfl
theorem fd186_5 : fld Try.prog 186 5 = some (5, 5) := by kernel_rfl
theorem fd186_6 : fld Try.prog 186 6 = some (6, 180) := by kernel_rfl
theorem fd186_7 : fld Try.prog 186 7 = some (7, 181) := by kernel_rfl
theorem fd186_8 : fld Try.prog 186 8 = some (8, 182) := by kernel_rfl
theorem fd186_9 : fld Try.prog 186 9 = some (9, 183) := by kernel_rfl
theorem fd186_10 : fld Try.prog 186 10 = some (10, 184) := by kernel_rfl
theorem zz186 : zc Try.prog 186 = [V.int .u64 0, V.int .u64 0, V.int .u32 0, V.int .u8 0, V.int .u8 0, V.int .u8 0, V.int .u8 0, V.nilf, V.nilp, V.int .i32 0, V.int .i32 0] := by kernel_rfl
attribute [simp] cz1 tk1 ag1 by1 se1 ae1 if1 zz1 cz2 tk2 ag2 by2 se2 ae2 ik2 zz2 cz3 tk3 ag3 by3 se3 ae3 ik3 zz3 cz4 tk4 ag4 by4 se4 ae4 ib4 zz4 cz5 tk5 ag5 by5 se5 ae5 ik5 zz5 cz6 tk6 ag6 by6 se6 ae6 ik6 zz6 cz7 tk7 ag7 by7 se7 ae7 st7 fo7 fd7_0 fd7_1 fd7_2 fd7_3 lt7 fe7 zz7 cz8 tk8 ag8 by8 se8 ae8 st8 fo8 fd8_0 fd8_1 fd8_2 fd8_3 lt8 fe8 zz8 cz12 tk12 ag12 by12 se12 ae12 ik12 zz12 cz13 tk13 ag13 by13 se13 ae13 st13 fo13 fd13_0 fd13_1 zz13 cz14 tk14 ag14 by14 se14 ae14 st14 fo14 fd14_0 fd14_1 zz14 cz15 tk15 ag15 by15 se15 ae15 ip15 zz15 cz16 tk16 ag16 by16 se16 ae16 ip16 zz16 cz17 tk17 ag17 by17 se17 ae17 ip17 zz17 cz18 tk18 ag18 by18 se18 ae18 st18 fo18 fd18_0 zz18 cz19 tk19 ag19 by19 se19 ae19 st19 fo19 fd19_0 zz19 cz21 tk21 ag21 by21 se21 ae21 ik21 zz21 cz22 tk22 ag22 by22 se22 ae22 zz22 cz23 tk23 ag23 by23 se23 ae23 if23 zz23 cz24 tk24 ag24 by24 se24 ae24 zz24 cz25 tk25 ag25 by25 se25 ae25 ik25 zz25 cz27 tk27 ag27 by27 se27 ae27 if27 zz27 cz28 tk28 ag28 by28 se28 ae28 if28 zz28 cz29 tk29 ag29 by29 se29 ae29 if29 zz29 cz30 tk30 ag30 by30 se30 ae30 if30 zz30 cz31 tk31 ag31 by31 se31 ae31 zz31 cz32 tk32 ag32 by32 se32 ae32 st32 fo32 fd32_0 fd32_1 fd32_2 fd32_3 fd32_4 fd32_5 zz32 cz33 tk33 ag33 by33 se33 ae33 st33 fo33 fd33_0 fd33_1 fd33_2 fd33_3 fd33_4 fd33_5 zz33 cz34 tk34 ag34 by34 se34 ae34 zz34 cz35 tk35 ag35 by35 se35 ae35 st35 fo35 fd35_0 fd35_1 fd35_2 fd35_3 lt35 fe35 zz35 cz36 tk36 ag36 by36 se36 ae36 st36 fo36 fd36_0 fd36_1 fd36_2 fd36_3 lt36 fe36 zz36 cz37 tk37 ag37 by37 se37 ae37 st37 fo37 fd37_0 fd37_1 zz37 cz38 tk38 ag38 by38 se38 ae38 st38 fo38 fd38_0 fd38_1 zz38 cz39 tk39 ag39 by39 se39 ae39 st39 fo39 fd39_0 fd39_1 fd39_2 fd39_3 fd39_4 zz39 cz40 tk40 ag40 by40 se40 ae40 st40 fo40 fd40_0 fd40_1 fd40_2 fd40_3 fd40_4 zz40 cz41 tk41 ag41 by41 se41 ae41 if41 zz41 cz42 tk42 ag42 by42 se42 ae42 if42 zz42 cz43 tk43 ag43 by43 se43 ae43 if43 zz43 cz44 tk44 ag44 by44 se44 ae44 if44 zz44 cz45 tk45 ag45 by45 se45 ae45 if45 zz45 cz46 tk46 ag46 by46 se46 ae46 if46 zz46 cz47 tk47 ag47 by47 se47 ae47 zz47 cz48 tk48 ag48 by48 se48 ae48 st48 fo48 fd48_0 fd48_1 fd48_2 fd48_3 fd48_4 fd48_5 zz48 cz49 tk49 ag49 by49 se49 ae49 st49 fo49 fd49_0 fd49_1 fd49_2 fd49_3 fd49_4 fd49_5 zz49 cz50 tk50 ag50 by50 se50 ae50 st50 fo50 fd50_0 fd50_1 lt50 fe50 zz50 cz51 tk51 ag51 by51 se51 ae51 st51 fo51 fd51_0 fd51_1 lt51 fe51 zz51 cz52 tk52 ag52 by52 se52 ae52 st52 fo52 fd52_0 fd52_1 zz52 cz53 tk53 ag53 by53 se53 ae53 st53 fo53 fd53_0 fd53_1 zz53 cz54 tk54 ag54 by54 se54 ae54 if54 zz54 cz55 tk55 ag55 by55 se55 ae55 if55 zz55 cz56 tk56 ag56 by56 se56 ae56 if56 zz56 cz58 tk58 ag58 by58 se58 ae58 if58 zz58 cz59 tk59 ag59 by59 se59 ae59 if59 zz59 cz61 tk61 ag61 by61 se61 ae61 if61 zz61 cz62 tk62 ag62 by62 se62 ae62 zz62 cz64 tk64 ag64 by64 se64 ae64 if64 zz64 cz65 tk65 ag65 by65 se65 ae65 st65 fo65 fd65_0 fd65_1 fd65_2 lt65 fe65 zz65 cz66 tk66 ag66 by66 se66 ae66 st66 fo66 fd66_0 fd66_1 fd66_2 lt66 fe66 zz66 cz67 tk67 ag67 by67 se67 ae67 st67 lt67 fe67 zz67 cz68 tk68 ag68 by68 se68 ae68 st68 fo68 fd68_0 fd68_1 fd68_2 lt68 fe68 zz68 cz69 tk69 ag69 by69 se69 ae69 st69 fo69 fd69_0 fd69_1 fd69_2 lt69 fe69 zz69 cz70 tk70 ag70 by70 se70 ae70 if70 zz70 cz71 tk71 ag71 by71 se71 ae71 st71 fo71 fd71_0 fd71_1 zz71 cz72 tk72 ag72 by72 se72 ae72 st72 fo72 fd72_0 fd72_1 zz72 cz73 tk73 ag73 by73 se73 ae73 if73 zz73 cz75 tk75 ag75 by75 se75 ae75 if75 zz75 cz77 tk77 ag77 by77 se77 ae77 if77 zz77 cz78 tk78 ag78 by78 se78 ae78 if78 zz78 cz79 tk79 ag79 by79 se79 ae79 if79 zz79 cz81 tk81 ag81 by81 se81 ae81 if81 zz81 cz82 tk82 ag82 by82 se82 ae82 if82 zz82 cz84 tk84 ag84 by84 se84 ae84 if84 zz84 cz85 tk85 ag85 by85 se85 ae85 if85 zz85 cz86 tk86 ag86 by86 se86 ae86 if86 zz86 cz87 tk87 ag87 by87 se87 ae87 st87 fo87 fd87_0 fd87_1 fd87_2 fd87_3 lt87 fe87 zz87 cz88 tk88 ag88 by88 se88 ae88 st88 fo88 fd88_0 fd88_1 fd88_2 fd88_3 lt88 fe88 zz88 cz89 tk89 ag89 by89 se89 ae89 if89 zz89 cz90 tk90 ag90 by90 se90 ae90 if90 zz90 cz91 tk91 ag91 by91 se91 ae91 if91 zz91 cz92 tk92 ag92 by92 se92 ae92 if92 zz92 cz93 tk93 ag93 by93 se93 ae93 if93 zz93 cz94 tk94 ag94 by94 se94 ae94 if94 zz94 cz96 tk96 ag96 by96 se96 ae96 if96 zz96 cz97 tk97 ag97 by97 se97 ae97 if97 zz97 cz98 tk98 ag98 by98 se98 ae98 if98 zz98 cz99 tk99 ag99 by99 se99 ae99 if99 zz99 cz100 tk100 ag100 by100 se100 ae100 if100 zz100 cz101 tk101 ag101 by101 se101 ae101 st101 fo101 fd101_0 fd101_1 zz101 cz102 tk102 ag102 by102 se102 ae102 st102 fo102 fd102_0 fd102_1 zz102 cz103 tk103 ag103 by103 se103 ae103 if103 zz103 cz104 tk104 ag104 by104 se104 ae104 if104 zz104 cz105 tk105 ag105 by105 se105 ae105 if105 zz105 cz106 tk106 ag106 by106 se106 ae106 if106 zz106 cz107 tk107 ag107 by107 se107 ae107 if107 zz107 cz108 tk108 ag108 by108 se108 ae108 if108 zz108 cz109 tk109 ag109 by109 se109 ae109 if109 zz109 cz110 tk110 ag110 by110 se110 ae110 st110 fo110 fd110_0 fd110_1 lt110 fe110 zz110 cz111 tk111 ag111 by111 se111 ae111 st111 fo111 fd111_0 fd111_1 lt111 fe111 zz111 cz112 tk112 ag112 by112 se112 ae112 if112 zz112 cz113 tk113 ag113 by113 se113 ae113 if113 zz113 cz114 tk114 ag114 by114 se114 ae114 st114 fo114 fd114_0 fd114_1 lt114 fe114 zz114 cz115 tk115 ag115 by115 se115 ae115 st115 fo115 fd115_0 fd115_1 lt115 fe115 zz115 cz116 tk116 ag116 by116 se116 ae116 if116 zz116 cz117 tk117 ag117 by117 se117 ae117 if117 zz117 cz118 tk118 ag118 by118 se118 ae118 if118 zz118 cz119 tk119 ag119 by119 se119 ae119 if119 zz119 cz120 tk120 ag120 by120 se120 ae120 zz120 cz121 tk121 ag121 by121 se121 ae121 zz121 cz122 tk122 ag122 by122 se122 ae122 if122 zz122 cz123 tk123 ag123 by123 se123 ae123 if123 zz123 cz124 tk124 ag124 by124 se124 ae124 if124 zz124 cz125 tk125 ag125 by125 se125 ae125 if125 zz125 cz126 tk126 ag126 by126 se126 ae126 if126 zz126 cz127 tk127 ag127 by127 se127 ae127 if127 zz127 cz128 tk128 ag128 by128 se128 ae128 if128 zz128 cz129 tk129 ag129 by129 se129 ae129 if129 zz129 cz130 tk130 ag130 by130 se130 ae130 if130 zz130 cz131 tk131 ag131 by131 se131 ae131 if131 zz131 cz132 tk132 ag132 by132 se132 ae132 if132 zz132 cz133 tk133 ag133 by133 se133 ae133 if133 zz133 cz134 tk134 ag134 by134 se134 ae134 if134 zz134 cz135 tk135 ag135 by135 se135 ae135 if135 zz135 cz136 tk136 ag136 by136 se136 ae136 if136 zz136 cz137 tk137 ag137 by137 se137 ae137 if137 zz137 cz138 tk138 ag138 by138 se138 ae138 if138 zz138 cz139 tk139 ag139 by139 se139 ae139 if139 zz139 cz140 tk140 ag140 by140 se140 ae140 if140 zz140 cz141 tk141 ag141 by141 se141 ae141 if141 zz141 cz142 tk142 ag142 by142 se142 ae142 ip142 zz142 cz143 tk143 ag143 by143 se143 ae143 if143 zz143 cz144 tk144 ag144 by144 se144 ae144 if144 zz144 cz145 tk145 ag145 by145 se145 ae145 if145 zz145 cz146 tk146 ag146 by146 se146 ae146 if146 zz146 cz147 tk147 ag147 by147 se147 ae147 if147 zz147 cz148 tk148 ag148 by148 se148 ae148 if148 zz148 cz149 tk149 ag149 by149 se149 ae149 if149 zz149 cz150 tk150 ag150 by150 se150 ae150 if150 zz150 cz151 tk151 ag151 by151 se151 ae151 ik151 zz151 cz152 tk152 ag152 by152 se152 ae152 if152 zz152 cz153 tk153 ag153 by153 se153 ae153 ik153 zz153 cz155 tk155 ag155 by155 se155 ae155 if155 zz155 cz156 tk156 ag156 by156 se156 ae156 if156 zz156 cz157 tk157 ag157 by157 se157 ae157 if157 zz157 cz159 tk159 ag159 by159 se159 ae159 if159 zz159 cz160 tk160 ag160 by160 se160 ae160 if160 zz160 cz161 tk161 ag161 by161 se161 ae161 ik161 zz161 cz162 tk162 ag162 by162 se162 ae162 if162 zz162 cz163 tk163 ag163 by163 se163 ae163 ik163 zz163 cz164 tk164 ag164 by164 se164 ae164 ik164 zz164 cz165 tk165 ag165 by165 se165 ae165 if165 zz165 cz166 tk166 ag166 by166 se166 ae166 if166 zz166 cz167 tk167 ag167 by167 se167 ae167 if167 zz167 cz168 tk168 ag168 by168 se168 ae168 ip168 zz168 cz169 tk169 ag169 by169 se169 ae169 if169 zz169 cz170 tk170 ag170 by170 se170 ae170 ip170 zz170 cz171 tk171 ag171 by171 se171 ae171 if171 zz171 cz172 tk172 ag172 by172 se172 ae172 if172 zz172 cz173 tk173 ag173 by173 se173 ae173 st173 fo173 fd173_0 fd173_1 fd173_2 fd173_3 zz173 cz174 tk174 ag174 by174 se174 ae174 st174 fo174 fd174_0 fd174_1 fd174_2 fd174_3 zz174 cz175 tk175 ag175 by175 se175 ae175 st175 zz175 cz176 tk176 ag176 by176 se176 ae176 st176 fd176_0 zz176 cz177 tk177 ag177 by177 se177 ae177 st177 fd177_0 zz177 cz178 tk178 ag178 by178 se178 ae178 if178 zz178 cz179 tk179 ag179 by179 se179 ae179 ik179 zz179 cz180 tk180 ag180 by180 se180 ae180 ik180 zz180 cz181 tk181 ag181 by181 se181 ae181 if181 zz181 cz182 tk182 ag182 by182 se182 ae182 ip182 zz182 cz183 tk183 ag183 by183 se183 ae183 ik183 zz183 cz184 tk184 ag184 by184 se184 ae184 ik184 zz184 cz185 tk185 ag185 by185 se185 ae185 st185 fo185 fd185_0 fd185_1 fd185_2 fd185_3 fd185_4 fd185_5 fd185_6 fd185_7 fd185_8 fd185_9 fd185_10 zz185 cz186 tk186 ag186 by186 se186 ae186 st186 fo186 fd186_0 fd186_1 fd186_2 fd186_3 fd186_4 fd186_5 fd186_6 fd186_7 fd186_8 fd186_9 fd186_10 zz186
end Go.Sx.Ty
