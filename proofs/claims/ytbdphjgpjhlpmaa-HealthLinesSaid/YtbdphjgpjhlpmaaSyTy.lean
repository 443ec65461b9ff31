/- What the walk asks of this seat's types: closed facts. Printed by program. No conditions. -/
import Derived.Test.YtbdphjgpjhlpmaaProg
import Derived.Test.YtbdphjgpjhlpmaaSxB
set_option linter.unusedSimpArgs false
set_option linter.unusedVariables false
namespace Go.Sx.Ty
open Go.Proofs Go.Sx
theorem cz1 : Try.prog.cellsOf 1 = 1 := by kernel_rfl
theorem tk1 : tyOk Try.prog 1 = true := by kernel_rfl
theorem ag1 : isAg Try.prog 1 = false := by kernel_rfl
theorem by1 : Try.prog.bytesOf 1 = 8 := by kernel_rfl
theorem se1 : slEl Try.prog 1 = none := by kernel_rfl
theorem ae1 : arEl Try.prog 1 = none := by kernel_rfl
theorem if1 : isFn Try.prog 1 = true := by kernel_rfl
theorem zz1 : zc Try.prog 1 = [V.nilf] := by kernel_rfl
theorem cz2 : Try.prog.cellsOf 2 = 1 := by kernel_rfl
theorem tk2 : tyOk Try.prog 2 = true := by kernel_rfl
theorem ag2 : isAg Try.prog 2 = false := by kernel_rfl
theorem by2 : Try.prog.bytesOf 2 = 8 := by kernel_rfl
theorem se2 : slEl Try.prog 2 = none := by kernel_rfl
theorem ae2 : arEl Try.prog 2 = none := by kernel_rfl
theorem ik2 : intK Try.prog 2 = some .i64 := by kernel_rfl
theorem zz2 : zc Try.prog 2 = [V.int .i64 0] := by kernel_rfl
theorem cz3 : Try.prog.cellsOf 3 = 1 := by kernel_rfl
theorem tk3 : tyOk Try.prog 3 = true := by kernel_rfl
theorem ag3 : isAg Try.prog 3 = false := by kernel_rfl
theorem by3 : Try.prog.bytesOf 3 = 8 := by kernel_rfl
theorem se3 : slEl Try.prog 3 = none := by kernel_rfl
theorem ae3 : arEl Try.prog 3 = none := by kernel_rfl
theorem ik3 : intK Try.prog 3 = some .i64 := by kernel_rfl
theorem zz3 : zc Try.prog 3 = [V.int .i64 0] := by kernel_rfl
theorem cz4 : Try.prog.cellsOf 4 = 1 := by kernel_rfl
theorem tk4 : tyOk Try.prog 4 = true := by kernel_rfl
theorem ag4 : isAg Try.prog 4 = false := by kernel_rfl
theorem by4 : Try.prog.bytesOf 4 = 1 := by kernel_rfl
theorem se4 : slEl Try.prog 4 = none := by kernel_rfl
theorem ae4 : arEl Try.prog 4 = none := by kernel_rfl
theorem ib4 : isBool Try.prog 4 = true := by kernel_rfl
theorem zz4 : zc Try.prog 4 = [V.bool false] := by kernel_rfl
theorem cz5 : Try.prog.cellsOf 5 = 1 := by kernel_rfl
theorem tk5 : tyOk Try.prog 5 = true := by kernel_rfl
theorem ag5 : isAg Try.prog 5 = false := by kernel_rfl
theorem by5 : Try.prog.bytesOf 5 = 1 := by kernel_rfl
theorem se5 : slEl Try.prog 5 = none := by kernel_rfl
theorem ae5 : arEl Try.prog 5 = none := by kernel_rfl
theorem ik5 : intK Try.prog 5 = some .u8 := by kernel_rfl
theorem zz5 : zc Try.prog 5 = [V.int .u8 0] := by kernel_rfl
theorem cz6 : Try.prog.cellsOf 6 = 1 := by kernel_rfl
theorem tk6 : tyOk Try.prog 6 = true := by kernel_rfl
theorem ag6 : isAg Try.prog 6 = false := by kernel_rfl
theorem by6 : Try.prog.bytesOf 6 = 1 := by kernel_rfl
theorem se6 : slEl Try.prog 6 = none := by kernel_rfl
theorem ae6 : arEl Try.prog 6 = none := by kernel_rfl
theorem ik6 : intK Try.prog 6 = some .u8 := by kernel_rfl
theorem zz6 : zc Try.prog 6 = [V.int .u8 0] := by kernel_rfl
theorem cz7 : Try.prog.cellsOf 7 = 4 := by kernel_rfl
theorem tk7 : tyOk Try.prog 7 = true := by kernel_rfl
theorem ag7 : isAg Try.prog 7 = true := by kernel_rfl
theorem by7 : Try.prog.bytesOf 7 = 24 := by kernel_rfl
theorem se7 : slEl Try.prog 7 = none := by kernel_rfl
theorem ae7 : arEl Try.prog 7 = none := by kernel_rfl
theorem st7 : isSt Try.prog 7 = true := by kernel_rfl
theorem fo7 : fldsOk Try.prog 7 = true := by kernel_rfl
theorem fd7_0 : fld Try.prog 7 0 = some (0, 2) := by kernel_rfl
theorem fd7_1 : fld Try.prog 7 1 = some (1, 3) := by kernel_rfl
theorem fd7_2 : fld Try.prog 7 2 = some (2, 4) := by kernel_rfl
theorem fd7_3 : fld Try.prog 7 3 = some (3, 6) := by kernel_rfl
theorem lt7 : leafTs Try.prog 7 = [2, 3, 4, 6] := by kernel_rfl
theorem fe7 : flatEq Try.prog 7 = true := by kernel_rfl
theorem zz7 : zc Try.prog 7 = [V.int .i64 0, V.int .i64 0, V.bool false, V.int .u8 0] := by kernel_rfl
theorem cz8 : Try.prog.cellsOf 8 = 4 := by kernel_rfl
theorem tk8 : tyOk Try.prog 8 = true := by kernel_rfl
theorem ag8 : isAg Try.prog 8 = true := by kernel_rfl
theorem by8 : Try.prog.bytesOf 8 = 24 := by kernel_rfl
theorem se8 : slEl Try.prog 8 = none := by kernel_rfl
theorem ae8 : arEl Try.prog 8 = none := by kernel_rfl
theorem st8 : isSt Try.prog 8 = true := by kernel_rfl
theorem fo8 : fldsOk Try.prog 8 = true := by kernel_rfl
theorem fd8_0 : fld Try.prog 8 0 = some (0, 2) := by kernel_rfl
theorem fd8_1 : fld Try.prog 8 1 = some (1, 3) := by kernel_rfl
theorem fd8_2 : fld Try.prog 8 2 = some (2, 4) := by kernel_rfl
theorem fd8_3 : fld Try.prog 8 3 = some (3, 6) := by kernel_rfl
theorem lt8 : leafTs Try.prog 8 = [2, 3, 4, 6] := by kernel_rfl
theorem fe8 : flatEq Try.prog 8 = true := by kernel_rfl
theorem zz8 : zc Try.prog 8 = [V.int .i64 0, V.int .i64 0, V.bool false, V.int .u8 0] := by kernel_rfl
theorem cz12 : Try.prog.cellsOf 12 = 1 := by kernel_rfl
theorem tk12 : tyOk Try.prog 12 = true := by kernel_rfl
theorem ag12 : isAg Try.prog 12 = false := by kernel_rfl
theorem by12 : Try.prog.bytesOf 12 = 8 := by kernel_rfl
theorem se12 : slEl Try.prog 12 = none := by kernel_rfl
theorem ae12 : arEl Try.prog 12 = none := by kernel_rfl
theorem ik12 : intK Try.prog 12 = some .u64 := by kernel_rfl
theorem zz12 : zc Try.prog 12 = [V.int .u64 0] := by kernel_rfl
theorem cz13 : Try.prog.cellsOf 13 = 2 := by kernel_rfl
theorem tk13 : tyOk Try.prog 13 = true := by kernel_rfl
theorem ag13 : isAg Try.prog 13 = true := by kernel_rfl
theorem by13 : Try.prog.bytesOf 13 = 24 := by kernel_rfl
theorem se13 : slEl Try.prog 13 = none := by kernel_rfl
theorem ae13 : arEl Try.prog 13 = none := by kernel_rfl
theorem st13 : isSt Try.prog 13 = true := by kernel_rfl
theorem fo13 : fldsOk Try.prog 13 = true := by kernel_rfl
theorem fd13_0 : fld Try.prog 13 0 = some (0, 9) := by kernel_rfl
theorem fd13_1 : fld Try.prog 13 1 = some (1, 12) := by kernel_rfl
theorem zz13 : zc Try.prog 13 = [V.top, V.int .u64 0] := by kernel_rfl
theorem cz14 : Try.prog.cellsOf 14 = 2 := by kernel_rfl
theorem tk14 : tyOk Try.prog 14 = true := by kernel_rfl
theorem ag14 : isAg Try.prog 14 = true := by kernel_rfl
theorem by14 : Try.prog.bytesOf 14 = 24 := by kernel_rfl
theorem se14 : slEl Try.prog 14 = none := by kernel_rfl
theorem ae14 : arEl Try.prog 14 = none := by kernel_rfl
theorem st14 : isSt Try.prog 14 = true := by kernel_rfl
theorem fo14 : fldsOk Try.prog 14 = true := by kernel_rfl
theorem fd14_0 : fld Try.prog 14 0 = some (0, 9) := by kernel_rfl
theorem fd14_1 : fld Try.prog 14 1 = some (1, 12) := by kernel_rfl
theorem zz14 : zc Try.prog 14 = [V.top, V.int .u64 0] := by kernel_rfl
theorem cz15 : Try.prog.cellsOf 15 = 1 := by kernel_rfl
theorem tk15 : tyOk Try.prog 15 = true := by kernel_rfl
theorem ag15 : isAg Try.prog 15 = false := by kernel_rfl
theorem by15 : Try.prog.bytesOf 15 = 8 := by kernel_rfl
theorem se15 : slEl Try.prog 15 = none := by kernel_rfl
theorem ae15 : arEl Try.prog 15 = none := by kernel_rfl
theorem ip15 : isPtr Try.prog 15 = true := by kernel_rfl
theorem zz15 : zc Try.prog 15 = [V.nilp] := by kernel_rfl
theorem cz16 : Try.prog.cellsOf 16 = 1 := by kernel_rfl
theorem tk16 : tyOk Try.prog 16 = true := by kernel_rfl
theorem ag16 : isAg Try.prog 16 = false := by kernel_rfl
theorem by16 : Try.prog.bytesOf 16 = 8 := by kernel_rfl
theorem se16 : slEl Try.prog 16 = none := by kernel_rfl
theorem ae16 : arEl Try.prog 16 = none := by kernel_rfl
theorem ip16 : isPtr Try.prog 16 = true := by kernel_rfl
theorem zz16 : zc Try.prog 16 = [V.nilp] := by kernel_rfl
theorem cz17 : Try.prog.cellsOf 17 = 1 := by kernel_rfl
theorem tk17 : tyOk Try.prog 17 = true := by kernel_rfl
theorem ag17 : isAg Try.prog 17 = false := by kernel_rfl
theorem by17 : Try.prog.bytesOf 17 = 8 := by kernel_rfl
theorem se17 : slEl Try.prog 17 = none := by kernel_rfl
theorem ae17 : arEl Try.prog 17 = none := by kernel_rfl
theorem ip17 : isPtr Try.prog 17 = true := by kernel_rfl
theorem zz17 : zc Try.prog 17 = [V.nilp] := by kernel_rfl
theorem cz18 : Try.prog.cellsOf 18 = 1 := by kernel_rfl
theorem tk18 : tyOk Try.prog 18 = true := by kernel_rfl
theorem ag18 : isAg Try.prog 18 = true := by kernel_rfl
theorem by18 : Try.prog.bytesOf 18 = 8 := by kernel_rfl
theorem se18 : slEl Try.prog 18 = none := by kernel_rfl
theorem ae18 : arEl Try.prog 18 = none := by kernel_rfl
theorem st18 : isSt Try.prog 18 = true := by kernel_rfl
theorem fo18 : fldsOk Try.prog 18 = true := by kernel_rfl
theorem fd18_0 : fld Try.prog 18 0 = some (0, 17) := by kernel_rfl
theorem zz18 : zc Try.prog 18 = [V.nilp] := by kernel_rfl
theorem cz19 : Try.prog.cellsOf 19 = 1 := by kernel_rfl
theorem tk19 : tyOk Try.prog 19 = true := by kernel_rfl
theorem ag19 : isAg Try.prog 19 = true := by kernel_rfl
theorem by19 : Try.prog.bytesOf 19 = 8 := by kernel_rfl
theorem se19 : slEl Try.prog 19 = none := by kernel_rfl
theorem ae19 : arEl Try.prog 19 = none := by kernel_rfl
theorem st19 : isSt Try.prog 19 = true := by kernel_rfl
theorem fo19 : fldsOk Try.prog 19 = true := by kernel_rfl
theorem fd19_0 : fld Try.prog 19 0 = some (0, 17) := by kernel_rfl
theorem zz19 : zc Try.prog 19 = [V.nilp] := by kernel_rfl
theorem cz21 : Try.prog.cellsOf 21 = 1 := by kernel_rfl
theorem tk21 : tyOk Try.prog 21 = true := by kernel_rfl
theorem ag21 : isAg Try.prog 21 = false := by kernel_rfl
theorem by21 : Try.prog.bytesOf 21 = 4 := by kernel_rfl
theorem se21 : slEl Try.prog 21 = none := by kernel_rfl
theorem ae21 : arEl Try.prog 21 = none := by kernel_rfl
theorem ik21 : intK Try.prog 21 = some .i32 := by kernel_rfl
theorem zz21 : zc Try.prog 21 = [V.int .i32 0] := by kernel_rfl
theorem cz22 : Try.prog.cellsOf 22 = 1 := by kernel_rfl
theorem tk22 : tyOk Try.prog 22 = true := by kernel_rfl
theorem ag22 : isAg Try.prog 22 = false := by kernel_rfl
theorem by22 : Try.prog.bytesOf 22 = 24 := by kernel_rfl
theorem se22 : slEl Try.prog 22 = some 3 := by kernel_rfl
theorem ae22 : arEl Try.prog 22 = none := by kernel_rfl
theorem zz22 : zc Try.prog 22 = [V.nil] := by kernel_rfl
theorem cz23 : Try.prog.cellsOf 23 = 1 := by kernel_rfl
theorem tk23 : tyOk Try.prog 23 = true := by kernel_rfl
theorem ag23 : isAg Try.prog 23 = false := by kernel_rfl
theorem by23 : Try.prog.bytesOf 23 = 8 := by kernel_rfl
theorem se23 : slEl Try.prog 23 = none := by kernel_rfl
theorem ae23 : arEl Try.prog 23 = none := by kernel_rfl
theorem ik23 : intK Try.prog 23 = some .i64 := by kernel_rfl
theorem zz23 : zc Try.prog 23 = [V.int .i64 0] := by kernel_rfl
theorem cz25 : Try.prog.cellsOf 25 = 1 := by kernel_rfl
theorem tk25 : tyOk Try.prog 25 = true := by kernel_rfl
theorem ag25 : isAg Try.prog 25 = false := by kernel_rfl
theorem by25 : Try.prog.bytesOf 25 = 8 := by kernel_rfl
theorem se25 : slEl Try.prog 25 = none := by kernel_rfl
theorem ae25 : arEl Try.prog 25 = none := by kernel_rfl
theorem if25 : isFn Try.prog 25 = true := by kernel_rfl
theorem zz25 : zc Try.prog 25 = [V.nilf] := by kernel_rfl
theorem cz26 : Try.prog.cellsOf 26 = 1 := by kernel_rfl
theorem tk26 : tyOk Try.prog 26 = true := by kernel_rfl
theorem ag26 : isAg Try.prog 26 = false := by kernel_rfl
theorem by26 : Try.prog.bytesOf 26 = 8 := by kernel_rfl
theorem se26 : slEl Try.prog 26 = none := by kernel_rfl
theorem ae26 : arEl Try.prog 26 = none := by kernel_rfl
theorem if26 : isFn Try.prog 26 = true := by kernel_rfl
theorem zz26 : zc Try.prog 26 = [V.nilf] := by kernel_rfl
theorem cz27 : Try.prog.cellsOf 27 = 1 := by kernel_rfl
theorem tk27 : tyOk Try.prog 27 = true := by kernel_rfl
theorem ag27 : isAg Try.prog 27 = false := by kernel_rfl
theorem by27 : Try.prog.bytesOf 27 = 8 := by kernel_rfl
theorem se27 : slEl Try.prog 27 = none := by kernel_rfl
theorem ae27 : arEl Try.prog 27 = none := by kernel_rfl
theorem if27 : isFn Try.prog 27 = true := by kernel_rfl
theorem zz27 : zc Try.prog 27 = [V.nilf] := by kernel_rfl
theorem cz28 : Try.prog.cellsOf 28 = 1 := by kernel_rfl
theorem tk28 : tyOk Try.prog 28 = true := by kernel_rfl
theorem ag28 : isAg Try.prog 28 = false := by kernel_rfl
theorem by28 : Try.prog.bytesOf 28 = 8 := by kernel_rfl
theorem se28 : slEl Try.prog 28 = none := by kernel_rfl
theorem ae28 : arEl Try.prog 28 = none := by kernel_rfl
theorem if28 : isFn Try.prog 28 = true := by kernel_rfl
theorem zz28 : zc Try.prog 28 = [V.nilf] := by kernel_rfl
theorem cz29 : Try.prog.cellsOf 29 = 4 := by kernel_rfl
theorem tk29 : tyOk Try.prog 29 = true := by kernel_rfl
theorem ag29 : isAg Try.prog 29 = true := by kernel_rfl
theorem by29 : Try.prog.bytesOf 29 = 32 := by kernel_rfl
theorem se29 : slEl Try.prog 29 = none := by kernel_rfl
theorem ae29 : arEl Try.prog 29 = none := by kernel_rfl
theorem st29 : isSt Try.prog 29 = true := by kernel_rfl
theorem fo29 : fldsOk Try.prog 29 = true := by kernel_rfl
theorem fd29_0 : fld Try.prog 29 0 = some (0, 3) := by kernel_rfl
theorem fd29_1 : fld Try.prog 29 1 = some (1, 3) := by kernel_rfl
theorem fd29_2 : fld Try.prog 29 2 = some (2, 3) := by kernel_rfl
theorem fd29_3 : fld Try.prog 29 3 = some (3, 3) := by kernel_rfl
theorem lt29 : leafTs Try.prog 29 = [3, 3, 3, 3] := by kernel_rfl
theorem fe29 : flatEq Try.prog 29 = true := by kernel_rfl
theorem zz29 : zc Try.prog 29 = [V.int .i64 0, V.int .i64 0, V.int .i64 0, V.int .i64 0] := by kernel_rfl
theorem cz30 : Try.prog.cellsOf 30 = 4 := by kernel_rfl
theorem tk30 : tyOk Try.prog 30 = true := by kernel_rfl
theorem ag30 : isAg Try.prog 30 = true := by kernel_rfl
theorem by30 : Try.prog.bytesOf 30 = 32 := by kernel_rfl
theorem se30 : slEl Try.prog 30 = none := by kernel_rfl
theorem ae30 : arEl Try.prog 30 = none := by kernel_rfl
theorem st30 : isSt Try.prog 30 = true := by kernel_rfl
theorem fo30 : fldsOk Try.prog 30 = true := by kernel_rfl
theorem fd30_0 : fld Try.prog 30 0 = some (0, 3) := by kernel_rfl
theorem fd30_1 : fld Try.prog 30 1 = some (1, 3) := by kernel_rfl
theorem fd30_2 : fld Try.prog 30 2 = some (2, 3) := by kernel_rfl
theorem fd30_3 : fld Try.prog 30 3 = some (3, 3) := by kernel_rfl
theorem lt30 : leafTs Try.prog 30 = [3, 3, 3, 3] := by kernel_rfl
theorem fe30 : flatEq Try.prog 30 = true := by kernel_rfl
theorem zz30 : zc Try.prog 30 = [V.int .i64 0, V.int .i64 0, V.int .i64 0, V.int .i64 0] := by kernel_rfl
theorem cz31 : Try.prog.cellsOf 31 = 1 := by kernel_rfl
theorem tk31 : tyOk Try.prog 31 = true := by kernel_rfl
theorem ag31 : isAg Try.prog 31 = false := by kernel_rfl
theorem by31 : Try.prog.bytesOf 31 = 8 := by kernel_rfl
theorem se31 : slEl Try.prog 31 = none := by kernel_rfl
theorem ae31 : arEl Try.prog 31 = none := by kernel_rfl
theorem if31 : isFn Try.prog 31 = true := by kernel_rfl
theorem zz31 : zc Try.prog 31 = [V.nilf] := by kernel_rfl
theorem cz32 : Try.prog.cellsOf 32 = 1 := by kernel_rfl
theorem tk32 : tyOk Try.prog 32 = true := by kernel_rfl
theorem ag32 : isAg Try.prog 32 = false := by kernel_rfl
theorem by32 : Try.prog.bytesOf 32 = 8 := by kernel_rfl
theorem se32 : slEl Try.prog 32 = none := by kernel_rfl
theorem ae32 : arEl Try.prog 32 = none := by kernel_rfl
theorem if32 : isFn Try.prog 32 = true := by kernel_rfl
theorem zz32 : zc Try.prog 32 = [V.nilf] := by kernel_rfl
theorem cz34 : Try.prog.cellsOf 34 = 2 := by kernel_rfl
theorem tk34 : tyOk Try.prog 34 = true := by kernel_rfl
theorem ag34 : isAg Try.prog 34 = true := by kernel_rfl
theorem by34 : Try.prog.bytesOf 34 = 16 := by kernel_rfl
theorem se34 : slEl Try.prog 34 = none := by kernel_rfl
theorem ae34 : arEl Try.prog 34 = none := by kernel_rfl
theorem st34 : isSt Try.prog 34 = true := by kernel_rfl
theorem fo34 : fldsOk Try.prog 34 = true := by kernel_rfl
theorem fd34_0 : fld Try.prog 34 0 = some (0, 3) := by kernel_rfl
theorem fd34_1 : fld Try.prog 34 1 = some (1, 3) := by kernel_rfl
theorem lt34 : leafTs Try.prog 34 = [3, 3] := by kernel_rfl
theorem fe34 : flatEq Try.prog 34 = true := by kernel_rfl
theorem zz34 : zc Try.prog 34 = [V.int .i64 0, V.int .i64 0] := by kernel_rfl
theorem cz35 : Try.prog.cellsOf 35 = 2 := by kernel_rfl
theorem tk35 : tyOk Try.prog 35 = true := by kernel_rfl
theorem ag35 : isAg Try.prog 35 = true := by kernel_rfl
theorem by35 : Try.prog.bytesOf 35 = 16 := by kernel_rfl
theorem se35 : slEl Try.prog 35 = none := by kernel_rfl
theorem ae35 : arEl Try.prog 35 = none := by kernel_rfl
theorem st35 : isSt Try.prog 35 = true := by kernel_rfl
theorem fo35 : fldsOk Try.prog 35 = true := by kernel_rfl
theorem fd35_0 : fld Try.prog 35 0 = some (0, 3) := by kernel_rfl
theorem fd35_1 : fld Try.prog 35 1 = some (1, 3) := by kernel_rfl
theorem lt35 : leafTs Try.prog 35 = [3, 3] := by kernel_rfl
theorem fe35 : flatEq Try.prog 35 = true := by kernel_rfl
theorem zz35 : zc Try.prog 35 = [V.int .i64 0, V.int .i64 0] := by kernel_rfl
theorem cz36 : Try.prog.cellsOf 36 = 1 := by kernel_rfl
theorem tk36 : tyOk Try.prog 36 = true := by kernel_rfl
theorem ag36 : isAg Try.prog 36 = false := by kernel_rfl
theorem by36 : Try.prog.bytesOf 36 = 8 := by kernel_rfl
theorem se36 : slEl Try.prog 36 = none := by kernel_rfl
theorem ae36 : arEl Try.prog 36 = none := by kernel_rfl
theorem if36 : isFn Try.prog 36 = true := by kernel_rfl
theorem zz36 : zc Try.prog 36 = [V.nilf] := by kernel_rfl
theorem cz37 : Try.prog.cellsOf 37 = 1 := by kernel_rfl
theorem tk37 : tyOk Try.prog 37 = true := by kernel_rfl
theorem ag37 : isAg Try.prog 37 = false := by kernel_rfl
theorem by37 : Try.prog.bytesOf 37 = 8 := by kernel_rfl
theorem se37 : slEl Try.prog 37 = none := by kernel_rfl
theorem ae37 : arEl Try.prog 37 = none := by kernel_rfl
theorem if37 : isFn Try.prog 37 = true := by kernel_rfl
theorem zz37 : zc Try.prog 37 = [V.nilf] := by kernel_rfl
theorem cz38 : Try.prog.cellsOf 38 = 1 := by kernel_rfl
theorem tk38 : tyOk Try.prog 38 = true := by kernel_rfl
theorem ag38 : isAg Try.prog 38 = false := by kernel_rfl
theorem by38 : Try.prog.bytesOf 38 = 8 := by kernel_rfl
theorem se38 : slEl Try.prog 38 = none := by kernel_rfl
theorem ae38 : arEl Try.prog 38 = none := by kernel_rfl
theorem if38 : isFn Try.prog 38 = true := by kernel_rfl
theorem zz38 : zc Try.prog 38 = [V.nilf] := by kernel_rfl
theorem cz39 : Try.prog.cellsOf 39 = 1 := by kernel_rfl
theorem tk39 : tyOk Try.prog 39 = true := by kernel_rfl
theorem ag39 : isAg Try.prog 39 = false := by kernel_rfl
theorem by39 : Try.prog.bytesOf 39 = 24 := by kernel_rfl
theorem se39 : slEl Try.prog 39 = some 40 := by kernel_rfl
theorem ae39 : arEl Try.prog 39 = none := by kernel_rfl
theorem zz39 : zc Try.prog 39 = [V.nil] := by kernel_rfl
theorem cz40 : Try.prog.cellsOf 40 = 2 := by kernel_rfl
theorem tk40 : tyOk Try.prog 40 = true := by kernel_rfl
theorem ag40 : isAg Try.prog 40 = true := by kernel_rfl
theorem by40 : Try.prog.bytesOf 40 = 16 := by kernel_rfl
theorem se40 : slEl Try.prog 40 = none := by kernel_rfl
theorem ae40 : arEl Try.prog 40 = some (2, 3) := by kernel_rfl
theorem st40 : isSt Try.prog 40 = false := by kernel_rfl
theorem lt40 : leafTs Try.prog 40 = [3, 3] := by kernel_rfl
theorem fe40 : flatEq Try.prog 40 = true := by kernel_rfl
theorem zz40 : zc Try.prog 40 = [V.int .i64 0, V.int .i64 0] := by kernel_rfl
theorem cz41 : Try.prog.cellsOf 41 = 1 := by kernel_rfl
theorem tk41 : tyOk Try.prog 41 = true := by kernel_rfl
theorem ag41 : isAg Try.prog 41 = false := by kernel_rfl
theorem by41 : Try.prog.bytesOf 41 = 8 := by kernel_rfl
theorem se41 : slEl Try.prog 41 = none := by kernel_rfl
theorem ae41 : arEl Try.prog 41 = none := by kernel_rfl
theorem if41 : isFn Try.prog 41 = true := by kernel_rfl
theorem zz41 : zc Try.prog 41 = [V.nilf] := by kernel_rfl
theorem cz42 : Try.prog.cellsOf 42 = 1 := by kernel_rfl
theorem tk42 : tyOk Try.prog 42 = true := by kernel_rfl
theorem ag42 : isAg Try.prog 42 = false := by kernel_rfl
theorem by42 : Try.prog.bytesOf 42 = 8 := by kernel_rfl
theorem se42 : slEl Try.prog 42 = none := by kernel_rfl
theorem ae42 : arEl Try.prog 42 = none := by kernel_rfl
theorem if42 : isFn Try.prog 42 = true := by kernel_rfl
theorem zz42 : zc Try.prog 42 = [V.nilf] := by kernel_rfl
theorem cz43 : Try.prog.cellsOf 43 = 1 := by kernel_rfl
theorem tk43 : tyOk Try.prog 43 = true := by kernel_rfl
theorem ag43 : isAg Try.prog 43 = false := by kernel_rfl
theorem by43 : Try.prog.bytesOf 43 = 8 := by kernel_rfl
theorem se43 : slEl Try.prog 43 = none := by kernel_rfl
theorem ae43 : arEl Try.prog 43 = none := by kernel_rfl
theorem if43 : isFn Try.prog 43 = true := by kernel_rfl
theorem zz43 : zc Try.prog 43 = [V.nilf] := by kernel_rfl
theorem cz44 : Try.prog.cellsOf 44 = 1 := by kernel_rfl
theorem tk44 : tyOk Try.prog 44 = true := by kernel_rfl
theorem ag44 : isAg Try.prog 44 = false := by kernel_rfl
theorem by44 : Try.prog.bytesOf 44 = 8 := by kernel_rfl
theorem se44 : slEl Try.prog 44 = none := by kernel_rfl
theorem ae44 : arEl Try.prog 44 = none := by kernel_rfl
theorem if44 : isFn Try.prog 44 = true := by kernel_rfl
theorem zz44 : zc Try.prog 44 = [V.nilf] := by kernel_rfl
theorem cz45 : Try.prog.cellsOf 45 = 1 := by kernel_rfl
theorem tk45 : tyOk Try.prog 45 = true := by kernel_rfl
theorem ag45 : isAg Try.prog 45 = false := by kernel_rfl
theorem by45 : Try.prog.bytesOf 45 = 8 := by kernel_rfl
theorem se45 : slEl Try.prog 45 = none := by kernel_rfl
theorem ae45 : arEl Try.prog 45 = none := by kernel_rfl
theorem if45 : isFn Try.prog 45 = true := by kernel_rfl
theorem zz45 : zc Try.prog 45 = [V.nilf] := by kernel_rfl
theorem cz47 : Try.prog.cellsOf 47 = 1 := by kernel_rfl
theorem tk47 : tyOk Try.prog 47 = true := by kernel_rfl
theorem ag47 : isAg Try.prog 47 = false := by kernel_rfl
theorem by47 : Try.prog.bytesOf 47 = 8 := by kernel_rfl
theorem se47 : slEl Try.prog 47 = none := by kernel_rfl
theorem ae47 : arEl Try.prog 47 = none := by kernel_rfl
theorem if47 : isFn Try.prog 47 = true := by kernel_rfl
theorem zz47 : zc Try.prog 47 = [V.nilf] := by kernel_rfl
theorem cz48 : Try.prog.cellsOf 48 = 1 := by kernel_rfl
theorem tk48 : tyOk Try.prog 48 = true := by kernel_rfl
theorem ag48 : isAg Try.prog 48 = false := by kernel_rfl
theorem by48 : Try.prog.bytesOf 48 = 8 := by kernel_rfl
theorem se48 : slEl Try.prog 48 = none := by kernel_rfl
theorem ae48 : arEl Try.prog 48 = none := by kernel_rfl
theorem if48 : isFn Try.prog 48 = true := by kernel_rfl
theorem zz48 : zc Try.prog 48 = [V.nilf] := by kernel_rfl
theorem cz49 : Try.prog.cellsOf 49 = 1 := by kernel_rfl
theorem tk49 : tyOk Try.prog 49 = true := by kernel_rfl
theorem ag49 : isAg Try.prog 49 = false := by kernel_rfl
theorem by49 : Try.prog.bytesOf 49 = 8 := by kernel_rfl
theorem se49 : slEl Try.prog 49 = none := by kernel_rfl
theorem ae49 : arEl Try.prog 49 = none := by kernel_rfl
theorem if49 : isFn Try.prog 49 = true := by kernel_rfl
theorem zz49 : zc Try.prog 49 = [V.nilf] := by kernel_rfl
theorem cz50 : Try.prog.cellsOf 50 = 1 := by kernel_rfl
theorem tk50 : tyOk Try.prog 50 = true := by kernel_rfl
theorem ag50 : isAg Try.prog 50 = false := by kernel_rfl
theorem by50 : Try.prog.bytesOf 50 = 24 := by kernel_rfl
theorem se50 : slEl Try.prog 50 = some 35 := by kernel_rfl
theorem ae50 : arEl Try.prog 50 = none := by kernel_rfl
theorem zz50 : zc Try.prog 50 = [V.nil] := by kernel_rfl
theorem cz51 : Try.prog.cellsOf 51 = 1 := by kernel_rfl
theorem tk51 : tyOk Try.prog 51 = true := by kernel_rfl
theorem ag51 : isAg Try.prog 51 = false := by kernel_rfl
theorem by51 : Try.prog.bytesOf 51 = 8 := by kernel_rfl
theorem se51 : slEl Try.prog 51 = none := by kernel_rfl
theorem ae51 : arEl Try.prog 51 = none := by kernel_rfl
theorem if51 : isFn Try.prog 51 = true := by kernel_rfl
theorem zz51 : zc Try.prog 51 = [V.nilf] := by kernel_rfl
theorem cz52 : Try.prog.cellsOf 52 = 1 := by kernel_rfl
theorem tk52 : tyOk Try.prog 52 = true := by kernel_rfl
theorem ag52 : isAg Try.prog 52 = false := by kernel_rfl
theorem by52 : Try.prog.bytesOf 52 = 8 := by kernel_rfl
theorem se52 : slEl Try.prog 52 = none := by kernel_rfl
theorem ae52 : arEl Try.prog 52 = none := by kernel_rfl
theorem if52 : isFn Try.prog 52 = true := by kernel_rfl
theorem zz52 : zc Try.prog 52 = [V.nilf] := by kernel_rfl
theorem cz53 : Try.prog.cellsOf 53 = 1 := by kernel_rfl
theorem tk53 : tyOk Try.prog 53 = true := by kernel_rfl
theorem ag53 : isAg Try.prog 53 = false := by kernel_rfl
theorem by53 : Try.prog.bytesOf 53 = 8 := by kernel_rfl
theorem se53 : slEl Try.prog 53 = none := by kernel_rfl
theorem ae53 : arEl Try.prog 53 = none := by kernel_rfl
theorem if53 : isFn Try.prog 53 = true := by kernel_rfl
theorem zz53 : zc Try.prog 53 = [V.nilf] := by kernel_rfl
theorem cz54 : Try.prog.cellsOf 54 = 1 := by kernel_rfl
theorem tk54 : tyOk Try.prog 54 = true := by kernel_rfl
theorem ag54 : isAg Try.prog 54 = false := by kernel_rfl
theorem by54 : Try.prog.bytesOf 54 = 8 := by kernel_rfl
theorem se54 : slEl Try.prog 54 = none := by kernel_rfl
theorem ae54 : arEl Try.prog 54 = none := by kernel_rfl
theorem ik54 : intK Try.prog 54 = some .u64 := by kernel_rfl
theorem zz54 : zc Try.prog 54 = [V.int .u64 0] := by kernel_rfl
theorem cz55 : Try.prog.cellsOf 55 = 1 := by kernel_rfl
theorem tk55 : tyOk Try.prog 55 = true := by kernel_rfl
theorem ag55 : isAg Try.prog 55 = false := by kernel_rfl
theorem by55 : Try.prog.bytesOf 55 = 8 := by kernel_rfl
theorem se55 : slEl Try.prog 55 = none := by kernel_rfl
theorem ae55 : arEl Try.prog 55 = none := by kernel_rfl
theorem if55 : isFn Try.prog 55 = true := by kernel_rfl
theorem zz55 : zc Try.prog 55 = [V.nilf] := by kernel_rfl
theorem cz56 : Try.prog.cellsOf 56 = 1 := by kernel_rfl
theorem tk56 : tyOk Try.prog 56 = true := by kernel_rfl
theorem ag56 : isAg Try.prog 56 = false := by kernel_rfl
theorem by56 : Try.prog.bytesOf 56 = 8 := by kernel_rfl
theorem se56 : slEl Try.prog 56 = none := by kernel_rfl
theorem ae56 : arEl Try.prog 56 = none := by kernel_rfl
theorem ip56 : isPtr Try.prog 56 = true := by kernel_rfl
theorem zz56 : zc Try.prog 56 = [V.nilp] := by kernel_rfl
theorem cz58 : Try.prog.cellsOf 58 = 1 := by kernel_rfl
theorem tk58 : tyOk Try.prog 58 = true := by kernel_rfl
theorem ag58 : isAg Try.prog 58 = false := by kernel_rfl
theorem by58 : Try.prog.bytesOf 58 = 8 := by kernel_rfl
theorem se58 : slEl Try.prog 58 = none := by kernel_rfl
theorem ae58 : arEl Try.prog 58 = none := by kernel_rfl
theorem if58 : isFn Try.prog 58 = true := by kernel_rfl
theorem zz58 : zc Try.prog 58 = [V.nilf] := by kernel_rfl
theorem cz59 : Try.prog.cellsOf 59 = 2 := by kernel_rfl
theorem tk59 : tyOk Try.prog 59 = true := by kernel_rfl
theorem ag59 : isAg Try.prog 59 = true := by kernel_rfl
theorem by59 : Try.prog.bytesOf 59 = 48 := by kernel_rfl
theorem se59 : slEl Try.prog 59 = none := by kernel_rfl
theorem ae59 : arEl Try.prog 59 = none := by kernel_rfl
theorem st59 : isSt Try.prog 59 = true := by kernel_rfl
theorem fo59 : fldsOk Try.prog 59 = true := by kernel_rfl
theorem fd59_0 : fld Try.prog 59 0 = some (0, 22) := by kernel_rfl
theorem fd59_1 : fld Try.prog 59 1 = some (1, 22) := by kernel_rfl
theorem zz59 : zc Try.prog 59 = [V.nil, V.nil] := by kernel_rfl
theorem cz60 : Try.prog.cellsOf 60 = 2 := by kernel_rfl
theorem tk60 : tyOk Try.prog 60 = true := by kernel_rfl
theorem ag60 : isAg Try.prog 60 = true := by kernel_rfl
theorem by60 : Try.prog.bytesOf 60 = 48 := by kernel_rfl
theorem se60 : slEl Try.prog 60 = none := by kernel_rfl
theorem ae60 : arEl Try.prog 60 = none := by kernel_rfl
theorem st60 : isSt Try.prog 60 = true := by kernel_rfl
theorem fo60 : fldsOk Try.prog 60 = true := by kernel_rfl
theorem fd60_0 : fld Try.prog 60 0 = some (0, 22) := by kernel_rfl
theorem fd60_1 : fld Try.prog 60 1 = some (1, 22) := by kernel_rfl
theorem zz60 : zc Try.prog 60 = [V.nil, V.nil] := by kernel_rfl
theorem cz61 : Try.prog.cellsOf 61 = 1 := by kernel_rfl
theorem tk61 : tyOk Try.prog 61 = true := by kernel_rfl
theorem ag61 : isAg Try.prog 61 = false := by kernel_rfl
theorem by61 : Try.prog.bytesOf 61 = 8 := by kernel_rfl
theorem se61 : slEl Try.prog 61 = none := by kernel_rfl
theorem ae61 : arEl Try.prog 61 = none := by kernel_rfl
theorem if61 : isFn Try.prog 61 = true := by kernel_rfl
theorem zz61 : zc Try.prog 61 = [V.nilf] := by kernel_rfl
theorem cz62 : Try.prog.cellsOf 62 = 1 := by kernel_rfl
theorem tk62 : tyOk Try.prog 62 = true := by kernel_rfl
theorem ag62 : isAg Try.prog 62 = false := by kernel_rfl
theorem by62 : Try.prog.bytesOf 62 = 24 := by kernel_rfl
theorem se62 : slEl Try.prog 62 = some 60 := by kernel_rfl
theorem ae62 : arEl Try.prog 62 = none := by kernel_rfl
theorem zz62 : zc Try.prog 62 = [V.nil] := by kernel_rfl
theorem cz63 : Try.prog.cellsOf 63 = 1 := by kernel_rfl
theorem tk63 : tyOk Try.prog 63 = true := by kernel_rfl
theorem ag63 : isAg Try.prog 63 = false := by kernel_rfl
theorem by63 : Try.prog.bytesOf 63 = 8 := by kernel_rfl
theorem se63 : slEl Try.prog 63 = none := by kernel_rfl
theorem ae63 : arEl Try.prog 63 = none := by kernel_rfl
theorem if63 : isFn Try.prog 63 = true := by kernel_rfl
theorem zz63 : zc Try.prog 63 = [V.nilf] := by kernel_rfl
theorem cz64 : Try.prog.cellsOf 64 = 1 := by kernel_rfl
theorem tk64 : tyOk Try.prog 64 = true := by kernel_rfl
theorem ag64 : isAg Try.prog 64 = false := by kernel_rfl
theorem by64 : Try.prog.bytesOf 64 = 8 := by kernel_rfl
theorem se64 : slEl Try.prog 64 = none := by kernel_rfl
theorem ae64 : arEl Try.prog 64 = none := by kernel_rfl
theorem if64 : isFn Try.prog 64 = true := by kernel_rfl
theorem zz64 : zc Try.prog 64 = [V.nilf] := by kernel_rfl
theorem cz65 : Try.prog.cellsOf 65 = 1 := by kernel_rfl
theorem tk65 : tyOk Try.prog 65 = true := by kernel_rfl
theorem ag65 : isAg Try.prog 65 = false := by kernel_rfl
theorem by65 : Try.prog.bytesOf 65 = 8 := by kernel_rfl
theorem se65 : slEl Try.prog 65 = none := by kernel_rfl
theorem ae65 : arEl Try.prog 65 = none := by kernel_rfl
theorem if65 : isFn Try.prog 65 = true := by kernel_rfl
theorem zz65 : zc Try.prog 65 = [V.nilf] := by kernel_rfl
theorem cz66 : Try.prog.cellsOf 66 = 1 := by kernel_rfl
theorem tk66 : tyOk Try.prog 66 = true := by kernel_rfl
theorem ag66 : isAg Try.prog 66 = false := by kernel_rfl
theorem by66 : Try.prog.bytesOf 66 = 8 := by kernel_rfl
theorem se66 : slEl Try.prog 66 = none := by kernel_rfl
theorem ae66 : arEl Try.prog 66 = none := by kernel_rfl
theorem if66 : isFn Try.prog 66 = true := by kernel_rfl
theorem zz66 : zc Try.prog 66 = [V.nilf] := by kernel_rfl
theorem cz67 : Try.prog.cellsOf 67 = 1 := by kernel_rfl
theorem tk67 : tyOk Try.prog 67 = true := by kernel_rfl
theorem ag67 : isAg Try.prog 67 = false := by kernel_rfl
theorem by67 : Try.prog.bytesOf 67 = 8 := by kernel_rfl
theorem se67 : slEl Try.prog 67 = none := by kernel_rfl
theorem ae67 : arEl Try.prog 67 = none := by kernel_rfl
theorem if67 : isFn Try.prog 67 = true := by kernel_rfl
theorem zz67 : zc Try.prog 67 = [V.nilf] := by kernel_rfl
theorem cz68 : Try.prog.cellsOf 68 = 1 := by kernel_rfl
theorem tk68 : tyOk Try.prog 68 = true := by kernel_rfl
theorem ag68 : isAg Try.prog 68 = false := by kernel_rfl
theorem by68 : Try.prog.bytesOf 68 = 8 := by kernel_rfl
theorem se68 : slEl Try.prog 68 = none := by kernel_rfl
theorem ae68 : arEl Try.prog 68 = none := by kernel_rfl
theorem if68 : isFn Try.prog 68 = true := by kernel_rfl
theorem zz68 : zc Try.prog 68 = [V.nilf] := by kernel_rfl
theorem cz69 : Try.prog.cellsOf 69 = 1 := by kernel_rfl
theorem tk69 : tyOk Try.prog 69 = true := by kernel_rfl
theorem ag69 : isAg Try.prog 69 = false := by kernel_rfl
theorem by69 : Try.prog.bytesOf 69 = 8 := by kernel_rfl
theorem se69 : slEl Try.prog 69 = none := by kernel_rfl
theorem ae69 : arEl Try.prog 69 = none := by kernel_rfl
theorem if69 : isFn Try.prog 69 = true := by kernel_rfl
theorem zz69 : zc Try.prog 69 = [V.nilf] := by kernel_rfl
theorem cz70 : Try.prog.cellsOf 70 = 1 := by kernel_rfl
theorem tk70 : tyOk Try.prog 70 = true := by kernel_rfl
theorem ag70 : isAg Try.prog 70 = false := by kernel_rfl
theorem by70 : Try.prog.bytesOf 70 = 8 := by kernel_rfl
theorem se70 : slEl Try.prog 70 = none := by kernel_rfl
theorem ae70 : arEl Try.prog 70 = none := by kernel_rfl
theorem if70 : isFn Try.prog 70 = true := by kernel_rfl
theorem zz70 : zc Try.prog 70 = [V.nilf] := by kernel_rfl
theorem cz71 : Try.prog.cellsOf 71 = 1 := by kernel_rfl
theorem tk71 : tyOk Try.prog 71 = true := by kernel_rfl
theorem ag71 : isAg Try.prog 71 = false := by kernel_rfl
theorem by71 : Try.prog.bytesOf 71 = 8 := by kernel_rfl
theorem se71 : slEl Try.prog 71 = none := by kernel_rfl
theorem ae71 : arEl Try.prog 71 = none := by kernel_rfl
theorem if71 : isFn Try.prog 71 = true := by kernel_rfl
theorem zz71 : zc Try.prog 71 = [V.nilf] := by kernel_rfl
theorem cz72 : Try.prog.cellsOf 72 = 1 := by kernel_rfl
theorem tk72 : tyOk Try.prog 72 = true := by kernel_rfl
theorem ag72 : isAg Try.prog 72 = false := by kernel_rfl
theorem by72 : Try.prog.bytesOf 72 = 8 := by kernel_rfl
theorem se72 : slEl Try.prog 72 = none := by kernel_rfl
theorem ae72 : arEl Try.prog 72 = none := by kernel_rfl
theorem if72 : isFn Try.prog 72 = true := by kernel_rfl
theorem zz72 : zc Try.prog 72 = [V.nilf] := by kernel_rfl
theorem cz73 : Try.prog.cellsOf 73 = 1 := by kernel_rfl
theorem tk73 : tyOk Try.prog 73 = true := by kernel_rfl
theorem ag73 : isAg Try.prog 73 = false := by kernel_rfl
theorem by73 : Try.prog.bytesOf 73 = 8 := by kernel_rfl
theorem se73 : slEl Try.prog 73 = none := by kernel_rfl
theorem ae73 : arEl Try.prog 73 = none := by kernel_rfl
theorem ik73 : intK Try.prog 73 = some .i64 := by kernel_rfl
theorem zz73 : zc Try.prog 73 = [V.int .i64 0] := by kernel_rfl
theorem cz75 : Try.prog.cellsOf 75 = 1 := by kernel_rfl
theorem tk75 : tyOk Try.prog 75 = true := by kernel_rfl
theorem ag75 : isAg Try.prog 75 = false := by kernel_rfl
theorem by75 : Try.prog.bytesOf 75 = 8 := by kernel_rfl
theorem se75 : slEl Try.prog 75 = none := by kernel_rfl
theorem ae75 : arEl Try.prog 75 = none := by kernel_rfl
theorem if75 : isFn Try.prog 75 = true := by kernel_rfl
theorem zz75 : zc Try.prog 75 = [V.nilf] := by kernel_rfl
theorem cz76 : Try.prog.cellsOf 76 = 1 := by kernel_rfl
theorem tk76 : tyOk Try.prog 76 = true := by kernel_rfl
theorem ag76 : isAg Try.prog 76 = false := by kernel_rfl
theorem by76 : Try.prog.bytesOf 76 = 8 := by kernel_rfl
theorem se76 : slEl Try.prog 76 = none := by kernel_rfl
theorem ae76 : arEl Try.prog 76 = none := by kernel_rfl
theorem if76 : isFn Try.prog 76 = true := by kernel_rfl
theorem zz76 : zc Try.prog 76 = [V.nilf] := by kernel_rfl
theorem cz77 : Try.prog.cellsOf 77 = 1 := by kernel_rfl
theorem tk77 : tyOk Try.prog 77 = true := by kernel_rfl
theorem ag77 : isAg Try.prog 77 = false := by kernel_rfl
theorem by77 : Try.prog.bytesOf 77 = 8 := by kernel_rfl
theorem se77 : slEl Try.prog 77 = none := by kernel_rfl
theorem ae77 : arEl Try.prog 77 = none := by kernel_rfl
theorem if77 : isFn Try.prog 77 = true := by kernel_rfl
theorem zz77 : zc Try.prog 77 = [V.nilf] := by kernel_rfl
theorem cz79 : Try.prog.cellsOf 79 = 1 := by kernel_rfl
theorem tk79 : tyOk Try.prog 79 = true := by kernel_rfl
theorem ag79 : isAg Try.prog 79 = false := by kernel_rfl
theorem by79 : Try.prog.bytesOf 79 = 8 := by kernel_rfl
theorem se79 : slEl Try.prog 79 = none := by kernel_rfl
theorem ae79 : arEl Try.prog 79 = none := by kernel_rfl
theorem if79 : isFn Try.prog 79 = true := by kernel_rfl
theorem zz79 : zc Try.prog 79 = [V.nilf] := by kernel_rfl
theorem cz80 : Try.prog.cellsOf 80 = 1 := by kernel_rfl
theorem tk80 : tyOk Try.prog 80 = true := by kernel_rfl
theorem ag80 : isAg Try.prog 80 = false := by kernel_rfl
theorem by80 : Try.prog.bytesOf 80 = 8 := by kernel_rfl
theorem se80 : slEl Try.prog 80 = none := by kernel_rfl
theorem ae80 : arEl Try.prog 80 = none := by kernel_rfl
theorem if80 : isFn Try.prog 80 = true := by kernel_rfl
theorem zz80 : zc Try.prog 80 = [V.nilf] := by kernel_rfl
theorem cz81 : Try.prog.cellsOf 81 = 1 := by kernel_rfl
theorem tk81 : tyOk Try.prog 81 = true := by kernel_rfl
theorem ag81 : isAg Try.prog 81 = false := by kernel_rfl
theorem by81 : Try.prog.bytesOf 81 = 4 := by kernel_rfl
theorem se81 : slEl Try.prog 81 = none := by kernel_rfl
theorem ae81 : arEl Try.prog 81 = none := by kernel_rfl
theorem ik81 : intK Try.prog 81 = some .u32 := by kernel_rfl
theorem zz81 : zc Try.prog 81 = [V.int .u32 0] := by kernel_rfl
theorem cz82 : Try.prog.cellsOf 82 = 1 := by kernel_rfl
theorem tk82 : tyOk Try.prog 82 = true := by kernel_rfl
theorem ag82 : isAg Try.prog 82 = false := by kernel_rfl
theorem by82 : Try.prog.bytesOf 82 = 8 := by kernel_rfl
theorem se82 : slEl Try.prog 82 = none := by kernel_rfl
theorem ae82 : arEl Try.prog 82 = none := by kernel_rfl
theorem if82 : isFn Try.prog 82 = true := by kernel_rfl
theorem zz82 : zc Try.prog 82 = [V.nilf] := by kernel_rfl
theorem cz83 : Try.prog.cellsOf 83 = 1 := by kernel_rfl
theorem tk83 : tyOk Try.prog 83 = true := by kernel_rfl
theorem ag83 : isAg Try.prog 83 = false := by kernel_rfl
theorem by83 : Try.prog.bytesOf 83 = 8 := by kernel_rfl
theorem se83 : slEl Try.prog 83 = none := by kernel_rfl
theorem ae83 : arEl Try.prog 83 = none := by kernel_rfl
theorem ik83 : intK Try.prog 83 = some .u64 := by kernel_rfl
theorem zz83 : zc Try.prog 83 = [V.int .u64 0] := by kernel_rfl
theorem cz84 : Try.prog.cellsOf 84 = 1 := by kernel_rfl
theorem tk84 : tyOk Try.prog 84 = true := by kernel_rfl
theorem ag84 : isAg Try.prog 84 = false := by kernel_rfl
theorem by84 : Try.prog.bytesOf 84 = 8 := by kernel_rfl
theorem se84 : slEl Try.prog 84 = none := by kernel_rfl
theorem ae84 : arEl Try.prog 84 = none := by kernel_rfl
theorem if84 : isFn Try.prog 84 = true := by kernel_rfl
theorem zz84 : zc Try.prog 84 = [V.nilf] := by kernel_rfl
theorem cz85 : Try.prog.cellsOf 85 = 1 := by kernel_rfl
theorem tk85 : tyOk Try.prog 85 = true := by kernel_rfl
theorem ag85 : isAg Try.prog 85 = false := by kernel_rfl
theorem by85 : Try.prog.bytesOf 85 = 8 := by kernel_rfl
theorem se85 : slEl Try.prog 85 = none := by kernel_rfl
theorem ae85 : arEl Try.prog 85 = none := by kernel_rfl
theorem if85 : isFn Try.prog 85 = true := by kernel_rfl
theorem zz85 : zc Try.prog 85 = [V.nilf] := by kernel_rfl
theorem cz86 : Try.prog.cellsOf 86 = 1 := by kernel_rfl
theorem tk86 : tyOk Try.prog 86 = true := by kernel_rfl
theorem ag86 : isAg Try.prog 86 = false := by kernel_rfl
theorem by86 : Try.prog.bytesOf 86 = 8 := by kernel_rfl
theorem se86 : slEl Try.prog 86 = none := by kernel_rfl
theorem ae86 : arEl Try.prog 86 = none := by kernel_rfl
theorem if86 : isFn Try.prog 86 = true := by kernel_rfl
theorem zz86 : zc Try.prog 86 = [V.nilf] := by kernel_rfl
theorem cz87 : Try.prog.cellsOf 87 = 1 := by kernel_rfl
theorem tk87 : tyOk Try.prog 87 = true := by kernel_rfl
theorem ag87 : isAg Try.prog 87 = false := by kernel_rfl
theorem by87 : Try.prog.bytesOf 87 = 8 := by kernel_rfl
theorem se87 : slEl Try.prog 87 = none := by kernel_rfl
theorem ae87 : arEl Try.prog 87 = none := by kernel_rfl
theorem if87 : isFn Try.prog 87 = true := by kernel_rfl
theorem zz87 : zc Try.prog 87 = [V.nilf] := by kernel_rfl
theorem cz88 : Try.prog.cellsOf 88 = 4 := by kernel_rfl
theorem tk88 : tyOk Try.prog 88 = true := by kernel_rfl
theorem ag88 : isAg Try.prog 88 = true := by kernel_rfl
theorem by88 : Try.prog.bytesOf 88 = 64 := by kernel_rfl
theorem se88 : slEl Try.prog 88 = none := by kernel_rfl
theorem ae88 : arEl Try.prog 88 = none := by kernel_rfl
theorem st88 : isSt Try.prog 88 = true := by kernel_rfl
theorem fo88 : fldsOk Try.prog 88 = true := by kernel_rfl
theorem fd88_0 : fld Try.prog 88 0 = some (0, 3) := by kernel_rfl
theorem fd88_1 : fld Try.prog 88 1 = some (1, 3) := by kernel_rfl
theorem fd88_2 : fld Try.prog 88 2 = some (2, 39) := by kernel_rfl
theorem fd88_3 : fld Try.prog 88 3 = some (3, 22) := by kernel_rfl
theorem zz88 : zc Try.prog 88 = [V.int .i64 0, V.int .i64 0, V.nil, V.nil] := by kernel_rfl
theorem cz89 : Try.prog.cellsOf 89 = 4 := by kernel_rfl
theorem tk89 : tyOk Try.prog 89 = true := by kernel_rfl
theorem ag89 : isAg Try.prog 89 = true := by kernel_rfl
theorem by89 : Try.prog.bytesOf 89 = 64 := by kernel_rfl
theorem se89 : slEl Try.prog 89 = none := by kernel_rfl
theorem ae89 : arEl Try.prog 89 = none := by kernel_rfl
theorem st89 : isSt Try.prog 89 = true := by kernel_rfl
theorem fo89 : fldsOk Try.prog 89 = true := by kernel_rfl
theorem fd89_0 : fld Try.prog 89 0 = some (0, 3) := by kernel_rfl
theorem fd89_1 : fld Try.prog 89 1 = some (1, 3) := by kernel_rfl
theorem fd89_2 : fld Try.prog 89 2 = some (2, 39) := by kernel_rfl
theorem fd89_3 : fld Try.prog 89 3 = some (3, 22) := by kernel_rfl
theorem zz89 : zc Try.prog 89 = [V.int .i64 0, V.int .i64 0, V.nil, V.nil] := by kernel_rfl
theorem cz90 : Try.prog.cellsOf 90 = 1 := by kernel_rfl
theorem tk90 : tyOk Try.prog 90 = true := by kernel_rfl
theorem ag90 : isAg Try.prog 90 = false := by kernel_rfl
theorem by90 : Try.prog.bytesOf 90 = 8 := by kernel_rfl
theorem se90 : slEl Try.prog 90 = none := by kernel_rfl
theorem ae90 : arEl Try.prog 90 = none := by kernel_rfl
theorem if90 : isFn Try.prog 90 = true := by kernel_rfl
theorem zz90 : zc Try.prog 90 = [V.nilf] := by kernel_rfl
theorem cz91 : Try.prog.cellsOf 91 = 1 := by kernel_rfl
theorem tk91 : tyOk Try.prog 91 = true := by kernel_rfl
theorem ag91 : isAg Try.prog 91 = false := by kernel_rfl
theorem by91 : Try.prog.bytesOf 91 = 8 := by kernel_rfl
theorem se91 : slEl Try.prog 91 = none := by kernel_rfl
theorem ae91 : arEl Try.prog 91 = none := by kernel_rfl
theorem if91 : isFn Try.prog 91 = true := by kernel_rfl
theorem zz91 : zc Try.prog 91 = [V.nilf] := by kernel_rfl
theorem cz92 : Try.prog.cellsOf 92 = 1 := by kernel_rfl
theorem tk92 : tyOk Try.prog 92 = true := by kernel_rfl
theorem ag92 : isAg Try.prog 92 = false := by kernel_rfl
theorem by92 : Try.prog.bytesOf 92 = 8 := by kernel_rfl
theorem se92 : slEl Try.prog 92 = none := by kernel_rfl
theorem ae92 : arEl Try.prog 92 = none := by kernel_rfl
theorem if92 : isFn Try.prog 92 = true := by kernel_rfl
theorem zz92 : zc Try.prog 92 = [V.nilf] := by kernel_rfl
theorem cz93 : Try.prog.cellsOf 93 = 1 := by kernel_rfl
theorem tk93 : tyOk Try.prog 93 = true := by kernel_rfl
theorem ag93 : isAg Try.prog 93 = false := by kernel_rfl
theorem by93 : Try.prog.bytesOf 93 = 8 := by kernel_rfl
theorem se93 : slEl Try.prog 93 = none := by kernel_rfl
theorem ae93 : arEl Try.prog 93 = none := by kernel_rfl
theorem if93 : isFn Try.prog 93 = true := by kernel_rfl
theorem zz93 : zc Try.prog 93 = [V.nilf] := by kernel_rfl
theorem cz94 : Try.prog.cellsOf 94 = 1 := by kernel_rfl
theorem tk94 : tyOk Try.prog 94 = true := by kernel_rfl
theorem ag94 : isAg Try.prog 94 = false := by kernel_rfl
theorem by94 : Try.prog.bytesOf 94 = 8 := by kernel_rfl
theorem se94 : slEl Try.prog 94 = none := by kernel_rfl
theorem ae94 : arEl Try.prog 94 = none := by kernel_rfl
theorem if94 : isFn Try.prog 94 = true := by kernel_rfl
theorem zz94 : zc Try.prog 94 = [V.nilf] := by kernel_rfl
theorem cz95 : Try.prog.cellsOf 95 = 1 := by kernel_rfl
theorem tk95 : tyOk Try.prog 95 = true := by kernel_rfl
theorem ag95 : isAg Try.prog 95 = false := by kernel_rfl
theorem by95 : Try.prog.bytesOf 95 = 8 := by kernel_rfl
theorem se95 : slEl Try.prog 95 = none := by kernel_rfl
theorem ae95 : arEl Try.prog 95 = none := by kernel_rfl
theorem if95 : isFn Try.prog 95 = true := by kernel_rfl
theorem zz95 : zc Try.prog 95 = [V.nilf] := by kernel_rfl
theorem cz96 : Try.prog.cellsOf 96 = 1 := by kernel_rfl
theorem tk96 : tyOk Try.prog 96 = true := by kernel_rfl
theorem ag96 : isAg Try.prog 96 = false := by kernel_rfl
theorem by96 : Try.prog.bytesOf 96 = 8 := by kernel_rfl
theorem se96 : slEl Try.prog 96 = none := by kernel_rfl
theorem ae96 : arEl Try.prog 96 = none := by kernel_rfl
theorem ik96 : intK Try.prog 96 = some .u64 := by kernel_rfl
theorem zz96 : zc Try.prog 96 = [V.int .u64 0] := by kernel_rfl
theorem cz97 : Try.prog.cellsOf 97 = 1 := by kernel_rfl
theorem tk97 : tyOk Try.prog 97 = true := by kernel_rfl
theorem ag97 : isAg Try.prog 97 = false := by kernel_rfl
theorem by97 : Try.prog.bytesOf 97 = 8 := by kernel_rfl
theorem se97 : slEl Try.prog 97 = none := by kernel_rfl
theorem ae97 : arEl Try.prog 97 = none := by kernel_rfl
theorem if97 : isFn Try.prog 97 = true := by kernel_rfl
theorem zz97 : zc Try.prog 97 = [V.nilf] := by kernel_rfl
theorem cz98 : Try.prog.cellsOf 98 = 1 := by kernel_rfl
theorem tk98 : tyOk Try.prog 98 = true := by kernel_rfl
theorem ag98 : isAg Try.prog 98 = false := by kernel_rfl
theorem by98 : Try.prog.bytesOf 98 = 8 := by kernel_rfl
theorem se98 : slEl Try.prog 98 = none := by kernel_rfl
theorem ae98 : arEl Try.prog 98 = none := by kernel_rfl
theorem if98 : isFn Try.prog 98 = true := by kernel_rfl
theorem zz98 : zc Try.prog 98 = [V.nilf] := by kernel_rfl
theorem cz99 : Try.prog.cellsOf 99 = 1 := by kernel_rfl
theorem tk99 : tyOk Try.prog 99 = true := by kernel_rfl
theorem ag99 : isAg Try.prog 99 = false := by kernel_rfl
theorem by99 : Try.prog.bytesOf 99 = 8 := by kernel_rfl
theorem se99 : slEl Try.prog 99 = none := by kernel_rfl
theorem ae99 : arEl Try.prog 99 = none := by kernel_rfl
theorem if99 : isFn Try.prog 99 = true := by kernel_rfl
theorem zz99 : zc Try.prog 99 = [V.nilf] := by kernel_rfl
theorem cz100 : Try.prog.cellsOf 100 = 1 := by kernel_rfl
theorem tk100 : tyOk Try.prog 100 = true := by kernel_rfl
theorem ag100 : isAg Try.prog 100 = false := by kernel_rfl
theorem by100 : Try.prog.bytesOf 100 = 8 := by kernel_rfl
theorem se100 : slEl Try.prog 100 = none := by kernel_rfl
theorem ae100 : arEl Try.prog 100 = none := by kernel_rfl
theorem ip100 : isPtr Try.prog 100 = true := by kernel_rfl
theorem zz100 : zc Try.prog 100 = [V.nilp] := by kernel_rfl
theorem cz101 : Try.prog.cellsOf 101 = 1 := by kernel_rfl
theorem tk101 : tyOk Try.prog 101 = true := by kernel_rfl
theorem ag101 : isAg Try.prog 101 = false := by kernel_rfl
theorem by101 : Try.prog.bytesOf 101 = 8 := by kernel_rfl
theorem se101 : slEl Try.prog 101 = none := by kernel_rfl
theorem ae101 : arEl Try.prog 101 = none := by kernel_rfl
theorem if101 : isFn Try.prog 101 = true := by kernel_rfl
theorem zz101 : zc Try.prog 101 = [V.nilf] := by kernel_rfl
theorem cz102 : Try.prog.cellsOf 102 = 1 := by kernel_rfl
theorem tk102 : tyOk Try.prog 102 = true := by kernel_rfl
theorem ag102 : isAg Try.prog 102 = false := by kernel_rfl
theorem by102 : Try.prog.bytesOf 102 = 24 := by kernel_rfl
theorem se102 : slEl Try.prog 102 = some 22 := by kernel_rfl
theorem ae102 : arEl Try.prog 102 = none := by kernel_rfl
theorem zz102 : zc Try.prog 102 = [V.nil] := by kernel_rfl
theorem cz103 : Try.prog.cellsOf 103 = 1 := by kernel_rfl
theorem tk103 : tyOk Try.prog 103 = true := by kernel_rfl
theorem ag103 : isAg Try.prog 103 = false := by kernel_rfl
theorem by103 : Try.prog.bytesOf 103 = 8 := by kernel_rfl
theorem se103 : slEl Try.prog 103 = none := by kernel_rfl
theorem ae103 : arEl Try.prog 103 = none := by kernel_rfl
theorem if103 : isFn Try.prog 103 = true := by kernel_rfl
theorem zz103 : zc Try.prog 103 = [V.nilf] := by kernel_rfl
theorem cz104 : Try.prog.cellsOf 104 = 1 := by kernel_rfl
theorem tk104 : tyOk Try.prog 104 = true := by kernel_rfl
theorem ag104 : isAg Try.prog 104 = false := by kernel_rfl
theorem by104 : Try.prog.bytesOf 104 = 8 := by kernel_rfl
theorem se104 : slEl Try.prog 104 = none := by kernel_rfl
theorem ae104 : arEl Try.prog 104 = none := by kernel_rfl
theorem if104 : isFn Try.prog 104 = true := by kernel_rfl
theorem zz104 : zc Try.prog 104 = [V.nilf] := by kernel_rfl
theorem cz105 : Try.prog.cellsOf 105 = 1 := by kernel_rfl
theorem tk105 : tyOk Try.prog 105 = true := by kernel_rfl
theorem ag105 : isAg Try.prog 105 = false := by kernel_rfl
theorem by105 : Try.prog.bytesOf 105 = 8 := by kernel_rfl
theorem se105 : slEl Try.prog 105 = none := by kernel_rfl
theorem ae105 : arEl Try.prog 105 = none := by kernel_rfl
theorem if105 : isFn Try.prog 105 = true := by kernel_rfl
theorem zz105 : zc Try.prog 105 = [V.nilf] := by kernel_rfl
theorem cz106 : Try.prog.cellsOf 106 = 1 := by kernel_rfl
theorem tk106 : tyOk Try.prog 106 = true := by kernel_rfl
theorem ag106 : isAg Try.prog 106 = false := by kernel_rfl
theorem by106 : Try.prog.bytesOf 106 = 8 := by kernel_rfl
theorem se106 : slEl Try.prog 106 = none := by kernel_rfl
theorem ae106 : arEl Try.prog 106 = none := by kernel_rfl
theorem if106 : isFn Try.prog 106 = true := by kernel_rfl
theorem zz106 : zc Try.prog 106 = [V.nilf] := by kernel_rfl
theorem cz107 : Try.prog.cellsOf 107 = 1 := by kernel_rfl
theorem tk107 : tyOk Try.prog 107 = true := by kernel_rfl
theorem ag107 : isAg Try.prog 107 = false := by kernel_rfl
theorem by107 : Try.prog.bytesOf 107 = 8 := by kernel_rfl
theorem se107 : slEl Try.prog 107 = none := by kernel_rfl
theorem ae107 : arEl Try.prog 107 = none := by kernel_rfl
theorem if107 : isFn Try.prog 107 = true := by kernel_rfl
theorem zz107 : zc Try.prog 107 = [V.nilf] := by kernel_rfl
theorem cz108 : Try.prog.cellsOf 108 = 1 := by kernel_rfl
theorem tk108 : tyOk Try.prog 108 = true := by kernel_rfl
theorem ag108 : isAg Try.prog 108 = false := by kernel_rfl
theorem by108 : Try.prog.bytesOf 108 = 8 := by kernel_rfl
theorem se108 : slEl Try.prog 108 = none := by kernel_rfl
theorem ae108 : arEl Try.prog 108 = none := by kernel_rfl
theorem if108 : isFn Try.prog 108 = true := by kernel_rfl
theorem zz108 : zc Try.prog 108 = [V.nilf] := by kernel_rfl
theorem cz109 : Try.prog.cellsOf 109 = 1 := by kernel_rfl
theorem tk109 : tyOk Try.prog 109 = true := by kernel_rfl
theorem ag109 : isAg Try.prog 109 = false := by kernel_rfl
theorem by109 : Try.prog.bytesOf 109 = 8 := by kernel_rfl
theorem se109 : slEl Try.prog 109 = none := by kernel_rfl
theorem ae109 : arEl Try.prog 109 = none := by kernel_rfl
theorem ip109 : isPtr Try.prog 109 = true := by kernel_rfl
theorem zz109 : zc Try.prog 109 = [V.nilp] := by kernel_rfl
theorem cz110 : Try.prog.cellsOf 110 = 1 := by kernel_rfl
theorem tk110 : tyOk Try.prog 110 = true := by kernel_rfl
theorem ag110 : isAg Try.prog 110 = false := by kernel_rfl
theorem by110 : Try.prog.bytesOf 110 = 8 := by kernel_rfl
theorem se110 : slEl Try.prog 110 = none := by kernel_rfl
theorem ae110 : arEl Try.prog 110 = none := by kernel_rfl
theorem if110 : isFn Try.prog 110 = true := by kernel_rfl
theorem zz110 : zc Try.prog 110 = [V.nilf] := by kernel_rfl
theorem cz111 : Try.prog.cellsOf 111 = 1 := by kernel_rfl
theorem tk111 : tyOk Try.prog 111 = true := by kernel_rfl
theorem ag111 : isAg Try.prog 111 = false := by kernel_rfl
theorem by111 : Try.prog.bytesOf 111 = 8 := by kernel_rfl
theorem se111 : slEl Try.prog 111 = none := by kernel_rfl
theorem ae111 : arEl Try.prog 111 = none := by kernel_rfl
theorem if111 : isFn Try.prog 111 = true := by kernel_rfl
theorem zz111 : zc Try.prog 111 = [V.nilf] := by kernel_rfl
theorem cz112 : Try.prog.cellsOf 112 = 1 := by kernel_rfl
theorem tk112 : tyOk Try.prog 112 = true := by kernel_rfl
theorem ag112 : isAg Try.prog 112 = false := by kernel_rfl
theorem by112 : Try.prog.bytesOf 112 = 8 := by kernel_rfl
theorem se112 : slEl Try.prog 112 = none := by kernel_rfl
theorem ae112 : arEl Try.prog 112 = none := by kernel_rfl
theorem if112 : isFn Try.prog 112 = true := by kernel_rfl
theorem zz112 : zc Try.prog 112 = [V.nilf] := by kernel_rfl
theorem cz113 : Try.prog.cellsOf 113 = 1 := by kernel_rfl
theorem tk113 : tyOk Try.prog 113 = true := by kernel_rfl
theorem ag113 : isAg Try.prog 113 = false := by kernel_rfl
theorem by113 : Try.prog.bytesOf 113 = 8 := by kernel_rfl
theorem se113 : slEl Try.prog 113 = none := by kernel_rfl
theorem ae113 : arEl Try.prog 113 = none := by kernel_rfl
theorem if113 : isFn Try.prog 113 = true := by kernel_rfl
theorem zz113 : zc Try.prog 113 = [V.nilf] := by kernel_rfl
theorem cz114 : Try.prog.cellsOf 114 = 1 := by kernel_rfl
theorem tk114 : tyOk Try.prog 114 = true := by kernel_rfl
theorem ag114 : isAg Try.prog 114 = false := by kernel_rfl
theorem by114 : Try.prog.bytesOf 114 = 8 := by kernel_rfl
theorem se114 : slEl Try.prog 114 = none := by kernel_rfl
theorem ae114 : arEl Try.prog 114 = none := by kernel_rfl
theorem if114 : isFn Try.prog 114 = true := by kernel_rfl
theorem zz114 : zc Try.prog 114 = [V.nilf] := by kernel_rfl
theorem cz115 : Try.prog.cellsOf 115 = 4 := by kernel_rfl
theorem tk115 : tyOk Try.prog 115 = true := by kernel_rfl
theorem ag115 : isAg Try.prog 115 = true := by kernel_rfl
theorem by115 : Try.prog.bytesOf 115 = 40 := by kernel_rfl
theorem se115 : slEl Try.prog 115 = none := by kernel_rfl
theorem ae115 : arEl Try.prog 115 = none := by kernel_rfl
theorem st115 : isSt Try.prog 115 = true := by kernel_rfl
theorem fo115 : fldsOk Try.prog 115 = true := by kernel_rfl
theorem fd115_0 : fld Try.prog 115 0 = some (0, 17) := by kernel_rfl
theorem fd115_1 : fld Try.prog 115 1 = some (1, 17) := by kernel_rfl
theorem fd115_2 : fld Try.prog 115 2 = some (2, 17) := by kernel_rfl
theorem fd115_3 : fld Try.prog 115 3 = some (3, 9) := by kernel_rfl
theorem zz115 : zc Try.prog 115 = [V.nilp, V.nilp, V.nilp, V.top] := by kernel_rfl
theorem cz116 : Try.prog.cellsOf 116 = 4 := by kernel_rfl
theorem tk116 : tyOk Try.prog 116 = true := by kernel_rfl
theorem ag116 : isAg Try.prog 116 = true := by kernel_rfl
theorem by116 : Try.prog.bytesOf 116 = 40 := by kernel_rfl
theorem se116 : slEl Try.prog 116 = none := by kernel_rfl
theorem ae116 : arEl Try.prog 116 = none := by kernel_rfl
theorem st116 : isSt Try.prog 116 = true := by kernel_rfl
theorem fo116 : fldsOk Try.prog 116 = true := by kernel_rfl
theorem fd116_0 : fld Try.prog 116 0 = some (0, 17) := by kernel_rfl
theorem fd116_1 : fld Try.prog 116 1 = some (1, 17) := by kernel_rfl
theorem fd116_2 : fld Try.prog 116 2 = some (2, 17) := by kernel_rfl
theorem fd116_3 : fld Try.prog 116 3 = some (3, 9) := by kernel_rfl
theorem zz116 : zc Try.prog 116 = [V.nilp, V.nilp, V.nilp, V.top] := by kernel_rfl
theorem cz117 : Try.prog.cellsOf 117 = 0 := by kernel_rfl
theorem tk117 : tyOk Try.prog 117 = true := by kernel_rfl
theorem ag117 : isAg Try.prog 117 = true := by kernel_rfl
theorem by117 : Try.prog.bytesOf 117 = 0 := by kernel_rfl
theorem se117 : slEl Try.prog 117 = none := by kernel_rfl
theorem ae117 : arEl Try.prog 117 = some (0, 16) := by kernel_rfl
theorem st117 : isSt Try.prog 117 = false := by kernel_rfl
theorem zz117 : zc Try.prog 117 = [] := by kernel_rfl
theorem cz118 : Try.prog.cellsOf 118 = 0 := by kernel_rfl
theorem tk118 : tyOk Try.prog 118 = true := by kernel_rfl
theorem ag118 : isAg Try.prog 118 = true := by kernel_rfl
theorem by118 : Try.prog.bytesOf 118 = 0 := by kernel_rfl
theorem se118 : slEl Try.prog 118 = none := by kernel_rfl
theorem ae118 : arEl Try.prog 118 = none := by kernel_rfl
theorem st118 : isSt Try.prog 118 = true := by kernel_rfl
theorem fd118_0 : fld Try.prog 118 0 = some (0, 117) := by kernel_rfl
theorem zz118 : zc Try.prog 118 = [] := by kernel_rfl
theorem cz119 : Try.prog.cellsOf 119 = 0 := by kernel_rfl
theorem tk119 : tyOk Try.prog 119 = true := by kernel_rfl
theorem ag119 : isAg Try.prog 119 = true := by kernel_rfl
theorem by119 : Try.prog.bytesOf 119 = 0 := by kernel_rfl
theorem se119 : slEl Try.prog 119 = none := by kernel_rfl
theorem ae119 : arEl Try.prog 119 = none := by kernel_rfl
theorem st119 : isSt Try.prog 119 = true := by kernel_rfl
theorem fd119_0 : fld Try.prog 119 0 = some (0, 117) := by kernel_rfl
theorem zz119 : zc Try.prog 119 = [] := by kernel_rfl
theorem cz120 : Try.prog.cellsOf 120 = 1 := by kernel_rfl
theorem tk120 : tyOk Try.prog 120 = true := by kernel_rfl
theorem ag120 : isAg Try.prog 120 = false := by kernel_rfl
theorem by120 : Try.prog.bytesOf 120 = 1 := by kernel_rfl
theorem se120 : slEl Try.prog 120 = none := by kernel_rfl
theorem ae120 : arEl Try.prog 120 = none := by kernel_rfl
theorem ik120 : intK Try.prog 120 = some .u8 := by kernel_rfl
theorem zz120 : zc Try.prog 120 = [V.int .u8 0] := by kernel_rfl
theorem cz121 : Try.prog.cellsOf 121 = 1 := by kernel_rfl
theorem tk121 : tyOk Try.prog 121 = true := by kernel_rfl
theorem ag121 : isAg Try.prog 121 = false := by kernel_rfl
theorem by121 : Try.prog.bytesOf 121 = 1 := by kernel_rfl
theorem se121 : slEl Try.prog 121 = none := by kernel_rfl
theorem ae121 : arEl Try.prog 121 = none := by kernel_rfl
theorem ik121 : intK Try.prog 121 = some .u8 := by kernel_rfl
theorem zz121 : zc Try.prog 121 = [V.int .u8 0] := by kernel_rfl
theorem cz122 : Try.prog.cellsOf 122 = 1 := by kernel_rfl
theorem tk122 : tyOk Try.prog 122 = true := by kernel_rfl
theorem ag122 : isAg Try.prog 122 = false := by kernel_rfl
theorem by122 : Try.prog.bytesOf 122 = 8 := by kernel_rfl
theorem se122 : slEl Try.prog 122 = none := by kernel_rfl
theorem ae122 : arEl Try.prog 122 = none := by kernel_rfl
theorem if122 : isFn Try.prog 122 = true := by kernel_rfl
theorem zz122 : zc Try.prog 122 = [V.nilf] := by kernel_rfl
theorem cz123 : Try.prog.cellsOf 123 = 1 := by kernel_rfl
theorem tk123 : tyOk Try.prog 123 = true := by kernel_rfl
theorem ag123 : isAg Try.prog 123 = false := by kernel_rfl
theorem by123 : Try.prog.bytesOf 123 = 8 := by kernel_rfl
theorem se123 : slEl Try.prog 123 = none := by kernel_rfl
theorem ae123 : arEl Try.prog 123 = none := by kernel_rfl
theorem ip123 : isPtr Try.prog 123 = true := by kernel_rfl
theorem zz123 : zc Try.prog 123 = [V.nilp] := by kernel_rfl
theorem cz124 : Try.prog.cellsOf 124 = 1 := by kernel_rfl
theorem tk124 : tyOk Try.prog 124 = true := by kernel_rfl
theorem ag124 : isAg Try.prog 124 = false := by kernel_rfl
theorem by124 : Try.prog.bytesOf 124 = 4 := by kernel_rfl
theorem se124 : slEl Try.prog 124 = none := by kernel_rfl
theorem ae124 : arEl Try.prog 124 = none := by kernel_rfl
theorem ik124 : intK Try.prog 124 = some .i32 := by kernel_rfl
theorem zz124 : zc Try.prog 124 = [V.int .i32 0] := by kernel_rfl
theorem cz125 : Try.prog.cellsOf 125 = 1 := by kernel_rfl
theorem tk125 : tyOk Try.prog 125 = true := by kernel_rfl
theorem ag125 : isAg Try.prog 125 = false := by kernel_rfl
theorem by125 : Try.prog.bytesOf 125 = 4 := by kernel_rfl
theorem se125 : slEl Try.prog 125 = none := by kernel_rfl
theorem ae125 : arEl Try.prog 125 = none := by kernel_rfl
theorem ik125 : intK Try.prog 125 = some .i32 := by kernel_rfl
theorem zz125 : zc Try.prog 125 = [V.int .i32 0] := by kernel_rfl
theorem cz126 : Try.prog.cellsOf 126 = 11 := by kernel_rfl
theorem tk126 : tyOk Try.prog 126 = true := by kernel_rfl
theorem ag126 : isAg Try.prog 126 = true := by kernel_rfl
theorem by126 : Try.prog.bytesOf 126 = 48 := by kernel_rfl
theorem se126 : slEl Try.prog 126 = none := by kernel_rfl
theorem ae126 : arEl Try.prog 126 = none := by kernel_rfl
theorem st126 : isSt Try.prog 126 = true := by kernel_rfl
theorem fo126 : fldsOk Try.prog 126 = true := by kernel_rfl
theorem fd126_0 : fld Try.prog 126 0 = some (0, 12) := by kernel_rfl
theorem fd126_1 : fld Try.prog 126 1 = some (1, 12) := by kernel_rfl
theorem fd126_2 : fld Try.prog 126 2 = some (2, 81) := by kernel_rfl
theorem fd126_3 : fld Try.prog 126 3 = some (3, 120) := by kernel_rfl
theorem fd126_4 : fld Try.prog 126 4 = some (4, 5) := by kernel_rfl
theorem fd126_5 : fld Try.prog 126 5 = some (5, 5) := by kernel_rfl
theorem fd126_6 : fld Try.prog 126 6 = some (6, 121) := by kernel_rfl
theorem fd126_7 : fld Try.prog 126 7 = some (7, 122) := by kernel_rfl
theorem fd126_8 : fld Try.prog 126 8 = some (8, 123) := by kernel_rfl
theorem fd126_9 : fld Try.prog 126 9 = some (9, 124) := by kernel_rfl
theorem fd126_10 : fld Try.prog 126 10 = some (10, 125) := by kernel_rfl
theorem zz126 : zc Try.prog 126 = [V.int .u64 0, V.int .u64 0, V.int .u32 0, V.int .u8 0, V.int .u8 0, V.int .u8 0, V.int .u8 0, V.nilf, V.nilp, V.int .i32 0, V.int .i32 0] := by kernel_rfl
theorem cz127 : Try.prog.cellsOf 127 = 11 := by kernel_rfl
theorem tk127 : tyOk Try.prog 127 = true := by kernel_rfl
theorem ag127 : isAg Try.prog 127 = true := by kernel_rfl
theorem by127 : Try.prog.bytesOf 127 = 48 := by kernel_rfl
theorem se127 : slEl Try.prog 127 = none := by kernel_rfl
theorem ae127 : arEl Try.prog 127 = none := by kernel_rfl
theorem st127 : isSt Try.prog 127 = true := by kernel_rfl
theorem fo127 : fldsOk Try.prog 127 = true := by kernel_rfl
theorem fd127_0 : fld Try.prog 127 0 = some (0, 12) := by kernel_rfl
theorem fd127_1 : fld Try.prog 127 1 = some (1, 12) := by kernel_rfl
theorem fd127_2 : fld Try.prog 127 2 = some (2, 81) := by kernel_rfl
theorem fd127_3 : fld Try.prog 127 3 = some (3, 120) := by kernel_rfl
theorem fd127_4 : fld Try.prog 127 4 = some (4, 5) := by kernel_rfl
theorem fd127_5 : fld Try.prog 127 5 = some (5, 5) := by kernel_rfl
theorem fd127_6 : fld Try.prog 127 6 = some (6, 121) := by kernel_rfl
theorem fd127_7 : fld Try.prog 127 7 = some (7, 122) := by kernel_rfl
theorem fd127_8 : fld Try.prog 127 8 = some (8, 123) := by kernel_rfl
theorem fd127_9 : fld Try.prog 127 9 = some (9, 124) := by kernel_rfl
theorem fd127_10 : fld Try.prog 127 10 = some (10, 125) := by kernel_rfl
theorem zz127 : zc Try.prog 127 = [V.int .u64 0, V.int .u64 0, V.int .u32 0, V.int .u8 0, V.int .u8 0, V.int .u8 0, V.int .u8 0, V.nilf, V.nilp, V.int .i32 0, V.int .i32 0] := by kernel_rfl
attribute [simp] cz1 tk1 ag1 by1 se1 ae1 if1 zz1 cz2 tk2 ag2 by2 se2 ae2 ik2 zz2 cz3 tk3 ag3 by3 se3 ae3 ik3 zz3 cz4 tk4 ag4 by4 se4 ae4 ib4 zz4 cz5 tk5 ag5 by5 se5 ae5 ik5 zz5 cz6 tk6 ag6 by6 se6 ae6 ik6 zz6 cz7 tk7 ag7 by7 se7 ae7 st7 fo7 fd7_0 fd7_1 fd7_2 fd7_3 lt7 fe7 zz7 cz8 tk8 ag8 by8 se8 ae8 st8 fo8 fd8_0 fd8_1 fd8_2 fd8_3 lt8 fe8 zz8 cz12 tk12 ag12 by12 se12 ae12 ik12 zz12 cz13 tk13 ag13 by13 se13 ae13 st13 fo13 fd13_0 fd13_1 zz13 cz14 tk14 ag14 by14 se14 ae14 st14 fo14 fd14_0 fd14_1 zz14 cz15 tk15 ag15 by15 se15 ae15 ip15 zz15 cz16 tk16 ag16 by16 se16 ae16 ip16 zz16 cz17 tk17 ag17 by17 se17 ae17 ip17 zz17 cz18 tk18 ag18 by18 se18 ae18 st18 fo18 fd18_0 zz18 cz19 tk19 ag19 by19 se19 ae19 st19 fo19 fd19_0 zz19 cz21 tk21 ag21 by21 se21 ae21 ik21 zz21 cz22 tk22 ag22 by22 se22 ae22 zz22 cz23 tk23 ag23 by23 se23 ae23 ik23 zz23 cz25 tk25 ag25 by25 se25 ae25 if25 zz25 cz26 tk26 ag26 by26 se26 ae26 if26 zz26 cz27 tk27 ag27 by27 se27 ae27 if27 zz27 cz28 tk28 ag28 by28 se28 ae28 if28 zz28 cz29 tk29 ag29 by29 se29 ae29 st29 fo29 fd29_0 fd29_1 fd29_2 fd29_3 lt29 fe29 zz29 cz30 tk30 ag30 by30 se30 ae30 st30 fo30 fd30_0 fd30_1 fd30_2 fd30_3 lt30 fe30 zz30 cz31 tk31 ag31 by31 se31 ae31 if31 zz31 cz32 tk32 ag32 by32 se32 ae32 if32 zz32 cz34 tk34 ag34 by34 se34 ae34 st34 fo34 fd34_0 fd34_1 lt34 fe34 zz34 cz35 tk35 ag35 by35 se35 ae35 st35 fo35 fd35_0 fd35_1 lt35 fe35 zz35 cz36 tk36 ag36 by36 se36 ae36 if36 zz36 cz37 tk37 ag37 by37 se37 ae37 if37 zz37 cz38 tk38 ag38 by38 se38 ae38 if38 zz38 cz39 tk39 ag39 by39 se39 ae39 zz39 cz40 tk40 ag40 by40 se40 ae40 st40 lt40 fe40 zz40 cz41 tk41 ag41 by41 se41 ae41 if41 zz41 cz42 tk42 ag42 by42 se42 ae42 if42 zz42 cz43 tk43 ag43 by43 se43 ae43 if43 zz43 cz44 tk44 ag44 by44 se44 ae44 if44 zz44 cz45 tk45 ag45 by45 se45 ae45 if45 zz45 cz47 tk47 ag47 by47 se47 ae47 if47 zz47 cz48 tk48 ag48 by48 se48 ae48 if48 zz48 cz49 tk49 ag49 by49 se49 ae49 if49 zz49 cz50 tk50 ag50 by50 se50 ae50 zz50 cz51 tk51 ag51 by51 se51 ae51 if51 zz51 cz52 tk52 ag52 by52 se52 ae52 if52 zz52 cz53 tk53 ag53 by53 se53 ae53 if53 zz53 cz54 tk54 ag54 by54 se54 ae54 ik54 zz54 cz55 tk55 ag55 by55 se55 ae55 if55 zz55 cz56 tk56 ag56 by56 se56 ae56 ip56 zz56 cz58 tk58 ag58 by58 se58 ae58 if58 zz58 cz59 tk59 ag59 by59 se59 ae59 st59 fo59 fd59_0 fd59_1 zz59 cz60 tk60 ag60 by60 se60 ae60 st60 fo60 fd60_0 fd60_1 zz60 cz61 tk61 ag61 by61 se61 ae61 if61 zz61 cz62 tk62 ag62 by62 se62 ae62 zz62 cz63 tk63 ag63 by63 se63 ae63 if63 zz63 cz64 tk64 ag64 by64 se64 ae64 if64 zz64 cz65 tk65 ag65 by65 se65 ae65 if65 zz65 cz66 tk66 ag66 by66 se66 ae66 if66 zz66 cz67 tk67 ag67 by67 se67 ae67 if67 zz67 cz68 tk68 ag68 by68 se68 ae68 if68 zz68 cz69 tk69 ag69 by69 se69 ae69 if69 zz69 cz70 tk70 ag70 by70 se70 ae70 if70 zz70 cz71 tk71 ag71 by71 se71 ae71 if71 zz71 cz72 tk72 ag72 by72 se72 ae72 if72 zz72 cz73 tk73 ag73 by73 se73 ae73 ik73 zz73 cz75 tk75 ag75 by75 se75 ae75 if75 zz75 cz76 tk76 ag76 by76 se76 ae76 if76 zz76 cz77 tk77 ag77 by77 se77 ae77 if77 zz77 cz79 tk79 ag79 by79 se79 ae79 if79 zz79 cz80 tk80 ag80 by80 se80 ae80 if80 zz80 cz81 tk81 ag81 by81 se81 ae81 ik81 zz81 cz82 tk82 ag82 by82 se82 ae82 if82 zz82 cz83 tk83 ag83 by83 se83 ae83 ik83 zz83 cz84 tk84 ag84 by84 se84 ae84 if84 zz84 cz85 tk85 ag85 by85 se85 ae85 if85 zz85 cz86 tk86 ag86 by86 se86 ae86 if86 zz86 cz87 tk87 ag87 by87 se87 ae87 if87 zz87 cz88 tk88 ag88 by88 se88 ae88 st88 fo88 fd88_0 fd88_1 fd88_2 fd88_3 zz88 cz89 tk89 ag89 by89 se89 ae89 st89 fo89 fd89_0 fd89_1 fd89_2 fd89_3 zz89 cz90 tk90 ag90 by90 se90 ae90 if90 zz90 cz91 tk91 ag91 by91 se91 ae91 if91 zz91 cz92 tk92 ag92 by92 se92 ae92 if92 zz92 cz93 tk93 ag93 by93 se93 ae93 if93 zz93 cz94 tk94 ag94 by94 se94 ae94 if94 zz94 cz95 tk95 ag95 by95 se95 ae95 if95 zz95 cz96 tk96 ag96 by96 se96 ae96 ik96 zz96 cz97 tk97 ag97 by97 se97 ae97 if97 zz97 cz98 tk98 ag98 by98 se98 ae98 if98 zz98 cz99 tk99 ag99 by99 se99 ae99 if99 zz99 cz100 tk100 ag100 by100 se100 ae100 ip100 zz100 cz101 tk101 ag101 by101 se101 ae101 if101 zz101 cz102 tk102 ag102 by102 se102 ae102 zz102 cz103 tk103 ag103 by103 se103 ae103 if103 zz103 cz104 tk104 ag104 by104 se104 ae104 if104 zz104 cz105 tk105 ag105 by105 se105 ae105 if105 zz105 cz106 tk106 ag106 by106 se106 ae106 if106 zz106 cz107 tk107 ag107 by107 se107 ae107 if107 zz107 cz108 tk108 ag108 by108 se108 ae108 if108 zz108 cz109 tk109 ag109 by109 se109 ae109 ip109 zz109 cz110 tk110 ag110 by110 se110 ae110 if110 zz110 cz111 tk111 ag111 by111 se111 ae111 if111 zz111 cz112 tk112 ag112 by112 se112 ae112 if112 zz112 cz113 tk113 ag113 by113 se113 ae113 if113 zz113 cz114 tk114 ag114 by114 se114 ae114 if114 zz114 cz115 tk115 ag115 by115 se115 ae115 st115 fo115 fd115_0 fd115_1 fd115_2 fd115_3 zz115 cz116 tk116 ag116 by116 se116 ae116 st116 fo116 fd116_0 fd116_1 fd116_2 fd116_3 zz116 cz117 tk117 ag117 by117 se117 ae117 st117 zz117 cz118 tk118 ag118 by118 se118 ae118 st118 fd118_0 zz118 cz119 tk119 ag119 by119 se119 ae119 st119 fd119_0 zz119 cz120 tk120 ag120 by120 se120 ae120 ik120 zz120 cz121 tk121 ag121 by121 se121 ae121 ik121 zz121 cz122 tk122 ag122 by122 se122 ae122 if122 zz122 cz123 tk123 ag123 by123 se123 ae123 ip123 zz123 cz124 tk124 ag124 by124 se124 ae124 ik124 zz124 cz125 tk125 ag125 by125 se125 ae125 ik125 zz125 cz126 tk126 ag126 by126 se126 ae126 st126 fo126 fd126_0 fd126_1 fd126_2 fd126_3 fd126_4 fd126_5 fd126_6 fd126_7 fd126_8 fd126_9 fd126_10 zz126 cz127 tk127 ag127 by127 se127 ae127 st127 fo127 fd127_0 fd127_1 fd127_2 fd127_3 fd127_4 fd127_5 fd127_6 fd127_7 fd127_8 fd127_9 fd127_10 zz127
end Go.Sx.Ty
