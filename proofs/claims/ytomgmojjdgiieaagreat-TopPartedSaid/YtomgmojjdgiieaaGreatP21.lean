/- A part of a proof; no conditions. -/
import Derived.Test.YtomgmojjdgiieaaGreatProg
import Derived.Test.YtomgmojjdgiieaaGreatP01
import Derived.Test.YtomgmojjdgiieaaGreatP20
import Derived.WalkKit
set_option linter.unusedSimpArgs false
set_option linter.unusedVariables false
set_option linter.unusedSectionVars false
section
/- What the walk asks of this seat's types: closed facts. Printed by program. No conditions. -/
namespace Go.Sx.Ty
open Go.Proofs Go.Sx
theorem by1 : Tryz.prog.bytesOf 1 = 8 := by kernel_rfl
theorem cz3 : Tryz.prog.cellsOf 3 = 1 := by kernel_rfl
theorem tk3 : tyOk Tryz.prog 3 = true := by kernel_rfl
theorem ag3 : isAg Tryz.prog 3 = false := by kernel_rfl
theorem by3 : Tryz.prog.bytesOf 3 = 8 := by kernel_rfl
theorem ik3 : intK Tryz.prog 3 = some .i64 := by kernel_rfl
theorem zz3 : zc Tryz.prog 3 = [V.int .i64 0] := by kernel_rfl
theorem cz4 : Tryz.prog.cellsOf 4 = 1 := by kernel_rfl
theorem tk4 : tyOk Tryz.prog 4 = true := by kernel_rfl
theorem ag4 : isAg Tryz.prog 4 = false := by kernel_rfl
theorem by4 : Tryz.prog.bytesOf 4 = 1 := by kernel_rfl
theorem zz4 : zc Tryz.prog 4 = [V.bool false] := by kernel_rfl
theorem cz22 : Tryz.prog.cellsOf 22 = 1 := by kernel_rfl
theorem tk22 : tyOk Tryz.prog 22 = true := by kernel_rfl
theorem ag22 : isAg Tryz.prog 22 = false := by kernel_rfl
theorem se22 : slEl Tryz.prog 22 = some 3 := by kernel_rfl
theorem ae22 : arEl Tryz.prog 22 = none := by kernel_rfl
theorem zz22 : zc Tryz.prog 22 = [V.nil] := by kernel_rfl
theorem cz23 : Tryz.prog.cellsOf 23 = 1 := by kernel_rfl
theorem tk23 : tyOk Tryz.prog 23 = true := by kernel_rfl
theorem ag23 : isAg Tryz.prog 23 = false := by kernel_rfl
theorem se23 : slEl Tryz.prog 23 = some 22 := by kernel_rfl
theorem ae23 : arEl Tryz.prog 23 = none := by kernel_rfl
theorem cz25 : Tryz.prog.cellsOf 25 = 3 := by kernel_rfl
theorem tk25 : tyOk Tryz.prog 25 = true := by kernel_rfl
theorem ag25 : isAg Tryz.prog 25 = true := by kernel_rfl
theorem ae25 : arEl Tryz.prog 25 = none := by kernel_rfl
theorem st25 : isSt Tryz.prog 25 = true := by kernel_rfl
theorem fo25 : fldsOk Tryz.prog 25 = true := by kernel_rfl
theorem fd25_0 : fld Tryz.prog 25 0 = some (0, 22) := by kernel_rfl
theorem fd25_1 : fld Tryz.prog 25 1 = some (1, 22) := by kernel_rfl
theorem fd25_2 : fld Tryz.prog 25 2 = some (2, 23) := by kernel_rfl
theorem zz25 : zc Tryz.prog 25 = [V.nil, V.nil, V.nil] := by kernel_rfl
theorem cz27 : Tryz.prog.cellsOf 27 = 26 := by kernel_rfl
theorem tk27 : tyOk Tryz.prog 27 = true := by kernel_rfl
theorem ag27 : isAg Tryz.prog 27 = true := by kernel_rfl
theorem fd27_0 : fld Tryz.prog 27 0 = some (0, 25) := by kernel_rfl
theorem fd27_1 : fld Tryz.prog 27 1 = some (3, 25) := by kernel_rfl
theorem fd27_2 : fld Tryz.prog 27 2 = some (6, 25) := by kernel_rfl
theorem fd27_3 : fld Tryz.prog 27 3 = some (9, 25) := by kernel_rfl
theorem fd27_4 : fld Tryz.prog 27 4 = some (12, 25) := by kernel_rfl
theorem fd27_5 : fld Tryz.prog 27 5 = some (15, 25) := by kernel_rfl
theorem fd27_6 : fld Tryz.prog 27 6 = some (18, 25) := by kernel_rfl
theorem fd27_7 : fld Tryz.prog 27 7 = some (21, 25) := by kernel_rfl
theorem fd27_8 : fld Tryz.prog 27 8 = some (24, 3) := by kernel_rfl
theorem fd27_9 : fld Tryz.prog 27 9 = some (25, 3) := by kernel_rfl
theorem zz27 : zc Tryz.prog 27 = [V.nil, V.nil, V.nil, V.nil, V.nil, V.nil, V.nil, V.nil, V.nil, V.nil, V.nil, V.nil, V.nil, V.nil, V.nil, V.nil, V.nil, V.nil, V.nil, V.nil, V.nil, V.nil, V.nil, V.nil, V.int .i64 0, V.int .i64 0] := by kernel_rfl
theorem cz29 : Tryz.prog.cellsOf 29 = 33 := by kernel_rfl
theorem tk29 : tyOk Tryz.prog 29 = true := by kernel_rfl
theorem ag29 : isAg Tryz.prog 29 = true := by kernel_rfl
theorem fd29_0 : fld Tryz.prog 29 0 = some (0, 27) := by kernel_rfl
theorem fd29_1 : fld Tryz.prog 29 1 = some (26, 3) := by kernel_rfl
theorem fd29_2 : fld Tryz.prog 29 2 = some (27, 3) := by kernel_rfl
theorem fd29_3 : fld Tryz.prog 29 3 = some (28, 3) := by kernel_rfl
theorem fd29_4 : fld Tryz.prog 29 4 = some (29, 3) := by kernel_rfl
theorem fd29_5 : fld Tryz.prog 29 5 = some (30, 3) := by kernel_rfl
theorem fd29_6 : fld Tryz.prog 29 6 = some (31, 3) := by kernel_rfl
theorem fd29_7 : fld Tryz.prog 29 7 = some (32, 3) := by kernel_rfl
theorem cz31 : Tryz.prog.cellsOf 31 = 2 := by kernel_rfl
theorem tk31 : tyOk Tryz.prog 31 = true := by kernel_rfl
theorem ag31 : isAg Tryz.prog 31 = true := by kernel_rfl
theorem by31 : Tryz.prog.bytesOf 31 = 16 := by kernel_rfl
theorem ae31 : arEl Tryz.prog 31 = none := by kernel_rfl
theorem st31 : isSt Tryz.prog 31 = true := by kernel_rfl
theorem fo31 : fldsOk Tryz.prog 31 = true := by kernel_rfl
theorem fd31_0 : fld Tryz.prog 31 0 = some (0, 3) := by kernel_rfl
theorem fd31_1 : fld Tryz.prog 31 1 = some (1, 3) := by kernel_rfl
theorem lt31 : leafTs Tryz.prog 31 = [3, 3] := by kernel_rfl
theorem fe31 : flatEq Tryz.prog 31 = true := by kernel_rfl
theorem zz31 : zc Tryz.prog 31 = [V.int .i64 0, V.int .i64 0] := by kernel_rfl
theorem cz33 : Tryz.prog.cellsOf 33 = 8 := by kernel_rfl
theorem tk33 : tyOk Tryz.prog 33 = true := by kernel_rfl
theorem ag33 : isAg Tryz.prog 33 = true := by kernel_rfl
theorem fd33_0 : fld Tryz.prog 33 0 = some (0, 31) := by kernel_rfl
theorem fd33_1 : fld Tryz.prog 33 1 = some (2, 31) := by kernel_rfl
theorem fd33_2 : fld Tryz.prog 33 2 = some (4, 31) := by kernel_rfl
theorem fd33_3 : fld Tryz.prog 33 3 = some (6, 31) := by kernel_rfl
theorem zz33 : zc Tryz.prog 33 = [V.int .i64 0, V.int .i64 0, V.int .i64 0, V.int .i64 0, V.int .i64 0, V.int .i64 0, V.int .i64 0, V.int .i64 0] := by kernel_rfl
theorem cz34 : Tryz.prog.cellsOf 34 = 1 := by kernel_rfl
theorem tk34 : tyOk Tryz.prog 34 = true := by kernel_rfl
theorem ag34 : isAg Tryz.prog 34 = false := by kernel_rfl
theorem se34 : slEl Tryz.prog 34 = some 98 := by kernel_rfl
theorem ae34 : arEl Tryz.prog 34 = none := by kernel_rfl
theorem cz36 : Tryz.prog.cellsOf 36 = 4 := by kernel_rfl
theorem tk36 : tyOk Tryz.prog 36 = true := by kernel_rfl
theorem ag36 : isAg Tryz.prog 36 = true := by kernel_rfl
theorem fd36_0 : fld Tryz.prog 36 0 = some (0, 3) := by kernel_rfl
theorem fd36_1 : fld Tryz.prog 36 1 = some (1, 3) := by kernel_rfl
theorem fd36_2 : fld Tryz.prog 36 2 = some (2, 3) := by kernel_rfl
theorem fd36_3 : fld Tryz.prog 36 3 = some (3, 34) := by kernel_rfl
theorem cz37 : Tryz.prog.cellsOf 37 = 1 := by kernel_rfl
theorem tk37 : tyOk Tryz.prog 37 = true := by kernel_rfl
theorem ag37 : isAg Tryz.prog 37 = false := by kernel_rfl
theorem se37 : slEl Tryz.prog 37 = some 118 := by kernel_rfl
theorem ae37 : arEl Tryz.prog 37 = none := by kernel_rfl
theorem zz37 : zc Tryz.prog 37 = [V.nil] := by kernel_rfl
theorem cz38 : Tryz.prog.cellsOf 38 = 3 := by kernel_rfl
theorem se38 : slEl Tryz.prog 38 = none := by kernel_rfl
theorem ae38 : arEl Tryz.prog 38 = some (3, 3) := by kernel_rfl
theorem cz40 : Tryz.prog.cellsOf 40 = 8 := by kernel_rfl
theorem ag40 : isAg Tryz.prog 40 = true := by kernel_rfl
theorem fd40_0 : fld Tryz.prog 40 0 = some (0, 36) := by kernel_rfl
theorem fd40_1 : fld Tryz.prog 40 1 = some (4, 37) := by kernel_rfl
theorem fd40_2 : fld Tryz.prog 40 2 = some (5, 38) := by kernel_rfl
theorem cz46 : Tryz.prog.cellsOf 46 = 1 := by kernel_rfl
theorem tk46 : tyOk Tryz.prog 46 = true := by kernel_rfl
theorem ag46 : isAg Tryz.prog 46 = false := by kernel_rfl
theorem se46 : slEl Tryz.prog 46 = some 48 := by kernel_rfl
theorem ae46 : arEl Tryz.prog 46 = none := by kernel_rfl
theorem zz46 : zc Tryz.prog 46 = [V.nil] := by kernel_rfl
theorem se47 : slEl Tryz.prog 47 = some 31 := by kernel_rfl
theorem ae47 : arEl Tryz.prog 47 = none := by kernel_rfl
theorem cz48 : Tryz.prog.cellsOf 48 = 1 := by kernel_rfl
theorem tk48 : tyOk Tryz.prog 48 = true := by kernel_rfl
theorem ag48 : isAg Tryz.prog 48 = false := by kernel_rfl
theorem by48 : Tryz.prog.bytesOf 48 = 24 := by kernel_rfl
theorem se48 : slEl Tryz.prog 48 = some 31 := by kernel_rfl
theorem ae48 : arEl Tryz.prog 48 = none := by kernel_rfl
theorem zz48 : zc Tryz.prog 48 = [V.nil] := by kernel_rfl
theorem cz69 : Tryz.prog.cellsOf 69 = 1 := by kernel_rfl
theorem tk69 : tyOk Tryz.prog 69 = true := by kernel_rfl
theorem ag69 : isAg Tryz.prog 69 = false := by kernel_rfl
theorem cz71 : Tryz.prog.cellsOf 71 = 5 := by kernel_rfl
theorem tk71 : tyOk Tryz.prog 71 = true := by kernel_rfl
theorem ag71 : isAg Tryz.prog 71 = true := by kernel_rfl
theorem ae71 : arEl Tryz.prog 71 = none := by kernel_rfl
theorem st71 : isSt Tryz.prog 71 = true := by kernel_rfl
theorem fo71 : fldsOk Tryz.prog 71 = true := by kernel_rfl
theorem fd71_0 : fld Tryz.prog 71 0 = some (0, 69) := by kernel_rfl
theorem fd71_1 : fld Tryz.prog 71 1 = some (1, 36) := by kernel_rfl
theorem zz71 : zc Tryz.prog 71 = [V.nilp, V.int .i64 0, V.int .i64 0, V.int .i64 0, V.nil] := by kernel_rfl
theorem cz77 : Tryz.prog.cellsOf 77 = 34 := by kernel_rfl
theorem tk77 : tyOk Tryz.prog 77 = true := by kernel_rfl
theorem ag77 : isAg Tryz.prog 77 = true := by kernel_rfl
theorem ae77 : arEl Tryz.prog 77 = none := by kernel_rfl
theorem st77 : isSt Tryz.prog 77 = true := by kernel_rfl
theorem fo77 : fldsOk Tryz.prog 77 = true := by kernel_rfl
theorem fd77_0 : fld Tryz.prog 77 0 = some (0, 27) := by kernel_rfl
theorem fd77_1 : fld Tryz.prog 77 1 = some (26, 33) := by kernel_rfl
theorem zz77 : zc Tryz.prog 77 = [V.nil, V.nil, V.nil, V.nil, V.nil, V.nil, V.nil, V.nil, V.nil, V.nil, V.nil, V.nil, V.nil, V.nil, V.nil, V.nil, V.nil, V.nil, V.nil, V.nil, V.nil, V.nil, V.nil, V.nil, V.int .i64 0, V.int .i64 0, V.int .i64 0, V.int .i64 0, V.int .i64 0, V.int .i64 0, V.int .i64 0, V.int .i64 0, V.int .i64 0, V.int .i64 0] := by kernel_rfl
theorem se79 : slEl Tryz.prog 79 = some 81 := by kernel_rfl
theorem ae79 : arEl Tryz.prog 79 = none := by kernel_rfl
theorem cz81 : Tryz.prog.cellsOf 81 = 7 := by kernel_rfl
theorem tk81 : tyOk Tryz.prog 81 = true := by kernel_rfl
theorem ag81 : isAg Tryz.prog 81 = true := by kernel_rfl
theorem ae81 : arEl Tryz.prog 81 = none := by kernel_rfl
theorem st81 : isSt Tryz.prog 81 = true := by kernel_rfl
theorem fo81 : fldsOk Tryz.prog 81 = true := by kernel_rfl
theorem fd81_0 : fld Tryz.prog 81 0 = some (0, 25) := by kernel_rfl
theorem fd81_1 : fld Tryz.prog 81 1 = some (3, 31) := by kernel_rfl
theorem fd81_2 : fld Tryz.prog 81 2 = some (5, 31) := by kernel_rfl
theorem zz81 : zc Tryz.prog 81 = [V.nil, V.nil, V.nil, V.int .i64 0, V.int .i64 0, V.int .i64 0, V.int .i64 0] := by kernel_rfl
theorem cz87 : Tryz.prog.cellsOf 87 = 2 := by kernel_rfl
theorem se87 : slEl Tryz.prog 87 = none := by kernel_rfl
theorem ae87 : arEl Tryz.prog 87 = some (2, 22) := by kernel_rfl
theorem cz88 : Tryz.prog.cellsOf 88 = 1 := by kernel_rfl
theorem tk88 : tyOk Tryz.prog 88 = true := by kernel_rfl
theorem ag88 : isAg Tryz.prog 88 = false := by kernel_rfl
theorem se88 : slEl Tryz.prog 88 = some 127 := by kernel_rfl
theorem ae88 : arEl Tryz.prog 88 = none := by kernel_rfl
theorem cz90 : Tryz.prog.cellsOf 90 = 36 := by kernel_rfl
theorem ae90 : arEl Tryz.prog 90 = none := by kernel_rfl
theorem st90 : isSt Tryz.prog 90 = true := by kernel_rfl
theorem fo90 : fldsOk Tryz.prog 90 = true := by kernel_rfl
theorem fd90_0 : fld Tryz.prog 90 0 = some (0, 29) := by kernel_rfl
theorem fd90_1 : fld Tryz.prog 90 1 = some (33, 87) := by kernel_rfl
theorem fd90_2 : fld Tryz.prog 90 2 = some (35, 88) := by kernel_rfl
theorem zz90 : zc Tryz.prog 90 = [V.nil, V.nil, V.nil, V.nil, V.nil, V.nil, V.nil, V.nil, V.nil, V.nil, V.nil, V.nil, V.nil, V.nil, V.nil, V.nil, V.nil, V.nil, V.nil, V.nil, V.nil, V.nil, V.nil, V.nil, V.int .i64 0, V.int .i64 0, V.int .i64 0, V.int .i64 0, V.int .i64 0, V.int .i64 0, V.int .i64 0, V.int .i64 0, V.int .i64 0, V.nil, V.nil, V.nil] := by kernel_rfl
theorem cz98 : Tryz.prog.cellsOf 98 = 2 := by kernel_rfl
theorem tk98 : tyOk Tryz.prog 98 = true := by kernel_rfl
theorem ag98 : isAg Tryz.prog 98 = true := by kernel_rfl
theorem fd98_0 : fld Tryz.prog 98 0 = some (0, 3) := by kernel_rfl
theorem fd98_1 : fld Tryz.prog 98 1 = some (1, 3) := by kernel_rfl
theorem cz101 : Tryz.prog.cellsOf 101 = 2 := by kernel_rfl
theorem tk101 : tyOk Tryz.prog 101 = true := by kernel_rfl
theorem ag101 : isAg Tryz.prog 101 = true := by kernel_rfl
theorem ae101 : arEl Tryz.prog 101 = none := by kernel_rfl
theorem st101 : isSt Tryz.prog 101 = true := by kernel_rfl
theorem fo101 : fldsOk Tryz.prog 101 = true := by kernel_rfl
theorem fd101_0 : fld Tryz.prog 101 0 = some (0, 3) := by kernel_rfl
theorem fd101_1 : fld Tryz.prog 101 1 = some (1, 3) := by kernel_rfl
theorem zz101 : zc Tryz.prog 101 = [V.int .i64 0, V.int .i64 0] := by kernel_rfl
theorem cz103 : Tryz.prog.cellsOf 103 = 4 := by kernel_rfl
theorem tk103 : tyOk Tryz.prog 103 = true := by kernel_rfl
theorem ag103 : isAg Tryz.prog 103 = true := by kernel_rfl
theorem ae103 : arEl Tryz.prog 103 = none := by kernel_rfl
theorem st103 : isSt Tryz.prog 103 = true := by kernel_rfl
theorem fo103 : fldsOk Tryz.prog 103 = true := by kernel_rfl
theorem fd103_0 : fld Tryz.prog 103 0 = some (0, 3) := by kernel_rfl
theorem fd103_1 : fld Tryz.prog 103 1 = some (1, 3) := by kernel_rfl
theorem fd103_2 : fld Tryz.prog 103 2 = some (2, 101) := by kernel_rfl
theorem zz103 : zc Tryz.prog 103 = [V.int .i64 0, V.int .i64 0, V.int .i64 0, V.int .i64 0] := by kernel_rfl
theorem cz113 : Tryz.prog.cellsOf 113 = 1 := by kernel_rfl
theorem tk113 : tyOk Tryz.prog 113 = true := by kernel_rfl
theorem ag113 : isAg Tryz.prog 113 = false := by kernel_rfl
theorem zz113 : zc Tryz.prog 113 = [V.nilf] := by kernel_rfl
theorem cz118 : Tryz.prog.cellsOf 118 = 3 := by kernel_rfl
theorem tk118 : tyOk Tryz.prog 118 = true := by kernel_rfl
theorem ag118 : isAg Tryz.prog 118 = true := by kernel_rfl
theorem by118 : Tryz.prog.bytesOf 118 = 24 := by kernel_rfl
theorem ae118 : arEl Tryz.prog 118 = none := by kernel_rfl
theorem st118 : isSt Tryz.prog 118 = true := by kernel_rfl
theorem fo118 : fldsOk Tryz.prog 118 = true := by kernel_rfl
theorem fd118_0 : fld Tryz.prog 118 0 = some (0, 3) := by kernel_rfl
theorem fd118_1 : fld Tryz.prog 118 1 = some (1, 3) := by kernel_rfl
theorem fd118_2 : fld Tryz.prog 118 2 = some (2, 3) := by kernel_rfl
theorem lt118 : leafTs Tryz.prog 118 = [3, 3, 3] := by kernel_rfl
theorem fe118 : flatEq Tryz.prog 118 = true := by kernel_rfl
theorem zz118 : zc Tryz.prog 118 = [V.int .i64 0, V.int .i64 0, V.int .i64 0] := by kernel_rfl
theorem cz126 : Tryz.prog.cellsOf 126 = 2 := by kernel_rfl
theorem ae126 : arEl Tryz.prog 126 = some (2, 3) := by kernel_rfl
theorem st126 : isSt Tryz.prog 126 = false := by kernel_rfl
theorem zz126 : zc Tryz.prog 126 = [V.int .i64 0, V.int .i64 0] := by kernel_rfl
theorem cz127 : Tryz.prog.cellsOf 127 = 1 := by kernel_rfl
theorem tk127 : tyOk Tryz.prog 127 = true := by kernel_rfl
theorem ag127 : isAg Tryz.prog 127 = false := by kernel_rfl
theorem by127 : Tryz.prog.bytesOf 127 = 24 := by kernel_rfl
theorem se127 : slEl Tryz.prog 127 = some 4 := by kernel_rfl
theorem ae127 : arEl Tryz.prog 127 = none := by kernel_rfl
theorem zz127 : zc Tryz.prog 127 = [V.nil] := by kernel_rfl
theorem cz138 : Tryz.prog.cellsOf 138 = 4 := by kernel_rfl
theorem ae138 : arEl Tryz.prog 138 = some (2, 31) := by kernel_rfl
theorem st138 : isSt Tryz.prog 138 = false := by kernel_rfl
theorem zz138 : zc Tryz.prog 138 = [V.int .i64 0, V.int .i64 0, V.int .i64 0, V.int .i64 0] := by kernel_rfl
theorem cz139 : Tryz.prog.cellsOf 139 = 1 := by kernel_rfl
theorem tk139 : tyOk Tryz.prog 139 = true := by kernel_rfl
theorem ag139 : isAg Tryz.prog 139 = false := by kernel_rfl
theorem zz139 : zc Tryz.prog 139 = [V.nilf] := by kernel_rfl
theorem cz146 : Tryz.prog.cellsOf 146 = 5 := by kernel_rfl
theorem tk146 : tyOk Tryz.prog 146 = true := by kernel_rfl
theorem ag146 : isAg Tryz.prog 146 = true := by kernel_rfl
theorem ae146 : arEl Tryz.prog 146 = none := by kernel_rfl
theorem st146 : isSt Tryz.prog 146 = true := by kernel_rfl
theorem fo146 : fldsOk Tryz.prog 146 = true := by kernel_rfl
theorem fd146_0 : fld Tryz.prog 146 0 = some (0, 25) := by kernel_rfl
theorem fd146_1 : fld Tryz.prog 146 1 = some (3, 3) := by kernel_rfl
theorem fd146_2 : fld Tryz.prog 146 2 = some (4, 3) := by kernel_rfl
theorem zz146 : zc Tryz.prog 146 = [V.nil, V.nil, V.nil, V.int .i64 0, V.int .i64 0] := by kernel_rfl
theorem se147 : slEl Tryz.prog 147 = some 146 := by kernel_rfl
theorem ae147 : arEl Tryz.prog 147 = none := by kernel_rfl
theorem ik174 : intK Tryz.prog 174 = some .u64 := by kernel_rfl
attribute [simp] by1 cz3 tk3 ag3 by3 ik3 zz3 cz4 tk4 ag4 by4 zz4 cz22 tk22 ag22 se22 ae22 zz22 cz23 tk23 ag23 se23 ae23 cz25 tk25 ag25 ae25 st25 fo25 fd25_0 fd25_1 fd25_2 zz25 cz27 tk27 ag27 fd27_0 fd27_1 fd27_2 fd27_3 fd27_4 fd27_5 fd27_6 fd27_7 fd27_8 fd27_9 zz27 cz29 tk29 ag29 fd29_0 fd29_1 fd29_2 fd29_3 fd29_4 fd29_5 fd29_6 fd29_7 cz31 tk31 ag31 by31 ae31 st31 fo31 fd31_0 fd31_1 lt31 fe31 zz31 cz33 tk33 ag33 fd33_0 fd33_1 fd33_2 fd33_3 zz33 cz34 tk34 ag34 se34 ae34 cz36 tk36 ag36 fd36_0 fd36_1 fd36_2 fd36_3 cz37 tk37 ag37 se37 ae37 zz37 cz38 se38 ae38 cz40 ag40 fd40_0 fd40_1 fd40_2 cz46 tk46 ag46 se46 ae46 zz46 se47 ae47 cz48 tk48 ag48 by48 se48 ae48 zz48 cz69 tk69 ag69 cz71 tk71 ag71 ae71 st71 fo71 fd71_0 fd71_1 zz71 cz77 tk77 ag77 ae77 st77 fo77 fd77_0 fd77_1 zz77 se79 ae79 cz81 tk81 ag81 ae81 st81 fo81 fd81_0 fd81_1 fd81_2 zz81 cz87 se87 ae87 cz88 tk88 ag88 se88 ae88 cz90 ae90 st90 fo90 fd90_0 fd90_1 fd90_2 zz90 cz98 tk98 ag98 fd98_0 fd98_1 cz101 tk101 ag101 ae101 st101 fo101 fd101_0 fd101_1 zz101 cz103 tk103 ag103 ae103 st103 fo103 fd103_0 fd103_1 fd103_2 zz103 cz113 tk113 ag113 zz113 cz118 tk118 ag118 by118 ae118 st118 fo118 fd118_0 fd118_1 fd118_2 lt118 fe118 zz118 cz126 ae126 st126 zz126 cz127 tk127 ag127 by127 se127 ae127 zz127 cz138 ae138 st138 zz138 cz139 tk139 ag139 zz139 cz146 tk146 ag146 ae146 st146 fo146 fd146_0 fd146_1 fd146_2 zz146 se147 ae147 ik174 
end Go.Sx.Ty
end
section
/- Parts: numbers within bounds, the errors of a series. No conditions. -/
set_option linter.unusedSimpArgs false
set_option maxRecDepth 100000
set_option maxHeartbeats 1000000
namespace Go.Sx
open Go.Proofs
instance : Gls := ⟨fun _ => none⟩
def withinB (n lo hi : Int) : Bool := decide (lo ≤ n ∧ n ≤ hi)
abbrev withinS : PSpec := { dom := Int × Int × Int, enc := fun d => [.int .i64 d.1, .int .i64 d.2.1, .int .i64 d.2.2], dec := fun l => ((l.getD 0 .top).toInt, (l.getD 1 .top).toInt, (l.getD 2 .top).toInt), pre := fun _ => True, res := fun d => .bool (withinB d.1 d.2.1 d.2.2) }
def cellp (n : Int) : V := .ip 1 [[.int .i64 n]] 0 0
end Go.Sx
end
section
/- Pages: hours by the number of pages that they are on. No conditions. -/
set_option linter.unusedSimpArgs false
set_option linter.unusedSectionVars false
namespace Go.Sx
structure Sp where
  lo : Int
  hi : Int
  deriving DecidableEq, Inhabited
def Sp.row (s : Sp) : List V := [.int .i64 s.lo, .int .i64 s.hi]
theorem Sp.row_inj (a b : Sp) (h : a.row = b.row) : a = b := by
  cases a; cases b; simp [Sp.row] at h; simp [h]
def Sp.has (s : Sp) (h : Int) : Bool := decide (s.lo ≤ h) && decide (h ≤ s.hi)
end Go.Sx
end
section
/- Crew, plain: ticks that are counted; duties; what is worked in a window. No conditions. -/
set_option linter.unusedSimpArgs false
set_option linter.unusedSectionVars false
namespace Go.Sx
def cnt (P : Int → Bool) (x : Int) : Nat → Int
  | 0 => 0
  | n + 1 => cnt P x n + if P (x + n) = true then 1 else 0
def cn (P : Int → Bool) (x y : Int) : Int := cnt P x (y - x).toNat
structure Du where
  p : Int
  a : Int
  b : Int
  deriving DecidableEq, Inhabited
def Du.on (d : Du) (t : Int) : Bool := decide (d.a ≤ t) && decide (t < d.b)
def onD (l : List Du) (t : Int) : Bool := l.any fun d => d.on t
def swp (to : Int) : List Du → Int → Int → Int
  | [], _, n => n
  | d :: r, done, n => if max d.a done < min d.b to then swp to r (min d.b to) (n + (min d.b to - max d.a done)) else swp to r done n
def wk (l : List Du) (x y : Int) : Int := cn (onD l) x y
def totB (l : List Du) (W T : Int) : Bool := l.all fun d => decide (wk l d.a (d.a + W) ≤ T) && decide (wk l (d.b - W) d.b ≤ T)
end Go.Sx
end
section
/- Crew, plain: rosters, duties, the rules that a duty breaks; the reference's. No conditions. -/
set_option linter.unusedSimpArgs false
set_option linter.unusedSectionVars false
namespace Go.Sx
structure Pn where
  rat : Int
  rank : Int
  dive : Int
  deriving DecidableEq, Inhabited
def Pn.row (p : Pn) : List V := [.int .i64 p.rat, .int .i64 p.rank, .int .i64 p.dive]
theorem Pn.row_inj (a b : Pn) (h : a.row = b.row) : a = b := by
  cases a; cases b; simp [Pn.row] at h; simp [h]
def Du.row (p : Du) : List V := [.int .i64 p.p, .int .i64 p.a, .int .i64 p.b]
theorem Du.row_inj (a b : Du) (h : a.row = b.row) : a = b := by
  cases a; cases b; simp [Du.row] at h; simp [h]
structure Ro where
  ppl : List Pn
  lng : Int
  rst : Int
  win : Int
  tot : Int
  rcn : Int
  deriving DecidableEq, Inhabited
def pplV (l : List Pn) : V := .sl 3 (l.map Pn.row)
def Ro.row (r : Ro) : List V := [pplV r.ppl, .int .i64 r.lng, .int .i64 r.rst, .int .i64 r.win, .int .i64 r.tot, .int .i64 r.rcn]
theorem mapRow_inj {α : Type} {f : α → List V} (hf : ∀ a b, f a = f b → a = b) : ∀ {a b : List α}, a.map f = b.map f → a = b
  | [], [], _ => rfl
  | [], _ :: _, h => by simp at h
  | _ :: _, [], h => by simp at h
  | x :: a, y :: b, h => by
    simp only [List.map_cons, List.cons.injEq] at h
    rw [hf _ _ h.1, mapRow_inj hf h.2]
theorem Ro.row_inj (a b : Ro) (h : a.row = b.row) : a = b := by
  cases a; cases b
  simp only [Ro.row, pplV, List.cons.injEq, V.sl.injEq, V.int.injEq, true_and, and_true] at h
  obtain ⟨h1, h2, h3, h4, h5, h6⟩ := h
  rw [mapRow_inj Pn.row_inj h1, h2, h3, h4, h5, h6]
structure Cl where
  a : Int
  b : Int
  craft : Int
  water : Bool
  deriving DecidableEq, Inhabited
def Cl.row (c : Cl) : List V := [.int .i64 c.a, .int .i64 c.b, .int .i64 c.craft, .bool c.water]
theorem Cl.row_inj (a b : Cl) (h : a.row = b.row) : a = b := by
  cases a; cases b; simp [Cl.row] at h; simp [h]
def Pn.ok (p : Pn) : Bool := decide (0 ≤ p.rat ∧ p.rat ≤ 255) && decide (0 ≤ p.rank ∧ p.rank ≤ 3) && decide (0 ≤ p.dive ∧ p.dive ≤ 2000)
def Ro.ok (r : Ro) : Bool := decide (r.ppl.length ≤ 12) && r.ppl.all Pn.ok && decide (1 ≤ r.lng ∧ r.lng ≤ 2000) && decide (0 ≤ r.rst ∧ r.rst ≤ 2000) && decide (1 ≤ r.win ∧ r.win ≤ 2000) && decide (1 ≤ r.rcn ∧ r.rcn ≤ 2000) && decide (1 ≤ r.tot ∧ r.tot ≤ r.win)
structure Ro.Fit (r : Ro) : Prop where
  n : r.ppl.length ≤ 12
  p : ∀ p ∈ r.ppl, p.ok = true
  lng : 1 ≤ r.lng ∧ r.lng ≤ 2000
  rst : 0 ≤ r.rst ∧ r.rst ≤ 2000
  win : 1 ≤ r.win ∧ r.win ≤ 2000
  rcn : 1 ≤ r.rcn ∧ r.rcn ≤ 2000
  tot : 1 ≤ r.tot ∧ r.tot ≤ r.win
def strB (a b : Int) : Bool := decide (0 ≤ a ∧ a ≤ b - 1) && decide (b ≤ 2000)
theorem strB_iff {a b : Int} : strB a b = true ↔ 0 ≤ a ∧ a < b ∧ b ≤ 2000 := by
  simp [strB]; omega
def Val (l : List Du) : Prop := ∀ d ∈ l, 0 ≤ d.a ∧ d.a < d.b ∧ d.b ≤ 2000
def own (l : List Du) (n : Int) : List Du := l.filter fun d => decide (d.p = n)
def restB (r : Ro) (x y : Du) : Bool := if y.a < x.a then decide (y.b + r.rst ≤ x.a) else decide (x.b + r.rst ≤ y.a)
def recB (r : Ro) (o : List Du) (x : Du) : Bool := decide (x.a ≤ r.rcn) || o.any fun d => decide (0 ≤ x.a - d.b ∧ x.a - d.b ≤ r.rcn)
def brk (r : Ro) (o : List Du) (x : Du) : List Int :=
  (if (o.all fun d => restB r d x) = true then [] else [3]) ++ (if r.lng < x.b - x.a then [4] else []) ++ (if totB (o ++ [x]) r.win r.tot = true then [] else [5]) ++ (if recB r o x = true then [] else [6])
def duAt (l : List Du) (i : Nat) : Du := l.getD i default
def duOk (r : Ro) (l : List Du) (i : Nat) : Bool :=
  decide (0 ≤ (duAt l i).p ∧ (duAt l i).p ≤ r.ppl.length - 1) && strB (duAt l i).a (duAt l i).b && (decide (i = 0) || decide ((duAt l (i - 1)).a ≤ (duAt l i).a)) && (brk r (own (l.take i) (duAt l i).p) (duAt l i)).isEmpty
theorem duOk_iff {r : Ro} {l : List Du} {i : Nat} : duOk r l i = true ↔ (0 ≤ (duAt l i).p ∧ (duAt l i).p ≤ r.ppl.length - 1) ∧ (0 ≤ (duAt l i).a ∧ (duAt l i).a < (duAt l i).b ∧ (duAt l i).b ≤ 2000) ∧ (i = 0 ∨ (duAt l (i - 1)).a ≤ (duAt l i).a) ∧ brk r (own (l.take i) (duAt l i).p) (duAt l i) = [] := by
  unfold duOk
  simp only [Bool.and_eq_true, strB_iff, Bool.or_eq_true, decide_eq_true_eq, List.isEmpty_iff, and_assoc]
def Rt (r : Ro) (l : List Du) (n : Nat) : Prop := ∀ i, i < n → duOk r l i = true
theorem take_snoc {α : Type} [Inhabited α] (l : List α) {n : Nat} (h : n < l.length) : l.take (n + 1) = l.take n ++ [l.getD n default] := by
  rw [List.take_add_one]; simp [List.getD, h]
theorem Rt.val {r : Ro} {l : List Du} : ∀ {n : Nat}, n ≤ l.length → Rt r l n → Val (l.take n)
  | 0, _, _ => fun d hd => by simp at hd
  | n + 1, hn, h => by
    rw [take_snoc l (by omega)]
    intro d hd
    rcases List.mem_append.1 hd with hd | hd
    · exact Rt.val (by omega) (fun i hi => h i (by omega)) d hd
    · have := List.mem_singleton.1 hd
      subst this
      exact (duOk_iff.1 (h n (by omega))).2.1
end Go.Sx
end
section
/- Contracts whose values are read by their encoding. No conditions. -/
namespace Go.Sx
open Classical in
noncomputable def decC {D : Type} [Inhabited D] (enc : D → List V) (l : List V) : D := if x : ∃ d, l = enc d then x.choose else default
theorem decC_eq {D : Type} [Inhabited D] {enc : D → List V} (inj : ∀ a b, enc a = enc b → a = b) (d : D) : decC enc (enc d) = d := by
  have x : ∃ d', enc d = enc d' := ⟨d, rfl⟩
  simp only [decC, dif_pos x]
  exact (inj _ _ x.choose_spec).symm
noncomputable abbrev mkP {D : Type} [Inhabited D] (enc : D → List V) (pre : D → Prop) (res : D → V) : PSpec := { dom := D, enc := enc, dec := decC enc, pre := pre, res := res }
noncomputable def mkH {D : Type} (enc : D → List V) (HP : D → Hp → Prop) (pre : D → Prop) (res : D → V) (post : D → Hp → Hp) : HSpec :=
  { go := fun args h => open Classical in if hx : ∃ d, args = enc d ∧ HP d h then ⟨pre hx.choose, res hx.choose, post hx.choose h⟩ else bad h }
theorem mkH_at {D : Type} {enc : D → List V} {HP : D → Hp → Prop} {pre : D → Prop} {res : D → V} {post : D → Hp → Hp} (inj : ∀ d d' h, enc d = enc d' → HP d h → HP d' h → d = d') {d : D} {h : Hp} (hd : HP d h) :
    (mkH enc HP pre res post).go (enc d) h = ⟨pre d, res d, post d h⟩ := by
  have hx : ∃ d', enc d = enc d' ∧ HP d' h := ⟨d, rfl, hd⟩
  have e : hx.choose = d := (inj _ _ _ hx.choose_spec.1 hd hx.choose_spec.2).symm
  simp only [mkH]
  rw [dif_pos hx, e]
theorem mkH_inv {D : Type} {enc : D → List V} {HP : D → Hp → Prop} {pre : D → Prop} {res : D → V} {post : D → Hp → Hp} {args : List V} {h : Hp} (hc : ((mkH enc HP pre res post).go args h).c) :
    ∃ d, args = enc d ∧ HP d h ∧ pre d ∧ (mkH enc HP pre res post).go args h = ⟨pre d, res d, post d h⟩ := by
  simp only [mkH] at hc ⊢
  by_cases hx : ∃ d, args = enc d ∧ HP d h
  · rw [dif_pos hx] at hc
    exact ⟨hx.choose, hx.choose_spec.1, hx.choose_spec.2, hc, by rw [dif_pos hx]⟩
  · rw [dif_neg hx] at hc; exact hc.elim
end Go.Sx
end
