/- What the walk asks of this seat's types: closed facts. Printed by program. No conditions. -/
import Derived.Test.YtfhdpblkdgmnfaaGreatDoorProg
import Derived.Test.YtfhdpblkdgmnfaaGreatDoorP07
set_option linter.unusedSimpArgs false
set_option linter.unusedVariables false
set_option linter.unusedSectionVars false
set_option maxRecDepth 100000
set_option maxHeartbeats 8000000
noncomputable section
namespace Go.Sx.Ty
open Go.Proofs Go.Sx
abbrev _root_.Go.Sx.FO [Gls] (f:FuncId) (S:PSpec):Prop:=FnOK Tryz.prog f (.pure S)
theorem cz3:Tryz.prog.cellsOf 3=1:=by kernel_rfl
theorem ik3:intK Tryz.prog 3=some .i64:=by kernel_rfl
theorem cz4:Tryz.prog.cellsOf 4=1:=by kernel_rfl
theorem cz23:Tryz.prog.cellsOf 23=2:=by kernel_rfl
theorem cz25:Tryz.prog.cellsOf 25=8:=by kernel_rfl
theorem ag25:isAg Tryz.prog 25=true:=by kernel_rfl
theorem fd25_0:fld Tryz.prog 25 0=some (0,23):=by kernel_rfl
theorem fd25_1:fld Tryz.prog 25 1=some (2,23):=by kernel_rfl
theorem fd25_2:fld Tryz.prog 25 2=some (4,23):=by kernel_rfl
theorem fd25_3:fld Tryz.prog 25 3=some (6,4):=by kernel_rfl
theorem fd25_4:fld Tryz.prog 25 4=some (7,4):=by kernel_rfl
theorem cz26:Tryz.prog.cellsOf 26=1:=by kernel_rfl
theorem se26:slEl Tryz.prog 26=some 206:=by kernel_rfl
theorem cz27:Tryz.prog.cellsOf 27=1:=by kernel_rfl
theorem se27:slEl Tryz.prog 27=some 211:=by kernel_rfl
theorem cz29:Tryz.prog.cellsOf 29=14:=by kernel_rfl
theorem ag29:isAg Tryz.prog 29=true:=by kernel_rfl
theorem fd29_0:fld Tryz.prog 29 0=some (0,3):=by kernel_rfl
theorem fd29_1:fld Tryz.prog 29 1=some (1,25):=by kernel_rfl
theorem fd29_2:fld Tryz.prog 29 2=some (9,3):=by kernel_rfl
theorem fd29_3:fld Tryz.prog 29 3=some (10,3):=by kernel_rfl
theorem fd29_4:fld Tryz.prog 29 4=some (11,3):=by kernel_rfl
theorem fd29_5:fld Tryz.prog 29 5=some (12,26):=by kernel_rfl
theorem fd29_6:fld Tryz.prog 29 6=some (13,27):=by kernel_rfl
theorem cz31:Tryz.prog.cellsOf 31=5:=by kernel_rfl
theorem ag31:isAg Tryz.prog 31=true:=by kernel_rfl
theorem fd31_0:fld Tryz.prog 31 0=some (0,3):=by kernel_rfl
theorem fd31_1:fld Tryz.prog 31 1=some (1,3):=by kernel_rfl
theorem fd31_2:fld Tryz.prog 31 2=some (2,3):=by kernel_rfl
theorem fd31_3:fld Tryz.prog 31 3=some (3,4):=by kernel_rfl
theorem fd31_4:fld Tryz.prog 31 4=some (4,4):=by kernel_rfl
theorem cz32:Tryz.prog.cellsOf 32=1:=by kernel_rfl
theorem se32:slEl Tryz.prog 32=some 157:=by kernel_rfl
theorem cz33:Tryz.prog.cellsOf 33=1:=by kernel_rfl
theorem se33:slEl Tryz.prog 33=some 159:=by kernel_rfl
theorem cz34:Tryz.prog.cellsOf 34=1:=by kernel_rfl
theorem se34:slEl Tryz.prog 34=some 174:=by kernel_rfl
theorem cz35:Tryz.prog.cellsOf 35=1:=by kernel_rfl
theorem se35:slEl Tryz.prog 35=some 237:=by kernel_rfl
theorem cz37:Tryz.prog.cellsOf 37=4:=by kernel_rfl
theorem ag37:isAg Tryz.prog 37=true:=by kernel_rfl
theorem fd37_0:fld Tryz.prog 37 0=some (0,33):=by kernel_rfl
theorem fd37_1:fld Tryz.prog 37 1=some (1,34):=by kernel_rfl
theorem fd37_2:fld Tryz.prog 37 2=some (2,3):=by kernel_rfl
theorem fd37_3:fld Tryz.prog 37 3=some (3,35):=by kernel_rfl
theorem cz38:Tryz.prog.cellsOf 38=1:=by kernel_rfl
theorem se38:slEl Tryz.prog 38=some 73:=by kernel_rfl
theorem cz39:Tryz.prog.cellsOf 39=1:=by kernel_rfl
theorem se39:slEl Tryz.prog 39=some 112:=by kernel_rfl
theorem cz41:Tryz.prog.cellsOf 41=6:=by kernel_rfl
theorem ag41:isAg Tryz.prog 41=true:=by kernel_rfl
theorem fd41_0:fld Tryz.prog 41 0=some (0,39):=by kernel_rfl
theorem fd41_1:fld Tryz.prog 41 1=some (1,3):=by kernel_rfl
theorem fd41_2:fld Tryz.prog 41 2=some (2,3):=by kernel_rfl
theorem fd41_3:fld Tryz.prog 41 3=some (3,3):=by kernel_rfl
theorem fd41_4:fld Tryz.prog 41 4=some (4,3):=by kernel_rfl
theorem fd41_5:fld Tryz.prog 41 5=some (5,3):=by kernel_rfl
theorem cz42:Tryz.prog.cellsOf 42=1:=by kernel_rfl
theorem se42:slEl Tryz.prog 42=some 65:=by kernel_rfl
theorem cz43:Tryz.prog.cellsOf 43=1:=by kernel_rfl
theorem se43:slEl Tryz.prog 43=some 3:=by kernel_rfl
theorem cz44:Tryz.prog.cellsOf 44=1:=by kernel_rfl
theorem se44:slEl Tryz.prog 44=some 59:=by kernel_rfl
theorem cz46:Tryz.prog.cellsOf 46=39:=by kernel_rfl
theorem ag46:isAg Tryz.prog 46=true:=by kernel_rfl
theorem fd46_0:fld Tryz.prog 46 0=some (0,29):=by kernel_rfl
theorem fd46_1:fld Tryz.prog 46 1=some (14,31):=by kernel_rfl
theorem fd46_2:fld Tryz.prog 46 2=some (19,32):=by kernel_rfl
theorem fd46_3:fld Tryz.prog 46 3=some (20,37):=by kernel_rfl
theorem fd46_4:fld Tryz.prog 46 4=some (24,38):=by kernel_rfl
theorem fd46_5:fld Tryz.prog 46 5=some (25,41):=by kernel_rfl
theorem fd46_6:fld Tryz.prog 46 6=some (31,42):=by kernel_rfl
theorem fd46_7:fld Tryz.prog 46 7=some (32,43):=by kernel_rfl
theorem fd46_8:fld Tryz.prog 46 8=some (33,43):=by kernel_rfl
theorem fd46_9:fld Tryz.prog 46 9=some (34,3):=by kernel_rfl
theorem fd46_10:fld Tryz.prog 46 10=some (35,3):=by kernel_rfl
theorem fd46_11:fld Tryz.prog 46 11=some (36,3):=by kernel_rfl
theorem fd46_12:fld Tryz.prog 46 12=some (37,3):=by kernel_rfl
theorem fd46_13:fld Tryz.prog 46 13=some (38,44):=by kernel_rfl
theorem se47:slEl Tryz.prog 47=some 57:=by kernel_rfl
theorem cz57:Tryz.prog.cellsOf 57=4:=by kernel_rfl
theorem ag57:isAg Tryz.prog 57=true:=by kernel_rfl
theorem fd57_0:fld Tryz.prog 57 0=some (0,3):=by kernel_rfl
theorem fd57_1:fld Tryz.prog 57 1=some (1,3):=by kernel_rfl
theorem fd57_2:fld Tryz.prog 57 2=some (2,3):=by kernel_rfl
theorem fd57_3:fld Tryz.prog 57 3=some (3,3):=by kernel_rfl
theorem cz59:Tryz.prog.cellsOf 59=5:=by kernel_rfl
theorem ag59:isAg Tryz.prog 59=true:=by kernel_rfl
theorem fd59_0:fld Tryz.prog 59 0=some (0,3):=by kernel_rfl
theorem fd59_1:fld Tryz.prog 59 1=some (1,3):=by kernel_rfl
theorem fd59_2:fld Tryz.prog 59 2=some (2,3):=by kernel_rfl
theorem fd59_3:fld Tryz.prog 59 3=some (3,3):=by kernel_rfl
theorem fd59_4:fld Tryz.prog 59 4=some (4,4):=by kernel_rfl
theorem cz65:Tryz.prog.cellsOf 65=3:=by kernel_rfl
theorem ag65:isAg Tryz.prog 65=true:=by kernel_rfl
theorem fd65_0:fld Tryz.prog 65 0=some (0,3):=by kernel_rfl
theorem fd65_1:fld Tryz.prog 65 1=some (1,3):=by kernel_rfl
theorem fd65_2:fld Tryz.prog 65 2=some (2,3):=by kernel_rfl
theorem cz73:Tryz.prog.cellsOf 73=4:=by kernel_rfl
theorem ag73:isAg Tryz.prog 73=true:=by kernel_rfl
theorem fd73_0:fld Tryz.prog 73 0=some (0,3):=by kernel_rfl
theorem fd73_1:fld Tryz.prog 73 1=some (1,3):=by kernel_rfl
theorem fd73_2:fld Tryz.prog 73 2=some (2,3):=by kernel_rfl
theorem fd73_3:fld Tryz.prog 73 3=some (3,3):=by kernel_rfl
theorem cz112:Tryz.prog.cellsOf 112=3:=by kernel_rfl
theorem ag112:isAg Tryz.prog 112=true:=by kernel_rfl
theorem fd112_0:fld Tryz.prog 112 0=some (0,3):=by kernel_rfl
theorem fd112_1:fld Tryz.prog 112 1=some (1,3):=by kernel_rfl
theorem fd112_2:fld Tryz.prog 112 2=some (2,3):=by kernel_rfl
theorem cz157:Tryz.prog.cellsOf 157=3:=by kernel_rfl
theorem ag157:isAg Tryz.prog 157=true:=by kernel_rfl
theorem fd157_0:fld Tryz.prog 157 0=some (0,3):=by kernel_rfl
theorem fd157_1:fld Tryz.prog 157 1=some (1,3):=by kernel_rfl
theorem fd157_2:fld Tryz.prog 157 2=some (2,3):=by kernel_rfl
theorem cz159:Tryz.prog.cellsOf 159=3:=by kernel_rfl
theorem ag159:isAg Tryz.prog 159=true:=by kernel_rfl
theorem fd159_0:fld Tryz.prog 159 0=some (0,3):=by kernel_rfl
theorem fd159_1:fld Tryz.prog 159 1=some (1,3):=by kernel_rfl
theorem fd159_2:fld Tryz.prog 159 2=some (2,3):=by kernel_rfl
theorem cz174:Tryz.prog.cellsOf 174=4:=by kernel_rfl
theorem ag174:isAg Tryz.prog 174=true:=by kernel_rfl
theorem fd174_0:fld Tryz.prog 174 0=some (0,3):=by kernel_rfl
theorem fd174_1:fld Tryz.prog 174 1=some (1,3):=by kernel_rfl
theorem fd174_2:fld Tryz.prog 174 2=some (2,3):=by kernel_rfl
theorem fd174_3:fld Tryz.prog 174 3=some (3,4):=by kernel_rfl
theorem cz206:Tryz.prog.cellsOf 206=12:=by kernel_rfl
theorem ag206:isAg Tryz.prog 206=true:=by kernel_rfl
theorem fd206_0:fld Tryz.prog 206 0=some (0,3):=by kernel_rfl
theorem fd206_1:fld Tryz.prog 206 1=some (1,3):=by kernel_rfl
theorem fd206_2:fld Tryz.prog 206 2=some (2,3):=by kernel_rfl
theorem fd206_3:fld Tryz.prog 206 3=some (3,3):=by kernel_rfl
theorem fd206_4:fld Tryz.prog 206 4=some (4,25):=by kernel_rfl
theorem cz209:Tryz.prog.cellsOf 209=5:=by kernel_rfl
theorem ag209:isAg Tryz.prog 209=true:=by kernel_rfl
theorem fd209_0:fld Tryz.prog 209 0=some (0,3):=by kernel_rfl
theorem fd209_1:fld Tryz.prog 209 1=some (1,3):=by kernel_rfl
theorem fd209_2:fld Tryz.prog 209 2=some (2,3):=by kernel_rfl
theorem fd209_3:fld Tryz.prog 209 3=some (3,4):=by kernel_rfl
theorem fd209_4:fld Tryz.prog 209 4=some (4,4):=by kernel_rfl
theorem cz211:Tryz.prog.cellsOf 211=7:=by kernel_rfl
theorem ag211:isAg Tryz.prog 211=true:=by kernel_rfl
theorem fd211_0:fld Tryz.prog 211 0=some (0,3):=by kernel_rfl
theorem fd211_1:fld Tryz.prog 211 1=some (1,3):=by kernel_rfl
theorem fd211_2:fld Tryz.prog 211 2=some (2,209):=by kernel_rfl
theorem cz237:Tryz.prog.cellsOf 237=2:=by kernel_rfl
theorem ag237:isAg Tryz.prog 237=true:=by kernel_rfl
theorem fd237_0:fld Tryz.prog 237 0=some (0,3):=by kernel_rfl
theorem fd237_1:fld Tryz.prog 237 1=some (1,3):=by kernel_rfl
@[simp] theorem ty0:tyOk Tryz.prog 3=true∧isAg Tryz.prog 3=false∧Tryz.prog.bytesOf 3=8∧slEl Tryz.prog 3=none∧zc Tryz.prog 3=[V.int .i64 0]∧tyOk Tryz.prog 4=true∧isAg Tryz.prog 4=false∧Tryz.prog.bytesOf 4=1∧zc Tryz.prog 4=[V.bool false]∧tyOk Tryz.prog 23=true∧isAg Tryz.prog 23=true∧arEl Tryz.prog 23=none∧isSt Tryz.prog 23=true∧fldsOk Tryz.prog 23=true∧fld Tryz.prog 23 0=some (0,3)∧fld Tryz.prog 23 1=some (1,3)∧zc Tryz.prog 23=[V.int .i64 0,V.int .i64 0]∧tyOk Tryz.prog 25=true∧arEl Tryz.prog 25=none∧isSt Tryz.prog 25=true∧fldsOk Tryz.prog 25=true∧zc Tryz.prog 25=[V.int .i64 0,V.int .i64 0,V.int .i64 0,V.int .i64 0,V.int .i64 0,V.int .i64 0,V.bool false,V.bool false]∧tyOk Tryz.prog 26=true∧isAg Tryz.prog 26=false∧arEl Tryz.prog 26=none∧tyOk Tryz.prog 27=true∧isAg Tryz.prog 27=false∧arEl Tryz.prog 27=none∧tyOk Tryz.prog 29=true∧arEl Tryz.prog 29=none∧isSt Tryz.prog 29=true∧fldsOk Tryz.prog 29=true∧zc Tryz.prog 29=[V.int .i64 0,V.int .i64 0,V.int .i64 0,V.int .i64 0,V.int .i64 0,V.int .i64 0,V.int .i64 0,V.bool false,V.bool false,V.int .i64 0,V.int .i64 0,V.int .i64 0,V.nil,V.nil]∧tyOk Tryz.prog 31=true∧tyOk Tryz.prog 32=true∧isAg Tryz.prog 32=false∧arEl Tryz.prog 32=none∧tyOk Tryz.prog 33=true∧isAg Tryz.prog 33=false∧arEl Tryz.prog 33=none:=by and_intros<;>kernel_rfl
@[simp] theorem ty40:tyOk Tryz.prog 34=true∧isAg Tryz.prog 34=false∧arEl Tryz.prog 34=none∧tyOk Tryz.prog 35=true∧isAg Tryz.prog 35=false∧arEl Tryz.prog 35=none∧tyOk Tryz.prog 37=true∧arEl Tryz.prog 37=none∧isSt Tryz.prog 37=true∧fldsOk Tryz.prog 37=true∧zc Tryz.prog 37=[V.nil,V.nil,V.int .i64 0,V.nil]∧tyOk Tryz.prog 38=true∧isAg Tryz.prog 38=false∧arEl Tryz.prog 38=none∧tyOk Tryz.prog 39=true∧isAg Tryz.prog 39=false∧arEl Tryz.prog 39=none∧tyOk Tryz.prog 41=true∧arEl Tryz.prog 41=none∧isSt Tryz.prog 41=true∧fldsOk Tryz.prog 41=true∧zc Tryz.prog 41=[V.nil,V.int .i64 0,V.int .i64 0,V.int .i64 0,V.int .i64 0,V.int .i64 0]∧tyOk Tryz.prog 42=true∧isAg Tryz.prog 42=false∧arEl Tryz.prog 42=none∧tyOk Tryz.prog 43=true∧isAg Tryz.prog 43=false∧Tryz.prog.bytesOf 43=24∧arEl Tryz.prog 43=none∧zc Tryz.prog 43=[V.nil]∧tyOk Tryz.prog 44=true∧isAg Tryz.prog 44=false∧arEl Tryz.prog 44=none∧tyOk Tryz.prog 46=true∧arEl Tryz.prog 46=none∧isSt Tryz.prog 46=true∧fldsOk Tryz.prog 46=true∧zc Tryz.prog 46=[V.int .i64 0,V.int .i64 0,V.int .i64 0,V.int .i64 0,V.int .i64 0,V.int .i64 0,V.int .i64 0,V.bool false,V.bool false,V.int .i64 0,V.int .i64 0,V.int .i64 0,V.nil,V.nil,V.int .i64 0,V.int .i64 0,V.int .i64 0,V.bool false,V.bool false,V.nil,V.nil,V.nil,V.int .i64 0,V.nil,V.nil,V.nil,V.int .i64 0,V.int .i64 0,V.int .i64 0,V.int .i64 0,V.int .i64 0,V.nil,V.nil,V.nil,V.int .i64 0,V.int .i64 0,V.int .i64 0,V.int .i64 0,V.nil]∧arEl Tryz.prog 47=none∧tyOk Tryz.prog 57=true:=by and_intros<;>kernel_rfl
@[simp] theorem ty80:Tryz.prog.bytesOf 57=32∧zc Tryz.prog 57=[V.int .i64 0,V.int .i64 0,V.int .i64 0,V.int .i64 0]∧tyOk Tryz.prog 59=true∧arEl Tryz.prog 59=none∧isSt Tryz.prog 59=true∧fldsOk Tryz.prog 59=true∧zc Tryz.prog 59=[V.int .i64 0,V.int .i64 0,V.int .i64 0,V.int .i64 0,V.bool false]∧Tryz.prog.cellsOf 61=4∧tyOk Tryz.prog 61=true∧isAg Tryz.prog 61=true∧arEl Tryz.prog 61=none∧isSt Tryz.prog 61=true∧fldsOk Tryz.prog 61=true∧fld Tryz.prog 61 0=some (0,3)∧fld Tryz.prog 61 1=some (1,3)∧fld Tryz.prog 61 2=some (2,3)∧fld Tryz.prog 61 3=some (3,4)∧zc Tryz.prog 61=[V.int .i64 0,V.int .i64 0,V.int .i64 0,V.bool false]∧tyOk Tryz.prog 65=true∧Tryz.prog.bytesOf 65=24∧arEl Tryz.prog 65=none∧isSt Tryz.prog 65=true∧fldsOk Tryz.prog 65=true∧zc Tryz.prog 65=[V.int .i64 0,V.int .i64 0,V.int .i64 0]∧tyOk Tryz.prog 73=true∧Tryz.prog.bytesOf 73=32∧arEl Tryz.prog 73=none∧isSt Tryz.prog 73=true∧fldsOk Tryz.prog 73=true∧zc Tryz.prog 73=[V.int .i64 0,V.int .i64 0,V.int .i64 0,V.int .i64 0]∧Tryz.prog.cellsOf 74=1∧tyOk Tryz.prog 74=true∧isAg Tryz.prog 74=false∧slEl Tryz.prog 74=some 77∧arEl Tryz.prog 74=none∧Tryz.prog.cellsOf 77=2∧tyOk Tryz.prog 77=true∧isAg Tryz.prog 77=true∧Tryz.prog.bytesOf 77=16∧slEl Tryz.prog 77=none:=by and_intros<;>kernel_rfl
@[simp] theorem ty120:arEl Tryz.prog 77=some (2,3)∧isSt Tryz.prog 77=false∧leafTs Tryz.prog 77=[3,3]∧flatEq Tryz.prog 77=true∧zc Tryz.prog 77=[V.int .i64 0,V.int .i64 0]∧Tryz.prog.cellsOf 79=1∧tyOk Tryz.prog 79=true∧isAg Tryz.prog 79=false∧slEl Tryz.prog 79=some 43∧arEl Tryz.prog 79=none∧Tryz.prog.cellsOf 86=1∧tyOk Tryz.prog 86=true∧isAg Tryz.prog 86=false∧Tryz.prog.cellsOf 91=4∧tyOk Tryz.prog 91=true∧isAg Tryz.prog 91=true∧Tryz.prog.bytesOf 91=32∧arEl Tryz.prog 91=none∧isSt Tryz.prog 91=true∧fldsOk Tryz.prog 91=true∧fld Tryz.prog 91 0=some (0,3)∧fld Tryz.prog 91 1=some (1,3)∧fld Tryz.prog 91 2=some (2,3)∧fld Tryz.prog 91 3=some (3,3)∧zc Tryz.prog 91=[V.int .i64 0,V.int .i64 0,V.int .i64 0,V.int .i64 0]∧Tryz.prog.cellsOf 100=7∧tyOk Tryz.prog 100=true∧isAg Tryz.prog 100=true∧arEl Tryz.prog 100=none∧isSt Tryz.prog 100=true∧fldsOk Tryz.prog 100=true∧fld Tryz.prog 100 0=some (0,41)∧fld Tryz.prog 100 1=some (6,42)∧zc Tryz.prog 100=[V.nil,V.int .i64 0,V.int .i64 0,V.int .i64 0,V.int .i64 0,V.int .i64 0,V.nil]∧Tryz.prog.cellsOf 109=1∧tyOk Tryz.prog 109=true∧isAg Tryz.prog 109=false∧zc Tryz.prog 109=[V.nilf]∧tyOk Tryz.prog 112=true∧arEl Tryz.prog 112=none:=by and_intros<;>kernel_rfl
@[simp] theorem ty160:isSt Tryz.prog 112=true∧fldsOk Tryz.prog 112=true∧zc Tryz.prog 112=[V.int .i64 0,V.int .i64 0,V.int .i64 0]∧Tryz.prog.cellsOf 128=4∧tyOk Tryz.prog 128=true∧isAg Tryz.prog 128=true∧arEl Tryz.prog 128=none∧isSt Tryz.prog 128=true∧fldsOk Tryz.prog 128=true∧fld Tryz.prog 128 0=some (0,3)∧fld Tryz.prog 128 1=some (1,3)∧fld Tryz.prog 128 2=some (2,3)∧fld Tryz.prog 128 3=some (3,3)∧zc Tryz.prog 128=[V.int .i64 0,V.int .i64 0,V.int .i64 0,V.int .i64 0]∧Tryz.prog.cellsOf 143=41∧arEl Tryz.prog 143=none∧isSt Tryz.prog 143=true∧fldsOk Tryz.prog 143=true∧fld Tryz.prog 143 0=some (0,46)∧fld Tryz.prog 143 1=some (39,79)∧fld Tryz.prog 143 2=some (40,43)∧zc Tryz.prog 143=[V.int .i64 0,V.int .i64 0,V.int .i64 0,V.int .i64 0,V.int .i64 0,V.int .i64 0,V.int .i64 0,V.bool false,V.bool false,V.int .i64 0,V.int .i64 0,V.int .i64 0,V.nil,V.nil,V.int .i64 0,V.int .i64 0,V.int .i64 0,V.bool false,V.bool false,V.nil,V.nil,V.nil,V.int .i64 0,V.nil,V.nil,V.nil,V.int .i64 0,V.int .i64 0,V.int .i64 0,V.int .i64 0,V.int .i64 0,V.nil,V.nil,V.nil,V.int .i64 0,V.int .i64 0,V.int .i64 0,V.int .i64 0,V.nil,V.nil,V.nil]∧tyOk Tryz.prog 157=true∧arEl Tryz.prog 157=none∧isSt Tryz.prog 157=true∧fldsOk Tryz.prog 157=true∧zc Tryz.prog 157=[V.int .i64 0,V.int .i64 0,V.int .i64 0]∧tyOk Tryz.prog 159=true∧arEl Tryz.prog 159=none∧isSt Tryz.prog 159=true∧fldsOk Tryz.prog 159=true∧zc Tryz.prog 159=[V.int .i64 0,V.int .i64 0,V.int .i64 0]∧Tryz.prog.cellsOf 165=1∧tyOk Tryz.prog 165=true∧isAg Tryz.prog 165=false∧slEl Tryz.prog 165=some 172∧arEl Tryz.prog 165=none∧Tryz.prog.cellsOf 166=1∧tyOk Tryz.prog 166=true∧isAg Tryz.prog 166=false:=by and_intros<;>kernel_rfl
@[simp] theorem ty200:Tryz.prog.bytesOf 166=24∧slEl Tryz.prog 166=some 4∧arEl Tryz.prog 166=none∧zc Tryz.prog 166=[V.nil]∧Tryz.prog.cellsOf 167=1∧tyOk Tryz.prog 167=true∧isAg Tryz.prog 167=false∧slEl Tryz.prog 167=some 175∧arEl Tryz.prog 167=none∧Tryz.prog.cellsOf 168=1∧tyOk Tryz.prog 168=true∧isAg Tryz.prog 168=false∧slEl Tryz.prog 168=some 240∧arEl Tryz.prog 168=none∧Tryz.prog.cellsOf 170=9∧arEl Tryz.prog 170=none∧isSt Tryz.prog 170=true∧fldsOk Tryz.prog 170=true∧fld Tryz.prog 170 0=some (0,37)∧fld Tryz.prog 170 1=some (4,165)∧fld Tryz.prog 170 2=some (5,166)∧fld Tryz.prog 170 3=some (6,167)∧fld Tryz.prog 170 4=some (7,3)∧fld Tryz.prog 170 5=some (8,168)∧zc Tryz.prog 170=[V.nil,V.nil,V.int .i64 0,V.nil,V.nil,V.nil,V.nil,V.int .i64 0,V.nil]∧Tryz.prog.cellsOf 172=1∧tyOk Tryz.prog 172=true∧isAg Tryz.prog 172=false∧Tryz.prog.bytesOf 172=8∧zc Tryz.prog 172=[V.nilp]∧tyOk Tryz.prog 174=true∧zc Tryz.prog 174=[V.int .i64 0,V.int .i64 0,V.int .i64 0,V.bool false]∧Tryz.prog.cellsOf 175=2∧tyOk Tryz.prog 175=true∧isAg Tryz.prog 175=true∧Tryz.prog.bytesOf 175=16∧slEl Tryz.prog 175=none∧arEl Tryz.prog 175=some (2,3)∧isSt Tryz.prog 175=false∧leafTs Tryz.prog 175=[3,3]:=by and_intros<;>kernel_rfl
@[simp] theorem ty240:flatEq Tryz.prog 175=true∧zc Tryz.prog 175=[V.int .i64 0,V.int .i64 0]∧Tryz.prog.cellsOf 177=8∧arEl Tryz.prog 177=none∧isSt Tryz.prog 177=true∧fldsOk Tryz.prog 177=true∧fld Tryz.prog 177 0=some (0,174)∧fld Tryz.prog 177 1=some (4,175)∧fld Tryz.prog 177 2=some (6,43)∧fld Tryz.prog 177 3=some (7,166)∧zc Tryz.prog 177=[V.int .i64 0,V.int .i64 0,V.int .i64 0,V.bool false,V.int .i64 0,V.int .i64 0,V.nil,V.nil]∧Tryz.prog.cellsOf 196=1∧tyOk Tryz.prog 196=true∧isAg Tryz.prog 196=false∧slEl Tryz.prog 196=some 166∧arEl Tryz.prog 196=none∧Tryz.prog.cellsOf 198=5∧tyOk Tryz.prog 198=true∧isAg Tryz.prog 198=true∧arEl Tryz.prog 198=none∧isSt Tryz.prog 198=true∧fldsOk Tryz.prog 198=true∧fld Tryz.prog 198 0=some (0,74)∧fld Tryz.prog 198 1=some (1,74)∧fld Tryz.prog 198 2=some (2,166)∧fld Tryz.prog 198 3=some (3,79)∧fld Tryz.prog 198 4=some (4,196)∧zc Tryz.prog 198=[V.nil,V.nil,V.nil,V.nil,V.nil]∧tyOk Tryz.prog 206=true∧zc Tryz.prog 206=[V.int .i64 0,V.int .i64 0,V.int .i64 0,V.int .i64 0,V.int .i64 0,V.int .i64 0,V.int .i64 0,V.int .i64 0,V.int .i64 0,V.int .i64 0,V.bool false,V.bool false]∧tyOk Tryz.prog 209=true∧arEl Tryz.prog 209=none∧isSt Tryz.prog 209=true∧fldsOk Tryz.prog 209=true∧zc Tryz.prog 209=[V.int .i64 0,V.int .i64 0,V.int .i64 0,V.bool false,V.bool false]∧tyOk Tryz.prog 211=true∧zc Tryz.prog 211=[V.int .i64 0,V.int .i64 0,V.int .i64 0,V.int .i64 0,V.int .i64 0,V.bool false,V.bool false]∧Tryz.prog.cellsOf 222=16∧arEl Tryz.prog 222=none∧isSt Tryz.prog 222=true:=by and_intros<;>kernel_rfl
@[simp] theorem ty280:fldsOk Tryz.prog 222=true∧fld Tryz.prog 222 0=some (0,29)∧fld Tryz.prog 222 1=some (14,79)∧fld Tryz.prog 222 2=some (15,79)∧zc Tryz.prog 222=[V.int .i64 0,V.int .i64 0,V.int .i64 0,V.int .i64 0,V.int .i64 0,V.int .i64 0,V.int .i64 0,V.bool false,V.bool false,V.int .i64 0,V.int .i64 0,V.int .i64 0,V.nil,V.nil,V.nil,V.nil]∧intK Tryz.prog 229=some .u64∧tyOk Tryz.prog 237=true∧zc Tryz.prog 237=[V.int .i64 0,V.int .i64 0]∧Tryz.prog.cellsOf 240=1∧tyOk Tryz.prog 240=true∧isAg Tryz.prog 240=false∧Tryz.prog.bytesOf 240=24∧slEl Tryz.prog 240=some 303∧arEl Tryz.prog 240=none∧zc Tryz.prog 240=[V.nil]∧slEl Tryz.prog 248=some 23∧arEl Tryz.prog 248=none∧Tryz.prog.cellsOf 269=3∧tyOk Tryz.prog 269=true∧isAg Tryz.prog 269=true∧arEl Tryz.prog 269=none∧isSt Tryz.prog 269=true∧fldsOk Tryz.prog 269=true∧fld Tryz.prog 269 0=some (0,3)∧fld Tryz.prog 269 1=some (1,3)∧fld Tryz.prog 269 2=some (2,3)∧zc Tryz.prog 269=[V.int .i64 0,V.int .i64 0,V.int .i64 0]∧Tryz.prog.cellsOf 272=8∧tyOk Tryz.prog 272=true∧isAg Tryz.prog 272=true∧fld Tryz.prog 272 0=some (0,25)∧zc Tryz.prog 272=[V.int .i64 0,V.int .i64 0,V.int .i64 0,V.int .i64 0,V.int .i64 0,V.int .i64 0,V.bool false,V.bool false]∧isPtr Tryz.prog 277=true∧Tryz.prog.cellsOf 282=2∧arEl Tryz.prog 282=some (2,79)∧isSt Tryz.prog 282=false∧zc Tryz.prog 282=[V.nil,V.nil]∧Tryz.prog.cellsOf 295=1∧tyOk Tryz.prog 295=true∧isAg Tryz.prog 295=false:=by and_intros<;>kernel_rfl
@[simp] theorem ty320:zc Tryz.prog 295=[V.nilf]∧slEl Tryz.prog 296=some 91∧arEl Tryz.prog 296=none∧Tryz.prog.cellsOf 303=6∧Tryz.prog.bytesOf 303=48∧arEl Tryz.prog 303=none∧isSt Tryz.prog 303=true∧fldsOk Tryz.prog 303=true∧fld Tryz.prog 303 0=some (0,3)∧fld Tryz.prog 303 1=some (1,3)∧fld Tryz.prog 303 2=some (2,3)∧fld Tryz.prog 303 3=some (3,3)∧fld Tryz.prog 303 4=some (4,3)∧fld Tryz.prog 303 5=some (5,3)∧zc Tryz.prog 303=[V.int .i64 0,V.int .i64 0,V.int .i64 0,V.int .i64 0,V.int .i64 0,V.int .i64 0]∧slEl Tryz.prog 322=some 23:=by and_intros<;>kernel_rfl
attribute [simp] cz3 ik3 cz4 cz23 cz25 ag25 fd25_0 fd25_1 fd25_2 fd25_3 fd25_4 cz26 se26 cz27 se27 cz29 ag29 fd29_0 fd29_1 fd29_2 fd29_3 fd29_4 fd29_5 fd29_6 cz31 ag31 fd31_0 fd31_1 fd31_2 fd31_3 fd31_4 cz32 se32 cz33 se33 cz34 se34 cz35 se35 cz37 ag37 fd37_0 fd37_1 fd37_2 fd37_3 cz38 se38 cz39 se39 cz41 ag41 fd41_0 fd41_1 fd41_2 fd41_3 fd41_4 fd41_5 cz42 se42 cz43 se43 cz44 se44 cz46 ag46 fd46_0 fd46_1 fd46_2 fd46_3 fd46_4 fd46_5 fd46_6 fd46_7 fd46_8 fd46_9 fd46_10 fd46_11 fd46_12 fd46_13 se47 cz57 ag57 fd57_0 fd57_1 fd57_2 fd57_3 cz59 ag59 fd59_0 fd59_1 fd59_2 fd59_3 fd59_4 cz65 ag65 fd65_0 fd65_1 fd65_2 cz73 ag73 fd73_0 fd73_1 fd73_2 fd73_3 cz112 ag112 fd112_0 fd112_1 fd112_2 cz157 ag157 fd157_0 fd157_1 fd157_2 cz159 ag159 fd159_0 fd159_1 fd159_2 cz174 ag174 fd174_0 fd174_1 fd174_2 fd174_3 cz206 ag206 fd206_0 fd206_1 fd206_2 fd206_3 fd206_4 cz209 ag209 fd209_0 fd209_1 fd209_2 fd209_3 fd209_4 cz211 ag211 fd211_0 fd211_1 fd211_2 cz237 ag237 fd237_0 fd237_1
end Go.Sx.Ty
end
