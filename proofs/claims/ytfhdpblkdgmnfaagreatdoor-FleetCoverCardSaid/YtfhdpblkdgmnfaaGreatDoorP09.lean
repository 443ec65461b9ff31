/- What the walk asks of this seat's types: closed facts. Printed by program. No conditions. -/
import Derived.Test.YtfhdpblkdgmnfaaGreatDoorProg
import Derived.Test.YtfhdpblkdgmnfaaGreatDoorP07
set_option linter.unusedSimpArgs false
set_option linter.unusedVariables false
set_option linter.unusedSectionVars false
set_option maxRecDepth 100000
set_option maxHeartbeats 8000000
noncomputable section
namespace Go.Sx.Ty
open Go.Proofs Go.Sx
abbrev _root_.Go.Sx.FO [aO] (f:FuncId) (S:aB):Prop:=dM Tryz.prog f (.pure S)
theorem by1:Tryz.prog.bytesOf 1=8:=by kernel_rfl
theorem iT:Tryz.prog.cellsOf 3=1:=by kernel_rfl
theorem ag3:cB Tryz.prog 3=false:=by kernel_rfl
theorem ik3:wI Tryz.prog 3=some .i64:=by kernel_rfl
theorem Xg:Tryz.prog.cellsOf 4=1:=by kernel_rfl
theorem Xh:Tryz.prog.cellsOf 23=2:=by kernel_rfl
theorem Xi:Tryz.prog.cellsOf 25=8:=by kernel_rfl
theorem ag7:cB Tryz.prog 25=true:=by kernel_rfl
theorem P9:cG Tryz.prog 25 0=some (0,23):=by kernel_rfl
theorem Qa:cG Tryz.prog 25 1=some (2,23):=by kernel_rfl
theorem Qb:cG Tryz.prog 25 2=some (4,23):=by kernel_rfl
theorem Qc:cG Tryz.prog 25 3=some (6,4):=by kernel_rfl
theorem Qd:cG Tryz.prog 25 4=some (7,4):=by kernel_rfl
theorem ag8:Tryz.prog.cellsOf 26=1:=by kernel_rfl
theorem ag9:cm Tryz.prog 26=some 206:=by kernel_rfl
theorem aha:Tryz.prog.cellsOf 27=1:=by kernel_rfl
theorem ahb:cm Tryz.prog 27=some 211:=by kernel_rfl
theorem ab7:Tryz.prog.cellsOf 29=14:=by kernel_rfl
theorem ahc:cB Tryz.prog 29=true:=by kernel_rfl
theorem Qe:cG Tryz.prog 29 0=some (0,3):=by kernel_rfl
theorem Qf:cG Tryz.prog 29 1=some (1,25):=by kernel_rfl
theorem Qg:cG Tryz.prog 29 2=some (9,3):=by kernel_rfl
theorem Qh:cG Tryz.prog 29 3=some (10,3):=by kernel_rfl
theorem Qi:cG Tryz.prog 29 4=some (11,3):=by kernel_rfl
theorem Qj:cG Tryz.prog 29 5=some (12,26):=by kernel_rfl
theorem Qk:cG Tryz.prog 29 6=some (13,27):=by kernel_rfl
theorem ab8:Tryz.prog.cellsOf 31=5:=by kernel_rfl
theorem ahd:cB Tryz.prog 31=true:=by kernel_rfl
theorem Ql:cG Tryz.prog 31 0=some (0,3):=by kernel_rfl
theorem Qm:cG Tryz.prog 31 1=some (1,3):=by kernel_rfl
theorem Qn:cG Tryz.prog 31 2=some (2,3):=by kernel_rfl
theorem Qo:cG Tryz.prog 31 3=some (3,4):=by kernel_rfl
theorem Qp:cG Tryz.prog 31 4=some (4,4):=by kernel_rfl
theorem ahe:Tryz.prog.cellsOf 32=1:=by kernel_rfl
theorem ahf:cm Tryz.prog 32=some 157:=by kernel_rfl
theorem ahg:Tryz.prog.cellsOf 33=1:=by kernel_rfl
theorem ahh:cm Tryz.prog 33=some 159:=by kernel_rfl
theorem ahi:Tryz.prog.cellsOf 34=1:=by kernel_rfl
theorem ahj:cm Tryz.prog 34=some 174:=by kernel_rfl
theorem ahk:Tryz.prog.cellsOf 35=1:=by kernel_rfl
theorem ahl:cm Tryz.prog 35=some 237:=by kernel_rfl
theorem ab9:Tryz.prog.cellsOf 37=4:=by kernel_rfl
theorem ahm:cB Tryz.prog 37=true:=by kernel_rfl
theorem Qq:cG Tryz.prog 37 0=some (0,33):=by kernel_rfl
theorem Qr:cG Tryz.prog 37 1=some (1,34):=by kernel_rfl
theorem Qs:cG Tryz.prog 37 2=some (2,3):=by kernel_rfl
theorem Qt:cG Tryz.prog 37 3=some (3,35):=by kernel_rfl
theorem ahn:Tryz.prog.cellsOf 38=1:=by kernel_rfl
theorem aho:cm Tryz.prog 38=some 73:=by kernel_rfl
theorem ahp:Tryz.prog.cellsOf 39=1:=by kernel_rfl
theorem ahq:cm Tryz.prog 39=some 112:=by kernel_rfl
theorem acd:Tryz.prog.cellsOf 41=6:=by kernel_rfl
theorem ahr:cB Tryz.prog 41=true:=by kernel_rfl
theorem Qu:cG Tryz.prog 41 0=some (0,39):=by kernel_rfl
theorem Qv:cG Tryz.prog 41 1=some (1,3):=by kernel_rfl
theorem Qw:cG Tryz.prog 41 2=some (2,3):=by kernel_rfl
theorem Qx:cG Tryz.prog 41 3=some (3,3):=by kernel_rfl
theorem Qy:cG Tryz.prog 41 4=some (4,3):=by kernel_rfl
theorem Qz:cG Tryz.prog 41 5=some (5,3):=by kernel_rfl
theorem ahs:Tryz.prog.cellsOf 42=1:=by kernel_rfl
theorem aht:cm Tryz.prog 42=some 65:=by kernel_rfl
theorem ace:Tryz.prog.cellsOf 43=1:=by kernel_rfl
theorem ahu:cm Tryz.prog 43=some 3:=by kernel_rfl
theorem ahv:Tryz.prog.cellsOf 44=1:=by kernel_rfl
theorem ahw:cm Tryz.prog 44=some 59:=by kernel_rfl
theorem ahx:Tryz.prog.cellsOf 46=39:=by kernel_rfl
theorem acf:cB Tryz.prog 46=true:=by kernel_rfl
theorem QB:cG Tryz.prog 46 0=some (0,29):=by kernel_rfl
theorem QC:cG Tryz.prog 46 1=some (14,31):=by kernel_rfl
theorem QD:cG Tryz.prog 46 2=some (19,32):=by kernel_rfl
theorem QE:cG Tryz.prog 46 3=some (20,37):=by kernel_rfl
theorem QF:cG Tryz.prog 46 4=some (24,38):=by kernel_rfl
theorem QG:cG Tryz.prog 46 5=some (25,41):=by kernel_rfl
theorem QH:cG Tryz.prog 46 6=some (31,42):=by kernel_rfl
theorem QI:cG Tryz.prog 46 7=some (32,43):=by kernel_rfl
theorem QJ:cG Tryz.prog 46 8=some (33,43):=by kernel_rfl
theorem QK:cG Tryz.prog 46 9=some (34,3):=by kernel_rfl
theorem JO:cG Tryz.prog 46 10=some (35,3):=by kernel_rfl
theorem JP:cG Tryz.prog 46 11=some (36,3):=by kernel_rfl
theorem JQ:cG Tryz.prog 46 12=some (37,3):=by kernel_rfl
theorem JR:cG Tryz.prog 46 13=some (38,44):=by kernel_rfl
theorem ahy:cm Tryz.prog 47=some 57:=by kernel_rfl
theorem acg:Tryz.prog.cellsOf 57=4:=by kernel_rfl
theorem ahz:cB Tryz.prog 57=true:=by kernel_rfl
theorem QL:cG Tryz.prog 57 0=some (0,3):=by kernel_rfl
theorem QM:cG Tryz.prog 57 1=some (1,3):=by kernel_rfl
theorem QN:cG Tryz.prog 57 2=some (2,3):=by kernel_rfl
theorem QO:cG Tryz.prog 57 3=some (3,3):=by kernel_rfl
theorem ach:Tryz.prog.cellsOf 59=5:=by kernel_rfl
theorem ahA:cB Tryz.prog 59=true:=by kernel_rfl
theorem QS:cG Tryz.prog 59 0=some (0,3):=by kernel_rfl
theorem QT:cG Tryz.prog 59 1=some (1,3):=by kernel_rfl
theorem QU:cG Tryz.prog 59 2=some (2,3):=by kernel_rfl
theorem QV:cG Tryz.prog 59 3=some (3,3):=by kernel_rfl
theorem QW:cG Tryz.prog 59 4=some (4,4):=by kernel_rfl
theorem aci:Tryz.prog.cellsOf 65=3:=by kernel_rfl
theorem ahB:cB Tryz.prog 65=true:=by kernel_rfl
theorem QX:cG Tryz.prog 65 0=some (0,3):=by kernel_rfl
theorem QY:cG Tryz.prog 65 1=some (1,3):=by kernel_rfl
theorem QZ:cG Tryz.prog 65 2=some (2,3):=by kernel_rfl
theorem acj:Tryz.prog.cellsOf 73=4:=by kernel_rfl
theorem ahC:cB Tryz.prog 73=true:=by kernel_rfl
theorem Q0:cG Tryz.prog 73 0=some (0,3):=by kernel_rfl
theorem Q1:cG Tryz.prog 73 1=some (1,3):=by kernel_rfl
theorem Q2:cG Tryz.prog 73 2=some (2,3):=by kernel_rfl
theorem Q3:cG Tryz.prog 73 3=some (3,3):=by kernel_rfl
theorem Q4:Tryz.prog.cellsOf 112=3:=by kernel_rfl
theorem aa7:cB Tryz.prog 112=true:=by kernel_rfl
theorem JS:cG Tryz.prog 112 0=some (0,3):=by kernel_rfl
theorem JT:cG Tryz.prog 112 1=some (1,3):=by kernel_rfl
theorem JU:cG Tryz.prog 112 2=some (2,3):=by kernel_rfl
theorem Q5:Tryz.prog.cellsOf 157=3:=by kernel_rfl
theorem aa8:cB Tryz.prog 157=true:=by kernel_rfl
theorem JV:cG Tryz.prog 157 0=some (0,3):=by kernel_rfl
theorem JW:cG Tryz.prog 157 1=some (1,3):=by kernel_rfl
theorem JX:cG Tryz.prog 157 2=some (2,3):=by kernel_rfl
theorem Q6:Tryz.prog.cellsOf 159=3:=by kernel_rfl
theorem aa9:cB Tryz.prog 159=true:=by kernel_rfl
theorem JY:cG Tryz.prog 159 0=some (0,3):=by kernel_rfl
theorem JZ:cG Tryz.prog 159 1=some (1,3):=by kernel_rfl
theorem J1:cG Tryz.prog 159 2=some (2,3):=by kernel_rfl
theorem Q7:Tryz.prog.cellsOf 174=4:=by kernel_rfl
theorem aba:cB Tryz.prog 174=true:=by kernel_rfl
theorem J2:cG Tryz.prog 174 0=some (0,3):=by kernel_rfl
theorem J3:cG Tryz.prog 174 1=some (1,3):=by kernel_rfl
theorem J4:cG Tryz.prog 174 2=some (2,3):=by kernel_rfl
theorem J5:cG Tryz.prog 174 3=some (3,4):=by kernel_rfl
theorem Q8:Tryz.prog.cellsOf 206=12:=by kernel_rfl
theorem abb:cB Tryz.prog 206=true:=by kernel_rfl
theorem J6:cG Tryz.prog 206 0=some (0,3):=by kernel_rfl
theorem J7:cG Tryz.prog 206 1=some (1,3):=by kernel_rfl
theorem J8:cG Tryz.prog 206 2=some (2,3):=by kernel_rfl
theorem J9:cG Tryz.prog 206 3=some (3,3):=by kernel_rfl
theorem Ka:cG Tryz.prog 206 4=some (4,25):=by kernel_rfl
theorem Q9:Tryz.prog.cellsOf 209=5:=by kernel_rfl
theorem abc:cB Tryz.prog 209=true:=by kernel_rfl
theorem Kb:cG Tryz.prog 209 0=some (0,3):=by kernel_rfl
theorem Kc:cG Tryz.prog 209 1=some (1,3):=by kernel_rfl
theorem Ke:cG Tryz.prog 209 2=some (2,3):=by kernel_rfl
theorem Kf:cG Tryz.prog 209 3=some (3,4):=by kernel_rfl
theorem Kg:cG Tryz.prog 209 4=some (4,4):=by kernel_rfl
theorem Ra:Tryz.prog.cellsOf 211=7:=by kernel_rfl
theorem abe:cB Tryz.prog 211=true:=by kernel_rfl
theorem Kh:cG Tryz.prog 211 0=some (0,3):=by kernel_rfl
theorem Ki:cG Tryz.prog 211 1=some (1,3):=by kernel_rfl
theorem Kj:cG Tryz.prog 211 2=some (2,209):=by kernel_rfl
theorem Rb:Tryz.prog.cellsOf 237=2:=by kernel_rfl
theorem abf:cB Tryz.prog 237=true:=by kernel_rfl
theorem Kk:cG Tryz.prog 237 0=some (0,3):=by kernel_rfl
theorem Kl:cG Tryz.prog 237 1=some (1,3):=by kernel_rfl
@[simp] theorem ty0:cT Tryz.prog 3=true∧Tryz.prog.bytesOf 3=8∧cm Tryz.prog 3=none∧zc Tryz.prog 3=[V.int .i64 0]∧cT Tryz.prog 4=true∧cB Tryz.prog 4=false∧Tryz.prog.bytesOf 4=1∧zc Tryz.prog 4=[V.bool false]∧cT Tryz.prog 23=true∧cB Tryz.prog 23=true∧cS Tryz.prog 23=none∧gE Tryz.prog 23=true∧ar5 Tryz.prog 23=true∧cG Tryz.prog 23 0=some (0,3)∧cG Tryz.prog 23 1=some (1,3)∧nE Tryz.prog 23=[3,3]∧uO Tryz.prog 23=true∧zc Tryz.prog 23=[V.int .i64 0,V.int .i64 0]∧cT Tryz.prog 25=true∧cS Tryz.prog 25=none∧gE Tryz.prog 25=true∧ar5 Tryz.prog 25=true∧zc Tryz.prog 25=[V.int .i64 0,V.int .i64 0,V.int .i64 0,V.int .i64 0,V.int .i64 0,V.int .i64 0,V.bool false,V.bool false]∧cT Tryz.prog 26=true∧cB Tryz.prog 26=false∧cS Tryz.prog 26=none∧cT Tryz.prog 27=true∧cB Tryz.prog 27=false∧cS Tryz.prog 27=none∧cT Tryz.prog 29=true∧cS Tryz.prog 29=none∧gE Tryz.prog 29=true∧ar5 Tryz.prog 29=true∧zc Tryz.prog 29=[V.int .i64 0,V.int .i64 0,V.int .i64 0,V.int .i64 0,V.int .i64 0,V.int .i64 0,V.int .i64 0,V.bool false,V.bool false,V.int .i64 0,V.int .i64 0,V.int .i64 0,V.nil,V.nil]∧cT Tryz.prog 31=true∧cT Tryz.prog 32=true∧cB Tryz.prog 32=false∧cS Tryz.prog 32=none∧cT Tryz.prog 33=true∧cB Tryz.prog 33=false:=by and_intros<;>kernel_rfl
@[simp] theorem arF:cS Tryz.prog 33=none∧cT Tryz.prog 34=true∧cB Tryz.prog 34=false∧cS Tryz.prog 34=none∧cT Tryz.prog 35=true∧cB Tryz.prog 35=false∧cS Tryz.prog 35=none∧cT Tryz.prog 37=true∧cS Tryz.prog 37=none∧gE Tryz.prog 37=true∧ar5 Tryz.prog 37=true∧zc Tryz.prog 37=[V.nil,V.nil,V.int .i64 0,V.nil]∧cT Tryz.prog 38=true∧cB Tryz.prog 38=false∧cS Tryz.prog 38=none∧cT Tryz.prog 39=true∧cB Tryz.prog 39=false∧cS Tryz.prog 39=none∧cT Tryz.prog 41=true∧cS Tryz.prog 41=none∧gE Tryz.prog 41=true∧ar5 Tryz.prog 41=true∧zc Tryz.prog 41=[V.nil,V.int .i64 0,V.int .i64 0,V.int .i64 0,V.int .i64 0,V.int .i64 0]∧cT Tryz.prog 42=true∧cB Tryz.prog 42=false∧cS Tryz.prog 42=none∧cT Tryz.prog 43=true∧cB Tryz.prog 43=false∧Tryz.prog.bytesOf 43=24∧cS Tryz.prog 43=none∧zc Tryz.prog 43=[V.nil]∧cT Tryz.prog 44=true∧cB Tryz.prog 44=false∧cS Tryz.prog 44=none∧cT Tryz.prog 46=true∧cS Tryz.prog 46=none∧gE Tryz.prog 46=true∧ar5 Tryz.prog 46=true∧zc Tryz.prog 46=[V.int .i64 0,V.int .i64 0,V.int .i64 0,V.int .i64 0,V.int .i64 0,V.int .i64 0,V.int .i64 0,V.bool false,V.bool false,V.int .i64 0,V.int .i64 0,V.int .i64 0,V.nil,V.nil,V.int .i64 0,V.int .i64 0,V.int .i64 0,V.bool false,V.bool false,V.nil,V.nil,V.nil,V.int .i64 0,V.nil,V.nil,V.nil,V.int .i64 0,V.int .i64 0,V.int .i64 0,V.int .i64 0,V.int .i64 0,V.nil,V.nil,V.nil,V.int .i64 0,V.int .i64 0,V.int .i64 0,V.int .i64 0,V.nil]∧cS Tryz.prog 47=none:=by and_intros<;>kernel_rfl
@[simp] theorem arG:cT Tryz.prog 57=true∧Tryz.prog.bytesOf 57=32∧zc Tryz.prog 57=[V.int .i64 0,V.int .i64 0,V.int .i64 0,V.int .i64 0]∧cT Tryz.prog 59=true∧cS Tryz.prog 59=none∧gE Tryz.prog 59=true∧ar5 Tryz.prog 59=true∧zc Tryz.prog 59=[V.int .i64 0,V.int .i64 0,V.int .i64 0,V.int .i64 0,V.bool false]∧Tryz.prog.cellsOf 61=4∧cT Tryz.prog 61=true∧cB Tryz.prog 61=true∧cS Tryz.prog 61=none∧gE Tryz.prog 61=true∧ar5 Tryz.prog 61=true∧cG Tryz.prog 61 0=some (0,3)∧cG Tryz.prog 61 1=some (1,3)∧cG Tryz.prog 61 2=some (2,3)∧cG Tryz.prog 61 3=some (3,4)∧zc Tryz.prog 61=[V.int .i64 0,V.int .i64 0,V.int .i64 0,V.bool false]∧cT Tryz.prog 65=true∧Tryz.prog.bytesOf 65=24∧cS Tryz.prog 65=none∧gE Tryz.prog 65=true∧ar5 Tryz.prog 65=true∧zc Tryz.prog 65=[V.int .i64 0,V.int .i64 0,V.int .i64 0]∧cT Tryz.prog 73=true∧Tryz.prog.bytesOf 73=32∧cS Tryz.prog 73=none∧gE Tryz.prog 73=true∧ar5 Tryz.prog 73=true∧zc Tryz.prog 73=[V.int .i64 0,V.int .i64 0,V.int .i64 0,V.int .i64 0]∧Tryz.prog.cellsOf 74=1∧cT Tryz.prog 74=true∧cB Tryz.prog 74=false∧cm Tryz.prog 74=some 77∧cS Tryz.prog 74=none∧Tryz.prog.cellsOf 77=2∧cT Tryz.prog 77=true∧cB Tryz.prog 77=true∧Tryz.prog.bytesOf 77=16:=by and_intros<;>kernel_rfl
@[simp] theorem aqT:cm Tryz.prog 77=none∧cS Tryz.prog 77=some (2,3)∧gE Tryz.prog 77=false∧nE Tryz.prog 77=[3,3]∧uO Tryz.prog 77=true∧zc Tryz.prog 77=[V.int .i64 0,V.int .i64 0]∧Tryz.prog.cellsOf 79=1∧cT Tryz.prog 79=true∧cB Tryz.prog 79=false∧cm Tryz.prog 79=some 43∧cS Tryz.prog 79=none∧Tryz.prog.cellsOf 81=3∧cT Tryz.prog 81=true∧cB Tryz.prog 81=true∧cS Tryz.prog 81=none∧gE Tryz.prog 81=true∧ar5 Tryz.prog 81=true∧cG Tryz.prog 81 0=some (0,43)∧cG Tryz.prog 81 1=some (1,43)∧cG Tryz.prog 81 2=some (2,79)∧zc Tryz.prog 81=[V.nil,V.nil,V.nil]∧Tryz.prog.cellsOf 86=1∧cT Tryz.prog 86=true∧cB Tryz.prog 86=false∧Tryz.prog.cellsOf 91=4∧cT Tryz.prog 91=true∧cB Tryz.prog 91=true∧Tryz.prog.bytesOf 91=32∧cS Tryz.prog 91=none∧gE Tryz.prog 91=true∧ar5 Tryz.prog 91=true∧cG Tryz.prog 91 0=some (0,3)∧cG Tryz.prog 91 1=some (1,3)∧cG Tryz.prog 91 2=some (2,3)∧cG Tryz.prog 91 3=some (3,3)∧zc Tryz.prog 91=[V.int .i64 0,V.int .i64 0,V.int .i64 0,V.int .i64 0]∧Tryz.prog.cellsOf 100=7∧cT Tryz.prog 100=true∧cB Tryz.prog 100=true∧cS Tryz.prog 100=none:=by and_intros<;>kernel_rfl
@[simp] theorem aqU:gE Tryz.prog 100=true∧ar5 Tryz.prog 100=true∧cG Tryz.prog 100 0=some (0,41)∧cG Tryz.prog 100 1=some (6,42)∧zc Tryz.prog 100=[V.nil,V.int .i64 0,V.int .i64 0,V.int .i64 0,V.int .i64 0,V.int .i64 0,V.nil]∧Tryz.prog.cellsOf 109=1∧cT Tryz.prog 109=true∧cB Tryz.prog 109=false∧zc Tryz.prog 109=[V.oN]∧cT Tryz.prog 112=true∧cS Tryz.prog 112=none∧gE Tryz.prog 112=true∧ar5 Tryz.prog 112=true∧zc Tryz.prog 112=[V.int .i64 0,V.int .i64 0,V.int .i64 0]∧EA Tryz.prog 113=true∧Tryz.prog.cellsOf 118=2∧cT Tryz.prog 118=true∧cB Tryz.prog 118=true∧cS Tryz.prog 118=none∧gE Tryz.prog 118=true∧ar5 Tryz.prog 118=true∧cG Tryz.prog 118 0=some (0,3)∧cG Tryz.prog 118 1=some (1,3)∧zc Tryz.prog 118=[V.int .i64 0,V.int .i64 0]∧Tryz.prog.cellsOf 120=4∧cT Tryz.prog 120=true∧cB Tryz.prog 120=true∧cS Tryz.prog 120=none∧gE Tryz.prog 120=true∧ar5 Tryz.prog 120=true∧cG Tryz.prog 120 0=some (0,3)∧cG Tryz.prog 120 1=some (1,3)∧cG Tryz.prog 120 2=some (2,118)∧zc Tryz.prog 120=[V.int .i64 0,V.int .i64 0,V.int .i64 0,V.int .i64 0]∧Tryz.prog.cellsOf 128=4∧cT Tryz.prog 128=true∧cB Tryz.prog 128=true∧cS Tryz.prog 128=none∧gE Tryz.prog 128=true∧ar5 Tryz.prog 128=true:=by and_intros<;>kernel_rfl
@[simp] theorem aqV:cG Tryz.prog 128 0=some (0,3)∧cG Tryz.prog 128 1=some (1,3)∧cG Tryz.prog 128 2=some (2,3)∧cG Tryz.prog 128 3=some (3,3)∧zc Tryz.prog 128=[V.int .i64 0,V.int .i64 0,V.int .i64 0,V.int .i64 0]∧Tryz.prog.cellsOf 143=41∧cS Tryz.prog 143=none∧gE Tryz.prog 143=true∧ar5 Tryz.prog 143=true∧cG Tryz.prog 143 0=some (0,46)∧cG Tryz.prog 143 1=some (39,79)∧cG Tryz.prog 143 2=some (40,43)∧zc Tryz.prog 143=[V.int .i64 0,V.int .i64 0,V.int .i64 0,V.int .i64 0,V.int .i64 0,V.int .i64 0,V.int .i64 0,V.bool false,V.bool false,V.int .i64 0,V.int .i64 0,V.int .i64 0,V.nil,V.nil,V.int .i64 0,V.int .i64 0,V.int .i64 0,V.bool false,V.bool false,V.nil,V.nil,V.nil,V.int .i64 0,V.nil,V.nil,V.nil,V.int .i64 0,V.int .i64 0,V.int .i64 0,V.int .i64 0,V.int .i64 0,V.nil,V.nil,V.nil,V.int .i64 0,V.int .i64 0,V.int .i64 0,V.int .i64 0,V.nil,V.nil,V.nil]∧cT Tryz.prog 157=true∧cS Tryz.prog 157=none∧gE Tryz.prog 157=true∧ar5 Tryz.prog 157=true∧zc Tryz.prog 157=[V.int .i64 0,V.int .i64 0,V.int .i64 0]∧cT Tryz.prog 159=true∧cS Tryz.prog 159=none∧gE Tryz.prog 159=true∧ar5 Tryz.prog 159=true∧zc Tryz.prog 159=[V.int .i64 0,V.int .i64 0,V.int .i64 0]∧Tryz.prog.cellsOf 165=1∧cT Tryz.prog 165=true∧cB Tryz.prog 165=false∧cm Tryz.prog 165=some 172∧cS Tryz.prog 165=none∧Tryz.prog.cellsOf 166=1∧cT Tryz.prog 166=true∧cB Tryz.prog 166=false∧Tryz.prog.bytesOf 166=24∧cm Tryz.prog 166=some 4∧cS Tryz.prog 166=none∧zc Tryz.prog 166=[V.nil]∧Tryz.prog.cellsOf 167=1∧cT Tryz.prog 167=true∧cB Tryz.prog 167=false∧cm Tryz.prog 167=some 175∧cS Tryz.prog 167=none:=by and_intros<;>kernel_rfl
@[simp] theorem aqW:Tryz.prog.cellsOf 168=1∧cT Tryz.prog 168=true∧cB Tryz.prog 168=false∧cm Tryz.prog 168=some 240∧cS Tryz.prog 168=none∧Tryz.prog.cellsOf 170=9∧cS Tryz.prog 170=none∧gE Tryz.prog 170=true∧ar5 Tryz.prog 170=true∧cG Tryz.prog 170 0=some (0,37)∧cG Tryz.prog 170 1=some (4,165)∧cG Tryz.prog 170 2=some (5,166)∧cG Tryz.prog 170 3=some (6,167)∧cG Tryz.prog 170 4=some (7,3)∧cG Tryz.prog 170 5=some (8,168)∧zc Tryz.prog 170=[V.nil,V.nil,V.int .i64 0,V.nil,V.nil,V.nil,V.nil,V.int .i64 0,V.nil]∧Tryz.prog.cellsOf 172=1∧cT Tryz.prog 172=true∧cB Tryz.prog 172=false∧Tryz.prog.bytesOf 172=8∧zc Tryz.prog 172=[V.lg]∧cT Tryz.prog 174=true∧zc Tryz.prog 174=[V.int .i64 0,V.int .i64 0,V.int .i64 0,V.bool false]∧Tryz.prog.cellsOf 175=2∧cT Tryz.prog 175=true∧cB Tryz.prog 175=true∧Tryz.prog.bytesOf 175=16∧cm Tryz.prog 175=none∧cS Tryz.prog 175=some (2,3)∧gE Tryz.prog 175=false∧nE Tryz.prog 175=[3,3]∧uO Tryz.prog 175=true∧zc Tryz.prog 175=[V.int .i64 0,V.int .i64 0]∧Tryz.prog.cellsOf 177=8∧cS Tryz.prog 177=none∧gE Tryz.prog 177=true∧ar5 Tryz.prog 177=true∧cG Tryz.prog 177 0=some (0,174)∧cG Tryz.prog 177 1=some (4,175)∧cG Tryz.prog 177 2=some (6,43):=by and_intros<;>kernel_rfl
@[simp] theorem aqX:cG Tryz.prog 177 3=some (7,166)∧zc Tryz.prog 177=[V.int .i64 0,V.int .i64 0,V.int .i64 0,V.bool false,V.int .i64 0,V.int .i64 0,V.nil,V.nil]∧Tryz.prog.cellsOf 183=1∧cT Tryz.prog 183=true∧cB Tryz.prog 183=false∧cm Tryz.prog 183=some 185∧cS Tryz.prog 183=none∧Tryz.prog.cellsOf 185=8∧cT Tryz.prog 185=true∧cB Tryz.prog 185=true∧Tryz.prog.bytesOf 185=64∧cS Tryz.prog 185=none∧gE Tryz.prog 185=true∧ar5 Tryz.prog 185=true∧cG Tryz.prog 185 0=some (0,57)∧cG Tryz.prog 185 1=some (4,91)∧zc Tryz.prog 185=[V.int .i64 0,V.int .i64 0,V.int .i64 0,V.int .i64 0,V.int .i64 0,V.int .i64 0,V.int .i64 0,V.int .i64 0]∧Tryz.prog.cellsOf 187=4∧cS Tryz.prog 187=none∧gE Tryz.prog 187=true∧ar5 Tryz.prog 187=true∧cG Tryz.prog 187 0=some (0,86)∧cG Tryz.prog 187 1=some (1,183)∧cG Tryz.prog 187 2=some (2,42)∧cG Tryz.prog 187 3=some (3,3)∧zc Tryz.prog 187=[V.lg,V.nil,V.nil,V.int .i64 0]∧Tryz.prog.cellsOf 196=1∧cT Tryz.prog 196=true∧cB Tryz.prog 196=false∧cm Tryz.prog 196=some 166∧cS Tryz.prog 196=none∧Tryz.prog.cellsOf 198=5∧cT Tryz.prog 198=true∧cB Tryz.prog 198=true∧cS Tryz.prog 198=none∧gE Tryz.prog 198=true∧ar5 Tryz.prog 198=true∧cG Tryz.prog 198 0=some (0,74)∧cG Tryz.prog 198 1=some (1,74)∧cG Tryz.prog 198 2=some (2,166):=by and_intros<;>kernel_rfl
@[simp] theorem aqY:cG Tryz.prog 198 3=some (3,79)∧cG Tryz.prog 198 4=some (4,196)∧zc Tryz.prog 198=[V.nil,V.nil,V.nil,V.nil,V.nil]∧cT Tryz.prog 206=true∧zc Tryz.prog 206=[V.int .i64 0,V.int .i64 0,V.int .i64 0,V.int .i64 0,V.int .i64 0,V.int .i64 0,V.int .i64 0,V.int .i64 0,V.int .i64 0,V.int .i64 0,V.bool false,V.bool false]∧cT Tryz.prog 209=true∧cS Tryz.prog 209=none∧gE Tryz.prog 209=true∧ar5 Tryz.prog 209=true∧zc Tryz.prog 209=[V.int .i64 0,V.int .i64 0,V.int .i64 0,V.bool false,V.bool false]∧cT Tryz.prog 211=true∧zc Tryz.prog 211=[V.int .i64 0,V.int .i64 0,V.int .i64 0,V.int .i64 0,V.int .i64 0,V.bool false,V.bool false]∧Tryz.prog.cellsOf 222=16∧cS Tryz.prog 222=none∧gE Tryz.prog 222=true∧ar5 Tryz.prog 222=true∧cG Tryz.prog 222 0=some (0,29)∧cG Tryz.prog 222 1=some (14,79)∧cG Tryz.prog 222 2=some (15,79)∧zc Tryz.prog 222=[V.int .i64 0,V.int .i64 0,V.int .i64 0,V.int .i64 0,V.int .i64 0,V.int .i64 0,V.int .i64 0,V.bool false,V.bool false,V.int .i64 0,V.int .i64 0,V.int .i64 0,V.nil,V.nil,V.nil,V.nil]∧wI Tryz.prog 229=some .u64∧cT Tryz.prog 237=true∧zc Tryz.prog 237=[V.int .i64 0,V.int .i64 0]∧Tryz.prog.cellsOf 240=1∧cT Tryz.prog 240=true∧cB Tryz.prog 240=false∧Tryz.prog.bytesOf 240=24∧cm Tryz.prog 240=some 303∧cS Tryz.prog 240=none∧zc Tryz.prog 240=[V.nil]∧cm Tryz.prog 248=some 23∧cS Tryz.prog 248=none∧Tryz.prog.cellsOf 269=3∧cT Tryz.prog 269=true∧cB Tryz.prog 269=true∧cS Tryz.prog 269=none∧gE Tryz.prog 269=true∧ar5 Tryz.prog 269=true∧cG Tryz.prog 269 0=some (0,3)∧cG Tryz.prog 269 1=some (1,3):=by and_intros<;>kernel_rfl
@[simp] theorem aqZ:cG Tryz.prog 269 2=some (2,3)∧zc Tryz.prog 269=[V.int .i64 0,V.int .i64 0,V.int .i64 0]∧Tryz.prog.cellsOf 272=8∧cT Tryz.prog 272=true∧cB Tryz.prog 272=true∧cG Tryz.prog 272 0=some (0,25)∧zc Tryz.prog 272=[V.int .i64 0,V.int .i64 0,V.int .i64 0,V.int .i64 0,V.int .i64 0,V.int .i64 0,V.bool false,V.bool false]∧EA Tryz.prog 277=true∧Tryz.prog.cellsOf 282=2∧cS Tryz.prog 282=some (2,79)∧gE Tryz.prog 282=false∧zc Tryz.prog 282=[V.nil,V.nil]∧Tryz.prog.cellsOf 295=1∧cT Tryz.prog 295=true∧cB Tryz.prog 295=false∧zc Tryz.prog 295=[V.oN]∧cm Tryz.prog 296=some 91∧cS Tryz.prog 296=none∧Tryz.prog.cellsOf 303=6∧Tryz.prog.bytesOf 303=48∧cS Tryz.prog 303=none∧gE Tryz.prog 303=true∧ar5 Tryz.prog 303=true∧cG Tryz.prog 303 0=some (0,3)∧cG Tryz.prog 303 1=some (1,3)∧cG Tryz.prog 303 2=some (2,3)∧cG Tryz.prog 303 3=some (3,3)∧cG Tryz.prog 303 4=some (4,3)∧cG Tryz.prog 303 5=some (5,3)∧zc Tryz.prog 303=[V.int .i64 0,V.int .i64 0,V.int .i64 0,V.int .i64 0,V.int .i64 0,V.int .i64 0]∧cm Tryz.prog 322=some 23:=by and_intros<;>kernel_rfl
attribute [simp] by1 iT ag3 ik3 Xg Xh Xi ag7 P9 Qa Qb Qc Qd ag8 ag9 aha ahb ab7 ahc Qe Qf Qg Qh Qi Qj Qk ab8 ahd Ql Qm Qn Qo Qp ahe ahf ahg ahh ahi ahj ahk ahl ab9 ahm Qq Qr Qs Qt ahn aho ahp ahq acd ahr Qu Qv Qw Qx Qy Qz ahs aht ace ahu ahv ahw ahx acf QB QC QD QE QF QG QH QI QJ QK JO JP JQ JR ahy acg ahz QL QM QN QO ach ahA QS QT QU QV QW aci ahB QX QY QZ acj ahC Q0 Q1 Q2 Q3 Q4 aa7 JS JT JU Q5 aa8 JV JW JX Q6 aa9 JY JZ J1 Q7 aba J2 J3 J4 J5 Q8 abb J6 J7 J8 J9 Ka Q9 abc Kb Kc Ke Kf Kg Ra abe Kh Ki Kj Rb abf Kk Kl
end Go.Sx.Ty
end
