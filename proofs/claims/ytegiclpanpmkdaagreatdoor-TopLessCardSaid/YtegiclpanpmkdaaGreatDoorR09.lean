/- What the walk asks of this seat's types: closed facts. Printed by program. No conditions. -/
import Derived.Test.YtegiclpanpmkdaaGreatDoorProg
import Derived.Test.YtegiclpanpmkdaaGreatDoorR07
set_option linter.all false
set_option maxRecDepth 100000
set_option maxHeartbeats 8000000
noncomputable section
namespace Go.Sx.Ty
open Go.Proofs Go.Sx
abbrev _root_.Go.Sx.FO[aO](f:FuncId)(S:aB):Prop:=dM Tryz.prog f (.pure S)
@[simp] noncomputable abbrev _root_.Go.Sx.EV[aO](l:List (Nat × Spec))(o:List Nat)(k n:Nat)(z:List (Nat × List Nat):=[]):Env:={P:=Tryz.prog,fn:=bf l,own:=o,key:=k,nt:=n,jQ:=z}
theorem by1:Tryz.prog.bytesOf 1=8:=by kernel_rfl
theorem iT:Tryz.prog.cellsOf 3=1:=by kernel_rfl
theorem ik3:wI Tryz.prog 3=some .i64:=by kernel_rfl
theorem Xg:Tryz.prog.cellsOf 4=1:=by kernel_rfl
theorem Xh:Tryz.prog.cellsOf 23=2:=by kernel_rfl
theorem Xi:Tryz.prog.cellsOf 25=8:=by kernel_rfl
theorem ag7:cB Tryz.prog 25=true:=by kernel_rfl
theorem P9:cG Tryz.prog 25 0=some (0,23):=by kernel_rfl
theorem Qa:cG Tryz.prog 25 1=some (2,23):=by kernel_rfl
theorem Qb:cG Tryz.prog 25 2=some (4,23):=by kernel_rfl
theorem Qc:cG Tryz.prog 25 3=some (6,4):=by kernel_rfl
theorem Qd:cG Tryz.prog 25 4=some (7,4):=by kernel_rfl
theorem ag8:Tryz.prog.cellsOf 26=1:=by kernel_rfl
theorem ag9:cm Tryz.prog 26=some 77:=by kernel_rfl
theorem aha:Tryz.prog.cellsOf 27=1:=by kernel_rfl
theorem ahb:cm Tryz.prog 27=some 80:=by kernel_rfl
theorem ab7:Tryz.prog.cellsOf 29=14:=by kernel_rfl
theorem ahc:cB Tryz.prog 29=true:=by kernel_rfl
theorem Qe:cG Tryz.prog 29 0=some (0,3):=by kernel_rfl
theorem Qf:cG Tryz.prog 29 1=some (1,25):=by kernel_rfl
theorem Qg:cG Tryz.prog 29 2=some (9,3):=by kernel_rfl
theorem Qh:cG Tryz.prog 29 3=some (10,3):=by kernel_rfl
theorem Qi:cG Tryz.prog 29 4=some (11,3):=by kernel_rfl
theorem Qj:cG Tryz.prog 29 5=some (12,26):=by kernel_rfl
theorem Qk:cG Tryz.prog 29 6=some (13,27):=by kernel_rfl
theorem ab8:Tryz.prog.cellsOf 31=5:=by kernel_rfl
theorem ahd:cB Tryz.prog 31=true:=by kernel_rfl
theorem Ql:cG Tryz.prog 31 0=some (0,3):=by kernel_rfl
theorem Qm:cG Tryz.prog 31 1=some (1,3):=by kernel_rfl
theorem Qn:cG Tryz.prog 31 2=some (2,3):=by kernel_rfl
theorem Qo:cG Tryz.prog 31 3=some (3,4):=by kernel_rfl
theorem Qp:cG Tryz.prog 31 4=some (4,4):=by kernel_rfl
theorem ahe:Tryz.prog.cellsOf 32=1:=by kernel_rfl
theorem ahf:cm Tryz.prog 32=some 164:=by kernel_rfl
theorem ahg:Tryz.prog.cellsOf 33=1:=by kernel_rfl
theorem ahh:cm Tryz.prog 33=some 166:=by kernel_rfl
theorem ahi:Tryz.prog.cellsOf 34=1:=by kernel_rfl
theorem ahj:cm Tryz.prog 34=some 153:=by kernel_rfl
theorem ahk:Tryz.prog.cellsOf 35=1:=by kernel_rfl
theorem ahl:cm Tryz.prog 35=some 258:=by kernel_rfl
theorem ab9:Tryz.prog.cellsOf 37=4:=by kernel_rfl
theorem ahm:cB Tryz.prog 37=true:=by kernel_rfl
theorem Qq:cG Tryz.prog 37 0=some (0,33):=by kernel_rfl
theorem Qr:cG Tryz.prog 37 1=some (1,34):=by kernel_rfl
theorem Qs:cG Tryz.prog 37 2=some (2,3):=by kernel_rfl
theorem Qt:cG Tryz.prog 37 3=some (3,35):=by kernel_rfl
theorem ahn:Tryz.prog.cellsOf 38=1:=by kernel_rfl
theorem aho:cm Tryz.prog 38=some 86:=by kernel_rfl
theorem ahp:Tryz.prog.cellsOf 39=1:=by kernel_rfl
theorem ahq:cm Tryz.prog 39=some 168:=by kernel_rfl
theorem acd:Tryz.prog.cellsOf 41=6:=by kernel_rfl
theorem ahr:cB Tryz.prog 41=true:=by kernel_rfl
theorem Qu:cG Tryz.prog 41 0=some (0,39):=by kernel_rfl
theorem Qv:cG Tryz.prog 41 1=some (1,3):=by kernel_rfl
theorem Qw:cG Tryz.prog 41 2=some (2,3):=by kernel_rfl
theorem Qx:cG Tryz.prog 41 3=some (3,3):=by kernel_rfl
theorem Qy:cG Tryz.prog 41 4=some (4,3):=by kernel_rfl
theorem Qz:cG Tryz.prog 41 5=some (5,3):=by kernel_rfl
theorem ahs:Tryz.prog.cellsOf 42=1:=by kernel_rfl
theorem aht:cm Tryz.prog 42=some 200:=by kernel_rfl
theorem ace:Tryz.prog.cellsOf 43=1:=by kernel_rfl
theorem ahu:cm Tryz.prog 43=some 3:=by kernel_rfl
theorem ahv:Tryz.prog.cellsOf 44=1:=by kernel_rfl
theorem ahw:cm Tryz.prog 44=some 54:=by kernel_rfl
theorem ahx:Tryz.prog.cellsOf 46=39:=by kernel_rfl
theorem acf:cB Tryz.prog 46=true:=by kernel_rfl
theorem QB:cG Tryz.prog 46 0=some (0,29):=by kernel_rfl
theorem QC:cG Tryz.prog 46 1=some (14,31):=by kernel_rfl
theorem QD:cG Tryz.prog 46 2=some (19,32):=by kernel_rfl
theorem QE:cG Tryz.prog 46 3=some (20,37):=by kernel_rfl
theorem QF:cG Tryz.prog 46 4=some (24,38):=by kernel_rfl
theorem QG:cG Tryz.prog 46 5=some (25,41):=by kernel_rfl
theorem QH:cG Tryz.prog 46 6=some (31,42):=by kernel_rfl
theorem QI:cG Tryz.prog 46 7=some (32,43):=by kernel_rfl
theorem QJ:cG Tryz.prog 46 8=some (33,43):=by kernel_rfl
theorem QK:cG Tryz.prog 46 9=some (34,3):=by kernel_rfl
theorem JO:cG Tryz.prog 46 10=some (35,3):=by kernel_rfl
theorem JP:cG Tryz.prog 46 11=some (36,3):=by kernel_rfl
theorem JQ:cG Tryz.prog 46 12=some (37,3):=by kernel_rfl
theorem JR:cG Tryz.prog 46 13=some (38,44):=by kernel_rfl
theorem ahy:cm Tryz.prog 47=some 56:=by kernel_rfl
theorem ayR:Tryz.prog.cellsOf 54=5:=by kernel_rfl
theorem azy:cB Tryz.prog 54=true:=by kernel_rfl
theorem aw2:cG Tryz.prog 54 0=some (0,3):=by kernel_rfl
theorem aw3:cG Tryz.prog 54 1=some (1,3):=by kernel_rfl
theorem aw4:cG Tryz.prog 54 2=some (2,3):=by kernel_rfl
theorem aw5:cG Tryz.prog 54 3=some (3,3):=by kernel_rfl
theorem aw6:cG Tryz.prog 54 4=some (4,4):=by kernel_rfl
theorem ayS:Tryz.prog.cellsOf 56=4:=by kernel_rfl
theorem azz:cB Tryz.prog 56=true:=by kernel_rfl
theorem aw7:cG Tryz.prog 56 0=some (0,3):=by kernel_rfl
theorem aw8:cG Tryz.prog 56 1=some (1,3):=by kernel_rfl
theorem aw9:cG Tryz.prog 56 2=some (2,3):=by kernel_rfl
theorem axa:cG Tryz.prog 56 3=some (3,3):=by kernel_rfl
theorem ayT:Tryz.prog.cellsOf 77=12:=by kernel_rfl
theorem azA:cB Tryz.prog 77=true:=by kernel_rfl
theorem axb:cG Tryz.prog 77 0=some (0,3):=by kernel_rfl
theorem axc:cG Tryz.prog 77 1=some (1,3):=by kernel_rfl
theorem axd:cG Tryz.prog 77 2=some (2,3):=by kernel_rfl
theorem axe:cG Tryz.prog 77 3=some (3,3):=by kernel_rfl
theorem axf:cG Tryz.prog 77 4=some (4,25):=by kernel_rfl
theorem ayU:Tryz.prog.cellsOf 78=5:=by kernel_rfl
theorem azB:cB Tryz.prog 78=true:=by kernel_rfl
theorem axg:cG Tryz.prog 78 0=some (0,3):=by kernel_rfl
theorem axh:cG Tryz.prog 78 1=some (1,3):=by kernel_rfl
theorem axi:cG Tryz.prog 78 2=some (2,3):=by kernel_rfl
theorem axj:cG Tryz.prog 78 3=some (3,4):=by kernel_rfl
theorem axk:cG Tryz.prog 78 4=some (4,4):=by kernel_rfl
theorem ayV:Tryz.prog.cellsOf 80=7:=by kernel_rfl
theorem azC:cB Tryz.prog 80=true:=by kernel_rfl
theorem axl:cG Tryz.prog 80 0=some (0,3):=by kernel_rfl
theorem axm:cG Tryz.prog 80 1=some (1,3):=by kernel_rfl
theorem axn:cG Tryz.prog 80 2=some (2,78):=by kernel_rfl
theorem ayW:Tryz.prog.cellsOf 86=4:=by kernel_rfl
theorem azD:cB Tryz.prog 86=true:=by kernel_rfl
theorem axo:cG Tryz.prog 86 0=some (0,3):=by kernel_rfl
theorem axp:cG Tryz.prog 86 1=some (1,3):=by kernel_rfl
theorem axq:cG Tryz.prog 86 2=some (2,3):=by kernel_rfl
theorem axr:cG Tryz.prog 86 3=some (3,3):=by kernel_rfl
theorem axt:Tryz.prog.cellsOf 153=4:=by kernel_rfl
theorem ayf:cB Tryz.prog 153=true:=by kernel_rfl
theorem avR:cG Tryz.prog 153 0=some (0,3):=by kernel_rfl
theorem avS:cG Tryz.prog 153 1=some (1,3):=by kernel_rfl
theorem avT:cG Tryz.prog 153 2=some (2,3):=by kernel_rfl
theorem avU:cG Tryz.prog 153 3=some (3,4):=by kernel_rfl
theorem axu:Tryz.prog.cellsOf 164=3:=by kernel_rfl
theorem ayg:cB Tryz.prog 164=true:=by kernel_rfl
theorem avV:cG Tryz.prog 164 0=some (0,3):=by kernel_rfl
theorem avW:cG Tryz.prog 164 1=some (1,3):=by kernel_rfl
theorem avX:cG Tryz.prog 164 2=some (2,3):=by kernel_rfl
theorem axv:Tryz.prog.cellsOf 166=3:=by kernel_rfl
theorem ayh:cB Tryz.prog 166=true:=by kernel_rfl
theorem avY:cG Tryz.prog 166 0=some (0,3):=by kernel_rfl
theorem avZ:cG Tryz.prog 166 1=some (1,3):=by kernel_rfl
theorem av0:cG Tryz.prog 166 2=some (2,3):=by kernel_rfl
theorem axw:Tryz.prog.cellsOf 168=3:=by kernel_rfl
theorem ayi:cB Tryz.prog 168=true:=by kernel_rfl
theorem av1:cG Tryz.prog 168 0=some (0,3):=by kernel_rfl
theorem av2:cG Tryz.prog 168 1=some (1,3):=by kernel_rfl
theorem av3:cG Tryz.prog 168 2=some (2,3):=by kernel_rfl
theorem axx:Tryz.prog.cellsOf 200=3:=by kernel_rfl
theorem ayj:cB Tryz.prog 200=true:=by kernel_rfl
theorem av4:cG Tryz.prog 200 0=some (0,3):=by kernel_rfl
theorem av5:cG Tryz.prog 200 1=some (1,3):=by kernel_rfl
theorem av6:cG Tryz.prog 200 2=some (2,3):=by kernel_rfl
theorem axy:Tryz.prog.cellsOf 258=2:=by kernel_rfl
theorem ayk:cB Tryz.prog 258=true:=by kernel_rfl
theorem av7:cG Tryz.prog 258 0=some (0,3):=by kernel_rfl
theorem av8:cG Tryz.prog 258 1=some (1,3):=by kernel_rfl
@[simp] theorem ty0:cT Tryz.prog 3=true/\cB Tryz.prog 3=false/\Tryz.prog.bytesOf 3=8/\cm Tryz.prog 3=none/\zc Tryz.prog 3=[V.int .i64 0]/\cT Tryz.prog 4=true/\cB Tryz.prog 4=false/\Tryz.prog.bytesOf 4=1/\zc Tryz.prog 4=[V.bool false]/\cT Tryz.prog 23=true/\cB Tryz.prog 23=true/\cS Tryz.prog 23=none/\gE Tryz.prog 23=true/\ar5 Tryz.prog 23=true/\cG Tryz.prog 23 0=some (0,3)/\cG Tryz.prog 23 1=some (1,3)/\nE Tryz.prog 23=[3,3]/\uO Tryz.prog 23=true/\zc Tryz.prog 23=[V.int .i64 0,V.int .i64 0]/\cT Tryz.prog 25=true/\cS Tryz.prog 25=none/\gE Tryz.prog 25=true/\ar5 Tryz.prog 25=true/\zc Tryz.prog 25=[V.int .i64 0,V.int .i64 0,V.int .i64 0,V.int .i64 0,V.int .i64 0,V.int .i64 0,V.bool false,V.bool false]/\cT Tryz.prog 26=true/\cB Tryz.prog 26=false/\cS Tryz.prog 26=none/\cT Tryz.prog 27=true/\cB Tryz.prog 27=false/\cS Tryz.prog 27=none/\cT Tryz.prog 29=true/\cT Tryz.prog 31=true/\cT Tryz.prog 32=true/\cB Tryz.prog 32=false/\cS Tryz.prog 32=none/\cT Tryz.prog 33=true/\cB Tryz.prog 33=false/\cS Tryz.prog 33=none/\cT Tryz.prog 34=true/\cB Tryz.prog 34=false:=by and_intros<;>kernel_rfl
@[simp] theorem arF:cS Tryz.prog 34=none/\cT Tryz.prog 35=true/\cB Tryz.prog 35=false/\cS Tryz.prog 35=none/\cT Tryz.prog 37=true/\cT Tryz.prog 38=true/\cB Tryz.prog 38=false/\cS Tryz.prog 38=none/\cT Tryz.prog 39=true/\cB Tryz.prog 39=false/\cS Tryz.prog 39=none/\cT Tryz.prog 41=true/\cT Tryz.prog 42=true/\cB Tryz.prog 42=false/\cS Tryz.prog 42=none/\cT Tryz.prog 43=true/\cB Tryz.prog 43=false/\Tryz.prog.bytesOf 43=24/\cS Tryz.prog 43=none/\zc Tryz.prog 43=[V.nil]/\cT Tryz.prog 44=true/\cB Tryz.prog 44=false/\cS Tryz.prog 44=none/\cT Tryz.prog 46=true/\zc Tryz.prog 46=[V.int .i64 0,V.int .i64 0,V.int .i64 0,V.int .i64 0,V.int .i64 0,V.int .i64 0,V.int .i64 0,V.bool false,V.bool false,V.int .i64 0,V.int .i64 0,V.int .i64 0,V.nil,V.nil,V.int .i64 0,V.int .i64 0,V.int .i64 0,V.bool false,V.bool false,V.nil,V.nil,V.nil,V.int .i64 0,V.nil,V.nil,V.nil,V.int .i64 0,V.int .i64 0,V.int .i64 0,V.int .i64 0,V.int .i64 0,V.nil,V.nil,V.nil,V.int .i64 0,V.int .i64 0,V.int .i64 0,V.int .i64 0,V.nil]/\cS Tryz.prog 47=none/\cT Tryz.prog 54=true/\zc Tryz.prog 54=[V.int .i64 0,V.int .i64 0,V.int .i64 0,V.int .i64 0,V.bool false]/\cT Tryz.prog 56=true/\Tryz.prog.bytesOf 56=32/\cS Tryz.prog 56=none/\gE Tryz.prog 56=true/\ar5 Tryz.prog 56=true/\zc Tryz.prog 56=[V.int .i64 0,V.int .i64 0,V.int .i64 0,V.int .i64 0]/\Tryz.prog.cellsOf 57=1/\cT Tryz.prog 57=true/\cB Tryz.prog 57=false/\cm Tryz.prog 57=some 43/\cS Tryz.prog 57=none/\cT Tryz.prog 77=true:=by and_intros<;>kernel_rfl
@[simp] theorem arG:Tryz.prog.bytesOf 77=88/\zc Tryz.prog 77=[V.int .i64 0,V.int .i64 0,V.int .i64 0,V.int .i64 0,V.int .i64 0,V.int .i64 0,V.int .i64 0,V.int .i64 0,V.int .i64 0,V.int .i64 0,V.bool false,V.bool false]/\cT Tryz.prog 78=true/\cS Tryz.prog 78=none/\gE Tryz.prog 78=true/\ar5 Tryz.prog 78=true/\zc Tryz.prog 78=[V.int .i64 0,V.int .i64 0,V.int .i64 0,V.bool false,V.bool false]/\cT Tryz.prog 80=true/\zc Tryz.prog 80=[V.int .i64 0,V.int .i64 0,V.int .i64 0,V.int .i64 0,V.int .i64 0,V.bool false,V.bool false]/\cT Tryz.prog 86=true/\Tryz.prog.bytesOf 86=32/\cS Tryz.prog 86=none/\gE Tryz.prog 86=true/\ar5 Tryz.prog 86=true/\zc Tryz.prog 86=[V.int .i64 0,V.int .i64 0,V.int .i64 0,V.int .i64 0]/\Tryz.prog.cellsOf 87=1/\cT Tryz.prog 87=true/\cB Tryz.prog 87=false/\cm Tryz.prog 87=some 90/\cS Tryz.prog 87=none/\Tryz.prog.cellsOf 90=2/\cT Tryz.prog 90=true/\cB Tryz.prog 90=true/\Tryz.prog.bytesOf 90=16/\cm Tryz.prog 90=none/\cS Tryz.prog 90=some (2,3)/\gE Tryz.prog 90=false/\nE Tryz.prog 90=[3,3]/\uO Tryz.prog 90=true/\zc Tryz.prog 90=[V.int .i64 0,V.int .i64 0]/\Tryz.prog.cellsOf 95=1/\cT Tryz.prog 95=true/\cB Tryz.prog 95=false/\EA Tryz.prog 95=true/\zc Tryz.prog 95=[V.lg]/\Tryz.prog.cellsOf 98=1/\cT Tryz.prog 98=true/\cB Tryz.prog 98=false/\Tryz.prog.cellsOf 99=1/\cT Tryz.prog 99=true:=by and_intros<;>kernel_rfl
@[simp] theorem aqT:cB Tryz.prog 99=false/\cm Tryz.prog 99=some 186/\cS Tryz.prog 99=none/\Tryz.prog.cellsOf 101=4/\cS Tryz.prog 101=none/\gE Tryz.prog 101=true/\ar5 Tryz.prog 101=true/\cG Tryz.prog 101 0=some (0,98)/\cG Tryz.prog 101 1=some (1,99)/\cG Tryz.prog 101 2=some (2,42)/\cG Tryz.prog 101 3=some (3,3)/\zc Tryz.prog 101=[V.lg,V.nil,V.nil,V.int .i64 0]/\Tryz.prog.cellsOf 106=16/\cS Tryz.prog 106=none/\gE Tryz.prog 106=true/\ar5 Tryz.prog 106=true/\cG Tryz.prog 106 0=some (0,29)/\cG Tryz.prog 106 1=some (14,57)/\cG Tryz.prog 106 2=some (15,57)/\zc Tryz.prog 106=[V.int .i64 0,V.int .i64 0,V.int .i64 0,V.int .i64 0,V.int .i64 0,V.int .i64 0,V.int .i64 0,V.bool false,V.bool false,V.int .i64 0,V.int .i64 0,V.int .i64 0,V.nil,V.nil,V.nil,V.nil]/\Tryz.prog.cellsOf 111=4/\cT Tryz.prog 111=true/\cB Tryz.prog 111=true/\cS Tryz.prog 111=none/\gE Tryz.prog 111=true/\ar5 Tryz.prog 111=true/\cG Tryz.prog 111 0=some (0,3)/\cG Tryz.prog 111 1=some (1,3)/\cG Tryz.prog 111 2=some (2,3)/\cG Tryz.prog 111 3=some (3,3)/\zc Tryz.prog 111=[V.int .i64 0,V.int .i64 0,V.int .i64 0,V.int .i64 0]/\Tryz.prog.cellsOf 131=3/\cT Tryz.prog 131=true/\cB Tryz.prog 131=true/\cS Tryz.prog 131=none/\gE Tryz.prog 131=true/\ar5 Tryz.prog 131=true/\cG Tryz.prog 131 0=some (0,43)/\cG Tryz.prog 131 1=some (1,43)/\cG Tryz.prog 131 2=some (2,57):=by and_intros<;>kernel_rfl
@[simp] theorem aqU:zc Tryz.prog 131=[V.nil,V.nil,V.nil]/\Tryz.prog.cellsOf 134=1/\cT Tryz.prog 134=true/\cB Tryz.prog 134=false/\zc Tryz.prog 134=[V.oN]/\Tryz.prog.cellsOf 144=3/\cT Tryz.prog 144=true/\cB Tryz.prog 144=true/\cS Tryz.prog 144=none/\gE Tryz.prog 144=true/\ar5 Tryz.prog 144=true/\cG Tryz.prog 144 0=some (0,3)/\cG Tryz.prog 144 1=some (1,3)/\cG Tryz.prog 144 2=some (2,3)/\zc Tryz.prog 144=[V.int .i64 0,V.int .i64 0,V.int .i64 0]/\Tryz.prog.cellsOf 147=8/\cT Tryz.prog 147=true/\cB Tryz.prog 147=true/\cG Tryz.prog 147 0=some (0,25)/\zc Tryz.prog 147=[V.int .i64 0,V.int .i64 0,V.int .i64 0,V.int .i64 0,V.int .i64 0,V.int .i64 0,V.bool false,V.bool false]/\Tryz.prog.cellsOf 151=1/\cT Tryz.prog 151=true/\cB Tryz.prog 151=false/\Tryz.prog.bytesOf 151=8/\zc Tryz.prog 151=[V.lg]/\cT Tryz.prog 153=true/\zc Tryz.prog 153=[V.int .i64 0,V.int .i64 0,V.int .i64 0,V.bool false]/\Tryz.prog.cellsOf 154=2/\cT Tryz.prog 154=true/\cB Tryz.prog 154=true/\Tryz.prog.bytesOf 154=16/\cm Tryz.prog 154=none/\cS Tryz.prog 154=some (2,3)/\gE Tryz.prog 154=false/\nE Tryz.prog 154=[3,3]/\uO Tryz.prog 154=true/\zc Tryz.prog 154=[V.int .i64 0,V.int .i64 0]/\Tryz.prog.cellsOf 155=1/\cT Tryz.prog 155=true/\cB Tryz.prog 155=false:=by and_intros<;>kernel_rfl
@[simp] theorem aqV:Tryz.prog.bytesOf 155=24/\cm Tryz.prog 155=some 4/\cS Tryz.prog 155=none/\zc Tryz.prog 155=[V.nil]/\Tryz.prog.cellsOf 157=8/\cS Tryz.prog 157=none/\gE Tryz.prog 157=true/\ar5 Tryz.prog 157=true/\cG Tryz.prog 157 0=some (0,153)/\cG Tryz.prog 157 1=some (4,154)/\cG Tryz.prog 157 2=some (6,43)/\cG Tryz.prog 157 3=some (7,155)/\zc Tryz.prog 157=[V.int .i64 0,V.int .i64 0,V.int .i64 0,V.bool false,V.int .i64 0,V.int .i64 0,V.nil,V.nil]/\cT Tryz.prog 164=true/\zc Tryz.prog 164=[V.int .i64 0,V.int .i64 0,V.int .i64 0]/\cT Tryz.prog 166=true/\zc Tryz.prog 166=[V.int .i64 0,V.int .i64 0,V.int .i64 0]/\cT Tryz.prog 168=true/\zc Tryz.prog 168=[V.int .i64 0,V.int .i64 0,V.int .i64 0]/\EA Tryz.prog 169=true/\Tryz.prog.cellsOf 174=2/\cS Tryz.prog 174=some (2,57)/\gE Tryz.prog 174=false/\zc Tryz.prog 174=[V.nil,V.nil]/\Tryz.prog.cellsOf 179=41/\cS Tryz.prog 179=none/\gE Tryz.prog 179=true/\ar5 Tryz.prog 179=true/\cG Tryz.prog 179 0=some (0,46)/\cG Tryz.prog 179 1=some (39,57)/\cG Tryz.prog 179 2=some (40,43)/\zc Tryz.prog 179=[V.int .i64 0,V.int .i64 0,V.int .i64 0,V.int .i64 0,V.int .i64 0,V.int .i64 0,V.int .i64 0,V.bool false,V.bool false,V.int .i64 0,V.int .i64 0,V.int .i64 0,V.nil,V.nil,V.int .i64 0,V.int .i64 0,V.int .i64 0,V.bool false,V.bool false,V.nil,V.nil,V.nil,V.int .i64 0,V.nil,V.nil,V.nil,V.int .i64 0,V.int .i64 0,V.int .i64 0,V.int .i64 0,V.int .i64 0,V.nil,V.nil,V.nil,V.int .i64 0,V.int .i64 0,V.int .i64 0,V.int .i64 0,V.nil,V.nil,V.nil]/\Tryz.prog.cellsOf 182=1/\cT Tryz.prog 182=true/\cB Tryz.prog 182=false/\zc Tryz.prog 182=[V.oN]/\Tryz.prog.cellsOf 186=8/\cT Tryz.prog 186=true/\cB Tryz.prog 186=true/\Tryz.prog.bytesOf 186=64:=by and_intros<;>kernel_rfl
@[simp] theorem aqW:cS Tryz.prog 186=none/\gE Tryz.prog 186=true/\ar5 Tryz.prog 186=true/\cG Tryz.prog 186 0=some (0,56)/\cG Tryz.prog 186 1=some (4,111)/\zc Tryz.prog 186=[V.int .i64 0,V.int .i64 0,V.int .i64 0,V.int .i64 0,V.int .i64 0,V.int .i64 0,V.int .i64 0,V.int .i64 0]/\Tryz.prog.cellsOf 191=1/\cT Tryz.prog 191=true/\cB Tryz.prog 191=false/\cm Tryz.prog 191=some 155/\cS Tryz.prog 191=none/\Tryz.prog.cellsOf 193=5/\cT Tryz.prog 193=true/\cB Tryz.prog 193=true/\cS Tryz.prog 193=none/\gE Tryz.prog 193=true/\ar5 Tryz.prog 193=true/\cG Tryz.prog 193 0=some (0,87)/\cG Tryz.prog 193 1=some (1,87)/\cG Tryz.prog 193 2=some (2,155)/\cG Tryz.prog 193 3=some (3,57)/\cG Tryz.prog 193 4=some (4,191)/\zc Tryz.prog 193=[V.nil,V.nil,V.nil,V.nil,V.nil]/\cT Tryz.prog 200=true/\Tryz.prog.bytesOf 200=24/\cS Tryz.prog 200=none/\gE Tryz.prog 200=true/\ar5 Tryz.prog 200=true/\zc Tryz.prog 200=[V.int .i64 0,V.int .i64 0,V.int .i64 0]/\Tryz.prog.cellsOf 205=4/\cT Tryz.prog 205=true/\cB Tryz.prog 205=true/\cS Tryz.prog 205=none/\gE Tryz.prog 205=true/\ar5 Tryz.prog 205=true/\cG Tryz.prog 205 0=some (0,3)/\cG Tryz.prog 205 1=some (1,3)/\cG Tryz.prog 205 2=some (2,3)/\cG Tryz.prog 205 3=some (3,3)/\zc Tryz.prog 205=[V.int .i64 0,V.int .i64 0,V.int .i64 0,V.int .i64 0]:=by and_intros<;>kernel_rfl
@[simp] theorem aqX:Tryz.prog.cellsOf 212=4/\cT Tryz.prog 212=true/\cB Tryz.prog 212=true/\cS Tryz.prog 212=none/\gE Tryz.prog 212=true/\ar5 Tryz.prog 212=true/\cG Tryz.prog 212 0=some (0,3)/\cG Tryz.prog 212 1=some (1,3)/\cG Tryz.prog 212 2=some (2,3)/\cG Tryz.prog 212 3=some (3,4)/\zc Tryz.prog 212=[V.int .i64 0,V.int .i64 0,V.int .i64 0,V.bool false]/\Tryz.prog.cellsOf 216=2/\cT Tryz.prog 216=true/\cB Tryz.prog 216=true/\cS Tryz.prog 216=none/\gE Tryz.prog 216=true/\ar5 Tryz.prog 216=true/\cG Tryz.prog 216 0=some (0,3)/\cG Tryz.prog 216 1=some (1,3)/\zc Tryz.prog 216=[V.int .i64 0,V.int .i64 0]/\Tryz.prog.cellsOf 218=4/\cT Tryz.prog 218=true/\cB Tryz.prog 218=true/\cS Tryz.prog 218=none/\gE Tryz.prog 218=true/\ar5 Tryz.prog 218=true/\cG Tryz.prog 218 0=some (0,3)/\cG Tryz.prog 218 1=some (1,3)/\cG Tryz.prog 218 2=some (2,216)/\zc Tryz.prog 218=[V.int .i64 0,V.int .i64 0,V.int .i64 0,V.int .i64 0]/\Tryz.prog.cellsOf 230=1/\cT Tryz.prog 230=true/\cB Tryz.prog 230=false/\cm Tryz.prog 230=some 151/\cS Tryz.prog 230=none/\Tryz.prog.cellsOf 231=1/\cT Tryz.prog 231=true/\cB Tryz.prog 231=false/\cm Tryz.prog 231=some 154/\cS Tryz.prog 231=none:=by and_intros<;>kernel_rfl
@[simp] theorem aqY:Tryz.prog.cellsOf 232=1/\cT Tryz.prog 232=true/\cB Tryz.prog 232=false/\cm Tryz.prog 232=some 293/\cS Tryz.prog 232=none/\Tryz.prog.cellsOf 234=9/\cS Tryz.prog 234=none/\gE Tryz.prog 234=true/\ar5 Tryz.prog 234=true/\cG Tryz.prog 234 0=some (0,37)/\cG Tryz.prog 234 1=some (4,230)/\cG Tryz.prog 234 2=some (5,155)/\cG Tryz.prog 234 3=some (6,231)/\cG Tryz.prog 234 4=some (7,3)/\cG Tryz.prog 234 5=some (8,232)/\zc Tryz.prog 234=[V.nil,V.nil,V.int .i64 0,V.nil,V.nil,V.nil,V.nil,V.int .i64 0,V.nil]/\Tryz.prog.cellsOf 244=7/\cT Tryz.prog 244=true/\cB Tryz.prog 244=true/\cS Tryz.prog 244=none/\gE Tryz.prog 244=true/\ar5 Tryz.prog 244=true/\cG Tryz.prog 244 0=some (0,41)/\cG Tryz.prog 244 1=some (6,42)/\zc Tryz.prog 244=[V.nil,V.int .i64 0,V.int .i64 0,V.int .i64 0,V.int .i64 0,V.int .i64 0,V.nil]/\cT Tryz.prog 258=true/\zc Tryz.prog 258=[V.int .i64 0,V.int .i64 0]/\cm Tryz.prog 277=some 23/\cS Tryz.prog 277=none/\cm Tryz.prog 278=some 23/\wI Tryz.prog 285=some .u64/\Tryz.prog.cellsOf 293=1/\cT Tryz.prog 293=true/\cB Tryz.prog 293=false/\Tryz.prog.bytesOf 293=24/\cm Tryz.prog 293=some 339/\cS Tryz.prog 293=none/\zc Tryz.prog 293=[V.nil]/\Tryz.prog.cellsOf 339=6/\Tryz.prog.bytesOf 339=48:=by and_intros<;>kernel_rfl
@[simp] theorem aqZ:cS Tryz.prog 339=none/\gE Tryz.prog 339=true/\ar5 Tryz.prog 339=true/\cG Tryz.prog 339 0=some (0,3)/\cG Tryz.prog 339 1=some (1,3)/\cG Tryz.prog 339 2=some (2,3)/\cG Tryz.prog 339 3=some (3,3)/\cG Tryz.prog 339 4=some (4,3)/\cG Tryz.prog 339 5=some (5,3)/\zc Tryz.prog 339=[V.int .i64 0,V.int .i64 0,V.int .i64 0,V.int .i64 0,V.int .i64 0,V.int .i64 0]:=by and_intros<;>kernel_rfl
attribute [simp] by1 iT ik3 Xg Xh Xi ag7 P9 Qa Qb Qc Qd ag8 ag9 aha ahb ab7 ahc Qe Qf Qg Qh Qi Qj Qk ab8 ahd Ql Qm Qn Qo Qp ahe ahf ahg ahh ahi ahj ahk ahl ab9 ahm Qq Qr Qs Qt ahn aho ahp ahq acd ahr Qu Qv Qw Qx Qy Qz ahs aht ace ahu ahv ahw ahx acf QB QC QD QE QF QG QH QI QJ QK JO JP JQ JR ahy ayR azy aw2 aw3 aw4 aw5 aw6 ayS azz aw7 aw8 aw9 axa ayT azA axb axc axd axe axf ayU azB axg axh axi axj axk ayV azC axl axm axn ayW azD axo axp axq axr axt ayf avR avS avT avU axu ayg avV avW avX axv ayh avY avZ av0 axw ayi av1 av2 av3 axx ayj av4 av5 av6 axy ayk av7 av8
end Go.Sx.Ty
end
