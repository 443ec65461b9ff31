/- A part of a proof; no conditions. -/
import Derived.Test.YtfhdpblkdgmnfaaGreatDoorP41
import Derived.Test.YtfhdpblkdgmnfaaGreatDoorP44
set_option linter.unusedSimpArgs false
set_option linter.unusedVariables false
set_option linter.unusedSectionVars false
set_option maxRecDepth 100000
set_option maxHeartbeats 8000000
noncomputable section
section
namespace Go.Sx
open Go.Proofs
attribute [local irreducible] HLe
def lgB (f:Fl):Bool:=(decide (3<f.jobs.length) && decide (f.jobs.length≤6)) || (decide (3<f.bas.length) && decide (f.bas.length≤4)) || (decide (4<f.ros.ppl.length) && decide (f.ros.ppl.length≤12)) || (decide (12<f.wks.length) && decide (f.wks.length≤200)) || (decide (6<f.dus.length) && decide (f.dus.length≤60)) || (decide (6<f.met.fs.length+f.met.ss.length) && decide (f.met.fs.length≤40) && decide (f.met.ss.length≤20)) || (decide (120<f.unt) && decide (f.unt≤2000))
theorem lgB_flk {f:Fl} (h:lgB f=false) (hf:FlOk f):FlK f:=by
 have hm:=hf.met
 simp only [Met.ok,Bool.and_eq_true,decide_eq_true_eq]at hm
 simp only [lgB,Bool.or_eq_false_iff,Bool.and_eq_false_iff,decide_eq_false_iff_not]at h
 exact⟨hf,by omega,by omega⟩
abbrev lgS:PSpec:=mkP flOE FlP fun f=>.bool (lgB f)
abbrev E7:Env:={P:=Tryz.prog,fn:=tbl [],own:=[],key:=700,nt:=99,frz:=[(1,[1,50001])]}
theorem b7:PureBody E7 [] Tryz.f7 lgS:=by
 refine pb ?_
 rintro f ⟨hMP,hnl,hop,hch,hbl,hcl,hjl⟩
 have h1:=hMP.f
 have h2:=hMP.s
 have w:IntKind.wrap .i64 ((f.met.fs.length:Int)+f.met.ss.length)=(f.met.fs.length:Int)+f.met.ss.length:=wrap_id (by omega) (by omega)
 have hN:∀n:Nat,∀l:Nat,(((l:Nat):Int)≤(n:Int))=(l≤n):=fun n l=>by simp
 have e:lgB f=((decide ((3:Int)<f.jobs.length) && decide ((f.jobs.length:Int)≤6)) || (decide ((3:Int)<f.bas.length) && decide ((f.bas.length:Int)≤4)) || (decide ((4:Int)<f.ros.ppl.length) && decide ((f.ros.ppl.length:Int)≤12)) || (decide ((12:Int)<f.wks.length) && decide ((f.wks.length:Int)≤200)) || (decide ((6:Int)<f.dus.length) && decide ((f.dus.length:Int)≤60)) || (decide ((6:Int)<(f.met.fs.length:Int)+f.met.ss.length) && decide ((f.met.fs.length:Int)≤40) && decide ((f.met.ss.length:Int)≤20)) || (decide (120<f.unt) && decide (f.unt≤2000))):=by
  unfold lgB
  congr 1
  congr 1
  ·congr 1
   ·congr 1
    ·congr 1
     ·congr 1
      ·congr 1<;>(rw [decide_eq_decide]; omega)
      ·congr 1<;>(rw [decide_eq_decide]; omega)
     ·congr 1<;>(rw [decide_eq_decide]; omega)
    ·congr 1<;>(rw [decide_eq_decide]; omega)
   ·congr 1<;>(rw [decide_eq_decide]; omega)
  ·congr 1
   ·congr 1<;>(rw [decide_eq_decide]; omega)
   ·rw [decide_eq_decide]; omega
 simp -dsimp [Tryz.f7,E7]
 repeat' (first|omega|simp -dsimp [E7,ri,cellp,ints,w,e]|refine aI ?_ fun _=>?_|refine oI fun _=>?_|refine nI ?_ ?_)
theorem ok7:FO 7 lgS:=pf b7 .nil
@[simp] def fewE (l:List Sr):List V:=[.sl 4 (l.map Sr.row)]
theorem fewE_inj (a b:List Sr) (h:fewE a=fewE b):a=b:=by
 simp only [fewE,List.cons.injEq,V.sl.injEq,true_and,and_true]at h
 exact mapRow_inj Sr.row_inj h
theorem fewE_dec (l:List Sr):decC fewE [.sl 4 (l.map Sr.row)]=l:=decC_eq fewE_inj l
abbrev fewS:PSpec:=mkP fewE (fun _=>True) fun l=>.bool (decide (l.length≤4))
abbrev E8:Env:={P:=Tryz.prog,fn:=tbl [],own:=[],key:=800,nt:=6}
theorem b8:PureBody E8 [] Tryz.f8 fewS:=by
 refine pb ?_
 rintro l _
 by_cases h:l.length≤4
 ·have hi:((l.length:Int)≤4)=True:=eq_true (by omega)
  simp -dsimp [Tryz.f8,E8]
  repeat' (first|omega|simp -dsimp [E8,ri,cellp,ints,hi,h]|refine aI ?_ fun _=>?_|refine oI fun _=>?_|refine nI ?_ ?_)
 ·have hi:((l.length:Int)≤4)=False:=eq_false (by omega)
  simp -dsimp [Tryz.f8,E8]
  repeat' (first|omega|simp -dsimp [E8,ri,cellp,ints,hi,h]|refine aI ?_ fun _=>?_|refine oI fun _=>?_|refine nI ?_ ?_)
theorem ok8:FO 8 fewS:=pf b8 .nil
end Go.Sx
end
section
namespace Go.Sx
open Go.Proofs
attribute [local irreducible] HLe
@[simp] def flqE (d:Fl × List Int):List V:=[.agg d.1.row,.sl 1 (d.2.map ri)]
theorem flqE_inj (a b:Fl × List Int) (h:flqE a=flqE b):a=b:=by
 obtain⟨a1,a2⟩:=a; obtain⟨b1,b2⟩:=b
 simp only [flqE,List.cons.injEq,V.sl.injEq,V.agg.injEq,true_and,and_true]at h
 rw [Fl.row_inj _ _ h.1,map_ri_inj h.2]
theorem flqE_dec (f:Fl) (l:List Int):decC flqE [.agg f.row,.sl 1 (l.map ri)]=(f,l):=decC_eq flqE_inj (f,l)
abbrev BndS:PSpec:=mkP flqE (fun d=>PrP d.1 d.2) fun d=>.tup [.int .i64 (boM d.1 d.2 d.1.bas.length),.int .i64 0]
abbrev E37:Env:={P:=Tryz.prog,fn:=tbl [(24,.pure nfS),(87,.pure prcS),(88,.pure bouS)],own:=[],key:=3700,nt:=26,frz:=[(1,[2,50002])]}
theorem b37:PureBody E37 [] Tryz.f37 BndS:=by
 refine pb ?_
 rintro⟨f,ps⟩ hP
 have hK:=hP.ok
 simp only at hP hK
 simp -dsimp [Tryz.f37,E37]
 repeat' (first|omega|simp -dsimp [E37,ri,cellp,ints,flOE_dec,fqE_dec,hK,hP]|refine aI ?_ fun _=>?_|refine oI fun _=>?_|refine nI ?_ ?_)
theorem ok37:FO 37 BndS:=pf b37 (.cons ok24 (.cons ok87 (.cons ok88 .nil)))
def exF:Fl:={met:={n:=3,any:=⟨⟨0,0⟩,⟨9000,9000⟩,⟨3000,3000⟩,false,false⟩,w:=0,s:=0,c:=0,fs:=[],ss:=[]},mn:=⟨0,0,0,false,false⟩,net:=[⟨0,1,5⟩,⟨1,2,4⟩],reg:={kinds:=[⟨1000,1000,0⟩],parts:=[],machines:=2,orders:=[]},wks:=[],ros:={ppl:=[⟨1,2,0⟩,⟨1,2,0⟩,⟨1,1,0⟩,⟨1,1,0⟩],lng:=60,rst:=0,win:=100,tot:=100,rcn:=100},dus:=[],bas:=[0,1],cra:=[0,0],turn:=2,hour:=10,cov:=1,unt:=60,jobs:=[⟨0,1,10,5,false⟩,⟨1,2,12,4,false⟩,⟨0,2,30,7,false⟩]}
theorem exF_ok:flE exF=0:=by decide +kernel
theorem exF_k:FlK exF:=⟨flE_zero.1 exF_ok,by decide,by decide⟩
theorem exF_can:canB exF 2 1=true:=by decide +kernel
theorem exF_op:oaB exF 2 1=true:=by decide +kernel
theorem exF_bk:bkV exF 2 1=⟨23,39,45,18⟩:=by decide +kernel
theorem exF_bo:boM exF [0,0,0] 2=24:=by decide +kernel
abbrev exfS:PSpec:=mkP (D:=Unit) (fun _=>[]) (fun _=>True) fun _=>.agg exF.row
abbrev E36:Env:={P:=Tryz.prog,fn:=tbl [],own:=[],key:=3600,nt:=26}
theorem b36:PureBody E36 [] Tryz.f36 exfS:=by
 refine pb ?_
 rintro _ _
 simp -dsimp [Tryz.f36,E36,exF,Fl.row,Met.row,Wt.row,Leg.row,Reg.row,Kd.row,Ro.row,pplV,Pn.row,Jb.row]
 repeat' (first|omega|simp -dsimp [E36,ri,cellp,ints,exF,Fl.row,Met.row,Wt.row,Leg.row,Reg.row,Kd.row,Ro.row,pplV,Pn.row,Jb.row]|refine aI ?_ fun _=>?_|refine oI fun _=>?_|refine nI ?_ ?_)
theorem ok36:FO 36 exfS:=pf b36 .nil
abbrev worksS:PSpec:=mkP (D:=Unit) (fun _=>[]) (fun _=>True) fun _=>.bool true
abbrev E16:Env:={P:=Tryz.prog,fn:=tbl [(36,.pure exfS),(11,.pure BloS),(37,.pure BndS)],own:=[],key:=1600,nt:=42}
theorem b16:PureBody E16 [] Tryz.f16 worksS:=by
 refine pb ?_
 rintro _ _
 have p1:BlP (exF,2,1):=⟨⟨exF_k,by decide,by decide⟩,exF_can,exF_op⟩
 have p2:PrP exF [0,0,0]:=⟨exF_k,rfl,by decide⟩
 have e1:=exF_bk
 have e2:=exF_bo
 have hb:exF.bas.length=2:=rfl
 have d2:=flqE_dec exF [0,0,0]
 simp only [List.map,ri]at d2
 have h2:(2:Int).toNat=2:=rfl
 have h1:(1:Int).toNat=1:=rfl
 simp -dsimp [Tryz.f16,E16]
 repeat' (first|omega|simp -dsimp [E16,ri,cellp,ints,fl2E_dec,d2,p1,p2,e1,e2,hb,h1,h2]|refine aI ?_ fun _=>?_|refine oI fun _=>?_|refine nI ?_ ?_)
theorem ok16:FO 16 worksS:=pf b16 (.cons ok36 (.cons ok11 (.cons ok37 .nil)))
def rigB (f:Fl) (l:List Sr):Bool:=!lgB f && decide (l.length≤4) && decide ((cpE f l).2=0)
structure RiP (d:Fl × List Sr):Prop where
 p:FlP d.1
 l:d.2.length≤100000000000000
abbrev rigS:PSpec:=mkP flpE RiP fun d=>.bool (rigB d.1 d.2)
abbrev E15:Env:={P:=Tryz.prog,fn:=tbl [(7,.pure lgS),(8,.pure fewS),(10,.pure cpS)],own:=[],key:=1500,nt:=22,frz:=[(1,[2,50002])]}
theorem b15:PureBody E15 [] Tryz.f15 rigS:=by
 refine pb ?_
 rintro⟨f,l⟩ ⟨hP,hl⟩
 simp only at hP hl
 have hR:rigB f l=(!lgB f && decide (l.length≤4) && decide ((cpE f l).2=0)):=rfl
 cases hL:lgB f
 case true=>
  rw [hL]at hR
  have hR:rigB f l=false:=by rw [hR]; rfl
  simp -dsimp [Tryz.f15,E15]
  repeat' (first|omega|simp -dsimp [E15,ri,cellp,ints,flOE_dec,hP,hL,hR]|refine aI ?_ fun _=>?_|refine oI fun _=>?_|refine nI ?_ ?_)
 by_cases hF:l.length≤4
 case neg=>
  have hR:rigB f l=false:=by rw [hR,decide_eq_false hF]; simp
  simp -dsimp [Tryz.f15,E15]
  repeat' (first|omega|simp -dsimp [E15,ri,cellp,ints,flOE_dec,fewE_dec,hP,hL,hF,hR]|refine aI ?_ fun _=>?_|refine oI fun _=>?_|refine nI ?_ ?_)
 have hk:=lgB_flk hL
 have hCP:CpP (f,l):=⟨hP,hk,by simp only; omega⟩
 rw [hL,decide_eq_true hF]at hR
 by_cases hc:(cpE f l).2=0
 ·have hR:rigB f l=true:=by rw [hR,decide_eq_true hc]; rfl
  simp -dsimp [Tryz.f15,E15]
  repeat' (first|omega|simp -dsimp [E15,ri,cellp,ints,flOE_dec,fewE_dec,flpE_dec,hP,hL,hF,hCP,hc,hR]|refine aI ?_ fun _=>?_|refine oI fun _=>?_|refine nI ?_ ?_)
 ·have hR:rigB f l=false:=by rw [hR,decide_eq_false hc]; rfl
  simp -dsimp [Tryz.f15,E15]
  repeat' (first|omega|simp -dsimp [E15,ri,cellp,ints,flOE_dec,fewE_dec,flpE_dec,hP,hL,hF,hCP,hc,hR]|refine aI ?_ fun _=>?_|refine oI fun _=>?_|refine nI ?_ ?_)
theorem ok15:FO 15 rigS:=pf b15 (.cons ok7 (.cons ok8 (.cons ok10 .nil)))
theorem rig_of {f:Fl} {l:List Sr} (h:rigB f l=true):lgB f=false∧l.length≤4∧FlK f∧Good f false l:=by
 unfold rigB at h
 rw [Bool.and_eq_true,Bool.and_eq_true,decide_eq_true_eq,decide_eq_true_eq,Bool.not_eq_true']at h
 obtain⟨⟨h1,h2⟩,h3⟩:=h
 obtain⟨hf,hG⟩:=cpE_zero.1 h3
 exact⟨h1,h2,lgB_flk h1 hf,hG⟩
end Go.Sx
end
end
