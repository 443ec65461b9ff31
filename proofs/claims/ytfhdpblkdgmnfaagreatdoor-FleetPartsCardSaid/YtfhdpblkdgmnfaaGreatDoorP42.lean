/- Fleet: the program's blocks, and what can be flown. No conditions. -/
import Derived.Test.YtfhdpblkdgmnfaaGreatDoorP39
set_option linter.unusedSimpArgs false
set_option linter.unusedVariables false
set_option linter.unusedSectionVars false
set_option maxRecDepth 100000
set_option maxHeartbeats 8000000
noncomputable section
namespace Go.Sx
open Go.Proofs
attribute [local irreducible] HLe
abbrev E43:Env:={P:=Tryz.prog,fn:=tbl [],own:=[],key:=4300,nt:=15}
theorem b43:PureBody E43 [] Tryz.f43 rgS:=by
 refine pb ?_
 rintro⟨n,lo,hi⟩ _
 simp -dsimp [Tryz.f43,E43,rgB]
 repeat' (first|omega|simp -dsimp [E43,ri,cellp,ints,rgB]|refine aI ?_ fun _=>?_|refine oI fun _=>?_|refine nI ?_ ?_)
theorem ok43:FO 43 rgS:=pf b43 .nil
abbrev theS:PSpec:=mkP fpE (fun d=>FlK d.1) fun d=>.bool (thB d.1 d.2.1 d.2.2)
abbrev E25:Env:={P:=Tryz.prog,fn:=tbl [(43,.pure rgS)],own:=[],key:=2500,nt:=27}
theorem b25:PureBody E25 [] Tryz.f25 theS:=by
 refine pb ?_
 rintro⟨f,j,m⟩ hK
 have hf:=FlK.ok hK
 simp only at hf
 have h1:=hf.bas
 have h2:=hf.mach4
 have h3:=hf.jobs
 have hT:thB f j m=(rgB j 0 (f.jobs.length - 1) && rgB m 0 (f.reg.machines - 1)):=by rw [←h1]; rfl
 have w1:IntKind.wrap .i64 ((f.jobs.length:Int) - 1)=(f.jobs.length:Int) - 1:=wrap_id (by omega) (by omega)
 have w2:IntKind.wrap .i64 (f.reg.machines - 1)=f.reg.machines - 1:=wrap_id (by omega) (by omega)
 cases c1:rgB j 0 (f.jobs.length - 1)<;>cases c2:rgB m 0 (f.reg.machines - 1)
 all_goals
  rw [c1,c2]at hT
  simp -dsimp [Tryz.f25,E25]
  repeat' (first|omega|simp -dsimp [E25,ri,cellp,ints,w1,w2,c1,c2,hT]|refine aI ?_ fun _=>?_|refine oI fun _=>?_|refine nI ?_ ?_)
theorem ok25:FO 25 theS:=pf b25 (.cons ok43 .nil)
abbrev blkS:PSpec:=mkP fpE JmP fun d=>.tup [.agg (bkO d.1 d.2.1.toNat d.2.2.toNat).row,.bool (bkQ d.1 d.2.1.toNat d.2.2.toNat)]
abbrev E70:Env:={P:=Tryz.prog,fn:=tbl [],own:=[],key:=7000,nt:=121}
theorem b70:PureBody E70 [(1,([4,6,7,12,14,15],[[0,1,2,3,4,5,6,7,8,9,10,11,12,13,14,15,16,17,18]]))] Tryz.f70 blkS:=by
 refine pb ?_
 rintro⟨f,j,m⟩ ⟨⟨hf,_,_⟩,hj,hm⟩
 simp only at hf hj hm
 obtain⟨j,rfl⟩:=Int.eq_ofNat_of_zero_le hj.1
 obtain⟨m,rfl⟩:=Int.eq_ofNat_of_zero_le hm.1
 have hj1:j<f.jobs.length:=by omega
 have hm1:m<f.bas.length:=by omega
 have hji:(j:Int)<f.jobs.length:=hj.2
 have hmi:(m:Int)<f.bas.length:=hm.2
 obtain⟨x,hx⟩:∃x,f.jobs[j]?=some x:=⟨_,List.getElem?_eq_getElem hj1⟩
 have hx':f.jobs[j]=x:=(List.getElem?_eq_some_iff.1 hx).2
 have hxa:jbA f j=x:=by simp [jbA,List.getD,hx]
 obtain⟨b,hb⟩:∃x,f.bas[m]?=some x:=⟨_,List.getElem?_eq_getElem hm1⟩
 have hb':f.bas[m]=b:=(List.getElem?_eq_some_iff.1 hb).2
 have hba:bsA f m=b:=by simp [bsA,List.getD,hb]
 have hjb:=hf.jb hj1
 have hbs:=hf.bs hm1
 have h3:=hf.t3 hj1 hm1
 have hn:=met_n hf.met
 have hsq:=hf.tim.sq
 have htu:=hf.turn
 have hun:=hf.unt
 have hQ:bkQ f j m=(decide (0≤tOut f j m) && decide (0≤tOvr f j) && decide (0≤tBck f j m)):=rfl
 have hV:bkV f j m=⟨(jbA f j).dep - (if bsA f m=(jbA f j).a then 0 else f.turn+tOut f j m),(jbA f j).dep+tOvr f j,(jbA f j).dep+tOvr f j+(if bsA f m=(jbA f j).b then 0 else f.turn+tBck f j m),tOut f j m+tOvr f j+tBck f j m⟩:=rfl
 have hX:tOut f j m=g2 (tmF f) (bsA f m).toNat (jbA f j).a.toNat:=rfl
 have hY:tOvr f j=g2 (tmF f) (jbA f j).a.toNat (jbA f j).b.toNat:=rfl
 have hZ:tBck f j m=g2 (tmF f) (jbA f j).b.toNat (bsA f m).toNat:=rfl
 have hO:bkO f j m=if bkQ f j m=true then bkV f j m else ⟨0,0,0,0⟩:=rfl
 rw [hxa]at hjb hV hX hY hZ
 rw [hba]at hbs hV hX hZ
 obtain⟨xa,xc,xd,xv,xw⟩:=x
 simp only at hjb hV hX hY hZ
 obtain⟨p,rfl⟩:=Int.eq_ofNat_of_zero_le hbs.1
 obtain⟨a,rfl⟩:=Int.eq_ofNat_of_zero_le hjb.1.1
 obtain⟨c,rfl⟩:=Int.eq_ofNat_of_zero_le hjb.2.1.1
 simp only [Int.toNat_natCast]at hX hY hZ
 have hp:p<f.met.n.toNat:=by omega
 have ha:a<f.met.n.toNat:=by omega
 have hc:c<f.met.n.toNat:=by omega
 have hTl:=hsq.1
 obtain⟨r1,hr1,hl1,hv1⟩:=getD_row hsq hp ha
 obtain⟨r2,hr2,hl2,hv2⟩:=getD_row hsq ha hc
 obtain⟨r3,hr3,hl3,hv3⟩:=getD_row hsq hc hp
 rw [←hX]at hv1
 rw [←hY]at hv2
 rw [←hZ]at hv3
 have hr1':=(List.getElem?_eq_some_iff.1 hr1).2
 have hr2':=(List.getElem?_eq_some_iff.1 hr2).2
 have hr3':=(List.getElem?_eq_some_iff.1 hr3).2
 have hv1':=(List.getElem?_eq_some_iff.1 hv1).2
 have hv2':=(List.getElem?_eq_some_iff.1 hv2).2
 have hv3':=(List.getElem?_eq_some_iff.1 hv3).2
 clear hX hY hZ
 have h39:=fr_39 f
 simp only [tbV]at h39
 generalize tOut f j m=X at *
 generalize tOvr f j=Y at *
 generalize tBck f j m=Z at *
 generalize hQe:bkQ f j m=Q at *
 generalize bkV f j m=B at *
 generalize hOe:bkO f j m=O at *
 generalize tmF f=T at *
 have q1:p<T.length:=by omega
 have q2:a<T.length:=by omega
 have q3:c<T.length:=by omega
 have q4:a<r1.length:=by omega
 have q5:c<r2.length:=by omega
 have q6:p<r3.length:=by omega
 have q1i:(p:Int)<T.length:=by omega
 have q2i:(a:Int)<T.length:=by omega
 have q3i:(c:Int)<T.length:=by omega
 have q4i:(a:Int)<r1.length:=by omega
 have q5i:(c:Int)<r2.length:=by omega
 have q6i:(p:Int)<r3.length:=by omega
 by_cases c1:X<0
 ·have hQ:Q=false:=by rw [hQ,decide_eq_false (by omega:¬ 0≤X)]; rfl
  rw [hQ]at hO
  have hO:O=⟨0,0,0,0⟩:=hO
  simp -dsimp [Tryz.f70,E70]
  repeat' (first|omega|simp -dsimp [E70,ri,cellp,ints,hx,hx',hb,hb',hj1,hm1,hji,hmi,h39,Jb.row,Bk.row,FreeAt,hr1,hr1',hr2,hr2',hr3,hr3',hv1,hv1',hv2,hv2',hv3,hv3',q1,q2,q3,q4,q5,q6,q1i,q2i,q3i,q4i,q5i,q6i,ri,c1,hQe,hOe,hQ,hO]|refine aI ?_ fun _=>?_|refine oI fun _=>?_|refine nI ?_ ?_)
 by_cases c2:Y<0
 ·have hQ:Q=false:=by rw [hQ,decide_eq_false (by omega:¬ 0≤Y)]; simp
  rw [hQ]at hO
  have hO:O=⟨0,0,0,0⟩:=hO
  replace c1:(X<0)=False:=eq_false c1
  simp -dsimp [Tryz.f70,E70]
  repeat' (first|omega|simp -dsimp [E70,ri,cellp,ints,hx,hx',hb,hb',hj1,hm1,hji,hmi,h39,Jb.row,Bk.row,FreeAt,hr1,hr1',hr2,hr2',hr3,hr3',hv1,hv1',hv2,hv2',hv3,hv3',q1,q2,q3,q4,q5,q6,q1i,q2i,q3i,q4i,q5i,q6i,ri,c1,c2,hQe,hOe,hQ,hO]|refine aI ?_ fun _=>?_|refine oI fun _=>?_|refine nI ?_ ?_)
 by_cases c3:Z<0
 ·have hQ:Q=false:=by rw [hQ,decide_eq_false (by omega:¬ 0≤Z)]; simp
  rw [hQ]at hO
  have hO:O=⟨0,0,0,0⟩:=hO
  replace c1:(X<0)=False:=eq_false c1
  replace c2:(Y<0)=False:=eq_false c2
  simp -dsimp [Tryz.f70,E70]
  repeat' (first|omega|simp -dsimp [E70,ri,cellp,ints,hx,hx',hb,hb',hj1,hm1,hji,hmi,h39,Jb.row,Bk.row,FreeAt,hr1,hr1',hr2,hr2',hr3,hr3',hv1,hv1',hv2,hv2',hv3,hv3',q1,q2,q3,q4,q5,q6,q1i,q2i,q3i,q4i,q5i,q6i,ri,c1,c2,c3,hQe,hOe,hQ,hO]|refine aI ?_ fun _=>?_|refine oI fun _=>?_|refine nI ?_ ?_)
 have hQ:Q=true:=by rw [hQ,decide_eq_true (by omega:0≤X),decide_eq_true (by omega:0≤Y),decide_eq_true (by omega:0≤Z)]; rfl
 have w2:IntKind.wrap .i64 (xd+Y)=xd+Y:=wrap_id (by omega) (by omega)
 have w4:IntKind.wrap .i64 (X+Y)=X+Y:=wrap_id (by omega) (by omega)
 have w5:IntKind.wrap .i64 (X+Y+Z)=X+Y+Z:=wrap_id (by omega) (by omega)
 have w6:IntKind.wrap .i64 (f.turn+X)=f.turn+X:=wrap_id (by omega) (by omega)
 have w7:IntKind.wrap .i64 (f.turn+Z)=f.turn+Z:=wrap_id (by omega) (by omega)
 have w8:IntKind.wrap .i64 (xd - (f.turn+X))=xd - (f.turn+X):=wrap_id (by omega) (by omega)
 have w9:IntKind.wrap .i64 (xd+Y+(f.turn+Z))=xd+Y+(f.turn+Z):=wrap_id (by omega) (by omega)
 have hO:O=⟨if (p:Int)=a then xd else xd - (f.turn+X),xd+Y,if (p:Int)=c then xd+Y else xd+Y+(f.turn+Z),X+Y+Z⟩:=by
  rw [hO,if_pos hQ,hV]
  simp only [Bk.mk.injEq,true_and,and_true]
  constructor
  ·split<;>omega
  ·split<;>omega
 replace c1:(X<0)=False:=eq_false c1
 replace c2:(Y<0)=False:=eq_false c2
 replace c3:(Z<0)=False:=eq_false c3
 have hne:∀x y:Nat,(((x:Int) != y)=true∧((x:Int)=y)=False)∨(((x:Int) != y)=false∧((x:Int)=y)=True):=fun x y=>by
  by_cases e:x=y
  ·exact .inr ⟨by simp [e],eq_true (by omega)⟩
  ·exact .inl ⟨by simp; omega,eq_false (by omega)⟩
 rcases hne p a with⟨c4,d4⟩|⟨c4,d4⟩<;>rcases hne p c with⟨c5,d5⟩|⟨c5,d5⟩
 all_goals
  simp only [d4,d5,if_true,if_false]at hO
  simp -dsimp [Tryz.f70,E70]
  repeat' (first|omega|simp -dsimp [E70,ri,cellp,ints,hx,hx',hb,hb',hj1,hm1,hji,hmi,h39,Jb.row,Bk.row,FreeAt,hr1,hr1',hr2,hr2',hr3,hr3',hv1,hv1',hv2,hv2',hv3,hv3',q1,q2,q3,q4,q5,q6,q1i,q2i,q3i,q4i,q5i,q6i,ri,c1,c2,c3,c4,c5,d4,d5,w2,w4,w5,w6,w7,w8,w9,hQe,hOe,hQ,hO]|refine aI ?_ fun _=>?_|refine oI fun _=>?_|refine nI ?_ ?_)
theorem ok70:FO 70 blkS:=pf b70 .nil
structure FoP (d:Fl × Int × Int):Prop where
 ok:FlK d.1
 p:0≤d.2.1∧d.2.1<d.1.met.n
 t:0≤d.2.2∧d.2.2≤2000
abbrev opnS:PSpec:=mkP fpE FoP fun d=>.bool (opF d.1 d.2.1 d.2.2)
abbrev E71:Env:={P:=Tryz.prog,fn:=tbl [(62,.pure OpS)],own:=[],key:=7100,nt:=30}
theorem b71:PureBody E71 [] Tryz.f71 opnS:=by
 refine pb ?_
 rintro⟨f,p,t⟩ ⟨hK,hp,ht⟩
 simp only at hK hp ht
 have ho:=hK.op hp ht
 have hF:opnB f.met f.mn p t=opF f p t:=rfl
 cases c:opF f p t
 all_goals
  simp -dsimp [Tryz.f71,E71]
  repeat' (first|omega|simp -dsimp [E71,ri,cellp,ints,moE_dec0,ho,hF,c]|refine aI ?_ fun _=>?_|refine oI fun _=>?_|refine nI ?_ ?_)
theorem ok71:FO 71 opnS:=pf b71 (.cons ok62 .nil)
structure CnP (d:Fl × Int × Int × Bool):Prop where
 jm:JmP (d.1,d.2.1,d.2.2.1)
abbrev canS:PSpec:=mkP fpbE CnP fun d=>.tup [.agg (bkO d.1 d.2.1.toNat d.2.2.1.toNat).row,.bool (canB d.1 d.2.1.toNat d.2.2.1.toNat && (d.2.2.2 || oaB d.1 d.2.1.toNat d.2.2.1.toNat))]
abbrev E26:Env:={P:=Tryz.prog,fn:=tbl [(70,.pure blkS),(71,.pure opnS)],own:=[],key:=2600,nt:=95}
theorem b26:PureBody E26 [(4,([4,6,7,12,14,15],[[0,1,2,3,4,5,6,7,8,9,10,11,12,13,14,15,16,17,18]]))] Tryz.f26 canS:=by
 refine pb ?_
 rintro⟨f,j,m,w⟩ ⟨hJ⟩
 have hK:=hJ.ok
 have hf:=hK.ok
 have hj:=hJ.j
 have hm:=hJ.m
 simp only at hK hf hj hm hJ
 obtain⟨j,rfl⟩:=Int.eq_ofNat_of_zero_le hj.1
 obtain⟨m,rfl⟩:=Int.eq_ofNat_of_zero_le hm.1
 have hj1:j<f.jobs.length:=by omega
 have hm1:m<f.bas.length:=by omega
 have hji:(j:Int)<f.jobs.length:=hj.2
 have hmi:(m:Int)<f.bas.length:=hm.2
 obtain⟨x,hx⟩:∃x,f.jobs[j]?=some x:=⟨_,List.getElem?_eq_getElem hj1⟩
 have hx':f.jobs[j]=x:=(List.getElem?_eq_some_iff.1 hx).2
 have hxa:jbA f j=x:=by simp [jbA,List.getD,hx]
 obtain⟨b,hb⟩:∃x,f.bas[m]?=some x:=⟨_,List.getElem?_eq_getElem hm1⟩
 have hb':f.bas[m]=b:=(List.getElem?_eq_some_iff.1 hb).2
 have hba:bsA f m=b:=by simp [bsA,List.getD,hb]
 have hjb:=hf.jb hj1
 have hbs:=hf.bs hm1
 have h40:=fr_40 f
 have hlne:lfL f f.reg.machines.toNat≠[]:=fun h=>by
  have:=congrArg List.length h
  rw [lfL_len,hf.mach,List.length_nil]at this
  omega
 rw [lftV,if_neg hlne]at h40
 have hLl:(lfL f f.reg.machines.toNat).length=f.bas.length:=by rw [lfL_len,hf.mach]
 have hLm:(lfL f f.reg.machines.toNat)[m]?=some (lfA f m):=by
  rw [hf.mach]; simp [lfL,hm1]
 have hLm':∀h,(lfL f f.reg.machines.toNat)[m]'h=lfA f m:=fun h=>by
  rw [List.getElem?_eq_getElem h]at hLm; exact Option.some.inj hLm
 obtain⟨hlf,hl1,hl2,_⟩:=lfA_hr hf m
 have hC:canB f j m=(bkQ f j m && decide (0≤(bkV f j m).lv) && decide ((bkV f j m).hm<f.unt) && decide (0≤hrF f m)):=rfl
 have hA:oaB f j m=(opF f (bsA f m) (bkV f j m).lv && opF f (jbA f j).a (jbA f j).dep && opF f (jbA f j).b (bkV f j m).ar && opF f (bsA f m) (bkV f j m).hm):=rfl
 have hO:bkQ f j m=true→bkO f j m=bkV f j m:=bkO_eq
 have htk:=fun h=>hf.ticks (j:=j) (m:=m) hj1 hm1 h
 rw [hxa]at hjb hA htk
 rw [hba]at hbs hA
 obtain⟨xa,xc,xd,xv,xw⟩:=x
 simp only at hjb hA htk
 generalize lfL f f.reg.machines.toNat=L at *
 have hmL:m<L.length:=by omega
 have hmLi:(m:Int)<L.length:=by omega
 have hLm':=hLm' hmL
 have hop:=fun p t=>show opnB f.met f.mn p t=opF f p t from rfl
 clear hop
 have c1L:∀c:Bool,(c && (w || oaB f j m))=(c && (w || oaB f j m)):=fun _=>rfl
 clear c1L
 cases hQ:bkQ f j m
 ·rw [hQ]at hC
  have hC:canB f j m=false:=hC
  simp -dsimp [Tryz.f26,E26,Bk.row]
  repeat' (first|omega|simp -dsimp [E26,ri,cellp,ints,Bk.row,fpE_dec,hJ,hQ,hC]|refine aI ?_ fun _=>?_|refine oI fun _=>?_|refine nI ?_ ?_)
 have hO:=hO hQ
 rw [hQ]at hC
 generalize bkV f j m=B at *
 obtain⟨b1,b2,b3,b4⟩:=B
 simp only at hC hA htk hO
 by_cases c1:b1<0
 ·have hC:canB f j m=false:=by rw [hC,decide_eq_false (by omega:¬ 0≤b1)]; simp
  simp -dsimp [Tryz.f26,E26,Bk.row]
  repeat' (first|omega|simp -dsimp [E26,ri,cellp,ints,Bk.row,fpE_dec,hJ,hQ,hO,c1,hC]|refine aI ?_ fun _=>?_|refine oI fun _=>?_|refine nI ?_ ?_)
 rw [decide_eq_true (by omega:0≤b1)]at hC
 replace c1:(b1<0)=False:=eq_false c1
 by_cases c2:f.unt≤b3
 ·have hC:canB f j m=false:=by rw [hC,decide_eq_false (by omega:¬ b3<f.unt)]; simp
  simp -dsimp [Tryz.f26,E26,Bk.row]
  repeat' (first|omega|simp -dsimp [E26,ri,cellp,ints,Bk.row,fpE_dec,hJ,hQ,hO,c1,c2,hC]|refine aI ?_ fun _=>?_|refine oI fun _=>?_|refine nI ?_ ?_)
 rw [decide_eq_true (by omega:b3<f.unt)]at hC
 replace c2:(f.unt≤b3)=False:=eq_false c2
 by_cases c3:lfA f m<0
 ·have hh:hrF f m<0:=by rw [←hlf]; exact c3
  have hC:canB f j m=false:=by rw [hC,decide_eq_false (by omega:¬ 0≤hrF f m)]; simp
  simp -dsimp [Tryz.f26,E26,Bk.row]
  repeat' (first|omega|simp -dsimp [E26,ri,cellp,ints,Bk.row,fpE_dec,hJ,hQ,hO,h40,hmL,hmLi,hLm,hLm',ri,c1,c2,c3,hC]|refine aI ?_ fun _=>?_|refine oI fun _=>?_|refine nI ?_ ?_)
 have hh:¬ hrF f m<0:=by rw [←hlf]; exact c3
 replace c3:(lfA f m<0)=False:=eq_false c3
 rw [decide_eq_true (by omega:0≤hrF f m)]at hC
 have hC:canB f j m=true:=hC
 obtain⟨_,t1,t2,t3,t4⟩:=htk hC
 have o1:FoP (f,b,b1):=⟨hK,hbs,t1⟩
 have o2:FoP (f,xa,xd):=⟨hK,hjb.1,t2⟩
 have o3:FoP (f,xc,b2):=⟨hK,hjb.2.1,t3⟩
 have o4:FoP (f,b,b3):=⟨hK,hbs,t4⟩
 cases w
 case true=>
  simp -dsimp [Tryz.f26,E26,Bk.row]
  repeat' (first|omega|simp -dsimp [E26,ri,cellp,ints,hx,hx',hb,hb',hj1,hm1,hji,hmi,Jb.row,Bk.row,fpE_dec,hJ,hQ,hO,h40,hmL,hmLi,hLm,hLm',ri,FreeAt,c1,c2,c3,hC]|refine aI ?_ fun _=>?_|refine oI fun _=>?_|refine nI ?_ ?_)
 cases d1:opF f b b1<;>cases d2:opF f xa xd<;>cases d3:opF f xc b2<;>cases d4:opF f b b3
 all_goals
  simp only [d1,d2,d3,d4,Bool.and_true,Bool.and_false,Bool.true_and,Bool.false_and,Bool.and_self]at hA
  simp -dsimp [Tryz.f26,E26,Bk.row]
  repeat' (first|omega|simp -dsimp [E26,ri,cellp,ints,hx,hx',hb,hb',hj1,hm1,hji,hmi,Jb.row,Bk.row,fpE_dec,hJ,hQ,hO,h40,hmL,hmLi,hLm,hLm',ri,FreeAt,c1,c2,c3,o1,o2,o3,o4,d1,d2,d3,d4,hC,hA]|refine aI ?_ fun _=>?_|refine oI fun _=>?_|refine nI ?_ ?_)
theorem ok26:FO 26 canS:=pf b26 (.cons ok70 (.cons ok71 .nil))
end Go.Sx
end
