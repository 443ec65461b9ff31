/- A part of a proof; no conditions. -/
import Derived.Test.YtfhdpblkdgmnfaaGreatDoorP38
set_option linter.unusedSimpArgs false
set_option linter.unusedVariables false
set_option linter.unusedSectionVars false
set_option maxRecDepth 100000
set_option maxHeartbeats 8000000
noncomputable section
section
namespace Go.Sx
open Go.Proofs
attribute [local irreducible] HLe
structure FlK (f:Fl):Prop where
 ok:FlOk f
 fw:f.met.fs.length<20
 sw:f.met.ss.length<20
structure JmP (d:Fl × Int × Int):Prop where
 ok:FlK d.1
 j:0≤d.2.1∧d.2.1<d.1.jobs.length
 m:0≤d.2.2∧d.2.2<d.1.bas.length
def bkO (f:Fl) (j m:Nat):Bk:=if bkQ f j m=true then bkV f j m else ⟨0,0,0,0⟩
theorem bkO_eq {f:Fl} {j m:Nat} (h:bkQ f j m=true):bkO f j m=bkV f j m:=if_pos h
theorem fineF {r:Reg} {l:List Wk} (h:opE r l=0):RL.Fine ⟨r,l⟩:=by
 have hv:r.valid=true∧l.length≤200:=by
  unfold opE at h
  split at h
  ·rename_i h1; refine⟨h1,?_⟩
   split at h
   ·assumption
   ·cases h
  ·cases h
 have hs:=small_of hv.1
 exact⟨by have:=hs.kinds; simp only; omega,by have:=hs.parts; simp only; omega,by have:=hs.orders; simp only; omega,by simp only; omega⟩
theorem FlOk.net' {f:Fl} (h:FlOk f):NetP f.met f.net:=⟨h.met,h.net⟩
abbrev tmeS:PSpec:=mkP fl2E JmP fun d=>.tup [.agg (bkO d.1 d.2.1.toNat d.2.2.toNat).row,.bool (bkQ d.1 d.2.1.toNat d.2.2.toNat)]
abbrev E56:Env:={P:=Tryz.prog,fn:=tbl [(115,.pure timS)],own:=[],key:=5600,nt:=111,frz:=[(1,[3,50003])]}
theorem b56:PureBody E56 [(1,([1,3,4,6,8,9],[[0,1,2,3,4,5,6,7,8,9,10,11,12]]))] Tryz.f56 tmeS:=by
 refine pb ?_
 rintro⟨f,j,m⟩ ⟨⟨hf,_,_⟩,hj,hm⟩
 simp only at hf hj hm
 obtain⟨j,rfl⟩:=Int.eq_ofNat_of_zero_le hj.1
 obtain⟨m,rfl⟩:=Int.eq_ofNat_of_zero_le hm.1
 have hj1:j<f.jobs.length:=by omega
 have hm1:m<f.bas.length:=by omega
 have hji:(j:Int)<f.jobs.length:=hj.2
 have hmi:(m:Int)<f.bas.length:=hm.2
 have hNP:=hf.net'
 obtain⟨x,hx⟩:∃x,f.jobs[j]?=some x:=⟨_,List.getElem?_eq_getElem hj1⟩
 have hx':f.jobs[j]=x:=(List.getElem?_eq_some_iff.1 hx).2
 have hxa:jbA f j=x:=by simp [jbA,List.getD,hx]
 obtain⟨b,hb⟩:∃x,f.bas[m]?=some x:=⟨_,List.getElem?_eq_getElem hm1⟩
 have hb':f.bas[m]=b:=(List.getElem?_eq_some_iff.1 hb).2
 have hba:bsA f m=b:=by simp [bsA,List.getD,hb]
 have hjb:=hf.jb hj1
 have hbs:=hf.bs hm1
 have h3:=hf.t3 hj1 hm1
 have h0:=hf.t0 hj1 hm1
 have hn:=met_n hf.met
 have hsq:=hf.tim.sq
 have htu:=hf.turn
 have hun:=hf.unt
 have hQ:bkQ f j m=(decide (0≤tOut f j m) && decide (0≤tOvr f j) && decide (0≤tBck f j m)):=rfl
 have hV:bkV f j m=⟨(jbA f j).dep - (if bsA f m=(jbA f j).a then 0 else f.turn+tOut f j m),(jbA f j).dep+tOvr f j,(jbA f j).dep+tOvr f j+(if bsA f m=(jbA f j).b then 0 else f.turn+tBck f j m),tOut f j m+tOvr f j+tBck f j m⟩:=rfl
 have hX:tOut f j m=g2 (tmF f) (bsA f m).toNat (jbA f j).a.toNat:=rfl
 have hY:tOvr f j=g2 (tmF f) (jbA f j).a.toNat (jbA f j).b.toNat:=rfl
 have hZ:tBck f j m=g2 (tmF f) (jbA f j).b.toNat (bsA f m).toNat:=rfl
 have hO:bkO f j m=if bkQ f j m=true then bkV f j m else ⟨0,0,0,0⟩:=rfl
 have hTT:timT f.met.n.toNat f.net=tmF f:=rfl
 rw [hxa]at hjb h0 hV hX hY hZ
 rw [hba]at hbs h0 hV hX hZ
 obtain⟨xa,xc,xd,xv,xw⟩:=x
 simp only at hjb h0 hV hX hY hZ
 obtain⟨p,rfl⟩:=Int.eq_ofNat_of_zero_le hbs.1
 obtain⟨a,rfl⟩:=Int.eq_ofNat_of_zero_le hjb.1.1
 obtain⟨c,rfl⟩:=Int.eq_ofNat_of_zero_le hjb.2.1.1
 simp only [Int.toNat_natCast]at hX hY hZ
 have hp:p<f.met.n.toNat:=by omega
 have ha:a<f.met.n.toNat:=by omega
 have hc:c<f.met.n.toNat:=by omega
 have hTl:=hsq.1
 obtain⟨r1,hr1,hl1,hv1⟩:=getD_row hsq hp ha
 obtain⟨r2,hr2,hl2,hv2⟩:=getD_row hsq ha hc
 obtain⟨r3,hr3,hl3,hv3⟩:=getD_row hsq hc hp
 rw [←hX]at hv1
 rw [←hY]at hv2
 rw [←hZ]at hv3
 have hr1':=(List.getElem?_eq_some_iff.1 hr1).2
 have hr2':=(List.getElem?_eq_some_iff.1 hr2).2
 have hr3':=(List.getElem?_eq_some_iff.1 hr3).2
 have hv1':=(List.getElem?_eq_some_iff.1 hv1).2
 have hv2':=(List.getElem?_eq_some_iff.1 hv2).2
 have hv3':=(List.getElem?_eq_some_iff.1 hv3).2
 clear hX hY hZ
 generalize tOut f j m=X at *
 generalize tOvr f j=Y at *
 generalize tBck f j m=Z at *
 generalize hQe:bkQ f j m=Q at *
 generalize bkV f j m=B at *
 generalize hOe:bkO f j m=O at *
 generalize tmF f=T at *
 have q1:p<T.length:=by omega
 have q2:a<T.length:=by omega
 have q3:c<T.length:=by omega
 have q4:a<r1.length:=by omega
 have q5:c<r2.length:=by omega
 have q6:p<r3.length:=by omega
 have q1i:(p:Int)<T.length:=by omega
 have q2i:(a:Int)<T.length:=by omega
 have q3i:(c:Int)<T.length:=by omega
 have q4i:(a:Int)<r1.length:=by omega
 have q5i:(c:Int)<r2.length:=by omega
 have q6i:(p:Int)<r3.length:=by omega
 by_cases c1:X<0
 ·have hQ:Q=false:=by rw [hQ,decide_eq_false (by omega:¬ 0≤X)]; rfl
  rw [hQ]at hO
  have hO:O=⟨0,0,0,0⟩:=hO
  simp -dsimp [Tryz.f56,E56]
  repeat' (first|omega|simp -dsimp [E56,ri,cellp,ints,hx,hx',hb,hb',hj1,hm1,hji,hmi,tiE_dec,hNP,hTT,tbV,Jb.row,Bk.row,FreeAt,hr1,hr1',hr2,hr2',hr3,hr3',hv1,hv1',hv2,hv2',hv3,hv3',q1,q2,q3,q4,q5,q6,q1i,q2i,q3i,q4i,q5i,q6i,ri,c1,hQe,hOe,hQ,hO]|refine aI ?_ fun _=>?_|refine oI fun _=>?_|refine nI ?_ ?_)
 by_cases c2:Y<0
 ·have hQ:Q=false:=by rw [hQ,decide_eq_false (by omega:¬ 0≤Y)]; simp
  rw [hQ]at hO
  have hO:O=⟨0,0,0,0⟩:=hO
  replace c1:(X<0)=False:=eq_false c1
  simp -dsimp [Tryz.f56,E56]
  repeat' (first|omega|simp -dsimp [E56,ri,cellp,ints,hx,hx',hb,hb',hj1,hm1,hji,hmi,tiE_dec,hNP,hTT,tbV,Jb.row,Bk.row,FreeAt,hr1,hr1',hr2,hr2',hr3,hr3',hv1,hv1',hv2,hv2',hv3,hv3',q1,q2,q3,q4,q5,q6,q1i,q2i,q3i,q4i,q5i,q6i,ri,c1,c2,hQe,hOe,hQ,hO]|refine aI ?_ fun _=>?_|refine oI fun _=>?_|refine nI ?_ ?_)
 by_cases c3:Z<0
 ·have hQ:Q=false:=by rw [hQ,decide_eq_false (by omega:¬ 0≤Z)]; simp
  rw [hQ]at hO
  have hO:O=⟨0,0,0,0⟩:=hO
  replace c1:(X<0)=False:=eq_false c1
  replace c2:(Y<0)=False:=eq_false c2
  simp -dsimp [Tryz.f56,E56]
  repeat' (first|omega|simp -dsimp [E56,ri,cellp,ints,hx,hx',hb,hb',hj1,hm1,hji,hmi,tiE_dec,hNP,hTT,tbV,Jb.row,Bk.row,FreeAt,hr1,hr1',hr2,hr2',hr3,hr3',hv1,hv1',hv2,hv2',hv3,hv3',q1,q2,q3,q4,q5,q6,q1i,q2i,q3i,q4i,q5i,q6i,ri,c1,c2,c3,hQe,hOe,hQ,hO]|refine aI ?_ fun _=>?_|refine oI fun _=>?_|refine nI ?_ ?_)
 have hQ:Q=true:=by rw [hQ,decide_eq_true (by omega:0≤X),decide_eq_true (by omega:0≤Y),decide_eq_true (by omega:0≤Z)]; rfl
 have w1:IntKind.wrap .i64 (xd - X)=xd - X:=wrap_id (by omega) (by omega)
 have w2:IntKind.wrap .i64 (xd+Y)=xd+Y:=wrap_id (by omega) (by omega)
 have w3:IntKind.wrap .i64 (xd+Y+Z)=xd+Y+Z:=wrap_id (by omega) (by omega)
 have w4:IntKind.wrap .i64 (X+Y)=X+Y:=wrap_id (by omega) (by omega)
 have w5:IntKind.wrap .i64 (X+Y+Z)=X+Y+Z:=wrap_id (by omega) (by omega)
 have w6:IntKind.wrap .i64 (xd - X - f.turn)=xd - X - f.turn:=wrap_id (by omega) (by omega)
 have w7:IntKind.wrap .i64 (xd+Y+Z+f.turn)=xd+Y+Z+f.turn:=wrap_id (by omega) (by omega)
 have hO:O=⟨if p=a then xd - X else xd - X - f.turn,xd+Y,if p=c then xd+Y+Z else xd+Y+Z+f.turn,X+Y+Z⟩:=by
  rw [hO,if_pos hQ,hV]
  simp only [Bk.mk.injEq,true_and,and_true]
  constructor
  ·by_cases e:p=a
   ·subst e; simp; omega
   ·rw [if_neg (by omega),if_neg e]; omega
  ·by_cases e:p=c
   ·subst e; simp; omega
   ·rw [if_neg (by omega),if_neg e]; omega
 replace c1:(X<0)=False:=eq_false c1
 replace c2:(Y<0)=False:=eq_false c2
 replace c3:(Z<0)=False:=eq_false c3
 have hne:∀x y:Nat,(((x:Int) != y)=true∧(x=y)=False)∨(((x:Int) != y)=false∧(x=y)=True):=fun x y=>by
  by_cases e:x=y
  ·exact .inr ⟨by simp [e],eq_true e⟩
  ·exact .inl ⟨by simp; omega,eq_false e⟩
 rcases hne p a with⟨c4,d4⟩|⟨c4,d4⟩<;>rcases hne p c with⟨c5,d5⟩|⟨c5,d5⟩
 all_goals
  simp only [d4,d5,if_true,if_false]at hO
  simp -dsimp [Tryz.f56,E56]
  repeat' (first|omega|simp -dsimp [E56,ri,cellp,ints,hx,hx',hb,hb',hj1,hm1,hji,hmi,tiE_dec,hNP,hTT,tbV,Jb.row,Bk.row,FreeAt,hr1,hr1',hr2,hr2',hr3,hr3',hv1,hv1',hv2,hv2',hv3,hv3',q1,q2,q3,q4,q5,q6,q1i,q2i,q3i,q4i,q5i,q6i,ri,c1,c2,c3,c4,c5,d4,d5,w1,w2,w3,w4,w5,w6,w7,hQe,hOe,hQ,hO]|refine aI ?_ fun _=>?_|refine oI fun _=>?_|refine nI ?_ ?_)
theorem ok56:FO 56 tmeS:=pf b56 (.cons ok115 .nil)
structure MaP (d:Fl × Int):Prop where
 ok:FlK d.1
 m:0≤d.2∧d.2<d.1.bas.length
abbrev houS:PSpec:=mkP flnE MaP fun d=>.int .i64 (hrF d.1 d.2.toNat)
abbrev E57:Env:={P:=Tryz.prog,fn:=tbl [(116,.pure longFS)],own:=[],key:=5700,nt:=19,frz:=[(1,[2,50002])]}
theorem b57:PureBody E57 [] Tryz.f57 houS:=by
 refine pb ?_
 rintro⟨f,m⟩ ⟨⟨hf,_,_⟩,hm⟩
 simp only at hf hm
 obtain⟨m,rfl⟩:=Int.eq_ofNat_of_zero_le hm.1
 have hfn:RLM.Fine ⟨f.reg,f.wks,m,0⟩:=fineF hf.op
 have hH:hrF f m=if longE f.reg f.wks m 0=0 then longF f.reg f.wks m 0 else -1:=rfl
 rcases Classical.propComplete (longE f.reg f.wks m 0=0)with c|c
 all_goals
  simp only [c,if_true,if_false]at hH
  simp -dsimp [Tryz.f57,E57]
  repeat' (first|omega|simp -dsimp [E57,ri,cellp,ints,rmE_dec0,hfn,c,hH]|refine aI ?_ fun _=>?_|refine oI fun _=>?_|refine nI ?_ ?_)
theorem ok57:FO 57 houS:=pf b57 (.cons ok116 .nil)
abbrev canRS:PSpec:=mkP fl2E JmP fun d=>.bool (canB d.1 d.2.1.toNat d.2.2.toNat)
abbrev E54:Env:={P:=Tryz.prog,fn:=tbl [(56,.pure tmeS),(57,.pure houS)],own:=[],key:=5400,nt:=35,frz:=[(1,[3,50003])]}
theorem b54:PureBody E54 [] Tryz.f54 canRS:=by
 refine pb ?_
 rintro⟨f,j,m⟩ hJ
 have hJ:JmP (f,j,m):=hJ
 have hM:MaP (f,m):=⟨hJ.ok,hJ.m⟩
 have hC:canB f j.toNat m.toNat=(bkQ f j.toNat m.toNat && decide (0≤(bkV f j.toNat m.toNat).lv) && decide ((bkV f j.toNat m.toNat).hm<f.unt) && decide (0≤hrF f m.toNat)):=rfl
 have hO:bkQ f j.toNat m.toNat=true→bkO f j.toNat m.toNat=bkV f j.toNat m.toNat:=bkO_eq
 cases hQ:bkQ f j.toNat m.toNat
 ·rw [hQ]at hC
  have hC:canB f j.toNat m.toNat=false:=hC
  simp -dsimp [Tryz.f54,E54,Bk.row]
  repeat' (first|omega|simp -dsimp [E54,ri,cellp,ints,Bk.row,fl2E_dec,hJ,hQ,hC]|refine aI ?_ fun _=>?_|refine oI fun _=>?_|refine nI ?_ ?_)
 have hO:=hO hQ
 rw [hQ]at hC
 generalize bkV f j.toNat m.toNat=B at *
 obtain⟨b1,b2,b3,b4⟩:=B
 simp only at hC
 rcases Classical.propComplete (0≤b1)with c1|c1<;>rcases Classical.propComplete (b3<f.unt)with c2|c2<;>rcases Classical.propComplete (0≤hrF f m.toNat)with c3|c3
 all_goals
  simp only [c1,c2,c3,decide_true,decide_false,Bool.and_true,Bool.and_false,Bool.true_and,Bool.false_and]at hC
  simp -dsimp [Tryz.f54,E54,Bk.row]
  repeat' (first|omega|simp -dsimp [E54,ri,cellp,ints,Bk.row,fl2E_dec,flnE_dec,hJ,hM,hQ,hO,hC,c1,c2,c3]|refine aI ?_ fun _=>?_|refine oI fun _=>?_|refine nI ?_ ?_)
theorem ok54:FO 54 canRS:=pf b54 (.cons ok56 (.cons ok57 .nil))
structure JoP (d:Fl × Int × Int):Prop where
 jm:JmP d
 can:canB d.1 d.2.1.toNat d.2.2.toNat=true
abbrev opeRS:PSpec:=mkP fl2E JoP fun d=>.bool (oaB d.1 d.2.1.toNat d.2.2.toNat)
theorem FlK.op {f:Fl} (h:FlK f) {p t:Int} (hp:0≤p∧p<f.met.n) (ht:0≤t∧t≤2000):OpP (f.met,f.mn,p,t):=by
 refine⟨⟨h.ok.met,h.fw,h.sw,ht⟩,h.ok.mn,?_⟩
 simp only [atB,rgB,Bool.and_eq_true,decide_eq_true_eq]; omega
theorem FlOk.ticks {f:Fl} (hf:FlOk f) {j m:Nat} (hj:j<f.jobs.length) (hm:m<f.bas.length) (h:canB f j m=true):bkQ f j m=true∧(0≤(bkV f j m).lv∧(bkV f j m).lv≤2000)∧(0≤(jbA f j).dep∧(jbA f j).dep≤2000)∧(0≤(bkV f j m).ar∧(bkV f j m).ar≤2000)∧0≤(bkV f j m).hm∧(bkV f j m).hm≤2000:=by
 simp only [canB,Bool.and_eq_true,decide_eq_true_eq]at h
 have h1:=hf.bk hj hm h.1.1.1
 have h2:=hf.unt
 exact⟨h.1.1.1,by omega,by omega,by omega,by omega⟩
abbrev E55:Env:={P:=Tryz.prog,fn:=tbl [(56,.pure tmeS),(114,.pure OpS)],own:=[],key:=5500,nt:=92,frz:=[(1,[3,50003])]}
theorem b55:PureBody E55 [(2,([1,3,4,6,8,9],[[0,1,2,3,4,5,6,7,8,9,10,11,12]]))] Tryz.f55 opeRS:=by
 refine pb ?_
 rintro⟨f,j,m⟩ ⟨hJ,hcan⟩
 simp only at hcan
 have hK:=hJ.ok
 have hf:=hK.ok
 have hj:=hJ.j
 have hm:=hJ.m
 simp only at hK hf hj hm
 obtain⟨j,rfl⟩:=Int.eq_ofNat_of_zero_le hj.1
 obtain⟨m,rfl⟩:=Int.eq_ofNat_of_zero_le hm.1
 simp only [Int.toNat_natCast]at hcan
 have hj1:j<f.jobs.length:=by omega
 have hm1:m<f.bas.length:=by omega
 have hji:(j:Int)<f.jobs.length:=hj.2
 have hmi:(m:Int)<f.bas.length:=hm.2
 obtain⟨x,hx⟩:∃x,f.jobs[j]?=some x:=⟨_,List.getElem?_eq_getElem hj1⟩
 have hx':f.jobs[j]=x:=(List.getElem?_eq_some_iff.1 hx).2
 have hxa:jbA f j=x:=by simp [jbA,List.getD,hx]
 obtain⟨b,hb⟩:∃x,f.bas[m]?=some x:=⟨_,List.getElem?_eq_getElem hm1⟩
 have hb':f.bas[m]=b:=(List.getElem?_eq_some_iff.1 hb).2
 have hba:bsA f m=b:=by simp [bsA,List.getD,hb]
 have hjb:=hf.jb hj1
 have hbs:=hf.bs hm1
 obtain⟨hq,t1,t2,t3,t4⟩:=hf.ticks hj1 hm1 hcan
 have hA:oaB f j m=(opF f (bsA f m) (bkV f j m).lv && opF f (jbA f j).a (jbA f j).dep && opF f (jbA f j).b (bkV f j m).ar && opF f (bsA f m) (bkV f j m).hm):=rfl
 have hO:=bkO_eq hq
 rw [hxa]at hjb t2 hA
 rw [hba]at hbs hA
 obtain⟨xa,xc,xd,xv,xw⟩:=x
 generalize bkV f j m=B at *
 obtain⟨b1,b2,b3,b4⟩:=B
 simp only at hjb t1 t2 t3 t4 hA
 have o1:=hK.op hbs t1
 have o2:=hK.op hjb.1 t2
 have o3:=hK.op hjb.2.1 t3
 have o4:=hK.op hbs t4
 have hF:∀p t,opnB f.met f.mn p t=opF f p t:=fun _ _=>rfl
 cases c1:opF f b b1<;>cases c2:opF f xa xd<;>cases c3:opF f xc b2<;>cases c4:opF f b b3
 all_goals
  simp only [c1,c2,c3,c4,Bool.and_true,Bool.and_false,Bool.true_and,Bool.false_and,Bool.and_self]at hA
  simp -dsimp [Tryz.f55,E55,Bk.row]
  repeat' (first|omega|simp -dsimp [E55,ri,cellp,ints,hx,hx',hb,hb',hj1,hm1,hji,hmi,Jb.row,Bk.row,fl2E_dec,moE_dec0,hJ,hq,hO,o1,o2,o3,o4,hF,c1,c2,c3,c4,FreeAt,hA]|refine aI ?_ fun _=>?_|refine oI fun _=>?_|refine nI ?_ ?_)
theorem ok55:FO 55 opeRS:=pf b55 (.cons ok56 (.cons ok114 .nil))
end Go.Sx
end
section
namespace Go.Sx
open Go.Proofs
def lfA (f:Fl) (m:Nat):Int:=if longE f.reg f.wks m 0=0 then longF f.reg f.wks m 0 * f.hour else -1
def lfL (f:Fl) (k:Nat):List Int:=(List.range k).map fun m=>lfA f m
def lftV (l:List Int):V:=if l=[]then .nil else .sl 1 (l.map ri)
def flR (f:Fl):List V:=f.row++[tbV (tmF f),lftV (lfL f f.reg.machines.toNat)]
theorem lfL_len (f:Fl) (k:Nat):(lfL f k).length=k:=by simp [lfL]
theorem lfL_succ (f:Fl) (k:Nat):lfL f (k+1)=lfL f k++[lfA f k]:=by simp [lfL,List.range_succ]
theorem lfA_hr {f:Fl} (hf:FlOk f) (m:Nat):(lfA f m<0)=(hrF f m<0)∧-1≤lfA f m∧lfA f m≤10000∧(0≤hrF f m→lfA f m=hrF f m * f.hour):=by
 have hh:=hf.hour
 have hb:=hrF_bd (f:=f) m
 unfold lfA hrF at *
 split
 ·rename_i h
  rw [if_pos h]at hb
  have h0:0≤longF f.reg f.wks m 0:=by
   have:=(longE_inv h).2.2.2
   omega
  have h1:0≤longF f.reg f.wks m 0 * f.hour:=Int.mul_nonneg h0 (by omega)
  have h2:longF f.reg f.wks m 0 * f.hour≤100 * 100:=Int.mul_le_mul hb.2 (by omega) (by omega) (by omega)
  refine⟨?_,by omega,by omega,fun _=>rfl⟩
  rw [eq_false (by omega:¬ longF f.reg f.wks m 0 * f.hour<0),eq_false (by omega:¬ longF f.reg f.wks m 0<0)]
 ·exact⟨rfl,by omega,by omega,fun h=>by omega⟩
@[simp] theorem fr_len (f:Fl):(flR f).length=41:=rfl
@[simp] theorem fr_met (f:Fl):(flR f).take 14=f.met.row:=rfl
@[simp] theorem fr_fl (f:Fl):(flR f).take 39=f.row:=rfl
@[simp] theorem fr_mn (f:Fl):((flR f).drop 14).take 5=f.mn.row:=rfl
@[simp] theorem fr_ros (f:Fl):((flR f).drop 25).take 6=f.ros.row:=rfl
@[simp] theorem fr_0 (f:Fl):(flR f)[0]?=some (.int .i64 f.met.n):=rfl
@[simp] theorem fr_22 (f:Fl):(flR f)[22]?=some (.int .i64 f.reg.machines):=rfl
@[simp] theorem fr_31 (f:Fl):(flR f)[31]?=some (.sl 3 (f.dus.map Du.row)):=rfl
@[simp] theorem fr_32 (f:Fl):(flR f)[32]?=some (.sl 1 (f.bas.map ri)):=rfl
@[simp] theorem fr_33 (f:Fl):(flR f)[33]?=some (.sl 1 (f.cra.map ri)):=rfl
@[simp] theorem fr_34 (f:Fl):(flR f)[34]?=some (.int .i64 f.turn):=rfl
@[simp] theorem fr_35 (f:Fl):(flR f)[35]?=some (.int .i64 f.hour):=rfl
@[simp] theorem fr_36 (f:Fl):(flR f)[36]?=some (.int .i64 f.cov):=rfl
@[simp] theorem fr_37 (f:Fl):(flR f)[37]?=some (.int .i64 f.unt):=rfl
@[simp] theorem fr_38 (f:Fl):(flR f)[38]?=some (.sl 5 (f.jobs.map Jb.row)):=rfl
@[simp] theorem fr_39 (f:Fl):(flR f)[39]?=some (tbV (tmF f)):=rfl
@[simp] theorem fr_40 (f:Fl):(flR f)[40]?=some (lftV (lfL f f.reg.machines.toNat)):=rfl
@[simp] def flI (f:Fl):V:=.ip 41 [flR f] 0 0
theorem flI_inj (a b:Fl) (h:flI a=flI b):a=b:=by
 simp only [flI,V.ip.injEq,List.cons.injEq,true_and,and_true]at h
 exact Fl.row_inj _ _ (List.append_inj h rfl).1
@[simp] def fpE (d:Fl × Int × Int):List V:=[flI d.1,.int .i64 d.2.1,.int .i64 d.2.2]
theorem fpE_inj (a b:Fl × Int × Int) (h:fpE a=fpE b):a=b:=by
 obtain⟨a1,a2,a3⟩:=a; obtain⟨b1,b2,b3⟩:=b
 simp only [fpE,List.cons.injEq,V.int.injEq,true_and,and_true]at h
 rw [flI_inj _ _ h.1,h.2.1,h.2.2]
theorem fpE_dec (f:Fl) (n m:Int):decC fpE [.ip 41 [flR f] 0 0,.int .i64 n,.int .i64 m]=(f,n,m):=decC_eq fpE_inj (f,n,m)
@[simp] def fpbE (d:Fl × Int × Int × Bool):List V:=[flI d.1,.int .i64 d.2.1,.int .i64 d.2.2.1,.bool d.2.2.2]
theorem fpbE_inj (a b:Fl × Int × Int × Bool) (h:fpbE a=fpbE b):a=b:=by
 obtain⟨a1,a2,a3,a4⟩:=a; obtain⟨b1,b2,b3,b4⟩:=b
 simp only [fpbE,List.cons.injEq,V.int.injEq,V.bool.injEq,true_and,and_true]at h
 rw [flI_inj _ _ h.1,h.2.1,h.2.2.1,h.2.2.2]
theorem fpbE_dec (f:Fl) (n m:Int) (w:Bool):decC fpbE [.ip 41 [flR f] 0 0,.int .i64 n,.int .i64 m,.bool w]=(f,n,m,w):=decC_eq fpbE_inj (f,n,m,w)
theorem FlOk.mach {f:Fl} (h:FlOk f):f.reg.machines.toNat=f.bas.length:=by have:=h.bas; omega
theorem FlOk.mach4 {f:Fl} (h:FlOk f):f.bas.length≤1000:=by
 have:=h.bas
 have h2:=(small_of (by
  have:=h.op
  unfold opE at this
  split at this
  ·assumption
  ·cases this)).m1
 omega
end Go.Sx
end
end
