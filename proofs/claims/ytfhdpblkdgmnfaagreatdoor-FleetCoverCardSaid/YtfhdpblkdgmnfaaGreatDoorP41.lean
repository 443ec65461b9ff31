/- Fleet: the reference's duties, and which machines are ready. No conditions. -/
import Derived.Test.YtfhdpblkdgmnfaaGreatDoorP39
import Derived.Test.YtfhdpblkdgmnfaaGreatDoorP40
import Derived.Test.YtfhdpblkdgmnfaaGreatDoorP32
set_option linter.unusedSimpArgs false
set_option linter.unusedVariables false
set_option linter.unusedSectionVars false
set_option maxRecDepth 100000
set_option maxHeartbeats 8000000
noncomputable section
namespace Go.Sx
open Go.Proofs
attribute [local irreducible] bA
structure DuP (f:Fl) (l:List Sr):Prop where
 ok:Cw f
 sr:∀x∈l,yW f x
 len:l.length≤100
theorem gu.dul {f:Fl} (h:gu f):f.wF.length≤60:=(dN.1 h.du).2.1
theorem yW.jm {f:Fl} (hk:Cw f) {x:Sr} (h:yW f x):Xa (f,x.j,x.m):=⟨hk,h.j.1,h.m.1⟩
theorem yW.bko {f:Fl} {x:Sr} (h:yW f x):D5 f x.j.toNat x.m.toNat=ew f x:=uJ h.q
noncomputable abbrev ac9:aB:=bS yU (fun d=>DuP d.1 d.2) fun d=>.sl 3 ((j9 d.1 d.2).map Du.row)
noncomputable abbrev E59:Env:={P:=Tryz.prog,fn:=bf [(56,.pure Ii)],own:=[],key:=5900,nt:=57,jQ:=[(1,[2,50002])]}
theorem b59:af E59 [(5,([0,3,5,8,10,11],[[0,1,2,3,4,5,6,7,8,9,10,11,12,13,14,15,16,17]]))] Tryz.f59 ac9:=pb <| by
 rintro⟨f,l⟩ ⟨hK,H8,Aa⟩
 simp only at hK H8 Aa
 have hdl:=hK.ok.dul
 have h0:j9 f (l.take 0)=f.wF:=by simp [j9]
 have h00:j9 f []=f.wF:=by simp [j9]
 have hlen:=fun k=>qB f (l.take k)
 simp -dsimp [Tryz.f59,E59]
 repeat' (first|omega|simp -dsimp [E59,ri,aa,ints,hdl]|apply aI|refine oI fun _=>?_|apply nI)
 refine ay [12,13,14,15,19,20,21,22,23,24,25,26,27,28,29,30,18,31,32,7,8,33,34,35,36,37,38,39,40,41,42,43,44,45,46,47,48,49,50,51,52,53,54,55,5,16,17,6] (fun k:{k:Nat // k≤l.length}=>[(6,(true,.int .i64 k.1)),(5,(true,.bw 5911 0 (j9 f (l.take k.1)).length))]) (fun k=>hps [(5911,{base:=0,ah:=[{z:=3,els:=(j9 f (l.take k.1)).map Du.row,ty:=65}]}),(5907,{base:=k.1,ah:=[]}),(5902,fS f)] cg) (fun k=>l.length - k.1) ⟨0,by omega⟩ ?_ ?_ ?_
 ·simp [aj,aT,h00]
 ·simp only [h0]; (try simp -dsimp only [hpx]); refine ai ?_; simp -dsimp [aC,fS]<;>exact rz
 rintro⟨k,hk⟩
 dsimp only
 have hlk:=hlen k
 have hlt:(l.take k).length≤100:=by simp; omega
 by_cases aH:k<l.length
 ·have hki:(k:Int)<l.length:=by omega
  have wk:=wx k
  obtain⟨x,hx,hx'⟩:=gx aH
  have hS:=H8 x (hx' ▸ List.getElem_mem aH)
  have hJ:=hS.jm hK
  have hO:=hS.bko
  have hq:=hS.q
  have xT:=yX f l hx
  have hd2:GV f x=[⟨x.c,(ew f x).lv,(ew f x).hm⟩,⟨x.k,(ew f x).lv,(ew f x).hm⟩]:=rfl
  obtain⟨xj,xm,xc,xk⟩:=x
  generalize ew f ⟨xj,xm,xc,xk⟩=B at *
  obtain⟨b1,b2,b3,b4⟩:=B
  simp only at hJ hO hq hd2
  generalize hD1:j9 f (l.take (k+1))=D1 at *
  generalize j9 f (l.take k)=D0 at *
  have Aj:(D0.length+2) * 24≤140737488355328:=by omega
  simp -dsimp [hki]
  repeat' (first|omega|simp -dsimp [E59,ri,aa,ints,hki,aH,hx,hx',Sr.row,Bk.row,dS,hJ,hO,hq,Aj,aS,cQ,wk]|apply aI|refine oI fun _=>?_|apply nI)
  refine⟨k+1,ag rfl ?_,?_,by omega,by omega⟩
  ·simp [aj,aT,hD1,xT,hd2]
  ·rw [hD1,xT,hd2]; (try simp -dsimp only [hpx]); refine ai ?_; simp -dsimp [aC,fS,Du.row]<;>exact rz
 have hkn:¬ (k:Int)<l.length:=by omega
 have hke:k=l.length:=by omega
 subst hke
 rw [List.take_length]
 simp -dsimp [hkn]
 repeat' (first|omega|simp -dsimp [E59,ri,aa,ints,hkn]|apply aI|refine oI fun _=>?_|apply nI)
theorem anr:FO 59 ac9:=pf b59 (.cons Sl .nil)
noncomputable abbrev ada:aB:=bS Fj (fun d=>DuP d.1 d.2.1) fun d=>.bool (GW d.1 d.2.1 d.2.2.1 d.2.2.2)
def rdK (f:Fl) (l:List Sr) (m t:Int) (k:Nat):Prop:=GW f (l.take k) m t=true
theorem Sm (f:Fl) (l:List Sr) (m t:Int) {k:Nat} {x:Sr} (h:l[k]?=some x):GW f (l.take (k+1)) m t=(GW f (l.take k) m t && !decide (x.m=m∧(ew f x).lv≤t∧t<(ew f x).hm)):=by
 rw [List.take_add_one,h]; exact Yb f _ x m t
theorem Yc {f:Fl} {l:List Sr} {m t:Int} {k:Nat} {x:Sr} (h:l[k]?=some x) (hx:x.m=m∧(ew f x).lv≤t∧t<(ew f x).hm):GW f l m t=false:=by
 unfold GW
 rw [Bool.not_eq_false',List.any_eq_true]
 exact⟨x,List.mem_of_getElem? h,by simpa using hx⟩
noncomputable abbrev Sn:Env:={P:=Tryz.prog,fn:=bf [(56,.pure Ii)],own:=[],key:=11900,nt:=52,jQ:=[(1,[4,50004])]}
theorem ans:af Sn [(4,([0,3,5,8,10,11],[[0,1,2,3,4,5,6,7,8,9,10,11,12,13,14,15,16,17]]))] Tryz.f119 ada:=pb <| by
 rintro⟨f,l,m,t⟩ ⟨hK,H8,Aa⟩
 simp only at hK H8 Aa
 simp -dsimp [Tryz.f119,Sn]
 repeat' (first|omega|simp -dsimp [Sn,ri,aa,ints,hK]|apply aI|refine oI fun _=>?_|apply nI)
 refine ay [12,13,14,15,19,20,21,22,23,24,25,26,27,28,29,30,18,31,32,10,11,33,34,35,36,37,38,39,40,41,42,43,44,45,46,47,48,49,50,51,8,16,17,9] (fun k:{k:Nat // k≤l.length∧rdK f l m t k}=>[(9,(true,.int .i64 k.1))]) (fun k=>hps [(11910,{base:=k.1,ah:=[]}),(11904,fS f)] cg) (fun k=>l.length - k.1) ⟨0,by omega,by simp [rdK,GW]⟩ ?_ ?_ ?_
 ·simp [aj,aT]
 ·(try simp -dsimp only [hpx]); refine ai ?_; simp -dsimp [aC,fS]<;>exact rz
 rintro⟨k,hk,hall⟩
 dsimp only
 by_cases aH:k<l.length
 ·have hki:(k:Int)<l.length:=by omega
  have wk:=wx k
  obtain⟨x,hx,hx'⟩:=gx aH
  have hS:=H8 x (hx' ▸ List.getElem_mem aH)
  have hJ:=hS.jm hK
  have hO:=hS.bko
  have hq:=hS.q
  have sQ:=Sm f l m t hx
  have hbd:=Yc (f:=f) (m:=m) (t:=t) hx
  have vV:GW f (l.take k) m t=true:=hall
  rw [vV]at sQ
  obtain⟨xj,xm,xc,xk⟩:=x
  generalize ew f ⟨xj,xm,xc,xk⟩=B at *
  obtain⟨b1,b2,b3,b4⟩:=B
  simp only at hJ hO hq sQ hbd
  rcases Classical.propComplete (xm=m)with c1|c1<;>rcases Classical.propComplete (b1≤t)with c2|c2<;>rcases Classical.propComplete (t<b3)with c3|c3
  all_goals
   simp only [c1,c2,c3,and_true,and_false,and_self,decide_true,decide_false,Bool.not_false,Bool.not_true,Bool.and_true,Bool.and_false,true_implies,false_implies]at sQ hbd
   simp -dsimp [hki]
   repeat' (first|omega|simp -dsimp [Sn,ri,aa,ints,hki,aH,hx,hx',Sr.row,Bk.row,dS,hJ,hO,hq,c1,c2,c3,aS,cQ,wk,hbd]|apply aI|refine oI fun _=>?_|apply nI)
  all_goals
   refine⟨k+1,ag rfl ?_,?_,⟨by omega,sQ⟩,by omega⟩
   ·simp [aj,aT]
   ·(try simp -dsimp only [hpx]); refine ai ?_; simp -dsimp [aC,fS]<;>exact rz
 have hkn:¬ (k:Int)<l.length:=by omega
 have hke:k=l.length:=by omega
 subst hke
 have vV:GW f (l.take l.length) m t=true:=hall
 rw [List.take_length]at vV
 simp -dsimp [hkn]
 repeat' (first|omega|simp -dsimp [Sn,ri,aa,ints,hkn,vV]|apply aI|refine oI fun _=>?_|apply nI)
theorem aiR:FO 119 ada:=pf ans (.cons Sl .nil)
noncomputable abbrev adb:aB:=bS yU (fun d=>DuP d.1 d.2) fun d=>.bool (uZ d.1 d.2)
def cvK (f:Fl) (l:List Sr) (k:Nat):Prop:=∀i:Nat,i<k→Nt f l i=true
theorem Su (f:Fl) (l:List Sr) (t:Int):∀m:Nat,0≤GX f l t m∧GX f l t m≤m
 | 0=>by simp [GX]
 | m+1=>by have:=Su f l t m; rw [GX]; split<;>omega
theorem Sv {f:Fl} {l:List Sr} {k:Nat} (hk:(k:Int)<f.gF) (h:Nt f l k=false):uZ f l=false:=by
 unfold uZ
 rw [List.all_eq_false]
 exact⟨k,by simp; omega,by rw [h]; simp⟩
theorem Sw {f:Fl} {l:List Sr} {k:Nat} (hk:f.gF≤k) (h:cvK f l k):uZ f l=true:=
 Fk.2 fun t h1 h2=>by
  have:=h t.toNat (by omega)
  rwa [Int.toNat_of_nonneg h1]at this
noncomputable abbrev E60:Env:={P:=Tryz.prog,fn:=bf [(119,.pure ada)],own:=[],key:=6000,nt:=32,jQ:=[(1,[2,50002])]}
theorem b60:af E60 [] Tryz.f60 adb:=pb <| by
 rintro⟨f,l⟩ hP
 have hP:DuP f l:=hP
 have hun:=hP.ok.ok.gF
 have ry:f.dU.length≤1000000:=by
  have h1:=hP.ok.ok.dU
  have:=(Ij hP.ok.ok.op).small
  have h2:=(pS (by
   have:=hP.ok.ok.op
   unfold jA at this
   split at this
   ·assumption
   ·cases this)).m1
  omega
 simp -dsimp [Tryz.f60,E60]
 repeat' (first|omega|simp -dsimp [E60,ri,aa,ints,hun]|apply aI|refine oI fun _=>?_|apply nI)
 refine ay [8,9,10,11,6,7,14,15,16,17,18,21,22,23,24,25,26,27,19,20,28,29,30,31,4,12,13,5] (fun k:{k:Nat // (k:Int)≤f.gF∧cvK f l k}=>[(5,(true,.int .i64 k.1))]) (fun _=>hps [(6002,fS f)] cg) (fun k=>f.gF.toNat - k.1) ⟨0,by omega,fun _ h=>by omega⟩ ?_ ?_ ?_
 ·simp [aj,aT]
 ·(try simp -dsimp only [hpx]); refine ai ?_; simp -dsimp [aC,fS]<;>exact rz
 rintro⟨k,hk,hall⟩
 dsimp only
 by_cases hki:(k:Int)<f.gF
 case neg=>
  have hb:=Sw (by omega) hall
  simp -dsimp [hki]
  repeat' (first|omega|simp -dsimp [E60,ri,aa,ints,hki,hb]|apply aI|refine oI fun _=>?_|apply nI)
 have wk:=wx k
 simp -dsimp [hki]
 repeat' (first|omega|simp -dsimp [E60,ri,aa,ints,hki]|apply aI|refine oI fun _=>?_|apply nI)
 refine ay [14,15,16,17,18,21,22,23,24,25,26,27,6,19,20,7] (fun m:{m:Nat // m≤f.dU.length}=>[(7,(true,.int .i64 m.1)),(6,(true,.int .i64 (GX f l k m.1)))]) (fun _=>hps [(6002,fS f)] cg) (fun m=>f.dU.length - m.1) ⟨0,by omega⟩ ?_ ?_ ?_
 ·simp [aj,aT,GX]
 ·(try simp -dsimp only [hpx]); refine ai ?_; simp -dsimp [aC,fS]<;>exact rz
 rintro⟨m,hm⟩
 dsimp only
 have hb:=Su f l k m
 by_cases jW:m<f.dU.length
 ·have oh:(m:Int)<f.dU.length:=by omega
  have wm:=wx m
  have hN:GX f l k (m+1)=GX f l k m+if GW f l m k=true then 1 else 0:=rfl
  generalize hN1:GX f l k (m+1)=N1 at *
  generalize GX f l k m=N0 at *
  have wn:=wi (N0+1)
  cases c:GW f l m k
  all_goals
   simp only [c,if_true,if_false,reduceCtorEq,Int.add_zero]at hN
   simp -dsimp [oh]
   repeat' (first|omega|simp -dsimp [E60,ri,aa,ints,oh,Nu,hP,c,wm,wn]|apply aI|refine oI fun _=>?_|apply nI)
   refine⟨m+1,ag rfl ?_,bA.refl _,by omega,by omega⟩
   simp [aj,aT,hN1,hN]
 have hmn:¬ (m:Int)<f.dU.length:=by omega
 have hme:m=f.dU.length:=by omega
 subst hme
 have hT:Nt f l k=decide (f.rU≤GX f l k f.dU.length):=rfl
 generalize GX f l k f.dU.length=N at *
 by_cases c:N<f.rU
 ·have hb:=Sv hki (by rw [hT,decide_eq_false (by omega)])
  simp -dsimp [hmn]
  repeat' (first|omega|simp -dsimp [E60,ri,aa,ints,hmn,c,hb]|apply aI|refine oI fun _=>?_|apply nI)
 ·have sQ:cvK f l (k+1):=fun i hi=>by
   by_cases e:i=k
   ·subst e; rw [hT,decide_eq_true (by omega)]
   ·exact hall i (by omega)
  replace c:(N<f.rU)=False:=eq_false c
  simp -dsimp [hmn]
  repeat' (first|omega|simp -dsimp [E60,ri,aa,ints,hmn,c,wk]|apply aI|refine oI fun _=>?_|apply nI)
  refine⟨k+1,cq (aN rfl (br rfl (aN rfl bO))) ?_,bA.refl _,⟨by omega,sQ⟩,by omega⟩
  simp [aj,aT]
theorem ant:FO 60 adb:=pf b60 (.cons aiR .nil)
end Go.Sx
end
