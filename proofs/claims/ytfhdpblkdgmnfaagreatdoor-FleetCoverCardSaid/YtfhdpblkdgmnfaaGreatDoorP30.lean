/- Crew: the reference's check of duties. No conditions. -/
import Derived.Test.YtfhdpblkdgmnfaaGreatDoorP28
import Derived.Test.YtfhdpblkdgmnfaaGreatDoorP29
set_option linter.unusedSimpArgs false
set_option linter.unusedVariables false
set_option linter.unusedSectionVars false
set_option maxRecDepth 100000
set_option maxHeartbeats 8000000
noncomputable section
namespace Go.Sx
open Go.Proofs
attribute [local irreducible] bA
theorem agj {r:Ro} {l:List Du} (h:r.ok=false):fL r l=(0,100):=by simp [fL,h]
theorem Wc {r:Ro} {l:List Du} (h:r.ok=true) (h2:60<l.length):fL r l=(0,2):=by simp [fL,h,h2]
theorem nY {r:Ro} {l:List Du} (h:r.ok=true) (h2:¬ 60<l.length) {k:Nat} (hk:k<l.length) (hp:ue r l k=false) (hall:Rt r l k):fL r l=((k:Int),101):=by
 have:wh r l=k:=cW _ _ (by simpa using hk) (by simp [hp]) fun j _ hj=>by simp [hall j hj]
 simp [fL,h,h2,this]
theorem agk {r:Ro} {l:List Du} (h:r.ok=true) (h2:¬ 60<l.length) (hall:Rt r l l.length):fL r l=(0,0):=by
 have:wh r l = -1:=Ge hall
 simp [fL,h,h2,this]
theorem aaS (r:Ro) (l:List Du) (i:Nat) (d:Du) (hd:cz l i=d):ue r l i=(U4 r d.p && r9 d.a d.b && (decide (i=0) || decide ((cz l (i - 1)).a≤d.a)) && (brk r (own (l.take i) d.p) d).isEmpty):=by
 subst hd; rfl
noncomputable abbrev Vj:aB:=bS chE MG fun d=>.dB [.int .i64 (fL d.1 d.2).1,.int .i64 (fL d.1 d.2).2]
noncomputable abbrev GO:Env:={P:=Tryz.prog,fn:=bf [(110,.pure NS),(111,.pure aff),(112,.pure aai),(113,.pure Kw)],own:=[],key:=5200,nt:=76}
theorem b52:af GO [] Tryz.f52 Vj:=pb <| by
 rintro⟨r,l⟩ ⟨hp,hl⟩
 simp only at hp hl
 cases hok:r.ok
 ·have hz:=agj (l:=l) hok
  simp -dsimp [Tryz.f52,GO,Ro.row,bp,iw,hp,hok]
  repeat' (first|omega|simp -dsimp [GO,ri,aa,ints,Ro.row,bp,iw,hp,hok,hz]|apply aI|refine oI fun _=>?_|apply nI)
 by_cases Dt:60<l.length
 ·have IM:(60:Int)<l.length:=by omega
  have hz:=Wc (l:=l) hok Dt
  simp -dsimp [Tryz.f52,GO,Ro.row,bp,iw,hp,hok]
  repeat' (first|omega|simp -dsimp [GO,ri,aa,ints,Ro.row,bp,iw,hp,hok,hz,IM]|apply aI|refine oI fun _=>?_|apply nI)
 have hf:=Ro.si.1 hok
 have IM:((60:Int)<l.length)=False:=eq_false (by omega)
 simp -dsimp [Tryz.f52,GO,Ro.row,bp,iw,hp,hok]
 repeat' (first|omega|simp -dsimp [GO,ri,aa,ints,Ro.row,bp,iw,hp,hok,IM]|apply aI|refine oI fun _=>?_|apply nI)
 refine ay [16,17,18,19,22,23,24,25,26,27,28,29,30,31,32,33,34,35,36,37,38,39,40,41,42,43,44,45,46,47,48,49,50,51,52,53,54,55,56,57,58,59,60,61,62,63,64,65,66,67,68,69,70,71,72,73,74,75,4,5,20,21,7] (fun k:{k:Nat // k≤l.length∧Rt r l k}=>[(7,(true,.int .i64 k.1))]) (fun _=>hps [(5202,{base:=0,ah:=[{z:=6,els:=[r.row],ty:=41}]})] cg) (fun k=>l.length - k.1) ⟨0,by omega,fun _ h=>by omega⟩ ?_ ?_ ?_
 ·simp [aj,aT]
 ·(try simp -dsimp only [hpx]); refine ai ?_; simp -dsimp [aC,Ro.row,bp]<;>exact rz
 rintro⟨k,hk,hall⟩
 dsimp only
 by_cases aH:k<l.length
 case neg=>
  have hkn:¬ (k:Int)<l.length:=by omega
  have hke:k=l.length:=by omega
  subst hke
  have hz:=agk hok Dt hall
  simp -dsimp [hkn]
  repeat' (first|omega|simp -dsimp [GO,ri,aa,ints,hkn,hz]|apply aI|refine oI fun _=>?_|apply nI)
 have hki:(k:Int)<l.length:=by omega
 obtain⟨d,hd⟩:∃d,l[k]?=some d:=⟨_,List.getElem?_eq_getElem aH⟩
 have hd':l[k]=d:=p6 hd aH
 have hda:cz l k=d:=by simp [cz,List.getD,hd]
 have hD:=aaS r l k d hda
 have hv:=Rt.val (by omega) hall
 have hdj:=Rt.Z8 (r:=r) hf.fN.1 d.p (by omega) hall
 have hlk:(l.take k).length≤1000:=by simp; omega
 have Ac:List.take k (l.map Du.row)=(l.take k).map Du.row:=by rw [List.map_take]
 have td:k≤l.length:=by omega
 generalize l.take k=lk at *
 have AU:DZ d→HE r lk d=brk r (own lk d.p) d:=fun h=>LZ hf hdj (qC hv d.p) h
 have WH:DZ d→RrP (r,lk,d):=fun h=>⟨hf,hlk,hv,h⟩
 by_cases kW:k=0
 ·subst kW
  have hne:(l=[])=False:=eq_false (by rintro rfl; simp at aH)
  have w1:IntKind.wrap .i64 1=1:=aK (by omega) (by omega)
  cases c1:U4 r d.p
  ·have hz:=nY hok Dt aH (by rw [hD,c1]; rfl) hall
   simp -dsimp [hki]
   repeat' (first|omega|simp -dsimp [GO,ri,aa,ints,Ro.row,bp,Du.row,hki,aH,td,hd,hd',Ac,kP,hp,w1,hne,c1,hz]|apply aI|refine oI fun _=>?_|apply nI)
  cases c2:r9 d.a d.b
  ·have hz:=nY hok Dt aH (by rw [hD,c1,c2]; rfl) hall
   simp -dsimp [hki]
   repeat' (first|omega|simp -dsimp [GO,ri,aa,ints,Ro.row,bp,Du.row,hki,aH,td,hd,hd',Ac,kP,hp,w1,hne,c1,c2,hz]|apply aI|refine oI fun _=>?_|apply nI)
  have hVd:DZ d:=gQ.1 c2
  have AU:=AU hVd
  have WH:=WH hVd
  generalize hB:brk r (own lk d.p) d=B at hD AU
  cases B with
  | nil=>
   simp -dsimp [hki]
   repeat' (first|omega|simp -dsimp [GO,ri,aa,ints,Ro.row,bp,Du.row,hki,aH,td,hd,hd',Ac,kP,hp,w1,hne,c1,c2,qw,WH,AU]|apply aI|refine oI fun _=>?_|apply nI)
   refine⟨0+1,ag rfl ?_,bA.refl _,⟨by omega,fun i hi=>?_⟩,by omega⟩
   ·simp [aj,aT,w1]
   ·by_cases hik:i=0
    ·subst hik; rw [hD,c1,c2]; simp
    ·exact hall i (by omega)
  | cons b bs=>
   have hz:=nY hok Dt aH (by rw [hD]; simp) hall
   have ry:((bs.length:Int)+1≤0)=False:=eq_false (by omega)
   simp -dsimp [hki]
   repeat' (first|omega|simp -dsimp [GO,ri,aa,ints,Ro.row,bp,Du.row,hki,aH,td,hd,hd',Ac,kP,hp,w1,hne,c1,c2,qw,WH,AU,ry,hz]|apply aI|refine oI fun _=>?_|apply nI)
 ·obtain⟨j,rfl⟩:∃j,k=j+1:=⟨k - 1,by omega⟩
  have hj1:j<l.length:=by omega
  obtain⟨e,he⟩:∃e,l[j]?=some e:=⟨_,List.getElem?_eq_getElem hj1⟩
  have he':l[j]=e:=p6 he hj1
  have hde:cz l (j+1 - 1)=e:=by simp [cz,List.getD,he]
  have wj:IntKind.wrap .i64 (((j+1:Nat):Int) - 1)=(j:Nat):=by rw [aK (by omega) (by omega)]; omega
  have T3:IntKind.wrap .i64 (j:Int)=(j:Nat):=aK (by omega) (by omega)
  have hji:(j:Int)<l.length:=by omega
  have hpos:(0:Int)<(j:Int)+1:=by omega
  have Wd:j<l.length:=hj1
  have w1:=wi ((j:Int)+1+1)
  have Cx:(decide (j+1=0) || decide ((cz l (j+1 - 1)).a≤d.a))=decide (e.a≤d.a):=by rw [hde]; simp
  cases c1:U4 r d.p
  ·have hz:=nY hok Dt aH (by rw [hD,c1]; rfl) hall
   simp -dsimp [hki]
   repeat' (first|omega|simp -dsimp [GO,ri,aa,ints,Ro.row,bp,Du.row,hki,aH,td,hd,hd',Ac,kP,hp,w1,hji,hj1,he,he',wj,T3,hpos,Wd,c1,hz]|apply aI|refine oI fun _=>?_|apply nI)
  cases c2:r9 d.a d.b
  ·have hz:=nY hok Dt aH (by rw [hD,c1,c2]; rfl) hall
   simp -dsimp [hki]
   repeat' (first|omega|simp -dsimp [GO,ri,aa,ints,Ro.row,bp,Du.row,hki,aH,td,hd,hd',Ac,kP,hp,w1,hji,hj1,he,he',wj,T3,hpos,Wd,c1,c2,hz]|apply aI|refine oI fun _=>?_|apply nI)
  by_cases c3:d.a<e.a
  ·have hz:=nY hok Dt aH (by rw [hD,c1,c2,Cx,decide_eq_false (by omega:¬ e.a≤d.a)]; simp) hall
   simp -dsimp [hki]
   repeat' (first|omega|simp -dsimp [GO,ri,aa,ints,Ro.row,bp,Du.row,hki,aH,td,hd,hd',Ac,kP,hp,w1,hji,hj1,he,he',wj,T3,hpos,Wd,c1,c2,c3,hz]|apply aI|refine oI fun _=>?_|apply nI)
  have hd4:decide (e.a≤d.a)=true:=decide_eq_true (by omega)
  replace c3:(d.a<e.a)=False:=eq_false c3
  have hVd:DZ d:=gQ.1 c2
  have AU:=AU hVd
  have WH:=WH hVd
  generalize hB:brk r (own lk d.p) d=B at hD AU
  cases B with
  | nil=>
   simp -dsimp [hki]
   repeat' (first|omega|simp -dsimp [GO,ri,aa,ints,Ro.row,bp,Du.row,hki,aH,td,hd,hd',Ac,kP,hp,w1,hji,hj1,he,he',wj,T3,hpos,Wd,c3,c1,c2,qw,WH,AU]|apply aI|refine oI fun _=>?_|apply nI)
   refine⟨(j+1)+1,ag rfl ?_,bA.refl _,⟨by omega,fun i hi=>?_⟩,by omega⟩
   ·simp [aj,aT,w1]
   ·by_cases hik:i=(j+1)
    ·subst hik; rw [hD,c1,c2,Cx,hd4]; simp
    ·exact hall i (by omega)
  | cons b bs=>
   have hz:=nY hok Dt aH (by rw [hD]; simp) hall
   have ry:((bs.length:Int)+1≤0)=False:=eq_false (by omega)
   simp -dsimp [hki]
   repeat' (first|omega|simp -dsimp [GO,ri,aa,ints,Ro.row,bp,Du.row,hki,aH,td,hd,hd',Ac,kP,hp,w1,hji,hj1,he,he',wj,T3,hpos,Wd,c3,c1,c2,qw,WH,AU,ry,hz]|apply aI|refine oI fun _=>?_|apply nI)
theorem afk:FO 52 Vj:=pf b52 (.cons akE (.cons akF (.cons abC (.cons abh .nil))))
end Go.Sx
end
