/- Crew: the reference's check of duties. No conditions. -/
import Derived.Test.YtfhdpblkdgmnfaaGreatDoorP27
import Derived.Test.YtfhdpblkdgmnfaaGreatDoorP28
set_option linter.unusedSimpArgs false
set_option linter.unusedVariables false
set_option linter.unusedSectionVars false
set_option maxRecDepth 100000
set_option maxHeartbeats 8000000
noncomputable section
namespace Go.Sx
open Go.Proofs
attribute [local irreducible] HLe
theorem ckR_no {r:Ro} {l:List Du} (h:r.ok=false):chkE r l=(0,100):=by simp [chkE,h]
theorem ckR_many {r:Ro} {l:List Du} (h:r.ok=true) (h2:60<l.length):chkE r l=(0,2):=by simp [chkE,h,h2]
theorem ckR_bad {r:Ro} {l:List Du} (h:r.ok=true) (h2:¬ 60<l.length) {k:Nat} (hk:k<l.length) (hp:duOk r l k=false) (hall:Rt r l k):chkE r l=((k:Int),101):=by
 have:badDu r l=k:=idxZ_at _ _ (by simpa using hk) (by simp [hp]) fun j _ hj=>by simp [hall j hj]
 simp [chkE,h,h2,this]
theorem ckR_ok {r:Ro} {l:List Du} (h:r.ok=true) (h2:¬ 60<l.length) (hall:Rt r l l.length):chkE r l=(0,0):=by
 have:badDu r l = -1:=badDu_of hall
 simp [chkE,h,h2,this]
theorem duOk_eq (r:Ro) (l:List Du) (i:Nat) (d:Du) (hd:duAt l i=d):duOk r l i=(perB r d.p && strB d.a d.b && (decide (i=0) || decide ((duAt l (i - 1)).a≤d.a)) && (brk r (own (l.take i) d.p) d).isEmpty):=by
 subst hd; rfl
abbrev ckRS:PSpec:=mkP chE ChP fun d=>.tup [.int .i64 (chkE d.1 d.2).1,.int .i64 (chkE d.1 d.2).2]
abbrev E52:Env:={P:=Tryz.prog,fn:=tbl [(110,.pure rosS),(111,.pure perS),(112,.pure tikS),(113,.pure brkRS)],own:=[],key:=5200,nt:=76}
theorem b52:PureBody E52 [] Tryz.f52 ckRS:=by
 refine pb ?_
 rintro⟨r,l⟩ ⟨hp,hl⟩
 simp only at hp hl
 cases hok:r.ok
 ·have hz:=ckR_no (l:=l) hok
  simp -dsimp [Tryz.f52,E52,Ro.row,pplV,roE_dec,hp,hok]
  repeat' (first|omega|simp -dsimp [E52,ri,cellp,ints,Ro.row,pplV,roE_dec,hp,hok,hz]|refine aI ?_ fun _=>?_|refine oI fun _=>?_|refine nI ?_ ?_)
 by_cases h60:60<l.length
 ·have h60i:(60:Int)<l.length:=by omega
  have hz:=ckR_many (l:=l) hok h60
  simp -dsimp [Tryz.f52,E52,Ro.row,pplV,roE_dec,hp,hok]
  repeat' (first|omega|simp -dsimp [E52,ri,cellp,ints,Ro.row,pplV,roE_dec,hp,hok,hz,h60i]|refine aI ?_ fun _=>?_|refine oI fun _=>?_|refine nI ?_ ?_)
 have hf:=Ro.ok_iff.1 hok
 have h60i:((60:Int)<l.length)=False:=eq_false (by omega)
 simp -dsimp [Tryz.f52,E52,Ro.row,pplV,roE_dec,hp,hok]
 repeat' (first|omega|simp -dsimp [E52,ri,cellp,ints,Ro.row,pplV,roE_dec,hp,hok,h60i]|refine aI ?_ fun _=>?_|refine oI fun _=>?_|refine nI ?_ ?_)
 refine awp_loop [16,17,18,19,22,23,24,25,26,27,28,29,30,31,32,33,34,35,36,37,38,39,40,41,42,43,44,45,46,47,48,49,50,51,52,53,54,55,56,57,58,59,60,61,62,63,64,65,66,67,68,69,70,71,72,73,74,75,4,5,20,21,7] (fun k:{k:Nat // k≤l.length∧Rt r l k}=>[(7,(true,.int .i64 k.1))]) (fun _=>hps [(5202,{base:=0,blks:=[{z:=6,els:=[r.row],ty:=41}]})] noH) (fun k=>l.length - k.1) ⟨0,by omega,fun _ h=>by omega⟩ ?_ ?_ ?_
 ·simp [okAll,okv]
 ·exact(by(try simp -dsimp only [hpx]); refine hle_hps ?_; simp -dsimp [allK,Ro.row,pplV]<;>exact rz)
 rintro⟨k,hk,hall⟩
 dsimp only
 by_cases hk1:k<l.length
 case neg=>
  have hkn:¬ (k:Int)<l.length:=by omega
  have hke:k=l.length:=by omega
  subst hke
  have hz:=ckR_ok hok h60 hall
  simp -dsimp [hkn]
  repeat' (first|omega|simp -dsimp [E52,ri,cellp,ints,hkn,hz]|refine aI ?_ fun _=>?_|refine oI fun _=>?_|refine nI ?_ ?_)
 have hki:(k:Int)<l.length:=by omega
 obtain⟨d,hd⟩:∃d,l[k]?=some d:=⟨_,List.getElem?_eq_getElem hk1⟩
 have hd':l[k]=d:=get_of hd hk1
 have hda:duAt l k=d:=by simp [duAt,List.getD,hd]
 have hD:=duOk_eq r l k d hda
 have hv:=Rt.val (by omega) hall
 have hdj:=Rt.disj (r:=r) hf.rst.1 d.p (by omega) hall
 have hlk:(l.take k).length≤1000:=by simp; omega
 have hmt:List.take k (l.map Du.row)=(l.take k).map Du.row:=by rw [List.map_take]
 have hkl:k≤l.length:=by omega
 generalize l.take k=lk at *
 have hreq:VDu d→rbrk r lk d=brk r (own lk d.p) d:=fun h=>rbrk_eq hf hdj (own_val hv d.p) h
 have hRP:VDu d→RrP (r,lk,d):=fun h=>⟨hf,hlk,hv,h⟩
 by_cases hk0:k=0
 ·subst hk0
  have hne:(l=[])=False:=eq_false (by rintro rfl; simp at hk1)
  have w1:IntKind.wrap .i64 1=1:=wrap_id (by omega) (by omega)
  cases c1:perB r d.p
  ·have hz:=ckR_bad hok h60 hk1 (by rw [hD,c1]; rfl) hall
   simp -dsimp [hki]
   repeat' (first|omega|simp -dsimp [E52,ri,cellp,ints,Ro.row,pplV,Du.row,hki,hk1,hkl,hd,hd',hmt,peE_dec,hp,w1,hne,c1,hz]|refine aI ?_ fun _=>?_|refine oI fun _=>?_|refine nI ?_ ?_)
  cases c2:strB d.a d.b
  ·have hz:=ckR_bad hok h60 hk1 (by rw [hD,c1,c2]; rfl) hall
   simp -dsimp [hki]
   repeat' (first|omega|simp -dsimp [E52,ri,cellp,ints,Ro.row,pplV,Du.row,hki,hk1,hkl,hd,hd',hmt,peE_dec,hp,w1,hne,c1,c2,hz]|refine aI ?_ fun _=>?_|refine oI fun _=>?_|refine nI ?_ ?_)
  have hVd:VDu d:=strB_iff.1 c2
  have hreq:=hreq hVd
  have hRP:=hRP hVd
  generalize hB:brk r (own lk d.p) d=B at hD hreq
  cases B with
  | nil=>
   simp -dsimp [hki]
   repeat' (first|omega|simp -dsimp [E52,ri,cellp,ints,Ro.row,pplV,Du.row,hki,hk1,hkl,hd,hd',hmt,peE_dec,hp,w1,hne,c1,c2,rrE_dec,hRP,hreq]|refine aI ?_ fun _=>?_|refine oI fun _=>?_|refine nI ?_ ?_)
   refine⟨0+1,tle_chain rfl ?_,HLe.refl _,⟨by omega,fun i hi=>?_⟩,by omega⟩
   ·simp [okAll,okv,w1]
   ·by_cases hik:i=0
    ·subst hik; rw [hD,c1,c2]; simp
    ·exact hall i (by omega)
  | cons b bs=>
   have hz:=ckR_bad hok h60 hk1 (by rw [hD]; simp) hall
   have hbl:((bs.length:Int)+1≤0)=False:=eq_false (by omega)
   simp -dsimp [hki]
   repeat' (first|omega|simp -dsimp [E52,ri,cellp,ints,Ro.row,pplV,Du.row,hki,hk1,hkl,hd,hd',hmt,peE_dec,hp,w1,hne,c1,c2,rrE_dec,hRP,hreq,hbl,hz]|refine aI ?_ fun _=>?_|refine oI fun _=>?_|refine nI ?_ ?_)
 ·obtain⟨j,rfl⟩:∃j,k=j+1:=⟨k - 1,by omega⟩
  have hj1:j<l.length:=by omega
  obtain⟨e,he⟩:∃e,l[j]?=some e:=⟨_,List.getElem?_eq_getElem hj1⟩
  have he':l[j]=e:=get_of he hj1
  have hde:duAt l (j+1 - 1)=e:=by simp [duAt,List.getD,he]
  have wj:IntKind.wrap .i64 (((j+1:Nat):Int) - 1)=(j:Nat):=by rw [wrap_id (by omega) (by omega)]; omega
  have wj2:IntKind.wrap .i64 (j:Int)=(j:Nat):=wrap_id (by omega) (by omega)
  have hji:(j:Int)<l.length:=by omega
  have hpos:(0:Int)<(j:Int)+1:=by omega
  have hneq:j<l.length:=hj1
  have w1:IntKind.wrap .i64 ((j:Int)+1+1)=(j:Int)+1+1:=wrap_id (by omega) (by omega)
  have hd3:(decide (j+1=0) || decide ((duAt l (j+1 - 1)).a≤d.a))=decide (e.a≤d.a):=by rw [hde]; simp
  cases c1:perB r d.p
  ·have hz:=ckR_bad hok h60 hk1 (by rw [hD,c1]; rfl) hall
   simp -dsimp [hki]
   repeat' (first|omega|simp -dsimp [E52,ri,cellp,ints,Ro.row,pplV,Du.row,hki,hk1,hkl,hd,hd',hmt,peE_dec,hp,w1,hji,hj1,he,he',wj,wj2,hpos,hneq,c1,hz]|refine aI ?_ fun _=>?_|refine oI fun _=>?_|refine nI ?_ ?_)
  cases c2:strB d.a d.b
  ·have hz:=ckR_bad hok h60 hk1 (by rw [hD,c1,c2]; rfl) hall
   simp -dsimp [hki]
   repeat' (first|omega|simp -dsimp [E52,ri,cellp,ints,Ro.row,pplV,Du.row,hki,hk1,hkl,hd,hd',hmt,peE_dec,hp,w1,hji,hj1,he,he',wj,wj2,hpos,hneq,c1,c2,hz]|refine aI ?_ fun _=>?_|refine oI fun _=>?_|refine nI ?_ ?_)
  by_cases c3:d.a<e.a
  ·have hz:=ckR_bad hok h60 hk1 (by rw [hD,c1,c2,hd3,decide_eq_false (by omega:¬ e.a≤d.a)]; simp) hall
   simp -dsimp [hki]
   repeat' (first|omega|simp -dsimp [E52,ri,cellp,ints,Ro.row,pplV,Du.row,hki,hk1,hkl,hd,hd',hmt,peE_dec,hp,w1,hji,hj1,he,he',wj,wj2,hpos,hneq,c1,c2,c3,hz]|refine aI ?_ fun _=>?_|refine oI fun _=>?_|refine nI ?_ ?_)
  have hd4:decide (e.a≤d.a)=true:=decide_eq_true (by omega)
  replace c3:(d.a<e.a)=False:=eq_false c3
  have hVd:VDu d:=strB_iff.1 c2
  have hreq:=hreq hVd
  have hRP:=hRP hVd
  generalize hB:brk r (own lk d.p) d=B at hD hreq
  cases B with
  | nil=>
   simp -dsimp [hki]
   repeat' (first|omega|simp -dsimp [E52,ri,cellp,ints,Ro.row,pplV,Du.row,hki,hk1,hkl,hd,hd',hmt,peE_dec,hp,w1,hji,hj1,he,he',wj,wj2,hpos,hneq,c3,c1,c2,rrE_dec,hRP,hreq]|refine aI ?_ fun _=>?_|refine oI fun _=>?_|refine nI ?_ ?_)
   refine⟨(j+1)+1,tle_chain rfl ?_,HLe.refl _,⟨by omega,fun i hi=>?_⟩,by omega⟩
   ·simp [okAll,okv,w1]
   ·by_cases hik:i=(j+1)
    ·subst hik; rw [hD,c1,c2,hd3,hd4]; simp
    ·exact hall i (by omega)
  | cons b bs=>
   have hz:=ckR_bad hok h60 hk1 (by rw [hD]; simp) hall
   have hbl:((bs.length:Int)+1≤0)=False:=eq_false (by omega)
   simp -dsimp [hki]
   repeat' (first|omega|simp -dsimp [E52,ri,cellp,ints,Ro.row,pplV,Du.row,hki,hk1,hkl,hd,hd',hmt,peE_dec,hp,w1,hji,hj1,he,he',wj,wj2,hpos,hneq,c3,c1,c2,rrE_dec,hRP,hreq,hbl,hz]|refine aI ?_ fun _=>?_|refine oI fun _=>?_|refine nI ?_ ?_)
theorem ok52:FO 52 ckRS:=pf b52 (.cons ok110 (.cons ok111 (.cons ok112 (.cons ok113 .nil))))
end Go.Sx
end
