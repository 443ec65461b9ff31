/- A part of a proof; no conditions. -/
import Derived.Test.YtfhdpblkdgmnfaaGreatDoorP25
import Derived.Test.YtfhdpblkdgmnfaaGreatDoorP08
set_option linter.unusedSimpArgs false
set_option linter.unusedVariables false
set_option linter.unusedSectionVars false
set_option maxRecDepth 100000
set_option maxHeartbeats 8000000
noncomputable section
section
namespace Go.Sx
open Go.Proofs
attribute [local irreducible] HLe
abbrev E179:Env:={P:=Tryz.prog,fn:=tbl [],own:=[],key:=17900,nt:=15}
theorem b179:PureBody E179 [] Tryz.f179 withinS:=by
 refine pb ?_
 rintro⟨n,a,b⟩ _
 simp -dsimp [Tryz.f179,E179,withinB]
 repeat' (first|omega|simp -dsimp [E179,ri,cellp,ints, *]|refine aI ?_ fun _=>?_|refine oI fun _=>?_|refine nI ?_ ?_)
theorem ok179:FO 179 withinS:=pf b179 .nil
theorem ro_ok2 (r:Ro):r.ok=(decide (r.ppl.length≤12) && r.ppl.all Pn.ok && withinB r.lng 1 2000 && withinB r.rst 0 2000 && withinB r.win 1 2000 && withinB r.rcn 1 2000 && withinB r.tot 1 r.win):=rfl
abbrev E110:Env:={P:=Tryz.prog,fn:=tbl [(179,.pure withinS)],own:=[],key:=11000,nt:=69}
theorem b110:PureBody E110 [] Tryz.f110 rosS:=by
 refine pb ?_
 rintro r hl
 have hl:r.ppl.length≤100000000000000:=hl
 have hr:=ro_ok2 r
 generalize h2:withinB r.lng 1 2000=b2 at hr
 generalize h3:withinB r.rst 0 2000=b3 at hr
 generalize h4:withinB r.win 1 2000=b4 at hr
 generalize h5:withinB r.rcn 1 2000=b5 at hr
 generalize h6:withinB r.tot 1 r.win=b6 at hr
 have e0:decide ((12:Int)<r.ppl.length)=!decide (r.ppl.length≤12):=by
  by_cases h:r.ppl.length≤12
  ·rw [decide_eq_true h,decide_eq_false (by omega)]; rfl
  ·rw [decide_eq_false h,decide_eq_true (by omega)]; rfl
 by_cases hall:decide (r.ppl.length≤12) && b2 && b3 && b4 && b5 && b6
 case neg=>
  have hz:r.ok=false:=by
   rw [hr]; cases h:decide (r.ppl.length≤12)<;>rw [h]at hall<;>cases b2<;>cases b3<;>cases b4<;>cases b5<;>cases b6<;>simp_all
  have hz2:¬ (((((r.ppl.length≤12∧b2=true)∧b3=true)∧b4=true)∧b5=true)∧b6=true):=by
   simpa using hall
  clear hall
  simp -dsimp [Tryz.f110,E110,Ro.row,pplV]
  repeat' (first|omega|simp -dsimp [E110,ri,cellp,ints,Ro.row,pplV,h2,h3,h4,h5,h6,hz]|refine aI ?_ fun _=>?_|refine oI fun _=>?_|refine nI ?_ ?_)
  rename_i h
  exact(hz2 ⟨⟨⟨⟨⟨by omega,h.1.1.1.1.2⟩,h.1.1.1.2⟩,h.1.1.2⟩,h.1.2⟩,h.2⟩).elim
 simp only [Bool.and_eq_true,decide_eq_true_eq]at hall
 obtain⟨⟨⟨⟨⟨h1,rfl⟩,rfl⟩,rfl⟩,rfl⟩,rfl⟩:=hall
 have h1':((12:Int)<r.ppl.length)=False:=eq_false (by omega)
 rw [decide_eq_true h1]at hr
 simp only [Bool.true_and,Bool.and_true]at hr
 clear e0
 simp -dsimp [Tryz.f110,E110,Ro.row,pplV]
 repeat' (first|omega|simp -dsimp [E110,ri,cellp,ints,Ro.row,pplV,h2,h3,h4,h5,h6,h1']|refine aI ?_ fun _=>?_|refine oI fun _=>?_|refine nI ?_ ?_)
 refine awp_loop [41,42,43,44,45,48,49,50,51,52,4,53,54,55,56,57,58,59,60,61,62,63,64,65,66,67,68,2,46,47,3] (fun k:{k:Nat // k≤r.ppl.length∧∀j (h:j<r.ppl.length),j<k→r.ppl[j].ok=true}=>[(3,(true,.int .i64 k.1))]) (fun k=>hps [(11004,{base:=k.1,blks:=[]}),(11001,{base:=0,blks:=[{z:=6,els:=[r.row],ty:=41}]})] noH) (fun k=>r.ppl.length - k.1) ⟨0,by omega,fun _ _ h=>by omega⟩ ?_ ?_ ?_
 ·simp [okAll,okv]
 ·exact(by(try simp -dsimp only [hpx]); refine hle_hps ?_; simp -dsimp [allK,Ro.row,pplV]<;>exact rz)
 rintro⟨k,hk,hal⟩
 dsimp only
 by_cases hk1:k<r.ppl.length
 ·have hki:(k:Int)<r.ppl.length:=by omega
  have wk:IntKind.wrap .i64 ((k:Int)+1)=(k+1:Nat):=wrap_id (by omega) (by omega)
  obtain⟨p,hp⟩:∃p,r.ppl[k]?=some p:=⟨_,List.getElem?_eq_getElem hk1⟩
  have hp':r.ppl[k]=p:=(List.getElem?_eq_some_iff.1 hp).2
  have hpo:p.ok=(withinB p.rat 0 255 && withinB p.rank 0 3 && withinB p.dive 0 2000):=rfl
  have hbad:p.ok=false→r.ok=false:=fun h=>by
   rw [hr,List.all_eq_false]; exact⟨p,by rw [←hp']; exact List.getElem_mem hk1,by simp [h]⟩
  generalize g1:withinB p.rat 0 255=c1 at hpo
  generalize g2:withinB p.rank 0 3=c2 at hpo
  generalize g3:withinB p.dive 0 2000=c3 at hpo
  cases c1
  ·have hz:=hbad (by rw [hpo]; rfl)
   simp -dsimp [hki]
   repeat' (first|omega|simp -dsimp [E110,ri,cellp,ints,Ro.row,pplV,Pn.row,hki,hk1,hp,hp',g1,hz]|refine aI ?_ fun _=>?_|refine oI fun _=>?_|refine nI ?_ ?_)
  cases c2
  ·have hz:=hbad (by rw [hpo]; rfl)
   simp -dsimp [hki]
   repeat' (first|omega|simp -dsimp [E110,ri,cellp,ints,Ro.row,pplV,Pn.row,hki,hk1,hp,hp',g1,g2,hz]|refine aI ?_ fun _=>?_|refine oI fun _=>?_|refine nI ?_ ?_)
  cases c3
  ·have hz:=hbad (by rw [hpo]; rfl)
   simp -dsimp [hki]
   repeat' (first|omega|simp -dsimp [E110,ri,cellp,ints,Ro.row,pplV,Pn.row,hki,hk1,hp,hp',g1,g2,g3,hz]|refine aI ?_ fun _=>?_|refine oI fun _=>?_|refine nI ?_ ?_)
  simp -dsimp [hki]
  repeat' (first|omega|simp -dsimp [E110,ri,cellp,ints,Ro.row,pplV,Pn.row,hki,hk1,hp,hp',g1,g2,g3,wk]|refine aI ?_ fun _=>?_|refine oI fun _=>?_|refine nI ?_ ?_)
  refine⟨k+1,tle_chain rfl ?_,?_,⟨by omega,fun j h hj=>?_⟩,by omega⟩
  ·simp [okAll,okv]
  ·exact(by(try simp -dsimp only [hpx]); refine hle_hps ?_; simp -dsimp [allK,Ro.row,pplV]<;>exact rz)
  ·by_cases hjk:j=k
   ·subst hjk; rw [hp',hpo]; rfl
   ·exact hal j h (by omega)
 ·have hkn:¬ (k:Int)<r.ppl.length:=by omega
  have hz:r.ok=true:=by
   rw [hr,List.all_eq_true]
   intro p hp
   obtain⟨j,hj,rfl⟩:=List.getElem_of_mem hp
   exact hal j hj (by omega)
  simp -dsimp [hkn]
  repeat' (first|omega|simp -dsimp [E110,ri,cellp,ints,Ro.row,pplV,hkn,hz]|refine aI ?_ fun _=>?_|refine oI fun _=>?_|refine nI ?_ ?_)
theorem ok110:FO 110 rosS:=pf b110 (.cons ok179 .nil)
end Go.Sx
end
section
namespace Go.Sx
open Go.Proofs
attribute [local irreducible] HLe
abbrev tikS:PSpec:={dom:=Int × Int,enc:=fun d=>[.int .i64 d.1,.int .i64 d.2],dec:=fun l=>((l.getD 0 .top).toInt,(l.getD 1 .top).toInt),pre:=fun _=>True,res:=fun d=>.bool (strB d.1 d.2)}
abbrev E112:Env:={P:=Tryz.prog,fn:=tbl [],own:=[],key:=11200,nt:=16}
theorem b112:PureBody E112 [] Tryz.f112 tikS:=by
 refine pb ?_
 rintro⟨a,b⟩ _
 have hS:strB a b=(decide (0≤a) && decide (a<b) && decide (b≤2000)):=by
  rw [Bool.eq_iff_iff,strB_iff]; simp [and_assoc]
 simp -dsimp [Tryz.f112,E112,hS]
 repeat' (first|omega|simp -dsimp [E112,ri,cellp,ints,hS]|refine aI ?_ fun _=>?_|refine oI fun _=>?_|refine nI ?_ ?_)
theorem ok112:FO 112 tikS:=pf b112 .nil
@[simp] def peE (d:Ro × Int):List V:=[.agg d.1.row,.int .i64 d.2]
theorem peE_inj (a b:Ro × Int) (h:peE a=peE b):a=b:=by
 obtain⟨a1,a2⟩:=a; obtain⟨b1,b2⟩:=b
 simp only [peE,List.cons.injEq,V.agg.injEq,V.int.injEq,true_and,and_true]at h
 rw [Ro.row_inj _ _ h.1,h.2]
theorem peE_dec (r:Ro) (n:Int):decC peE [.agg [.sl 3 (r.ppl.map Pn.row),.int .i64 r.lng,.int .i64 r.rst,.int .i64 r.win,.int .i64 r.tot,.int .i64 r.rcn],.int .i64 n]=(r,n):=decC_eq peE_inj (r,n)
abbrev perS:PSpec:=mkP peE (fun d=>d.1.ppl.length≤100000000000000) fun d=>.bool (perB d.1 d.2)
abbrev E111:Env:={P:=Tryz.prog,fn:=tbl [(179,.pure withinS)],own:=[],key:=11100,nt:=11}
theorem b111:PureBody E111 [] Tryz.f111 perS:=by
 refine pb ?_
 rintro⟨r,n⟩ hl
 have hl:r.ppl.length≤100000000000000:=hl
 have hwp:IntKind.wrap .i64 ((r.ppl.length:Int) - 1)=r.ppl.length - 1:=wrap_id (by omega) (by omega)
 have hP:perB r n=withinB n 0 (r.ppl.length - 1):=rfl
 simp -dsimp [Tryz.f111,E111,Ro.row,pplV]
 repeat' (first|omega|simp -dsimp [E111,ri,cellp,ints,Ro.row,pplV,hwp,hP]|refine aI ?_ fun _=>?_|refine oI fun _=>?_|refine nI ?_ ?_)
theorem ok111:FO 111 perS:=pf b111 (.cons ok179 .nil)
def VDu (d:Du):Prop:=0≤d.a∧d.a<d.b∧d.b≤2000
@[simp] def bsE (d:Du × Int × Int × Int):List V:=[.sl 3 [d.1.row],.int .i64 d.2.1,.int .i64 d.2.2.1,.int .i64 d.2.2.2]
theorem bsE_inj (a b:Du × Int × Int × Int) (h:bsE a=bsE b):a=b:=by
 obtain⟨a1,a2,a3,a4⟩:=a; obtain⟨b1,b2,b3,b4⟩:=b
 simp only [bsE,List.cons.injEq,V.sl.injEq,V.int.injEq,true_and,and_true]at h
 rw [Du.row_inj _ _ h.1,h.2.1,h.2.2.1,h.2.2.2]
theorem bsE_dec (d:Du) (n x y:Int):decC bsE [.sl 3 [[.int .i64 d.p,.int .i64 d.a,.int .i64 d.b]],.int .i64 n,.int .i64 x,.int .i64 y]=(d,n,x,y):=decC_eq bsE_inj (d,n,x,y)
structure BsP (e:Du × Int × Int × Int):Prop where
 d:VDu e.1
 x : -100000≤e.2.2.1∧e.2.2.1≤100000
 y : -100000≤e.2.2.2∧e.2.2.2≤100000
abbrev busS:PSpec:=mkP bsE BsP fun d=>.int .i64 (if d.1.p=d.2.1 then bus1 d.1 d.2.2.1 d.2.2.2 else 0)
abbrev E256:Env:={P:=Tryz.prog,fn:=tbl [],own:=[],key:=25600,nt:=43}
theorem b256:PureBody E256 [] Tryz.f256 busS:=by
 refine pb ?_
 rintro⟨d,n,x,y⟩ ⟨⟨hd1,hd2,hd3⟩,hx,hy⟩
 simp only at hd1 hd2 hd3 hx hy
 obtain⟨b,hb⟩:∃b,bus1 d x y=b:=⟨_,rfl⟩
 have hB:max 0 (min y d.b - max x d.a)=b:=hb
 have hbb:0≤b∧b≤200000:=by omega
 obtain⟨m1,hm1⟩:∃m,(if d.b<y then d.b else y)=m:=⟨_,rfl⟩
 obtain⟨m2,hm2⟩:∃m,(if x<d.a then d.a else x)=m:=⟨_,rfl⟩
 have e1:m1=min y d.b:=by rw [←hm1]; split<;>omega
 have e2:m2=max x d.a:=by rw [←hm2]; split<;>omega
 have w1:IntKind.wrap .i64 (m1 - m2)=m1 - m2:=wrap_id (by omega) (by omega)
 have e3:(if 0<m1 - m2 then m1 - m2 else 0)=b:=by rw [←hB,e1,e2]; split<;>omega
 have e3':(if m2<m1 then m1 - m2 else 0)=b:=by rw [←hB,e1,e2]; split<;>omega
 have w2:IntKind.wrap .i64 b=b:=wrap_id (by omega) (by omega)
 have w3:IntKind.wrap .i64 1=1:=wrap_id (by omega) (by omega)
 clear e1 e2
 simp -dsimp [Tryz.f256,E256,Du.row]
 by_cases hp:d.p=n
 ·rw [hb]
  refine awp_loop [11,12,13,14,17,18,19,20,21,22,23,24,25,26,27,28,29,30,31,32,33,34,35,36,37,38,39,40,41,9,15,16,10] (fun k:Bool=>[(10,(true,.int .i64 (if k then 1 else 0))),(9,(true,.int .i64 (if k then b else 0)))]) (fun _=>noH) (fun k=>if k then 0 else 1) false ?_ (HLe.refl _) ?_
  ·simp [okAll,okv]
  rintro(_|_)
  ·simp -dsimp []
   repeat' (first|omega|simp -dsimp [E256,ri,cellp,ints,hp,hm1,hm2,w1,e3,e3',w2,w3]|refine aI ?_ fun _=>?_|refine oI fun _=>?_|refine nI ?_ ?_)
   ·exact tle_chain rfl (by simp [okAll,okv])
   ·exact HLe.refl _
  ·simp -dsimp []
   repeat' (first|omega|simp -dsimp [E256,ri,cellp,ints,hp]|refine aI ?_ fun _=>?_|refine oI fun _=>?_|refine nI ?_ ?_)
 ·have hp':(d.p=n)=False:=eq_false hp
  refine awp_loop [11,12,13,14,17,18,19,20,21,22,23,24,25,26,27,28,29,30,31,32,33,34,35,36,37,38,39,40,41,9,15,16,10] (fun k:Bool=>[(10,(true,.int .i64 (if k then 1 else 0))),(9,(true,.int .i64 0))]) (fun _=>noH) (fun k=>if k then 0 else 1) false ?_ (HLe.refl _) ?_
  ·simp [okAll,okv]
  rintro(_|_)
  ·simp -dsimp []
   repeat' (first|omega|simp -dsimp [E256,ri,cellp,ints,hp',w3]|refine aI ?_ fun _=>?_|refine oI fun _=>?_|refine nI ?_ ?_)
   ·exact tle_chain rfl (by simp [okAll,okv])
   ·exact HLe.refl _
  ·simp -dsimp []
   repeat' (first|omega|simp -dsimp [E256,ri,cellp,ints,hp']|refine aI ?_ fun _=>?_|refine oI fun _=>?_|refine nI ?_ ?_)
theorem ok256:FO 256 busS:=pf b256 .nil
def bsdTo (d:Du) (x y:Int) (l:List Du):Nat→Int
 | 0=>bus1 d x y
 | k+1=>if (duAt l k).p=d.p then bsdTo d x y l k+(bus1 (duAt l k) x y - bus1 (duAt l k) (max x d.a) (min y d.b))else bsdTo d x y l k
theorem bsd_to (d:Du) (x y:Int) (l:List Du):∀k,k≤l.length→bsd d x y (l.drop k) (bsdTo d x y l k)=bsd d x y l (bus1 d x y)
 | 0,_=>rfl
 | k+1,hk=>by
  have ih:=bsd_to d x y l k (by omega)
  rw [List.drop_eq_getElem_cons (show k<l.length by omega),bsd]at ih
  have e:l[k]'(by omega)=duAt l k:=by simp [duAt,List.getD,show k<l.length by omega]
  rw [e]at ih
  rw [←ih,bsdTo]
theorem bsd_end (d:Du) (x y:Int) (l:List Du):bsdTo d x y l l.length=bsd d x y l (bus1 d x y):=by
 have:=bsd_to d x y l l.length (Nat.le_refl _)
 rw [List.drop_length]at this; exact this
theorem bus_bd {d:Du} (h:VDu d) {x y:Int} (hx : -100000≤x∧x≤100000) (hy : -100000≤y∧y≤100000):0≤bus1 d x y∧bus1 d x y≤200000:=by
 unfold VDu at h; unfold bus1; omega
theorem bsdTo_bd {d:Du} (hd:VDu d) {l:List Du} (hl:Val l) {x y:Int} (hx : -100000≤x∧x≤100000) (hy : -100000≤y∧y≤100000):∀k,k≤l.length→-(200000 * ((k:Int)+1))≤bsdTo d x y l k∧bsdTo d x y l k≤200000 * ((k:Int)+1)
 | 0,_=>by have:=bus_bd hd hx hy; simp only [bsdTo]; omega
 | k+1,hk=>by
  have ih:=bsdTo_bd hd hl hx hy k (by omega)
  have hz:VDu (duAt l k):=by
   have:duAt l k=l[k]'(by omega):=by simp [duAt,List.getD,show k<l.length by omega]
   rw [this]; exact hl _ (List.getElem_mem _)
  have b1:=bus_bd hz hx hy
  have b2:=bus_bd hz (x:=max x d.a) (y:=min y d.b) (by unfold VDu at hd; omega) (by unfold VDu at hd; omega)
  simp only [bsdTo]
  split<;>omega
@[simp] def beE (d:List Du × Du × Int × Int):List V:=[.sl 3 (d.1.map Du.row),.agg d.2.1.row,.int .i64 d.2.2.1,.int .i64 d.2.2.2]
theorem beE_inj (a b:List Du × Du × Int × Int) (h:beE a=beE b):a=b:=by
 obtain⟨a1,a2,a3,a4⟩:=a; obtain⟨b1,b2,b3,b4⟩:=b
 simp only [beE,List.cons.injEq,V.sl.injEq,V.agg.injEq,V.int.injEq,true_and,and_true]at h
 rw [mapRow_inj Du.row_inj h.1,Du.row_inj _ _ h.2.1,h.2.2.1,h.2.2.2]
theorem beE_dec (l:List Du) (d:Du) (x y:Int):decC beE [.sl 3 (l.map Du.row),.agg [.int .i64 d.p,.int .i64 d.a,.int .i64 d.b],.int .i64 x,.int .i64 y]=(l,d,x,y):=decC_eq beE_inj (l,d,x,y)
structure BeP (e:List Du × Du × Int × Int):Prop where
 n:e.1.length≤1000
 l:Val e.1
 d:VDu e.2.1
 x : -10000≤e.2.2.1∧e.2.2.1≤10000
 y : -10000≤e.2.2.2∧e.2.2.2≤10000
abbrev besS:PSpec:=mkP beE BeP fun d=>.int .i64 (bsd d.2.1 d.2.2.1 d.2.2.2 d.1 (bus1 d.2.1 d.2.2.1 d.2.2.2))
abbrev E232:Env:={P:=Tryz.prog,fn:=tbl [(256,.pure busS)],own:=[],key:=23200,nt:=58}
theorem b232:PureBody E232 [] Tryz.f232 besS:=by
 refine pb ?_
 rintro⟨l,d,x,y⟩ ⟨hn,hl,hd,hx,hy⟩
 simp only at hn hl hd hx hy
 have hE:=bsd_end d x y l
 have hdd:=hd
 unfold VDu at hdd
 have p0:BsP (d,d.p,x,y):=⟨hd,by simp only; omega,by simp only; omega⟩
 have hre:=bsE_dec d d.p x y
 simp -dsimp [Tryz.f232,E232,Du.row]
 repeat' (first|omega|simp -dsimp [E232,ri,cellp,ints,Du.row,hre,p0]|refine aI ?_ fun _=>?_|refine oI fun _=>?_|refine nI ?_ ?_)
 refine awp_loop [19,20,21,22,25,26,27,28,11,29,30,31,32,33,34,35,36,37,38,39,40,41,42,43,44,45,46,47,48,49,50,51,52,53,54,55,56,9,23,24,10] (fun k:{k:Nat // k≤l.length}=>[(10,(true,.int .i64 k.1)),(9,(true,.int .i64 (bsdTo d x y l k.1)))]) (fun k=>hps [(23211,{base:=k.1,blks:=[]}),(23205,{base:=0,blks:=[{z:=3,els:=[d.row],ty:=65}]})] noH) (fun k=>l.length - k.1) ⟨0,by omega⟩ ?_ ?_ ?_
 ·simp [okAll,okv,bsdTo]
 ·exact(by(try simp -dsimp only [hpx]); refine hle_hps ?_; simp -dsimp [allK,Du.row]<;>exact rz)
 rintro⟨k,hk⟩
 dsimp only
 by_cases hk1:k<l.length
 ·have hki:(k:Int)<l.length:=by omega
  have wk:IntKind.wrap .i64 ((k:Int)+1)=(k+1:Nat):=wrap_id (by omega) (by omega)
  obtain⟨z,hz⟩:∃z,l[k]?=some z:=⟨_,List.getElem?_eq_getElem hk1⟩
  have hz':l[k]=z:=(List.getElem?_eq_some_iff.1 hz).2
  have hza:duAt l k=z:=by simp [duAt,List.getD,hz]
  have hzv:VDu z:=by rw [←hz']; exact hl _ (List.getElem_mem hk1)
  have hbd:=bsdTo_bd hd hl (x:=x) (y:=y) (by omega) (by omega) k hk
  have hS:bsdTo d x y l (k+1)=if z.p=d.p then bsdTo d x y l k+(bus1 z x y - bus1 z (max x d.a) (min y d.b))else bsdTo d x y l k:=by rw [bsdTo,hza]
  by_cases hp:z.p=d.p
  ·rw [if_pos hp]at hS
   have b1:=bus_bd hzv (x:=x) (y:=y) (by omega) (by omega)
   have b2:=bus_bd hzv (x:=max x d.a) (y:=min y d.b) (by omega) (by omega)
   have p1:BsP (z,d.p,x,y):=⟨hzv,by simp only; omega,by simp only; omega⟩
   have p2:BsP (z,d.p,max x d.a,min y d.b):=⟨hzv,by simp only; omega,by simp only; omega⟩
   have d1:=bsE_dec z d.p x y
   have d2:=bsE_dec z d.p (max x d.a) (min y d.b)
   rw [hp]at d1 d2
   have e1:(if d.b<y then d.b else y)=min y d.b:=by split<;>omega
   have e2:(if x<d.a then d.a else x)=max x d.a:=by split<;>omega
   generalize hu1:bus1 z x y=u1 at *
   generalize hu2:bus1 z (max x d.a) (min y d.b)=u2 at *
   generalize max x d.a=mx at *
   generalize min y d.b=mn at *
   have w1:IntKind.wrap .i64 (u1 - u2)=u1 - u2:=wrap_id (by omega) (by omega)
   have w2:IntKind.wrap .i64 (bsdTo d x y l k+(u1 - u2))=bsdTo d x y l (k+1):=by rw [hS]; exact wrap_id (by omega) (by omega)
   simp -dsimp [hki]
   repeat' (first|omega|simp -dsimp [E232,ri,cellp,ints,Du.row,hki,hk1,hz,hz',hp,d1,d2,p1,p2,e1,e2,hu1,hu2,w1,w2,wk]|refine aI ?_ fun _=>?_|refine oI fun _=>?_|refine nI ?_ ?_)
   refine⟨k+1,tle_chain rfl ?_,?_,by omega,by omega⟩
   ·simp [okAll,okv]
   ·exact(by(try simp -dsimp only [hpx]); refine hle_hps ?_; simp -dsimp [allK,Du.row]<;>exact rz)
  ·rw [if_neg hp]at hS
   have hp':(z.p=d.p)=False:=eq_false hp
   simp -dsimp [hki]
   repeat' (first|omega|simp -dsimp [E232,ri,cellp,ints,Du.row,hki,hk1,hz,hz',hp',wk]|refine aI ?_ fun _=>?_|refine oI fun _=>?_|refine nI ?_ ?_)
   refine⟨k+1,tle_chain rfl ?_,?_,by omega,by omega⟩
   ·simp [okAll,okv,hS]
   ·exact(by(try simp -dsimp only [hpx]); refine hle_hps ?_; simp -dsimp [allK,Du.row]<;>exact rz)
 ·have hkn:¬ (k:Int)<l.length:=by omega
  have hke:k=l.length:=by omega
  subst hke
  simp -dsimp [hkn]
  repeat' (first|omega|simp -dsimp [E232,ri,cellp,ints,hkn,hE]|refine aI ?_ fun _=>?_|refine oI fun _=>?_|refine nI ?_ ?_)
theorem ok232:FO 232 besS:=pf b232 (.cons ok256 .nil)
end Go.Sx
end
end
