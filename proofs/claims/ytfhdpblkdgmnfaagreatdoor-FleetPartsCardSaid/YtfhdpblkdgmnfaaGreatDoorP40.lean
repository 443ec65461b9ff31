/- Fleet: the reference's duties, and which machines are ready. No conditions. -/
import Derived.Test.YtfhdpblkdgmnfaaGreatDoorP39
import Derived.Test.YtfhdpblkdgmnfaaGreatDoorP32
import Derived.Test.YtfhdpblkdgmnfaaGreatDoorP33
set_option linter.unusedSimpArgs false
set_option linter.unusedVariables false
set_option linter.unusedSectionVars false
set_option maxRecDepth 100000
set_option maxHeartbeats 8000000
noncomputable section
namespace Go.Sx
open Go.Proofs
attribute [local irreducible] HLe
structure DuP (f:Fl) (l:List Sr):Prop where
 ok:FlK f
 sr:∀x∈l,SrOk f x
 len:l.length≤100
theorem FlOk.dul {f:Fl} (h:FlOk f):f.dus.length≤60:=(chkE_zero.1 h.du).2.1
theorem SrOk.jm {f:Fl} (hk:FlK f) {x:Sr} (h:SrOk f x):JmP (f,x.j,x.m):=⟨hk,h.j.1,h.m.1⟩
theorem SrOk.bko {f:Fl} {x:Sr} (h:SrOk f x):bkO f x.j.toNat x.m.toNat=bkS f x:=bkO_eq h.q
abbrev dutS:PSpec:=mkP flpE (fun d=>DuP d.1 d.2) fun d=>.sl 3 ((duF d.1 d.2).map Du.row)
abbrev E59:Env:={P:=Tryz.prog,fn:=tbl [(56,.pure tmeS)],own:=[],key:=5900,nt:=57,frz:=[(1,[2,50002])]}
theorem b59:PureBody E59 [(5,([0,3,5,8,10,11],[[0,1,2,3,4,5,6,7,8,9,10,11,12,13,14,15,16,17]]))] Tryz.f59 dutS:=by
 refine pb ?_
 rintro⟨f,l⟩ ⟨hK,hsr,hll⟩
 simp only at hK hsr hll
 have hdl:=hK.ok.dul
 have h0:duF f (l.take 0)=f.dus:=by simp [duF]
 have h00:duF f []=f.dus:=by simp [duF]
 have hlen:=fun k=>duF_len f (l.take k)
 simp -dsimp [Tryz.f59,E59]
 repeat' (first|omega|simp -dsimp [E59,ri,cellp,ints,hdl]|refine aI ?_ fun _=>?_|refine oI fun _=>?_|refine nI ?_ ?_)
 refine awp_loop [12,13,14,15,19,20,21,22,23,24,25,26,27,28,29,30,18,31,32,7,8,33,34,35,36,37,38,39,40,41,42,43,44,45,46,47,48,49,50,51,52,53,54,55,5,16,17,6] (fun k:{k:Nat // k≤l.length}=>[(6,(true,.int .i64 k.1)),(5,(true,.bsl 5911 0 (duF f (l.take k.1)).length))]) (fun k=>hps [(5911,{base:=0,blks:=[{z:=3,els:=(duF f (l.take k.1)).map Du.row,ty:=65}]}),(5907,{base:=k.1,blks:=[]}),(5902,fS f)] noH) (fun k=>l.length - k.1) ⟨0,by omega⟩ ?_ ?_ ?_
 ·simp [okAll,okv,h00]
 ·simp only [h0]; exact(by(try simp -dsimp only [hpx]); refine hle_hps ?_; simp -dsimp [allK,fS]<;>exact rz)
 rintro⟨k,hk⟩
 dsimp only
 have hlk:=hlen k
 have hlt:(l.take k).length≤100:=by simp; omega
 by_cases hk1:k<l.length
 ·have hki:(k:Int)<l.length:=by omega
  have wk:IntKind.wrap .i64 ((k:Int)+1)=(k+1:Nat):=wrap_id (by omega) (by omega)
  obtain⟨x,hx⟩:∃x,l[k]?=some x:=⟨_,List.getElem?_eq_getElem hk1⟩
  have hx':l[k]=x:=(List.getElem?_eq_some_iff.1 hx).2
  have hS:=hsr x (hx' ▸ List.getElem_mem hk1)
  have hJ:=hS.jm hK
  have hO:=hS.bko
  have hq:=hS.q
  have hsn:=duF_take f l hx
  have hd2:du2 f x=[⟨x.c,(bkS f x).lv,(bkS f x).hm⟩,⟨x.k,(bkS f x).lv,(bkS f x).hm⟩]:=rfl
  obtain⟨xj,xm,xc,xk⟩:=x
  generalize bkS f ⟨xj,xm,xc,xk⟩=B at *
  obtain⟨b1,b2,b3,b4⟩:=B
  simp only at hJ hO hq hd2
  generalize hD1:duF f (l.take (k+1))=D1 at *
  generalize duF f (l.take k)=D0 at *
  have hbb:(D0.length+2) * 24≤140737488355328:=by omega
  simp -dsimp [hki]
  repeat' (first|omega|simp -dsimp [E59,ri,cellp,ints,hki,hk1,hx,hx',Sr.row,Bk.row,fl2E_dec,hJ,hO,hq,hbb,FreeAt,FoOk,wk]|refine aI ?_ fun _=>?_|refine oI fun _=>?_|refine nI ?_ ?_)
  refine⟨k+1,tle_chain rfl ?_,?_,by omega,by omega⟩
  ·simp [okAll,okv,hD1,hsn,hd2]
  ·rw [hD1,hsn,hd2]; exact(by(try simp -dsimp only [hpx]); refine hle_hps ?_; simp -dsimp [allK,fS,Du.row]<;>exact rz)
 have hkn:¬ (k:Int)<l.length:=by omega
 have hke:k=l.length:=by omega
 subst hke
 rw [List.take_length]
 simp -dsimp [hkn]
 repeat' (first|omega|simp -dsimp [E59,ri,cellp,ints,hkn]|refine aI ?_ fun _=>?_|refine oI fun _=>?_|refine nI ?_ ?_)
theorem ok59:FO 59 dutS:=pf b59 (.cons ok56 .nil)
abbrev rdyS:PSpec:=mkP flp2E (fun d=>DuP d.1 d.2.1) fun d=>.bool (rdB d.1 d.2.1 d.2.2.1 d.2.2.2)
def rdK (f:Fl) (l:List Sr) (m t:Int) (k:Nat):Prop:=rdB f (l.take k) m t=true
theorem rdB_take (f:Fl) (l:List Sr) (m t:Int) {k:Nat} {x:Sr} (h:l[k]?=some x):rdB f (l.take (k+1)) m t=(rdB f (l.take k) m t && !decide (x.m=m∧(bkS f x).lv≤t∧t<(bkS f x).hm)):=by
 rw [List.take_add_one,h]; exact rdB_app f _ x m t
theorem rdB_bad {f:Fl} {l:List Sr} {m t:Int} {k:Nat} {x:Sr} (h:l[k]?=some x) (hx:x.m=m∧(bkS f x).lv≤t∧t<(bkS f x).hm):rdB f l m t=false:=by
 unfold rdB
 rw [Bool.not_eq_false',List.any_eq_true]
 exact⟨x,List.mem_of_getElem? h,by simpa using hx⟩
abbrev E119:Env:={P:=Tryz.prog,fn:=tbl [(56,.pure tmeS)],own:=[],key:=11900,nt:=52,frz:=[(1,[4,50004])]}
theorem b119:PureBody E119 [(4,([0,3,5,8,10,11],[[0,1,2,3,4,5,6,7,8,9,10,11,12,13,14,15,16,17]]))] Tryz.f119 rdyS:=by
 refine pb ?_
 rintro⟨f,l,m,t⟩ ⟨hK,hsr,hll⟩
 simp only at hK hsr hll
 simp -dsimp [Tryz.f119,E119]
 repeat' (first|omega|simp -dsimp [E119,ri,cellp,ints,hK]|refine aI ?_ fun _=>?_|refine oI fun _=>?_|refine nI ?_ ?_)
 refine awp_loop [12,13,14,15,19,20,21,22,23,24,25,26,27,28,29,30,18,31,32,10,11,33,34,35,36,37,38,39,40,41,42,43,44,45,46,47,48,49,50,51,8,16,17,9] (fun k:{k:Nat // k≤l.length∧rdK f l m t k}=>[(9,(true,.int .i64 k.1))]) (fun k=>hps [(11910,{base:=k.1,blks:=[]}),(11904,fS f)] noH) (fun k=>l.length - k.1) ⟨0,by omega,by simp [rdK,rdB]⟩ ?_ ?_ ?_
 ·simp [okAll,okv]
 ·exact(by(try simp -dsimp only [hpx]); refine hle_hps ?_; simp -dsimp [allK,fS]<;>exact rz)
 rintro⟨k,hk,hall⟩
 dsimp only
 by_cases hk1:k<l.length
 ·have hki:(k:Int)<l.length:=by omega
  have wk:IntKind.wrap .i64 ((k:Int)+1)=(k+1:Nat):=wrap_id (by omega) (by omega)
  obtain⟨x,hx⟩:∃x,l[k]?=some x:=⟨_,List.getElem?_eq_getElem hk1⟩
  have hx':l[k]=x:=(List.getElem?_eq_some_iff.1 hx).2
  have hS:=hsr x (hx' ▸ List.getElem_mem hk1)
  have hJ:=hS.jm hK
  have hO:=hS.bko
  have hq:=hS.q
  have hnx:=rdB_take f l m t hx
  have hbd:=rdB_bad (f:=f) (m:=m) (t:=t) hx
  have hall':rdB f (l.take k) m t=true:=hall
  rw [hall']at hnx
  obtain⟨xj,xm,xc,xk⟩:=x
  generalize bkS f ⟨xj,xm,xc,xk⟩=B at *
  obtain⟨b1,b2,b3,b4⟩:=B
  simp only at hJ hO hq hnx hbd
  rcases Classical.propComplete (xm=m)with c1|c1<;>rcases Classical.propComplete (b1≤t)with c2|c2<;>rcases Classical.propComplete (t<b3)with c3|c3
  all_goals
   simp only [c1,c2,c3,and_true,and_false,and_self,decide_true,decide_false,Bool.not_false,Bool.not_true,Bool.and_true,Bool.and_false,true_implies,false_implies]at hnx hbd
   simp -dsimp [hki]
   repeat' (first|omega|simp -dsimp [E119,ri,cellp,ints,hki,hk1,hx,hx',Sr.row,Bk.row,fl2E_dec,hJ,hO,hq,c1,c2,c3,FreeAt,FoOk,wk,hbd]|refine aI ?_ fun _=>?_|refine oI fun _=>?_|refine nI ?_ ?_)
  all_goals
   refine⟨k+1,tle_chain rfl ?_,?_,⟨by omega,hnx⟩,by omega⟩
   ·simp [okAll,okv]
   ·exact(by(try simp -dsimp only [hpx]); refine hle_hps ?_; simp -dsimp [allK,fS]<;>exact rz)
 have hkn:¬ (k:Int)<l.length:=by omega
 have hke:k=l.length:=by omega
 subst hke
 have hall':rdB f (l.take l.length) m t=true:=hall
 rw [List.take_length]at hall'
 simp -dsimp [hkn]
 repeat' (first|omega|simp -dsimp [E119,ri,cellp,ints,hkn,hall']|refine aI ?_ fun _=>?_|refine oI fun _=>?_|refine nI ?_ ?_)
theorem ok119:FO 119 rdyS:=pf b119 (.cons ok56 .nil)
abbrev covS:PSpec:=mkP flpE (fun d=>DuP d.1 d.2) fun d=>.bool (covB d.1 d.2)
def cvK (f:Fl) (l:List Sr) (k:Nat):Prop:=∀i:Nat,i<k→covT f l i=true
theorem rdN_bd (f:Fl) (l:List Sr) (t:Int):∀m:Nat,0≤rdN f l t m∧rdN f l t m≤m
 | 0=>by simp [rdN]
 | m+1=>by have:=rdN_bd f l t m; rw [rdN]; split<;>omega
theorem covB_bad {f:Fl} {l:List Sr} {k:Nat} (hk:(k:Int)<f.unt) (h:covT f l k=false):covB f l=false:=by
 unfold covB
 rw [List.all_eq_false]
 exact⟨k,by simp; omega,by rw [h]; simp⟩
theorem covB_all {f:Fl} {l:List Sr} {k:Nat} (hk:f.unt≤k) (h:cvK f l k):covB f l=true:=
 covB_iff.2 fun t h1 h2=>by
  have:=h t.toNat (by omega)
  rwa [Int.toNat_of_nonneg h1]at this
abbrev E60:Env:={P:=Tryz.prog,fn:=tbl [(119,.pure rdyS)],own:=[],key:=6000,nt:=32,frz:=[(1,[2,50002])]}
theorem b60:PureBody E60 [] Tryz.f60 covS:=by
 refine pb ?_
 rintro⟨f,l⟩ hP
 have hP:DuP f l:=hP
 have hun:=hP.ok.ok.unt
 have hbl:f.bas.length≤1000000:=by
  have h1:=hP.ok.ok.bas
  have:=(opE_ok hP.ok.ok.op).small
  have h2:=(small_of (by
   have:=hP.ok.ok.op
   unfold opE at this
   split at this
   ·assumption
   ·cases this)).m1
  omega
 simp -dsimp [Tryz.f60,E60]
 repeat' (first|omega|simp -dsimp [E60,ri,cellp,ints,hun]|refine aI ?_ fun _=>?_|refine oI fun _=>?_|refine nI ?_ ?_)
 refine awp_loop [8,9,10,11,6,7,14,15,16,17,18,21,22,23,24,25,26,27,19,20,28,29,30,31,4,12,13,5] (fun k:{k:Nat // (k:Int)≤f.unt∧cvK f l k}=>[(5,(true,.int .i64 k.1))]) (fun _=>hps [(6002,fS f)] noH) (fun k=>f.unt.toNat - k.1) ⟨0,by omega,fun _ h=>by omega⟩ ?_ ?_ ?_
 ·simp [okAll,okv]
 ·exact(by(try simp -dsimp only [hpx]); refine hle_hps ?_; simp -dsimp [allK,fS]<;>exact rz)
 rintro⟨k,hk,hall⟩
 dsimp only
 by_cases hki:(k:Int)<f.unt
 case neg=>
  have hb:=covB_all (by omega) hall
  simp -dsimp [hki]
  repeat' (first|omega|simp -dsimp [E60,ri,cellp,ints,hki,hb]|refine aI ?_ fun _=>?_|refine oI fun _=>?_|refine nI ?_ ?_)
 have wk:IntKind.wrap .i64 ((k:Int)+1)=(k+1:Nat):=wrap_id (by omega) (by omega)
 simp -dsimp [hki]
 repeat' (first|omega|simp -dsimp [E60,ri,cellp,ints,hki]|refine aI ?_ fun _=>?_|refine oI fun _=>?_|refine nI ?_ ?_)
 refine awp_loop [14,15,16,17,18,21,22,23,24,25,26,27,6,19,20,7] (fun m:{m:Nat // m≤f.bas.length}=>[(7,(true,.int .i64 m.1)),(6,(true,.int .i64 (rdN f l k m.1)))]) (fun _=>hps [(6002,fS f)] noH) (fun m=>f.bas.length - m.1) ⟨0,by omega⟩ ?_ ?_ ?_
 ·simp [okAll,okv,rdN]
 ·exact(by(try simp -dsimp only [hpx]); refine hle_hps ?_; simp -dsimp [allK,fS]<;>exact rz)
 rintro⟨m,hm⟩
 dsimp only
 have hb:=rdN_bd f l k m
 by_cases hm1:m<f.bas.length
 ·have hmi:(m:Int)<f.bas.length:=by omega
  have wm:IntKind.wrap .i64 ((m:Int)+1)=(m+1:Nat):=wrap_id (by omega) (by omega)
  have hN:rdN f l k (m+1)=rdN f l k m+if rdB f l m k=true then 1 else 0:=rfl
  generalize hN1:rdN f l k (m+1)=N1 at *
  generalize rdN f l k m=N0 at *
  have wn:IntKind.wrap .i64 (N0+1)=N0+1:=wrap_id (by omega) (by omega)
  cases c:rdB f l m k
  all_goals
   simp only [c,if_true,if_false,reduceCtorEq,Int.add_zero]at hN
   simp -dsimp [hmi]
   repeat' (first|omega|simp -dsimp [E60,ri,cellp,ints,hmi,flp2E_dec,hP,c,wm,wn]|refine aI ?_ fun _=>?_|refine oI fun _=>?_|refine nI ?_ ?_)
   refine⟨m+1,tle_chain rfl ?_,HLe.refl _,by omega,by omega⟩
   simp [okAll,okv,hN1,hN]
 have hmn:¬ (m:Int)<f.bas.length:=by omega
 have hme:m=f.bas.length:=by omega
 subst hme
 have hT:covT f l k=decide (f.cov≤rdN f l k f.bas.length):=rfl
 generalize rdN f l k f.bas.length=N at *
 by_cases c:N<f.cov
 ·have hb:=covB_bad hki (by rw [hT,decide_eq_false (by omega)])
  simp -dsimp [hmn]
  repeat' (first|omega|simp -dsimp [E60,ri,cellp,ints,hmn,c,hb]|refine aI ?_ fun _=>?_|refine oI fun _=>?_|refine nI ?_ ?_)
 ·have hnx:cvK f l (k+1):=fun i hi=>by
   by_cases e:i=k
   ·subst e; rw [hT,decide_eq_true (by omega)]
   ·exact hall i (by omega)
  replace c:(N<f.cov)=False:=eq_false c
  simp -dsimp [hmn]
  repeat' (first|omega|simp -dsimp [E60,ri,cellp,ints,hmn,c,wk]|refine aI ?_ fun _=>?_|refine oI fun _=>?_|refine nI ?_ ?_)
  refine⟨k+1,tle_kept (kept_upds rfl (kept_forget rfl (kept_upds rfl kept_base))) ?_,HLe.refl _,⟨by omega,hnx⟩,by omega⟩
  simp [okAll,okv]
theorem ok60:FO 60 covS:=pf b60 (.cons ok119 .nil)
end Go.Sx
end
