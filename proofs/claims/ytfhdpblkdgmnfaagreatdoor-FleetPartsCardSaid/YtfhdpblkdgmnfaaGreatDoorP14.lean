/- A part of a proof; no conditions. -/
import Derived.Test.YtfhdpblkdgmnfaaGreatDoorP13
set_option linter.unusedSimpArgs false
set_option linter.unusedVariables false
set_option linter.unusedSectionVars false
set_option maxRecDepth 100000
set_option maxHeartbeats 8000000
noncomputable section
section
namespace Go.Sx
open Go.Proofs
def HI.emp (x:HI) (m:Int) (k j:Nat):Bool:=decide (x.at k m j<0)
def HI.lackK (x:HI) (m:Int) (k:Nat):Nat→List (Int × Int)
 | 0=>[]
 | j+1=>if x.emp m k j=true then x.lackK m k j++[((k:Int),(j:Int))]else x.lackK m k j
def HI.places (x:HI) (k:Nat):Nat:=(x.r.kinds.getD k default).places.toNat
def HI.lackTo (x:HI) (m:Int):Nat→List (Int × Int)
 | 0=>[]
 | k+1=>x.lackTo m k++x.lackK m k (x.places k)
def HI.lacks (x:HI) (m:Int):List (Int × Int):=x.lackTo m x.r.kinds.length
theorem lackK_len (x:HI) (m:Int) (k:Nat):∀j,(x.lackK m k j).length≤j
 | 0=>by simp [HI.lackK]
 | j+1=>by
  have:=lackK_len x m k j
  simp only [HI.lackK]; split<;>simp<;>omega
structure HI.Small (x:HI):Prop where
 ps:x.ps.length≤1000
 kinds:x.r.kinds.length≤1000
 places:∀kd∈x.r.kinds,kd.places≤1000
theorem places_le {x:HI} (hs:x.Small) (k:Nat):x.places k≤1000:=by
 unfold HI.places
 by_cases hk:k<x.r.kinds.length
 ·have:=hs.places _ (List.getElem_mem hk)
  simp only [List.getD,List.getElem?_eq_getElem hk,Option.getD_some]
  omega
 ·simp only [List.getD,List.getElem?_eq_none (by omega:x.r.kinds.length≤k),Option.getD_none]
  decide
theorem lackTo_len {x:HI} (hs:x.Small) (m:Int):∀k,(x.lackTo m k).length≤1000 * k
 | 0=>by simp [HI.lackTo]
 | k+1=>by
  have h1:=lackTo_len hs m k
  have h2:=lackK_len x m k (x.places k)
  have h3:=places_le hs k
  simp only [HI.lackTo,List.length_append]; omega
theorem haE_dec' (x:HI) (k a b:Int):decC haE [.ip 9 [[.sl 3 (x.r.kinds.map Kd.row),.sl 4 (x.r.parts.map Pt.row),.int .i64 x.r.machines,.sl 2 (x.r.orders.map Od.row),ptsI x.ps,.sl 1 (x.iss.map rb),x.v1,x.v2,x.v3]] 0 0,.int .i64 k,.agg [.int .i64 a,.int .i64 b]]=(x,k,a,b):=haE_dec x k a b
abbrev lacksS:PSpec:=mkP hiE (fun d=>d.1.Small) fun d=>prs (d.1.lacks d.2)
abbrev E92:Env:={P:=Tryz.prog,fn:=tbl [(155,.pure haS)],own:=[],key:=9200,nt:=40}
theorem b92:PureBody E92 [] Tryz.f92 lacksS:=by
 refine pb ?_
 rintro⟨x,m⟩ hsm
 simp only at hsm
 have hsm1:=hsm.ps
 have hsm2:=hsm.kinds
 have h92:x.ps.length≤9223372036854775807:=by omega
 simp -dsimp [Tryz.f92,E92,HI.v]
 repeat' (first|omega|simp -dsimp [E92,ri,cellp,ints,HI.v]|refine aI ?_ fun _=>?_|refine oI fun _=>?_|refine nI ?_ ?_)
 refine awp_loop_g [(4,9236,2,77)] rfl (by simp) [15,16,17,18,6,5,19,20,21,22,23,7,24,25,26,27,28,29,30,31,32,33,34,35,36,4,37,38,14] (fun k:Fin (x.r.kinds.length+1)=>[(14,(true,.int .i64 (k.1:Nat))),(4,(true,.bsl 9236 0 (x.lackTo m k.1).length))])
  (fun k=>hps [(9236,{base:=0,blks:=[{z:=2,els:=(x.lackTo m k.1).map cycV,ty:=77}]}),(9206,{base:=k.1,blks:=[]})] noH) (fun k=>x.r.kinds.length - k.1) ⟨0,by omega⟩ ?_ ?_ ?_
 ·simp [okAll,okv,HI.lackTo]
 ·exact(by(try simp -dsimp only [hpx]); refine hle_hps ?_; simp -dsimp [allK,HI.lackTo]<;>exact rz)
 rintro⟨k,hk⟩
 simp only
 by_cases hk1:k<x.r.kinds.length
 ·have hki:(k:Int)<x.r.kinds.length:=by omega
  have wk:IntKind.wrap .i64 ((k:Int)+1)=(k+1:Nat):=wrap_id (by omega) (by omega)
  obtain⟨kd,hkd,hkd'⟩:=get_ex hk1
  have hT:x.lackTo m (k+1)=x.lackTo m k++x.lackK m k (x.places k):=rfl
  have hpl:x.places k=kd.places.toNat:=by simp [HI.places,List.getD,hkd]
  have hTl:=lackTo_len hsm m k
  have hpk:=places_le hsm k
  rw [hpl]at hT hpk
  generalize x.lackTo m k=T at *
  generalize hpn:kd.places.toNat=pn at *
  simp -dsimp [hki]
  repeat' (first|omega|simp -dsimp [E92,ri,cellp,ints,hki,hk1,hkd,hkd',wk,Kd.row]|refine aI ?_ fun _=>?_|refine oI fun _=>?_|refine nI ?_ ?_)
  refine awp_loop [22,23,7,24,25,26,27,28,29,30,31,32,33,34,35,36,4,37,21] (fun j:Fin (pn+1)=>[(21,(true,.int .i64 (j.1:Nat))),(4,(true,.bsl 9236 0 (T++x.lackK m k j.1).length))])
   (fun j=>hps [(9236,{base:=0,blks:=[{z:=2,els:=(T++x.lackK m k j.1).map cycV,ty:=77}]}),(9206,{base:=k+1,blks:=[]})] noH) (fun j=>pn - j.1) ⟨0,by omega⟩ ?_ ?_ ?_
  ·simp [okAll,okv,HI.lackK]
  ·exact(by(try simp -dsimp only [hpx]); refine hle_hps ?_; simp -dsimp [allK,HI.lackK]<;>exact rz)
  rintro⟨j,hj⟩
  simp only
  by_cases hj1:j<pn
  ·have hji:(j:Int)<kd.places:=by omega
   have wj:IntKind.wrap .i64 ((j:Int)+1)=(j+1:Nat):=wrap_id (by omega) (by omega)
   have hL:x.lackK m k (j+1)=if x.emp m k j=true then x.lackK m k j++[((k:Int),(j:Int))]else x.lackK m k j:=rfl
   have hLl:=lackK_len x m k j
   have hem:x.emp m k j=decide (x.at k m j<0):=rfl
   generalize x.lackK m k j=L at *
   by_cases he:x.at k m j<0
   ·rw [hem,decide_eq_true he,if_pos rfl]at hL
    have hb8:(T.length+L.length+1) * 16≤140737488355328:=by omega
    simp -dsimp [hji]
    repeat' (first|omega|simp -dsimp [E92,ri,cellp,ints,hji,HI.v,haE_dec',h92,he,wj,hb8,cycV]|refine aI ?_ fun _=>?_|refine oI fun _=>?_|refine nI ?_ ?_)
    refine⟨⟨j+1,by omega⟩,tle_chain rfl ?_,(by(try simp -dsimp only [hpx]); refine hle_hps ?_; simp -dsimp [allK,hL,cycV]<;>exact rz),by simp only; omega⟩
    simp [okAll,okv,hL,Nat.add_assoc]
   ·rw [hem,decide_eq_false he,if_neg (by simp)]at hL
    simp -dsimp [hji]
    repeat' (first|omega|simp -dsimp [E92,ri,cellp,ints,hji,HI.v,haE_dec',h92,he,wj,cycV]|refine aI ?_ fun _=>?_|refine oI fun _=>?_|refine nI ?_ ?_)
    refine⟨⟨j+1,by omega⟩,tle_chain rfl ?_,(by(try simp -dsimp only [hpx]); refine hle_hps ?_; simp -dsimp [allK,hL,cycV]<;>exact rz),by simp only; omega⟩
    simp [okAll,okv,hL]
  ·have hje:j=pn:=by omega
   have hjn:¬ (j:Int)<kd.places:=by omega
   simp -dsimp [hjn]
   repeat' (first|omega|simp -dsimp [E92,ri,cellp,ints,hjn,wk]|refine aI ?_ fun _=>?_|refine oI fun _=>?_|refine nI ?_ ?_)
   refine⟨⟨k+1,by omega⟩,tle_kept (kept_upds rfl (kept_forget rfl (kept_upds rfl kept_base))) ?_,(by(try simp -dsimp only [hpx]); refine hle_hps ?_; simp -dsimp [allK,hT,hje]<;>exact rz),by simp only; omega⟩
   simp [okAll,okv,hT,hje]
 ·have hkn:¬ (k:Int)<x.r.kinds.length:=by omega
  have hke:k=x.r.kinds.length:=by omega
  subst hke
  simp -dsimp [hkn]
  repeat' (first|omega|simp -dsimp [E92,ri,cellp,ints,hkn,HI.lacks,prs]|refine aI ?_ fun _=>?_|refine oI fun _=>?_|refine nI ?_ ?_)
theorem ok92:FO 92 lacksS:=pf b92 (.cons ok155 .nil)
theorem hpE_dec' (x:HI) (p:PS):decC hpE [.ip 9 [[.sl 3 (x.r.kinds.map Kd.row),.sl 4 (x.r.parts.map Pt.row),.int .i64 x.r.machines,.sl 2 (x.r.orders.map Od.row),ptsI x.ps,.sl 1 (x.iss.map rb),x.v1,x.v2,x.v3]] 0 0,.ip 8 [[.int .i64 p.kind,.int .i64 p.hours,.int .i64 p.cycles,.bool p.known,.int .i64 p.a,.int .i64 p.b,.sl 1 (p.since.map ri),.sl 1 (p.chk.map rb)]] 0 0]=(x,p):=hpE_dec x p
theorem hiE_dec' (x:HI) (n:Int):decC hiE [.ip 9 [[.sl 3 (x.r.kinds.map Kd.row),.sl 4 (x.r.parts.map Pt.row),.int .i64 x.r.machines,.sl 2 (x.r.orders.map Od.row),ptsI x.ps,.sl 1 (x.iss.map rb),x.v1,x.v2,x.v3]] 0 0,.int .i64 n]=(x,n):=hiE_dec x n
def HI.longG (x:HI) (m cyc:Int):List PS→Int→Int
 | [],most=>most
 | p::r,most=>if p.a=m then (if x.leftC p<cyc then -1 else x.longG m cyc r (imin most (x.leftT p)))else x.longG m cyc r most
def HI.longest (x:HI) (m cyc:Int):Int:=if x.lacks m=[]then x.longG m cyc x.ps 100 else -1
@[simp] def hmE (d:HI × Int × Int):List V:=[d.1.v,.int .i64 d.2.1,.int .i64 d.2.2]
theorem hmE_inj (a b:HI × Int × Int) (h:hmE a=hmE b):a=b:=by
 obtain⟨x,a1,a2⟩:=a
 obtain⟨y,b1,b2⟩:=b
 simp only [hmE,List.cons.injEq,V.int.injEq,true_and,and_true]at h
 rw [HI.v_inj _ _ h.1,h.2.1,h.2.2]
theorem hmE_dec (x:HI) (m c:Int):decC hmE [x.v,.int .i64 m,.int .i64 c]=(x,m,c):=decC_eq hmE_inj (x,m,c)
abbrev longestS:PSpec:=mkP hmE (fun d=>d.1.Small∧∀p∈d.1.ps,d.1.Fit p) fun d=>.int .i64 (d.1.longest d.2.1 d.2.2)
structure LgI (n:Nat) (P:Nat→Int→Prop) where
 k:Nat
 most:Int
 hk:k≤n
 h:P k most
abbrev E41:Env:={P:=Tryz.prog,fn:=tbl [(92,.pure lacksS),(93,.pure leftS)],own:=[],key:=4100,nt:=47}
theorem b41:PureBody E41 [] Tryz.f41 longestS:=by
 refine pb ?_
 rintro⟨x,m,cyc⟩ ⟨hsm,hfit⟩
 simp only at hsm hfit
 have hsm1:=hsm.ps
 by_cases hl:x.lacks m=[]
 case neg=>
  have hl':(0:Int)<(x.lacks m).length:=by
   have:0<(x.lacks m).length:=List.length_pos_iff.2 hl
   omega
  have hl2:0<(x.lacks m).length:=by omega
  simp -dsimp [Tryz.f41,E41,HI.v]
  repeat' (first|omega|simp -dsimp [E41,ri,cellp,ints,HI.v,hiE_dec',hsm,hl,hl',hl2,prs,HI.longest]|refine aI ?_ fun _=>?_|refine oI fun _=>?_|refine nI ?_ ?_)
 simp -dsimp [Tryz.f41,E41,HI.v]
 repeat' (first|omega|simp -dsimp [E41,ri,cellp,ints,HI.v,hiE_dec',hsm,hl,prs]|refine aI ?_ fun _=>?_|refine oI fun _=>?_|refine nI ?_ ?_)
 refine awp_loop [23,24,25,9,26,27,28,29,30,31,32,34,35,36,33,37,38,10,11,39,40,41,6,42,43,44,7,45,22] (fun q:LgI x.ps.length fun k most=>x.longG m cyc (x.ps.drop k) most=x.longest m cyc=>[(22,(true,.int .i64 (q.k:Nat))),(7,(true,.int .i64 q.most))]) (fun _=>noH) (fun q=>x.ps.length - q.k) ⟨0,100,by simp,by simp [HI.longest,hl]⟩ ?_ (HLe.refl _) ?_
 ·simp [okAll,okv]
 rintro⟨k,most,hk,hq⟩
 simp only at hk hq ⊢
 by_cases hk1:k<x.ps.length
 ·have hki:(k:Int)<x.ps.length:=by omega
  have hp:=ptsI_ne (ps:=x.ps) (by omega)
  have wk:IntKind.wrap .i64 ((k:Int)+1)=(k+1:Nat):=wrap_id (by omega) (by omega)
  obtain⟨p,hpk,hpk'⟩:=get_ex hk1
  have hd:x.ps.drop k=p::x.ps.drop (k+1):=by rw [List.drop_eq_getElem_cons hk1,hpk']
  have hdd:=fun p:PS=>hpE_dec' x p
  simp only [hp,ptI,PS.irow]at hdd
  have hf:=hfit p (hpk' ▸ List.getElem_mem hk1)
  rw [hd,HI.longG]at hq
  by_cases hm:p.a=m
  ·rw [if_pos hm]at hq
   subst hm
   by_cases hc:x.leftC p<cyc
   ·rw [if_pos hc]at hq
    simp -dsimp [hki,hp]
    repeat' (first|omega|simp -dsimp [E41,ri,cellp,ints,hki,hp,hpk,hpk',hk1,ptI,PS.irow,HI.v,hdd,hf,hc,hq.symm]|refine aI ?_ fun _=>?_|refine oI fun _=>?_|refine nI ?_ ?_)
   ·rw [if_neg hc]at hq
    simp -dsimp [hki,hp]
    repeat' (first|omega|simp -dsimp [E41,ri,cellp,ints,hki,hp,hpk,hpk',hk1,ptI,PS.irow,HI.v,hdd,hf,hc,wk]|refine aI ?_ fun _=>?_|refine oI fun _=>?_|refine nI ?_ ?_)
    refine⟨⟨k+1,imin most (x.leftT p),by omega,hq⟩,tle_chain rfl ?_,HLe.refl _,by simp only; omega⟩
    simp [okAll,okv]
    by_cases hlt:x.leftT p<most<;>simp [imin,hlt]
  ·rw [if_neg hm]at hq
   simp -dsimp [hki,hp]
   repeat' (first|omega|simp -dsimp [E41,ri,cellp,ints,hki,hp,hpk,hpk',hk1,hm,ptI,PS.irow,wk]|refine aI ?_ fun _=>?_|refine oI fun _=>?_|refine nI ?_ ?_)
   refine⟨⟨k+1,most,by omega,hq⟩,tle_chain rfl ?_,HLe.refl _,by simp only; omega⟩
   simp [okAll,okv]
 ·have hkn:¬ (k:Int)<x.ps.length:=by omega
  have hke:k=x.ps.length:=by omega
  subst hke
  simp only [List.drop_length,HI.longG]at hq
  simp -dsimp [hkn]
  repeat' (first|omega|simp -dsimp [E41,ri,cellp,ints,hkn,hq]|refine aI ?_ fun _=>?_|refine oI fun _=>?_|refine nI ?_ ?_)
theorem ok41:FO 41 longestS:=pf b41 (.cons ok92 (.cons ok93 .nil))
end Go.Sx
end
section
namespace Go.Sx
open Go.Proofs
attribute [local irreducible] HLe
attribute [local simp] hps_app
def Reg.kindOk (r:Reg) (n:Int):Bool:=withinB n 0 (wsub r.kinds.length 1)
def Kd.bad (k:Kd):Bool:=!withinB k.hours 1 100000 || !withinB k.cycles 1 100000 || !withinB k.places 0 4
def Reg.badP (r:Reg) (p:Pt):Bool:=!r.kindOk p.kind || !withinB p.hours 0 100000 || !withinB p.cycles 0 100000
def Reg.badO (r:Reg) (o:Od):Bool:=!r.kindOk o.kind || !withinB o.within 0 100000
def regI (r:Reg):V:=.ip 4 [r.row] 0 0
@[simp] def kkE (d:Reg × Int):List V:=[.int .i64 d.2,regI d.1]
theorem kkE_inj (a b:Reg × Int) (h:kkE a=kkE b):a=b:=by
 simp only [kkE,regI,List.cons.injEq,V.int.injEq,V.ip.injEq,true_and,and_true]at h
 exact Prod.ext (Reg.row_inj _ _ h.2) h.1
theorem kkE_dec (r:Reg) (n:Int):decC kkE [.int .i64 n,.ip 4 [[.sl 3 (r.kinds.map Kd.row),.sl 4 (r.parts.map Pt.row),.int .i64 r.machines,.sl 2 (r.orders.map Od.row)]] 0 0]=(r,n):=decC_eq kkE_inj (r,n)
abbrev kkS:PSpec:=mkP kkE (fun _=>True) fun d=>.bool (d.1.kindOk d.2)
abbrev E142:Env:={P:=Tryz.prog,fn:=tbl [(40,.pure withinS)],own:=[],key:=14200,nt:=10}
theorem b142:PureBody E142 [] Tryz.f142 kkS:=by
 refine pb ?_
 rintro⟨r,n⟩ _
 simp -dsimp [Tryz.f142,E142,regI,Reg.row,Reg.kindOk,wsub]
 repeat' (first|omega|simp -dsimp [E142,ri,cellp,ints,Reg.kindOk,wsub]|refine aI ?_ fun _=>?_|refine oI fun _=>?_|refine nI ?_ ?_)
theorem ok142:FO 142 kkS:=pf b142 (.cons ok40 .nil)
@[simp] def kdE (d:Kd):List V:=[.agg d.row]
theorem kdE_inj (a b:Kd) (h:kdE a=kdE b):a=b:=Kd.row_inj _ _ (by simpa using h)
theorem kdE_dec (k:Kd):decC kdE [.agg [.int .i64 k.hours,.int .i64 k.cycles,.int .i64 k.places]]=k:=decC_eq kdE_inj k
abbrev kdS:PSpec:=mkP kdE (fun _=>True) fun d=>.bool d.bad
abbrev E144:Env:={P:=Tryz.prog,fn:=tbl [(40,.pure withinS)],own:=[],key:=14400,nt:=19}
theorem b144:PureBody E144 [] Tryz.f144 kdS:=by
 refine pb ?_
 rintro k _
 simp -dsimp [Tryz.f144,E144,Kd.row,Kd.bad]
theorem ok144:FO 144 kdS:=pf b144 (.cons ok40 .nil)
@[simp] def kdsE (d:List Kd):List V:=[.sl 3 (d.map Kd.row),.fn 144 []]
theorem kdsE_inj (a b:List Kd) (h:kdsE a=kdsE b):a=b:=map_inj Kd.row_inj (by simpa using h)
theorem kdsE_dec (l:List Kd):decC kdsE [.sl 3 (l.map Kd.row),.fn 144 []]=l:=decC_eq kdsE_inj l
abbrev kdsS:PSpec:=mkP kdsE (fun d=>d.length≤1000000) fun d=>.int .i64 (idxZ d Kd.bad)
abbrev E217:Env:={P:=Tryz.prog,fn:=tbl [(144,.pure kdS)],own:=[],key:=21700,nt:=19}
theorem b217:PureBody E217 [] Tryz.f217 kdsS:=by
 refine pb ?_
 rintro l hl
 simp -dsimp [Tryz.f217,E217]
 refine awp_loop [9,10,5,11,12,13,14,15,16,17,4,18,8] (fun k:{k:Nat // k≤l.length∧∀j (h:j<l.length),j<k→l[j].bad=false}=>[(8,(true,.int .i64 k.1))]) (fun _=>noH) (fun k=>l.length - k.1) ⟨0,by omega,fun _ _ h=>by omega⟩ ?_ (HLe.refl _) ?_
 ·simp [okAll,okv]
 rintro⟨k,hk,hall⟩
 by_cases hk1:k<l.length
 ·have hki:(k:Int)<l.length:=by omega
  have wk:IntKind.wrap .i64 ((k:Int)+1)=(k+1:Nat):=wrap_id (by omega) (by omega)
  cases hw:l[k].bad
  ·simp -dsimp [hki]
   repeat' (first|omega|simp -dsimp [E217,ri,cellp,ints,hki,hk1,hl,hw,wk,Kd.row,kdE_dec]|refine aI ?_ fun _=>?_|refine oI fun _=>?_|refine nI ?_ ?_)
   refine⟨k+1,tle_chain rfl ?_,HLe.refl _,⟨by omega,fun j h hj=>?_⟩,by omega⟩
   ·simp [okAll,okv]
   ·by_cases hjk:j=k
    ·subst hjk; exact hw
    ·exact hall j h (by omega)
  ·have hz:=idxZ_at l Kd.bad hk1 hw hall
   simp -dsimp [hki]
   repeat' (first|omega|simp -dsimp [E217,ri,cellp,ints,hki,hk1,hl,hw,wk,hz,Kd.row,kdE_dec]|refine aI ?_ fun _=>?_|refine oI fun _=>?_|refine nI ?_ ?_)
 ·have hkn:¬ (k:Int)<l.length:=by omega
  have hz:=idxZ_none l Kd.bad (fun j h=>hall j h (by omega))
  simp -dsimp [hkn]
  repeat' (first|omega|simp -dsimp [E217,ri,cellp,ints,hkn,hz]|refine aI ?_ fun _=>?_|refine oI fun _=>?_|refine nI ?_ ?_)
theorem ok217:FO 217 kdsS:=pf b217 (.cons ok144 .nil)
abbrev kdcS:PSpec:=mkP kdsE (fun d=>d.length≤1000000) fun d=>.bool (d.any Kd.bad)
abbrev E143:Env:={P:=Tryz.prog,fn:=tbl [(217,.pure kdsS)],own:=[],key:=14300,nt:=9}
theorem b143:PureBody E143 [] Tryz.f143 kdcS:=by
 refine pb ?_
 rintro l hl
 have hz:=idxZ_any l Kd.bad
 simp -dsimp [Tryz.f143,E143]
 repeat' (first|omega|simp -dsimp [E143,ri,cellp,ints,hl,kdsE_dec,hz]|refine aI ?_ fun _=>?_|refine oI fun _=>?_|refine nI ?_ ?_)
theorem ok143:FO 143 kdcS:=pf b143 (.cons ok217 .nil)
def vlL (r:Reg):List (Nat × Site):=[(8901,{base:=0,blks:=[{z:=4,els:=[r.row],ty:=37}]}),(8903,{base:=0,blks:=[{z:=1,els:=[[.fn 142 [.bptr 8901 0 1 0 0]]],ty:=109,cl:=false}]})]
theorem vlL_keys (r:Reg):(vlL r).map (·.1)=[8901,8903]:=rfl
theorem vlL_inj (r r':Reg) (h:∀k∈[8901,8903],hps (vlL r) noH k=hps (vlL r') noH k):r=r':=by
 have h1:=congrArg Site.blks (h 8901 (by simp))
 simp only [vlL,hps_cons]at h1
 exact Reg.row_inj _ _ (by simpa using h1)
section
variable (s:Reg) (h:Hp)
@[simp] theorem v8901:Ob vlL s h 8901={base:=0,blks:=[{z:=4,els:=[[.sl 3 (s.kinds.map Kd.row),.sl 4 (s.parts.map Pt.row),.int .i64 s.machines,.sl 2 (s.orders.map Od.row)]],ty:=37}]}:=rfl
@[simp] theorem v8903:Ob vlL s h 8903={base:=0,blks:=[{z:=1,els:=[[.fn 142 [.bptr 8901 0 1 0 0]]],ty:=109,cl:=false}]}:=rfl
@[simp] theorem v_ne {k:Nat} (hn:[8901,8903].contains k=false):Ob vlL s h k=h k:=ob_ne vlL_keys hn
@[simp] theorem v_v (s':Reg):Ob vlL s (Ob vlL s' h)=Ob vlL s h:=ob_ob vlL_keys _ _ _
@[simp] theorem v_hget (k i:Nat):hget (Ob vlL s h) k i=if i<(Ob vlL s h k).base then none else (Ob vlL s h k).blks[i - (Ob vlL s h k).base]?:=rfl
@[simp] theorem v_hnext (k:Nat):hnext (Ob vlL s h) k=(Ob vlL s h k).base+(Ob vlL s h k).blks.length:=rfl
@[simp] theorem v_hpush {k:Nat} (hn:[8901,8903].contains k=false) (B:Blk):hpush (Ob vlL s h) k B=Ob vlL s (hpush h k B):=ob_hpush vlL_keys hn B
@[simp] theorem v_over {k:Nat} {S:Site} {L:List (Nat × Site)} (hn:(((k,S)::L).all fun p=>![8901,8903].contains p.1)=true):hps ((k,S)::L) (Ob vlL s h)=Ob vlL s (hps ((k,S)::L) h):=ob_over vlL_keys hn
end
@[simp] def ptE (r:Reg) (p:Pt):List V:=[.agg p.row,.bptr 8903 0 1 0 0]
abbrev ptS:HSpec:=obS vlL [8901,8903] ptE (fun _ _ h=>Blank [14602] h) (fun r p _=>.bool (r.badP p)) (fun r _=>r) fun _ _ h=>bmp [14602] 1 h
theorem pt_go (r:Reg) (p:Pt) (h:Hp):ptS.go [.agg p.row,.bptr 8903 0 1 0 0] (Ob vlL r h)=⟨Blank [14602] (Ob vlL r h),.bool (r.badP p),Ob vlL r (bmp [14602] 1 (Ob vlL r h))⟩:=
 obS_go vlL_keys vlL_inj (fun s d d' h=>Pt.row_inj _ _ (by simpa using h)) r p h
abbrev E146:Env:={P:=Tryz.prog,fn:=tbl [(40,.pure withinS),(142,.pure kkS)],own:=[],key:=14600,nt:=21}
theorem b146:HeapBody E146 [] Tryz.f146 ptS:=by
 intro args h hc
 obtain⟨r,p,hh,rfl,hp,hgo⟩:=obS_inv vlL_keys hc
 rw [hgo]
 clear hgo hc
 obtain⟨h0,rfl⟩:∃h0,h=Ob vlL r h0:=⟨h,hh⟩
 clear hh
 have hb:h0 14602={base:=(h0 14602).base,blks:=[]}:=by simpa [Blank]using hp
 clear hp
 have hh0:h0=hps [(14602,{base:=(h0 14602).base,blks:=[]})] h0:=Blank.self (own:=[14602]) (by simpa [Blank]using hb)
 clear hb
 generalize (h0 14602).base=b at hh0
 rw [hh0]
 clear hh0
 simp -dsimp [Tryz.f146,E146,Pt.row,bmp,Reg.badP]
 cases h1:r.kindOk p.kind<;>cases h2:withinB p.hours 0 100000<;>cases h3:withinB p.cycles 0 100000<;>repeat' (first|omega|simp -dsimp [E146,ri,cellp,ints,h1,h2,h3,Pt.row,kkE_dec,regI,Reg.row]|refine aI ?_ fun _=>?_|refine oI fun _=>?_|refine nI ?_ ?_)
 all_goals exact(by(try simp -dsimp only [hpush_hps,hps_app,List.cons_append,List.nil_append,hps_over]); refine ob_hle ?_; simp -dsimp [allK]<;>exact rz)
theorem ok146:FnOK Tryz.prog 146 (.heap ptS):=pfH b146 (.cons ok40 (.cons ok142 .nil)) (fun args h hc=>by obtain⟨_,_,_,rfl,_⟩:=obS_inv vlL_keys hc; simp)
@[simp] def ptsE (r:Reg) (d:List Pt):List V:=[.sl 4 (d.map Pt.row),.fn 146 [.bptr 8903 0 1 0 0]]
abbrev ptsS:HSpec:=obS vlL [8901,8903] ptsE (fun _ d h=>Blank [14602] h∧d.length≤1000000) (fun r d _=>.int .i64 (idxZ d r.badP)) (fun r _=>r) fun _ d h=>bmp [14602] d.length h
theorem pts_go (r:Reg) (d:List Pt) (h:Hp):ptsS.go [.sl 4 (d.map Pt.row),.fn 146 [.bptr 8903 0 1 0 0]] (Ob vlL r h)=⟨Blank [14602] (Ob vlL r h)∧d.length≤1000000,.int .i64 (idxZ d r.badP),Ob vlL r (bmp [14602] d.length (Ob vlL r h))⟩:=
 obS_go vlL_keys vlL_inj (fun s d d' h=>map_inj Pt.row_inj (by simpa using h)) r d h
theorem pt_go' (r:Reg) (p:Pt) (h:Hp):ptS.go [.agg [.int .i64 p.kind,.int .i64 p.hours,.int .i64 p.cycles,.bool p.known],.bptr 8903 0 1 0 0] (Ob vlL r h)=⟨Blank [14602] (Ob vlL r h),.bool (r.badP p),Ob vlL r (bmp [14602] 1 (Ob vlL r h))⟩:=pt_go r p h
abbrev E218:Env:={P:=Tryz.prog,fn:=tbl [(146,.heap ptS)],own:=[],key:=21800,nt:=19}
theorem b218:HeapBody E218 [] Tryz.f218 ptsS:=by
 intro args h hc
 obtain⟨r,l,hh,rfl,⟨hp,hl⟩,hgo⟩:=obS_inv vlL_keys hc
 rw [hgo]
 clear hgo hc
 obtain⟨h0,rfl⟩:∃h0,h=Ob vlL r h0:=⟨h,hh⟩
 clear hh
 have hb:h0 14602={base:=(h0 14602).base,blks:=[]}:=by simpa [Blank]using hp
 clear hp
 have hh0:h0=hps [(14602,{base:=(h0 14602).base,blks:=[]})] h0:=Blank.self (own:=[14602]) (by simpa [Blank]using hb)
 clear hb
 generalize (h0 14602).base=b at hh0
 rw [hh0]
 clear hh0
 simp -dsimp [Tryz.f218,E218,bmp]
 refine awp_loop [9,10,5,11,12,13,14,15,16,17,4,18,8] (fun k:{k:Nat // k≤l.length∧∀j (h:j<l.length),j<k→r.badP l[j]=false}=>[(8,(true,.int .i64 k.1))]) (fun k=>Ob vlL r (hps [(14602,{base:=b+k.1,blks:=[]})] h0)) (fun k=>l.length - k.1) ⟨0,by omega,fun _ _ h=>by omega⟩ ?_ (HLe.refl _) ?_
 ·simp [okAll,okv]
 rintro⟨k,hk,hall⟩
 by_cases hk1:k<l.length
 ·have hki:(k:Int)<l.length:=by omega
  have wk:IntKind.wrap .i64 ((k:Int)+1)=(k+1:Nat):=wrap_id (by omega) (by omega)
  cases hw:r.badP l[k]
  ·simp -dsimp [hki]
   repeat' (first|omega|simp -dsimp [E218,ri,cellp,ints,hki,hk1,hl,hw,wk,Pt.row,pt_go',Blank,bmp]|refine aI ?_ fun _=>?_|refine oI fun _=>?_|refine nI ?_ ?_)
   refine⟨k+1,tle_chain rfl ?_,(by(try simp -dsimp only [hpush_hps,hps_app,List.cons_append,List.nil_append,hps_over]); refine ob_hle ?_; simp -dsimp [allK]<;>exact rz),⟨by omega,fun j h hj=>?_⟩,by omega⟩
   ·simp [okAll,okv]
   ·by_cases hjk:j=k
    ·subst hjk; exact hw
    ·exact hall j h (by omega)
  ·have hz:=idxZ_at l r.badP hk1 hw hall
   simp -dsimp [hki]
   repeat' (first|omega|simp -dsimp [E218,ri,cellp,ints,hki,hk1,hl,hw,wk,hz,Pt.row,pt_go',Blank,bmp]|refine aI ?_ fun _=>?_|refine oI fun _=>?_|refine nI ?_ ?_)
   exact(by(try simp -dsimp only [hpush_hps,hps_app,List.cons_append,List.nil_append,hps_over]); refine ob_hle ?_; simp -dsimp [allK]<;>exact rz)
 ·have hkn:¬ (k:Int)<l.length:=by omega
  have hz:=idxZ_none l r.badP (fun j h=>hall j h (by omega))
  simp -dsimp [hkn]
  repeat' (first|omega|simp -dsimp [E218,ri,cellp,ints,hkn,hz]|refine aI ?_ fun _=>?_|refine oI fun _=>?_|refine nI ?_ ?_)
  exact(by(try simp -dsimp only [hpush_hps,hps_app,List.cons_append,List.nil_append,hps_over]); refine ob_hle ?_; simp -dsimp [allK]<;>exact rz)
theorem ok218:FnOK Tryz.prog 218 (.heap ptsS):=pfH b218 (.cons ok146 .nil) (fun args h hc=>by obtain⟨_,_,_,rfl,_⟩:=obS_inv vlL_keys hc; simp)
abbrev ptcS:HSpec:=obS vlL [8901,8903] ptsE (fun _ d h=>Blank [14602] h∧d.length≤1000000) (fun r d _=>.bool (d.any r.badP)) (fun r _=>r) fun _ d h=>bmp [14602] d.length h
theorem ptc_go (r:Reg) (d:List Pt) (h:Hp):ptcS.go [.sl 4 (d.map Pt.row),.fn 146 [.bptr 8903 0 1 0 0]] (Ob vlL r h)=⟨Blank [14602] (Ob vlL r h)∧d.length≤1000000,.bool (d.any r.badP),Ob vlL r (bmp [14602] d.length (Ob vlL r h))⟩:=
 obS_go vlL_keys vlL_inj (fun s d d' h=>map_inj Pt.row_inj (by simpa using h)) r d h
abbrev E145:Env:={P:=Tryz.prog,fn:=tbl [(218,.heap ptsS)],own:=[],key:=14500,nt:=9}
theorem b145:HeapBody E145 [] Tryz.f145 ptcS:=by
 intro args h hc
 obtain⟨r,l,hh,rfl,⟨hp,hl⟩,hgo⟩:=obS_inv vlL_keys hc
 rw [hgo]
 clear hgo hc
 obtain⟨h0,rfl⟩:∃h0,h=Ob vlL r h0:=⟨h,hh⟩
 clear hh
 have hz:=idxZ_any l r.badP
 have hb:h0 14602={base:=(h0 14602).base,blks:=[]}:=by simpa [Blank]using hp
 have hp':Blank [14602] (Ob vlL r h0):=hp
 simp -dsimp [Tryz.f145,E145,bmp]
 repeat' (first|omega|simp -dsimp [E145,ri,cellp,ints,pts_go,hp',hl,hz,bmp,hle_refl]|refine aI ?_ fun _=>?_|refine oI fun _=>?_|refine nI ?_ ?_)
theorem ok145:FnOK Tryz.prog 145 (.heap ptcS):=pfH b145 (.cons ok218 .nil) (fun args h hc=>by obtain⟨_,_,_,rfl,_⟩:=obS_inv vlL_keys hc; simp)
@[simp] def odE (r:Reg) (p:Od):List V:=[.agg p.row,.bptr 8903 0 1 0 0]
abbrev odS:HSpec:=obS vlL [8901,8903] odE (fun _ _ h=>Blank [14802] h) (fun r p _=>.bool (r.badO p)) (fun r _=>r) fun _ _ h=>bmp [14802] 1 h
theorem od_go (r:Reg) (p:Od) (h:Hp):odS.go [.agg p.row,.bptr 8903 0 1 0 0] (Ob vlL r h)=⟨Blank [14802] (Ob vlL r h),.bool (r.badO p),Ob vlL r (bmp [14802] 1 (Ob vlL r h))⟩:=
 obS_go vlL_keys vlL_inj (fun s d d' h=>Od.row_inj _ _ (by simpa using h)) r p h
abbrev E148:Env:={P:=Tryz.prog,fn:=tbl [(40,.pure withinS),(142,.pure kkS)],own:=[],key:=14800,nt:=15}
theorem b148:HeapBody E148 [] Tryz.f148 odS:=by
 intro args h hc
 obtain⟨r,p,hh,rfl,hp,hgo⟩:=obS_inv vlL_keys hc
 rw [hgo]
 clear hgo hc
 obtain⟨h0,rfl⟩:∃h0,h=Ob vlL r h0:=⟨h,hh⟩
 clear hh
 have hb:h0 14802={base:=(h0 14802).base,blks:=[]}:=by simpa [Blank]using hp
 clear hp
 have hh0:h0=hps [(14802,{base:=(h0 14802).base,blks:=[]})] h0:=Blank.self (own:=[14802]) (by simpa [Blank]using hb)
 clear hb
 generalize (h0 14802).base=b at hh0
 rw [hh0]
 clear hh0
 simp -dsimp [Tryz.f148,E148,Od.row,bmp,Reg.badO]
 cases h1:r.kindOk p.kind<;>cases h2:withinB p.within 0 100000<;>repeat' (first|omega|simp -dsimp [E148,ri,cellp,ints,h1,h2,Od.row,kkE_dec,regI,Reg.row]|refine aI ?_ fun _=>?_|refine oI fun _=>?_|refine nI ?_ ?_)
 all_goals exact(by(try simp -dsimp only [hpush_hps,hps_app,List.cons_append,List.nil_append,hps_over]); refine ob_hle ?_; simp -dsimp [allK]<;>exact rz)
theorem ok148:FnOK Tryz.prog 148 (.heap odS):=pfH b148 (.cons ok40 (.cons ok142 .nil)) (fun args h hc=>by obtain⟨_,_,_,rfl,_⟩:=obS_inv vlL_keys hc; simp)
@[simp] def odsE (r:Reg) (d:List Od):List V:=[.sl 2 (d.map Od.row),.fn 148 [.bptr 8903 0 1 0 0]]
abbrev odsS:HSpec:=obS vlL [8901,8903] odsE (fun _ d h=>Blank [14802] h∧d.length≤1000000) (fun r d _=>.int .i64 (idxZ d r.badO)) (fun r _=>r) fun _ d h=>bmp [14802] d.length h
theorem ods_go (r:Reg) (d:List Od) (h:Hp):odsS.go [.sl 2 (d.map Od.row),.fn 148 [.bptr 8903 0 1 0 0]] (Ob vlL r h)=⟨Blank [14802] (Ob vlL r h)∧d.length≤1000000,.int .i64 (idxZ d r.badO),Ob vlL r (bmp [14802] d.length (Ob vlL r h))⟩:=
 obS_go vlL_keys vlL_inj (fun s d d' h=>map_inj Od.row_inj (by simpa using h)) r d h
theorem od_go' (r:Reg) (p:Od) (h:Hp):odS.go [.agg [.int .i64 p.kind,.int .i64 p.within],.bptr 8903 0 1 0 0] (Ob vlL r h)=⟨Blank [14802] (Ob vlL r h),.bool (r.badO p),Ob vlL r (bmp [14802] 1 (Ob vlL r h))⟩:=od_go r p h
abbrev E219:Env:={P:=Tryz.prog,fn:=tbl [(148,.heap odS)],own:=[],key:=21900,nt:=19}
theorem b219:HeapBody E219 [] Tryz.f219 odsS:=by
 intro args h hc
 obtain⟨r,l,hh,rfl,⟨hp,hl⟩,hgo⟩:=obS_inv vlL_keys hc
 rw [hgo]
 clear hgo hc
 obtain⟨h0,rfl⟩:∃h0,h=Ob vlL r h0:=⟨h,hh⟩
 clear hh
 have hb:h0 14802={base:=(h0 14802).base,blks:=[]}:=by simpa [Blank]using hp
 clear hp
 have hh0:h0=hps [(14802,{base:=(h0 14802).base,blks:=[]})] h0:=Blank.self (own:=[14802]) (by simpa [Blank]using hb)
 clear hb
 generalize (h0 14802).base=b at hh0
 rw [hh0]
 clear hh0
 simp -dsimp [Tryz.f219,E219,bmp]
 refine awp_loop [9,10,5,11,12,13,14,15,16,17,4,18,8] (fun k:{k:Nat // k≤l.length∧∀j (h:j<l.length),j<k→r.badO l[j]=false}=>[(8,(true,.int .i64 k.1))]) (fun k=>Ob vlL r (hps [(14802,{base:=b+k.1,blks:=[]})] h0)) (fun k=>l.length - k.1) ⟨0,by omega,fun _ _ h=>by omega⟩ ?_ (HLe.refl _) ?_
 ·simp [okAll,okv]
 rintro⟨k,hk,hall⟩
 by_cases hk1:k<l.length
 ·have hki:(k:Int)<l.length:=by omega
  have wk:IntKind.wrap .i64 ((k:Int)+1)=(k+1:Nat):=wrap_id (by omega) (by omega)
  cases hw:r.badO l[k]
  ·simp -dsimp [hki]
   repeat' (first|omega|simp -dsimp [E219,ri,cellp,ints,hki,hk1,hl,hw,wk,Od.row,od_go',Blank,bmp]|refine aI ?_ fun _=>?_|refine oI fun _=>?_|refine nI ?_ ?_)
   refine⟨k+1,tle_chain rfl ?_,(by(try simp -dsimp only [hpush_hps,hps_app,List.cons_append,List.nil_append,hps_over]); refine ob_hle ?_; simp -dsimp [allK]<;>exact rz),⟨by omega,fun j h hj=>?_⟩,by omega⟩
   ·simp [okAll,okv]
   ·by_cases hjk:j=k
    ·subst hjk; exact hw
    ·exact hall j h (by omega)
  ·have hz:=idxZ_at l r.badO hk1 hw hall
   simp -dsimp [hki]
   repeat' (first|omega|simp -dsimp [E219,ri,cellp,ints,hki,hk1,hl,hw,wk,hz,Od.row,od_go',Blank,bmp]|refine aI ?_ fun _=>?_|refine oI fun _=>?_|refine nI ?_ ?_)
   exact(by(try simp -dsimp only [hpush_hps,hps_app,List.cons_append,List.nil_append,hps_over]); refine ob_hle ?_; simp -dsimp [allK]<;>exact rz)
 ·have hkn:¬ (k:Int)<l.length:=by omega
  have hz:=idxZ_none l r.badO (fun j h=>hall j h (by omega))
  simp -dsimp [hkn]
  repeat' (first|omega|simp -dsimp [E219,ri,cellp,ints,hkn,hz]|refine aI ?_ fun _=>?_|refine oI fun _=>?_|refine nI ?_ ?_)
  exact(by(try simp -dsimp only [hpush_hps,hps_app,List.cons_append,List.nil_append,hps_over]); refine ob_hle ?_; simp -dsimp [allK]<;>exact rz)
theorem ok219:FnOK Tryz.prog 219 (.heap odsS):=pfH b219 (.cons ok148 .nil) (fun args h hc=>by obtain⟨_,_,_,rfl,_⟩:=obS_inv vlL_keys hc; simp)
abbrev odcS:HSpec:=obS vlL [8901,8903] odsE (fun _ d h=>Blank [14802] h∧d.length≤1000000) (fun r d _=>.bool (d.any r.badO)) (fun r _=>r) fun _ d h=>bmp [14802] d.length h
theorem odc_go (r:Reg) (d:List Od) (h:Hp):odcS.go [.sl 2 (d.map Od.row),.fn 148 [.bptr 8903 0 1 0 0]] (Ob vlL r h)=⟨Blank [14802] (Ob vlL r h)∧d.length≤1000000,.bool (d.any r.badO),Ob vlL r (bmp [14802] d.length (Ob vlL r h))⟩:=
 obS_go vlL_keys vlL_inj (fun s d d' h=>map_inj Od.row_inj (by simpa using h)) r d h
abbrev E147:Env:={P:=Tryz.prog,fn:=tbl [(219,.heap odsS)],own:=[],key:=14700,nt:=9}
theorem b147:HeapBody E147 [] Tryz.f147 odcS:=by
 intro args h hc
 obtain⟨r,l,hh,rfl,⟨hp,hl⟩,hgo⟩:=obS_inv vlL_keys hc
 rw [hgo]
 clear hgo hc
 obtain⟨h0,rfl⟩:∃h0,h=Ob vlL r h0:=⟨h,hh⟩
 clear hh
 have hz:=idxZ_any l r.badO
 have hb:h0 14802={base:=(h0 14802).base,blks:=[]}:=by simpa [Blank]using hp
 have hp':Blank [14802] (Ob vlL r h0):=hp
 simp -dsimp [Tryz.f147,E147,bmp]
 repeat' (first|omega|simp -dsimp [E147,ri,cellp,ints,ods_go,hp',hl,hz,bmp,hle_refl]|refine aI ?_ fun _=>?_|refine oI fun _=>?_|refine nI ?_ ?_)
theorem ok147:FnOK Tryz.prog 147 (.heap odcS):=pfH b147 (.cons ok219 .nil) (fun args h hc=>by obtain⟨_,_,_,rfl,_⟩:=obS_inv vlL_keys hc; simp)
def Reg.valid (r:Reg):Bool:=decide (r.kinds.length≤6) && (decide (r.parts.length≤24) && (decide (r.orders.length≤6) && (withinB r.machines 0 4 && (!r.kinds.any Kd.bad && (!r.parts.any r.badP && !r.orders.any r.badO)))))
@[simp] def regE (r:Reg):List V:=[.agg r.row]
theorem regE_inj (a b:Reg) (h:regE a=regE b):a=b:=Reg.row_inj _ _ (by simpa using h)
theorem regE_dec (r:Reg):decC regE [.agg r.row]=r:=decC_eq regE_inj r
abbrev validS:PSpec:=mkP regE (fun r=>r.kinds.length≤9223372036854775807∧r.parts.length≤9223372036854775807∧r.orders.length≤9223372036854775807) fun r=>.bool r.valid
abbrev E89:Env:={P:=Tryz.prog,fn:=tbl [(40,.pure withinS),(143,.pure kdcS),(144,.pure kdS),(145,.heap ptcS),(146,.heap ptS),(147,.heap odcS),(148,.heap odS),(142,.pure kkS)],own:=[],key:=8900,nt:=45}
theorem b89:PureBody E89 [] Tryz.f89 validS:=by
 refine pb ?_
 rintro r ⟨b1,b2,b3⟩
 have hv:∀r:Reg,hps [(8903,{base:=0,blks:=[{z:=1,els:=[[.fn 142 [.bptr 8901 0 1 0 0]]],ty:=109,cl:=false}]}),(8901,{base:=0,blks:=[{z:=4,els:=[[.sl 3 (r.kinds.map Kd.row),.sl 4 (r.parts.map Pt.row),.int .i64 r.machines,.sl 2 (r.orders.map Od.row)]],ty:=37}]})] noH=Ob vlL r noH:=by
  intro r; funext k; simp only [Ob,vlL,hps_cons,hps_nil,Reg.row]
  by_cases h1:k=8903
  ·subst h1; simp
  ·by_cases h2:k=8901
   ·subst h2; simp
   ·simp [h1,h2]
 by_cases c1:r.kinds.length≤6
 case neg=>
  have d1:(6:Int)<r.kinds.length:=by omega
  have e1:6<r.kinds.length:=by omega
  simp -dsimp [Tryz.f89,E89,Reg.row]
  repeat' (first|omega|simp -dsimp [E89,ri,cellp,ints,b1,b2,b3,d1,e1,Reg.row,Reg.valid]|refine aI ?_ fun _=>?_|refine oI fun _=>?_|refine nI ?_ ?_)
 have d1:¬ (6:Int)<r.kinds.length:=by omega
 have e1:¬ 6<r.kinds.length:=by omega
 by_cases c2:r.parts.length≤24
 case neg=>
  have d2:(24:Int)<r.parts.length:=by omega
  have e2:24<r.parts.length:=by omega
  simp -dsimp [Tryz.f89,E89,Reg.row]
  repeat' (first|omega|simp -dsimp [E89,ri,cellp,ints,b1,b2,b3,d1,e1,c1,d2,e2,Reg.row,Reg.valid]|refine aI ?_ fun _=>?_|refine oI fun _=>?_|refine nI ?_ ?_)
 have d2:¬ (24:Int)<r.parts.length:=by omega
 have e2:¬ 24<r.parts.length:=by omega
 by_cases c3:r.orders.length≤6
 case neg=>
  have d3:(6:Int)<r.orders.length:=by omega
  have e3:6<r.orders.length:=by omega
  simp -dsimp [Tryz.f89,E89,Reg.row]
  repeat' (first|omega|simp -dsimp [E89,ri,cellp,ints,b1,b2,b3,d1,e1,c1,d2,e2,c2,d3,e3,Reg.row,Reg.valid]|refine aI ?_ fun _=>?_|refine oI fun _=>?_|refine nI ?_ ?_)
 have d3:¬ (6:Int)<r.orders.length:=by omega
 have e3:¬ 6<r.orders.length:=by omega
 cases c4:withinB r.machines 0 4
 ·simp -dsimp [Tryz.f89,E89,Reg.row]
  repeat' (first|omega|simp -dsimp [E89,ri,cellp,ints,b1,b2,b3,d1,e1,c1,d2,e2,c2,d3,e3,c3,c4,Reg.row,Reg.valid]|refine aI ?_ fun _=>?_|refine oI fun _=>?_|refine nI ?_ ?_)
 have k1:r.kinds.length≤1000000:=by omega
 have k2:r.parts.length≤1000000:=by omega
 have k3:r.orders.length≤1000000:=by omega
 cases c5:r.kinds.any Kd.bad<;>cases c6:r.parts.any r.badP<;>cases c7:r.orders.any r.badO<;>simp -dsimp [Tryz.f89,E89,Reg.row]<;>repeat' (first|omega|simp -dsimp [E89,ri,cellp,ints,b1,b2,b3,k1,k2,k3,d1,e1,c1,d2,e2,c2,d3,e3,c3,c4,c5,c6,c7,hv,kdsE_dec,ptc_go,odc_go,Blank,bmp,Reg.row,Reg.valid]|refine aI ?_ fun _=>?_|refine oI fun _=>?_|refine nI ?_ ?_)
theorem ok89:FO 89 validS:=pf b89 (.cons ok40 (.cons ok143 (.cons ok144 (.cons ok145 (.cons ok146 (.cons ok147 (.cons ok148 (.cons ok142 .nil))))))))
end Go.Sx
end
end
