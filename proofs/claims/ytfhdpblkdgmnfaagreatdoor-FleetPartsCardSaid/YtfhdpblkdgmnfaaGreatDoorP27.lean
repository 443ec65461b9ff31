/- A part of a proof; no conditions. -/
import Derived.Test.YtfhdpblkdgmnfaaGreatDoorP26
set_option linter.unusedSimpArgs false
set_option linter.unusedVariables false
set_option linter.unusedSectionVars false
set_option maxRecDepth 100000
set_option maxHeartbeats 8000000
noncomputable section
section
namespace Go.Sx
open Go.Proofs
attribute [local irreducible] HLe
@[simp] def rrE (d:Ro × List Du × Du):List V:=[.agg d.1.row,.sl 3 (d.2.1.map Du.row),.agg d.2.2.row]
theorem rrE_inj (a b:Ro × List Du × Du) (h:rrE a=rrE b):a=b:=by
 obtain⟨a1,a2,a3⟩:=a; obtain⟨b1,b2,b3⟩:=b
 simp only [rrE,List.cons.injEq,V.agg.injEq,V.sl.injEq,true_and,and_true]at h
 rw [Ro.row_inj _ _ h.1,mapRow_inj Du.row_inj h.2.1,Du.row_inj _ _ h.2.2]
theorem rrE_dec (r:Ro) (l:List Du) (d:Du):decC rrE [.agg [.sl 3 (r.ppl.map Pn.row),.int .i64 r.lng,.int .i64 r.rst,.int .i64 r.win,.int .i64 r.tot,.int .i64 r.rcn],.sl 3 (l.map Du.row),.agg [.int .i64 d.p,.int .i64 d.a,.int .i64 d.b]]=(r,l,d):=decC_eq rrE_inj (r,l,d)
structure RrP (e:Ro × List Du × Du):Prop where
 f:e.1.Fit
 n:e.2.1.length≤1000
 l:Val e.2.1
 d:VDu e.2.2
abbrev rstRS:PSpec:=mkP rrE RrP fun e=>.bool (rrest e.1 e.2.1 e.2.2)
def rsB (r:Ro) (d x:Du):Bool:=decide (x.p=d.p) && decide (d.a<x.b+r.rst) && decide (x.a<d.b+r.rst)
theorem rrest_ok {r:Ro} {l:List Du} {d:Du} (h:∀j (h:j<l.length),rsB r d l[j]=false):rrest r l d=true:=by
 unfold rrest
 rw [List.all_eq_true]
 intro x hx
 obtain⟨j,hj,rfl⟩:=List.getElem_of_mem hx
 have:=h j hj
 unfold rsB at this
 rw [this]; rfl
theorem rrest_no {r:Ro} {l:List Du} {d x:Du} (hx:x∈l) (h:rsB r d x=true):rrest r l d=false:=by
 unfold rrest
 rw [List.all_eq_false]
 unfold rsB at h
 exact⟨x,hx,by rw [h]; decide⟩
abbrev E180:Env:={P:=Tryz.prog,fn:=tbl [],own:=[],key:=18000,nt:=44}
theorem b180:PureBody E180 [] Tryz.f180 rstRS:=by
 refine pb ?_
 rintro⟨r,l,d⟩ ⟨hf,hn,hl,hd⟩
 simp only at hf hn hl hd
 have hr:=hf.rst
 unfold VDu at hd
 simp -dsimp [Tryz.f180,E180,Ro.row,pplV,Du.row]
 repeat' (first|omega|simp -dsimp [E180,ri,cellp,ints,Ro.row,pplV,Du.row]|refine aI ?_ fun _=>?_|refine oI fun _=>?_|refine nI ?_ ?_)
 refine awp_loop [9,10,11,12,15,16,17,18,8,19,20,21,22,23,24,25,26,27,28,29,30,31,32,33,34,35,36,37,38,39,40,41,42,43,6,13,14,7] (fun k:{k:Nat // k≤l.length∧∀j (h:j<l.length),j<k→rsB r d l[j]=false}=>[(7,(true,.int .i64 k.1))]) (fun k=>hps [(18008,{base:=k.1,blks:=[]}),(18005,{base:=0,blks:=[{z:=3,els:=[d.row],ty:=65}]}),(18003,{base:=0,blks:=[{z:=6,els:=[r.row],ty:=41}]})] noH) (fun k=>l.length - k.1) ⟨0,by omega,fun _ _ h=>by omega⟩ ?_ ?_ ?_
 ·simp [okAll,okv]
 ·exact(by(try simp -dsimp only [hpx]); refine hle_hps ?_; simp -dsimp [allK,Ro.row,pplV,Du.row]<;>exact rz)
 rintro⟨k,hk,hal⟩
 dsimp only
 by_cases hk1:k<l.length
 ·have hki:(k:Int)<l.length:=by omega
  have wk:IntKind.wrap .i64 ((k:Int)+1)=(k+1:Nat):=wrap_id (by omega) (by omega)
  obtain⟨x,hx⟩:∃x,l[k]?=some x:=⟨_,List.getElem?_eq_getElem hk1⟩
  have hx':l[k]=x:=(List.getElem?_eq_some_iff.1 hx).2
  have hxm:x∈l:=by rw [←hx']; exact List.getElem_mem hk1
  have hxv:=hl x hxm
  have w1:IntKind.wrap .i64 (x.b+r.rst)=x.b+r.rst:=wrap_id (by omega) (by omega)
  have w2:IntKind.wrap .i64 (d.b+r.rst)=d.b+r.rst:=wrap_id (by omega) (by omega)
  have hD:rsB r d x=(decide (x.p=d.p) && decide (d.a<x.b+r.rst) && decide (x.a<d.b+r.rst)):=rfl
  by_cases hall:(x.p=d.p∧d.a<x.b+r.rst)∧x.a<d.b+r.rst
  ·obtain⟨⟨h1,h2⟩,h3⟩:=hall
   have hz:=rrest_no hxm (by rw [hD,decide_eq_true h1,decide_eq_true h2,decide_eq_true h3]; rfl)
   simp -dsimp [hki]
   repeat' (first|omega|simp -dsimp [E180,ri,cellp,ints,Ro.row,pplV,Du.row,hki,hk1,hx,hx',w1,w2,h1,h2,h3,hz]|refine aI ?_ fun _=>?_|refine oI fun _=>?_|refine nI ?_ ?_)
  ·have hb:rsB r d x=false:=by rw [hD]; simpa [and_assoc]using hall
   have hgo:∀(P:Prop),(¬ ((x.p=d.p∧d.a<x.b+r.rst)∧x.a<d.b+r.rst)→P)→P:=fun P h=>h hall
   by_cases h1:x.p=d.p
   ·by_cases h2:d.a<x.b+r.rst
    ·have h3:(x.a<d.b+r.rst)=False:=eq_false fun h=>hall ⟨⟨h1,h2⟩,h⟩
     simp -dsimp [hki]
     repeat' (first|omega|simp -dsimp [E180,ri,cellp,ints,Ro.row,pplV,Du.row,hki,hk1,hx,hx',w1,w2,h1,h2,h3,wk]|refine aI ?_ fun _=>?_|refine oI fun _=>?_|refine nI ?_ ?_)
     refine⟨k+1,tle_chain rfl ?_,?_,⟨by omega,fun j h hj=>?_⟩,by omega⟩
     ·simp [okAll,okv]
     ·exact(by(try simp -dsimp only [hpx]); refine hle_hps ?_; simp -dsimp [allK,Ro.row,pplV,Du.row]<;>exact rz)
     ·by_cases hjk:j=k
      ·subst hjk; rw [hx',hb]
      ·exact hal j h (by omega)
    ·replace h2:(d.a<x.b+r.rst)=False:=eq_false h2
     simp -dsimp [hki]
     repeat' (first|omega|simp -dsimp [E180,ri,cellp,ints,Ro.row,pplV,Du.row,hki,hk1,hx,hx',w1,w2,h1,h2,wk]|refine aI ?_ fun _=>?_|refine oI fun _=>?_|refine nI ?_ ?_)
     refine⟨k+1,tle_chain rfl ?_,?_,⟨by omega,fun j h hj=>?_⟩,by omega⟩
     ·simp [okAll,okv]
     ·exact(by(try simp -dsimp only [hpx]); refine hle_hps ?_; simp -dsimp [allK,Ro.row,pplV,Du.row]<;>exact rz)
     ·by_cases hjk:j=k
      ·subst hjk; rw [hx',hb]
      ·exact hal j h (by omega)
   ·replace h1:(x.p=d.p)=False:=eq_false h1
    simp -dsimp [hki]
    repeat' (first|omega|simp -dsimp [E180,ri,cellp,ints,Ro.row,pplV,Du.row,hki,hk1,hx,hx',w1,w2,h1,wk]|refine aI ?_ fun _=>?_|refine oI fun _=>?_|refine nI ?_ ?_)
    refine⟨k+1,tle_chain rfl ?_,?_,⟨by omega,fun j h hj=>?_⟩,by omega⟩
    ·simp [okAll,okv]
    ·exact(by(try simp -dsimp only [hpx]); refine hle_hps ?_; simp -dsimp [allK,Ro.row,pplV,Du.row]<;>exact rz)
    ·by_cases hjk:j=k
     ·subst hjk; rw [hx',hb]
     ·exact hal j h (by omega)
 ·have hkn:¬ (k:Int)<l.length:=by omega
  have hz:=rrest_ok (r:=r) (d:=d) fun j h=>hal j h (by omega)
  simp -dsimp [hkn]
  repeat' (first|omega|simp -dsimp [E180,ri,cellp,ints,hkn,hz]|refine aI ?_ fun _=>?_|refine oI fun _=>?_|refine nI ?_ ?_)
theorem ok180:FO 180 rstRS:=pf b180 .nil
abbrev rcnRS:PSpec:=mkP rrE RrP fun e=>.bool (rrec e.1 e.2.1 e.2.2)
def rcB (r:Ro) (d x:Du):Bool:=decide (x.p=d.p) && decide (x.b≤d.a) && decide (d.a - r.rcn≤x.b)
theorem rrec_any (r:Ro) (l:List Du) (d:Du):rrec r l d=(decide (d.a≤r.rcn) || l.any (rcB r d)):=rfl
theorem any_none {α:Type} {p:α→Bool} {l:List α} (h:∀j (h:j<l.length),p l[j]=false):l.any p=false:=by
 rw [List.any_eq_false]
 intro g hg
 obtain⟨j,hj,rfl⟩:=List.getElem_of_mem hg
 simp [h j hj]
abbrev E182:Env:={P:=Tryz.prog,fn:=tbl [],own:=[],key:=18200,nt:=50}
theorem b182:PureBody E182 [] Tryz.f182 rcnRS:=by
 refine pb ?_
 rintro⟨r,l,d⟩ ⟨hf,hn,hl,hd⟩
 simp only at hf hn hl hd
 have hr:=hf.rcn
 unfold VDu at hd
 have hR:=rrec_any r l d
 by_cases h0:d.a≤r.rcn
 ·rw [decide_eq_true h0,Bool.true_or]at hR
  simp -dsimp [Tryz.f182,E182,Ro.row,pplV,Du.row]
  repeat' (first|omega|simp -dsimp [E182,ri,cellp,ints,Ro.row,pplV,Du.row,h0,hR]|refine aI ?_ fun _=>?_|refine oI fun _=>?_|refine nI ?_ ?_)
 rw [decide_eq_false h0,Bool.false_or]at hR
 have h0':(d.a≤r.rcn)=False:=eq_false h0
 simp -dsimp [Tryz.f182,E182,Ro.row,pplV,Du.row]
 repeat' (first|omega|simp -dsimp [E182,ri,cellp,ints,Ro.row,pplV,Du.row,h0']|refine aI ?_ fun _=>?_|refine oI fun _=>?_|refine nI ?_ ?_)
 refine awp_loop [13,14,15,16,19,20,21,22,23,24,25,26,27,28,29,30,31,32,33,34,35,36,37,38,39,40,41,42,43,44,45,46,47,48,49,6,17,18,7] (fun k:{k:Nat // k≤l.length∧∀j (h:j<l.length),j<k→rcB r d l[j]=false}=>[(7,(true,.int .i64 k.1))]) (fun k=>_) (fun k=>l.length - k.1) ⟨0,by omega,fun _ _ h=>by omega⟩ ?_ (HLe.refl _) ?_
 ·simp [okAll,okv]
 rintro⟨k,hk,hal⟩
 dsimp only
 by_cases hk1:k<l.length
 ·have hki:(k:Int)<l.length:=by omega
  have wk:IntKind.wrap .i64 ((k:Int)+1)=(k+1:Nat):=wrap_id (by omega) (by omega)
  obtain⟨x,hx⟩:∃x,l[k]?=some x:=⟨_,List.getElem?_eq_getElem hk1⟩
  have hx':l[k]=x:=(List.getElem?_eq_some_iff.1 hx).2
  have hxm:x∈l:=by rw [←hx']; exact List.getElem_mem hk1
  have w1:IntKind.wrap .i64 (d.a - r.rcn)=d.a - r.rcn:=wrap_id (by omega) (by omega)
  have hD:rcB r d x=(decide (x.p=d.p) && decide (x.b≤d.a) && decide (d.a - r.rcn≤x.b)):=rfl
  by_cases hall:(x.p=d.p∧x.b≤d.a)∧d.a - r.rcn≤x.b
  ·obtain⟨⟨h1,h2⟩,h3⟩:=hall
   have hz:rrec r l d=true:=by
    rw [hR,List.any_eq_true]
    exact⟨x,hxm,by rw [hD,decide_eq_true h1,decide_eq_true h2,decide_eq_true h3]; rfl⟩
   simp -dsimp [hki]
   repeat' (first|omega|simp -dsimp [E182,ri,cellp,ints,Ro.row,pplV,Du.row,hki,hk1,hx,hx',w1,h1,h2,h3,hz]|refine aI ?_ fun _=>?_|refine oI fun _=>?_|refine nI ?_ ?_)
  ·have hb:rcB r d x=false:=by rw [hD]; simpa [and_assoc]using hall
   by_cases h1:x.p=d.p
   ·by_cases h2:x.b≤d.a
    ·have h3:(d.a - r.rcn≤x.b)=False:=eq_false fun h=>hall ⟨⟨h1,h2⟩,h⟩
     have h3':(d.a≤x.b+r.rcn)=False:=eq_false fun h=>hall ⟨⟨h1,h2⟩,by omega⟩
     simp -dsimp [hki]
     repeat' (first|omega|simp -dsimp [E182,ri,cellp,ints,Ro.row,pplV,Du.row,hki,hk1,hx,hx',w1,h1,h2,h3,h3',wk]|refine aI ?_ fun _=>?_|refine oI fun _=>?_|refine nI ?_ ?_)
     refine⟨k+1,tle_chain rfl ?_,HLe.refl _,⟨by omega,fun j h hj=>?_⟩,by omega⟩
     ·simp [okAll,okv]
     ·by_cases hjk:j=k
      ·subst hjk; rw [hx',hb]
      ·exact hal j h (by omega)
    ·replace h2:(x.b≤d.a)=False:=eq_false h2
     simp -dsimp [hki]
     repeat' (first|omega|simp -dsimp [E182,ri,cellp,ints,Ro.row,pplV,Du.row,hki,hk1,hx,hx',w1,h1,h2,wk]|refine aI ?_ fun _=>?_|refine oI fun _=>?_|refine nI ?_ ?_)
     refine⟨k+1,tle_chain rfl ?_,HLe.refl _,⟨by omega,fun j h hj=>?_⟩,by omega⟩
     ·simp [okAll,okv]
     ·by_cases hjk:j=k
      ·subst hjk; rw [hx',hb]
      ·exact hal j h (by omega)
   ·replace h1:(x.p=d.p)=False:=eq_false h1
    simp -dsimp [hki]
    repeat' (first|omega|simp -dsimp [E182,ri,cellp,ints,Ro.row,pplV,Du.row,hki,hk1,hx,hx',w1,h1,wk]|refine aI ?_ fun _=>?_|refine oI fun _=>?_|refine nI ?_ ?_)
    refine⟨k+1,tle_chain rfl ?_,HLe.refl _,⟨by omega,fun j h hj=>?_⟩,by omega⟩
    ·simp [okAll,okv]
    ·by_cases hjk:j=k
     ·subst hjk; rw [hx',hb]
     ·exact hal j h (by omega)
 ·have hkn:¬ (k:Int)<l.length:=by omega
  have hz:rrec r l d=false:=by rw [hR]; exact any_none fun j h=>hal j h (by omega)
  simp -dsimp [hkn]
  repeat' (first|omega|simp -dsimp [E182,ri,cellp,ints,hkn,hz]|refine aI ?_ fun _=>?_|refine oI fun _=>?_|refine nI ?_ ?_)
theorem ok182:FO 182 rcnRS:=pf b182 .nil
end Go.Sx
end
section
namespace Go.Sx
open Go.Proofs
attribute [local irreducible] HLe
abbrev winRS:PSpec:=mkP rrE RrP fun e=>.bool (rwin e.1 e.2.1 e.2.2)
def wnB (r:Ro) (l:List Du) (d z:Du):Bool:=!decide (z.p=d.p) || (decide (bsd d z.a (z.a+r.win) l (bus1 d z.a (z.a+r.win))≤r.tot) && decide (bsd d (max 0 (z.b - r.win)) (max 0 (z.b - r.win)+r.win) l (bus1 d (max 0 (z.b - r.win)) (max 0 (z.b - r.win)+r.win))≤r.tot))
theorem rwin_all (r:Ro) (l:List Du) (d:Du):rwin r l d=(l++[d]).all (wnB r l d):=rfl
abbrev E181:Env:={P:=Tryz.prog,fn:=tbl [(232,.pure besS)],own:=[11],key:=18100,nt:=69,frz:=[(1,[3,50003,5,50005])]}
theorem b181:PureBody E181 [(1,([3],[[0,1,2,3,4,5,6]]))] Tryz.f181 winRS:=by
 refine pb ?_
 rintro⟨r,l,d⟩ ⟨hf,hn,hl,hd⟩
 simp only at hf hn hl hd
 have hw:=hf.win
 have ht:=hf.tot
 have hR:=rwin_all r l d
 have hap:List.map Du.row l++[[V.int .i64 d.p,V.int .i64 d.a,V.int .i64 d.b]]=List.map Du.row (l++[d]):=by rw [List.map_append]; rfl
 have hlen:(l++[d]).length=l.length+1:=by simp
 have hv:Val (l++[d]):=fun x hx=>by
  rcases List.mem_append.1 hx with h|h
  ·exact hl x h
  ·exact List.mem_singleton.1 h ▸ hd
 generalize l++[d]=L at *
 have hLl:L.length≤1001:=by omega
 simp -dsimp [Tryz.f181,E181,FreeAt,Ro.row,pplV,Du.row]
 repeat' (first|omega|simp -dsimp [E181,ri,cellp,ints,FreeAt,Ro.row,pplV,Du.row,hap,hn]|refine aI ?_ fun _=>?_|refine oI fun _=>?_|refine nI ?_ ?_)
 refine awp_loop [17,18,19,20,23,24,25,26,27,28,29,30,31,32,33,34,35,36,37,38,39,40,41,42,43,44,9,10,45,46,47,48,49,50,51,52,53,54,55,56,57,58,59,60,61,62,63,64,65,66,67,68,6,21,22,8] (fun k:{k:Nat // k≤L.length∧∀j (h:j<L.length),j<k→wnB r l d L[j]=true}=>[(8,(true,.int .i64 k.1))]) (fun k=>_) (fun k=>L.length - k.1) ⟨0,by omega,fun _ _ h=>by omega⟩ ?_ (HLe.refl _) ?_
 ·simp [okAll,okv]
 rintro⟨k,hk,hal⟩
 dsimp only
 by_cases hk1:k<L.length
 ·have hki:(k:Int)<L.length:=by omega
  have hkl:k<l.length+1:=by omega
  have hkli:(k:Int)<l.length+1:=by omega
  have wk:IntKind.wrap .i64 ((k:Int)+1)=(k+1:Nat):=wrap_id (by omega) (by omega)
  obtain⟨x,hx⟩:∃x,L[k]?=some x:=⟨_,List.getElem?_eq_getElem hk1⟩
  have hx':L[k]=x:=(List.getElem?_eq_some_iff.1 hx).2
  have hxm:x∈L:=by rw [←hx']; exact List.getElem_mem hk1
  have hxv:=hv x hxm
  have hD:wnB r l d x=(!decide (x.p=d.p) || (decide (bsd d x.a (x.a+r.win) l (bus1 d x.a (x.a+r.win))≤r.tot) && decide (bsd d (max 0 (x.b - r.win)) (max 0 (x.b - r.win)+r.win) l (bus1 d (max 0 (x.b - r.win)) (max 0 (x.b - r.win)+r.win))≤r.tot))):=rfl
  by_cases hp:x.p=d.p
  ·rw [decide_eq_true hp,Bool.not_true,Bool.false_or]at hD
   have w1:IntKind.wrap .i64 (x.b - r.win)=x.b - r.win:=wrap_id (by omega) (by omega)
   have w2:IntKind.wrap .i64 (x.a+r.win)=x.a+r.win:=wrap_id (by omega) (by omega)
   obtain⟨m,hm⟩:∃m,max 0 (x.b - r.win)=m:=⟨_,rfl⟩
   have e1:(if 0<x.b - r.win then x.b - r.win else 0)=m:=by rw [←hm]; split<;>omega
   have e1':(if r.win<x.b then x.b - r.win else 0)=m:=by rw [←hm]; split<;>omega
   have hmb:0≤m∧m≤2000:=by omega
   rw [hm]at hD
   have w3:IntKind.wrap .i64 (m+r.win)=m+r.win:=wrap_id (by omega) (by omega)
   have p1:BeP (l,d,x.a,x.a+r.win):=⟨hn,hl,hd,by simp only; omega,by simp only; omega⟩
   have p2:BeP (l,d,m,m+r.win):=⟨hn,hl,hd,by simp only; omega,by simp only; omega⟩
   generalize hu1:bsd d x.a (x.a+r.win) l (bus1 d x.a (x.a+r.win))=u1 at *
   generalize hu2:bsd d m (m+r.win) l (bus1 d m (m+r.win))=u2 at *
   by_cases c1:u1≤r.tot
   ·have c1':(r.tot<u1)=False:=eq_false (by omega)
    by_cases c2:u2≤r.tot
    ·have c2':(r.tot<u2)=False:=eq_false (by omega)
     simp -dsimp [hki]
     repeat' (first|omega|simp -dsimp [E181,ri,cellp,ints,Ro.row,pplV,Du.row,hki,hk1,hkl,hkli,hlen,hx,hx',hp,w1,w2,e1,e1',w3,beE_dec,p1,p2,hu1,hu2,c1',c2',wk]|refine aI ?_ fun _=>?_|refine oI fun _=>?_|refine nI ?_ ?_)
     refine⟨k+1,tle_chain rfl ?_,HLe.refl _,⟨by omega,fun j h hj=>?_⟩,by omega⟩
     ·simp [okAll,okv]
     ·by_cases hjk:j=k
      ·subst hjk; rw [hx',hD,decide_eq_true c1,decide_eq_true c2]; rfl
      ·exact hal j (by omega) (by omega)
    ·have c2':r.tot<u2:=by omega
     have hz:rwin r l d=false:=by
      rw [hR,List.all_eq_false]; exact⟨x,hxm,by rw [hD,decide_eq_false c2]; simp⟩
     simp -dsimp [hki]
     repeat' (first|omega|simp -dsimp [E181,ri,cellp,ints,Ro.row,pplV,Du.row,hki,hk1,hkl,hkli,hlen,hx,hx',hp,w1,w2,e1,e1',w3,beE_dec,p1,p2,hu1,hu2,c1',c2',hz]|refine aI ?_ fun _=>?_|refine oI fun _=>?_|refine nI ?_ ?_)
   ·have c1':r.tot<u1:=by omega
    have hz:rwin r l d=false:=by
     rw [hR,List.all_eq_false]; exact⟨x,hxm,by rw [hD,decide_eq_false c1]; simp⟩
    simp -dsimp [hki]
    repeat' (first|omega|simp -dsimp [E181,ri,cellp,ints,Ro.row,pplV,Du.row,hki,hk1,hkl,hkli,hlen,hx,hx',hp,w1,w2,e1,e1',w3,beE_dec,p1,p2,hu1,hu2,c1',hz]|refine aI ?_ fun _=>?_|refine oI fun _=>?_|refine nI ?_ ?_)
  ·replace hp:(x.p=d.p)=False:=eq_false hp
   have hb:wnB r l d x=true:=by rw [hD,decide_eq_false (by rw [hp]; exact id)]; rfl
   simp -dsimp [hki]
   repeat' (first|omega|simp -dsimp [E181,ri,cellp,ints,Ro.row,pplV,Du.row,hki,hk1,hkl,hkli,hlen,hx,hx',hp,wk]|refine aI ?_ fun _=>?_|refine oI fun _=>?_|refine nI ?_ ?_)
   refine⟨k+1,tle_chain rfl ?_,HLe.refl _,⟨by omega,fun j h hj=>?_⟩,by omega⟩
   ·simp [okAll,okv]
   ·by_cases hjk:j=k
    ·subst hjk; rw [hx',hb]
    ·exact hal j (by omega) (by omega)
 ·have hkn:¬ (k:Int)<L.length:=by omega
  have hkn2:((k:Int)<l.length+1)=False:=eq_false (by omega)
  have hz:rwin r l d=true:=by
   rw [hR,List.all_eq_true]
   intro z hz
   obtain⟨j,hj,rfl⟩:=List.getElem_of_mem hz
   exact hal j hj (by omega)
  simp -dsimp [hkn]
  repeat' (first|omega|simp -dsimp [E181,ri,cellp,ints,hkn,hkn2,hlen,hz]|refine aI ?_ fun _=>?_|refine oI fun _=>?_|refine nI ?_ ?_)
theorem ok181:FO 181 winRS:=pf b181 (.cons ok232 .nil)
abbrev brkRS:PSpec:=mkP rrE RrP fun e=>ints (rbrk e.1 e.2.1 e.2.2)
abbrev E113:Env:={P:=Tryz.prog,fn:=tbl [(180,.pure rstRS),(181,.pure winRS),(182,.pure rcnRS)],own:=[],key:=11300,nt:=44}
theorem b113:PureBody E113 [] Tryz.f113 brkRS:=by
 refine pb ?_
 rintro⟨r,l,d⟩ hP
 have hP:RrP (r,l,d):=hP
 have hd:=hP.d
 unfold VDu at hd
 simp only at hd
 have hK:rbrk r l d=(if rrest r l d=true then []else [3])++(if r.lng<d.b - d.a then [4]else [])++(if rwin r l d=true then []else [5])++(if rrec r l d=true then []else [6]):=rfl
 have w1:IntKind.wrap .i64 (d.b - d.a)=d.b - d.a:=wrap_id (by omega) (by omega)
 generalize h1:rrest r l d=c1 at hK
 generalize h3:rwin r l d=c3 at hK
 generalize h4:rrec r l d=c4 at hK
 by_cases h2:r.lng<d.b - d.a
 ·rw [if_pos h2]at hK
  cases c1<;>cases c3<;>cases c4
  all_goals
   simp at hK
   simp -dsimp [Tryz.f113,E113,Ro.row,pplV,Du.row]
   repeat' (first|omega|simp -dsimp [E113,ri,cellp,ints,Ro.row,pplV,Du.row,rrE_dec,hP,h1,h2,h3,h4,w1,hK]|refine aI ?_ fun _=>?_|refine oI fun _=>?_|refine nI ?_ ?_)
 ·rw [if_neg h2]at hK
  replace h2:(r.lng<d.b - d.a)=False:=eq_false h2
  cases c1<;>cases c3<;>cases c4
  all_goals
   simp at hK
   simp -dsimp [Tryz.f113,E113,Ro.row,pplV,Du.row]
   repeat' (first|omega|simp -dsimp [E113,ri,cellp,ints,Ro.row,pplV,Du.row,rrE_dec,hP,h1,h2,h3,h4,w1,hK]|refine aI ?_ fun _=>?_|refine oI fun _=>?_|refine nI ?_ ?_)
theorem ok113:FO 113 brkRS:=pf b113 (.cons ok180 (.cons ok181 (.cons ok182 .nil)))
end Go.Sx
end
end
