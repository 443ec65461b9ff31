/- A part of a proof; no conditions. -/
import Derived.Test.YtegiclpanpmkdaaGreatDoorR27
import Derived.Test.YtegiclpanpmkdaaGreatDoorR29
set_option linter.all false
set_option maxRecDepth 100000
set_option maxHeartbeats 8000000
noncomputable section
section
namespace Go.Sx
open Go.Proofs
attribute [local simp] ri aa ints
attribute [local irreducible] bA
@[simp] def Xr(d:Ro × List Du × Du):List V:=[.agg d.1.row,.sl 3 (d.2.1.map Du.row),.agg d.2.2.row]
theorem Kt(a b:Ro × List Du × Du)(h:Xr a=Xr b):a=b:=by obtain⟨a1,a2,a3⟩:=a;obtain⟨b1,b2,b3⟩:=b;simp only [Xr,List.cons.injEq,V.agg.injEq,V.sl.injEq,true_and,and_true]at h;rw [Ro.aq _ _ h.1,aR Du.aq h.2.1,Du.aq _ _ h.2.2]
theorem qw(r:Ro)(l:List Du)(d:Du):aY Xr [.agg [.sl 3 (r.bM.map Pn.row),.int .i64 r.lY,.int .i64 r.fN,.int .i64 r.win,.int .i64 r.tot,.int .i64 r.iW],.sl 3 (l.map Du.row),.agg [.int .i64 d.p,.int .i64 d.a,.int .i64 d.b]]=(r,l,d):=aA Kt (r,l,d)
structure RrP (e:Ro × List Du × Du):Prop where
 f:e.1.Fit
 n:e.2.1.length<=1000
 l:Bi e.2.1
 d:DZ e.2.2
noncomputable abbrev Rn:aB:=bS Xr RrP fun e=>.bool (ru e.1 e.2.1 e.2.2)
def rsB(r:Ro)(d x:Du):Bool:=decide (x.p=d.p) && decide (d.a<x.b+r.fN) && decide (x.a<d.b+r.fN)
theorem Rp{r:Ro}{l:List Du}{d:Du}(h:∀j (h:j<l.length),rsB r d l[j]=false):ru r l d=true:=by unfold ru;rw [List.all_eq_true];intro x hx;obtain⟨j,hj,rfl⟩:=List.getElem_of_mem hx;have:=h j hj;unfold rsB at this;rw [this];rfl
theorem Rq{r:Ro}{l:List Du}{d x:Du}(hx:x∈l)(h:rsB r d x=true):ru r l d=false:=by unfold ru;rw [List.all_eq_false];unfold rsB at h;exact⟨x,hx,by rw [h];decide⟩
noncomputable abbrev DB:=EV [] [] 16900 44
theorem apf:af DB [] Tryz.f169 Rn:=pb <| by
 rintro⟨r,l,d⟩ ⟨hf,hn,hl,hd⟩;simp only at hf hn hl hd;have hr:=hf.fN;unfold DZ at hd;simp -dsimp [Tryz.f169,DB,Ro.row,bp,Du.row];repeat' first|omega|simp -dsimp [DB,Ro.row,bp,Du.row]|apply aI|apply nI|intro
 refine ay [9,10,11,12,15,16,17,18,8,19,20,21,22,23,24,25,26,27,28,29,30,31,32,33,34,35,36,37,38,39,40,41,42,43,6,13,14,7] (fun k:{k:Nat // k<=l.length/\∀j (h:j<l.length),j<k->rsB r d l[j]=false}=>[(7,(true,.int .i64 k.1))]) (fun k=>hps [(16908,{base:=k.1,ah:=[]}),(16905,{base:=0,ah:=[{z:=3,els:=[d.row],ty:=200}]}),(16903,{base:=0,ah:=[{z:=6,els:=[r.row],ty:=41}]})] cg) (fun k=>l.length - k.1) ⟨0,by omega,fun _ _ h=>by omega⟩ ?_ ?_ ?_
 ·simp [aj,aT]
 ·(try simp -dsimp only [hpx]);refine ai ?_;simp -dsimp [aC,Ro.row,bp,Du.row]<;>exact rz
 rintro⟨k,hk,v3⟩;dsimp only;by_cases aH:k<l.length
 ·have v0:(k:Int)<l.length:=by omega
  have wk:=wx k;obtain⟨x,hx,hx'⟩:=gx aH;have Wn:x∈l:=by rw [<-hx'];exact List.getElem_mem aH
  have vb:=hl x Wn;have w1:=wi (x.b+r.fN);have w2:=wi (d.b+r.fN);have hD:rsB r d x=(decide (x.p=d.p) && decide (d.a<x.b+r.fN) && decide (x.a<d.b+r.fN)):=rfl;by_cases v1:(x.p=d.p/\d.a<x.b+r.fN)/\x.a<d.b+r.fN
  ·obtain⟨⟨h1,h2⟩,h3⟩:=v1;have hz:=Rq Wn (by rw [hD,decide_eq_true h1,decide_eq_true h2,decide_eq_true h3];rfl);simp -dsimp [v0];repeat' first|omega|simp -dsimp [DB,Ro.row,bp,Du.row,v0,aH,hx,hx',w1,w2,h1,h2,h3,hz]|apply aI|apply nI|intro
  ·have hb:rsB r d x=false:=(by rw [hD];simpa [and_assoc]using v1);have fV:∀(P:Prop),(¬ ((x.p=d.p/\d.a<x.b+r.fN)/\x.a<d.b+r.fN)->P)->P:=fun P h=>h v1;by_cases h1:x.p=d.p
   ·by_cases h2:d.a<x.b+r.fN
    ·have h3:(x.a<d.b+r.fN)=False:=eq_false fun h=>v1 ⟨⟨h1,h2⟩,h⟩;simp -dsimp [v0];repeat' first|omega|simp -dsimp [DB,Ro.row,bp,Du.row,v0,aH,hx,hx',w1,w2,h1,h2,h3,wk]|apply aI|apply nI|intro
     refine⟨k+1,ag rfl ?_,?_,⟨by omega,fun j h hj=>?_⟩,by omega⟩
     ·simp [aj,aT]
     ·(try simp -dsimp only [hpx]);refine ai ?_;simp -dsimp [aC,Ro.row,bp,Du.row]<;>exact rz
     ·by_cases v2:j=k
      ·subst v2;rw [hx',hb]
      ·exact v3 j h (by omega)
    ·replace h2:(d.a<x.b+r.fN)=False:=eq_false h2;simp -dsimp [v0];repeat' first|omega|simp -dsimp [DB,Ro.row,bp,Du.row,v0,aH,hx,hx',w1,w2,h1,h2,wk]|apply aI|apply nI|intro
     refine⟨k+1,ag rfl ?_,?_,⟨by omega,fun j h hj=>?_⟩,by omega⟩
     ·simp [aj,aT]
     ·(try simp -dsimp only [hpx]);refine ai ?_;simp -dsimp [aC,Ro.row,bp,Du.row]<;>exact rz
     ·by_cases v2:j=k
      ·subst v2;rw [hx',hb]
      ·exact v3 j h (by omega)
   ·replace h1:(x.p=d.p)=False:=eq_false h1;simp -dsimp [v0];repeat' first|omega|simp -dsimp [DB,Ro.row,bp,Du.row,v0,aH,hx,hx',w1,w2,h1,wk]|apply aI|apply nI|intro
    refine⟨k+1,ag rfl ?_,?_,⟨by omega,fun j h hj=>?_⟩,by omega⟩
    ·simp [aj,aT]
    ·(try simp -dsimp only [hpx]);refine ai ?_;simp -dsimp [aC,Ro.row,bp,Du.row]<;>exact rz
    ·by_cases v2:j=k
     ·subst v2;rw [hx',hb]
     ·exact v3 j h (by omega)
 ·have v4:¬ (k:Int)<l.length:=by omega
  have hz:=Rp (r:=r) (d:=d) fun j h=>v3 j h (by omega);simp -dsimp [v4];repeat' first|omega|simp -dsimp [DB,v4,hz]|apply aI|apply nI|intro
theorem akp:FO 169 Rn:=pf apf .nil
noncomputable abbrev Rr:aB:=bS Xr RrP fun e=>.bool (CK e.1 e.2.1 e.2.2)
def rcB(r:Ro)(d x:Du):Bool:=decide (x.p=d.p) && decide (x.b<=d.a) && decide (d.a - r.iW<=x.b)
theorem Rs(r:Ro)(l:List Du)(d:Du):CK r l d=(decide (d.a<=r.iW) || l.any (rcB r d)):=rfl
theorem any_none{α:Type}{p:α->Bool}{l:List α}(h:∀j (h:j<l.length),p l[j]=false):l.any p=false:=by rw [List.any_eq_false];intro g hg;obtain⟨j,hj,rfl⟩:=List.getElem_of_mem hg;simp [h j hj]
noncomputable abbrev ae6:=EV [] [] 17100 50
theorem apq:af ae6 [] Tryz.f171 Rr:=pb <| by
 rintro⟨r,l,d⟩ ⟨hf,hn,hl,hd⟩;simp only at hf hn hl hd;have hr:=hf.iW;unfold DZ at hd;have hR:=Rs r l d;by_cases h0:d.a<=r.iW
 ·rw [decide_eq_true h0,Bool.true_or]at hR;simp -dsimp [Tryz.f171,ae6,Ro.row,bp,Du.row];repeat' first|omega|simp -dsimp [ae6,Ro.row,bp,Du.row,h0,hR]|apply aI|apply nI|intro
 rw [decide_eq_false h0,Bool.false_or]at hR;have h0':(d.a<=r.iW)=False:=eq_false h0;simp -dsimp [Tryz.f171,ae6,Ro.row,bp,Du.row];repeat' first|omega|simp -dsimp [ae6,Ro.row,bp,Du.row,h0']|apply aI|apply nI|intro
 refine ay [13,14,15,16,19,20,21,22,23,24,25,26,27,28,29,30,31,32,33,34,35,36,37,38,39,40,41,42,43,44,45,46,47,48,49,6,17,18,7] (fun k:{k:Nat // k<=l.length/\∀j (h:j<l.length),j<k->rcB r d l[j]=false}=>[(7,(true,.int .i64 k.1))]) (fun k=>_) (fun k=>l.length - k.1) ⟨0,by omega,fun _ _ h=>by omega⟩ ?_ (bA.refl _) ?_
 ·simp [aj,aT]
 rintro⟨k,hk,v3⟩;dsimp only;by_cases aH:k<l.length
 ·have v0:(k:Int)<l.length:=by omega
  have wk:=wx k;obtain⟨x,hx,hx'⟩:=gx aH;have Wn:x∈l:=by rw [<-hx'];exact List.getElem_mem aH
  have w1:=wi (d.a - r.iW);have hD:rcB r d x=(decide (x.p=d.p) && decide (x.b<=d.a) && decide (d.a - r.iW<=x.b)):=rfl;by_cases v1:(x.p=d.p/\x.b<=d.a)/\d.a - r.iW<=x.b
  ·obtain⟨⟨h1,h2⟩,h3⟩:=v1;have hz:CK r l d=true:=by rw [hR,List.any_eq_true];exact⟨x,Wn,by rw [hD,decide_eq_true h1,decide_eq_true h2,decide_eq_true h3];rfl⟩
   simp -dsimp [v0];repeat' first|omega|simp -dsimp [ae6,Ro.row,bp,Du.row,v0,aH,hx,hx',w1,h1,h2,h3,hz]|apply aI|apply nI|intro
  ·have hb:rcB r d x=false:=(by rw [hD];simpa [and_assoc]using v1);by_cases h1:x.p=d.p
   ·by_cases h2:x.b<=d.a
    ·have h3:(d.a - r.iW<=x.b)=False:=eq_false fun h=>v1 ⟨⟨h1,h2⟩,h⟩;have h3':(d.a<=x.b+r.iW)=False:=eq_false fun h=>v1 ⟨⟨h1,h2⟩,by omega⟩;simp -dsimp [v0];repeat' first|omega|simp -dsimp [ae6,Ro.row,bp,Du.row,v0,aH,hx,hx',w1,h1,h2,h3,h3',wk]|apply aI|apply nI|intro
     refine⟨k+1,ag rfl ?_,bA.refl _,⟨by omega,fun j h hj=>?_⟩,by omega⟩
     ·simp [aj,aT]
     ·by_cases v2:j=k
      ·subst v2;rw [hx',hb]
      ·exact v3 j h (by omega)
    ·replace h2:(x.b<=d.a)=False:=eq_false h2;simp -dsimp [v0];repeat' first|omega|simp -dsimp [ae6,Ro.row,bp,Du.row,v0,aH,hx,hx',w1,h1,h2,wk]|apply aI|apply nI|intro
     refine⟨k+1,ag rfl ?_,bA.refl _,⟨by omega,fun j h hj=>?_⟩,by omega⟩
     ·simp [aj,aT]
     ·by_cases v2:j=k
      ·subst v2;rw [hx',hb]
      ·exact v3 j h (by omega)
   ·replace h1:(x.p=d.p)=False:=eq_false h1;simp -dsimp [v0];repeat' first|omega|simp -dsimp [ae6,Ro.row,bp,Du.row,v0,aH,hx,hx',w1,h1,wk]|apply aI|apply nI|intro
    refine⟨k+1,ag rfl ?_,bA.refl _,⟨by omega,fun j h hj=>?_⟩,by omega⟩
    ·simp [aj,aT]
    ·by_cases v2:j=k
     ·subst v2;rw [hx',hb]
     ·exact v3 j h (by omega)
 ·have v4:¬ (k:Int)<l.length:=by omega
  have hz:CK r l d=false:=by rw [hR];exact any_none fun j h=>v3 j h (by omega)
  simp -dsimp [v4];repeat' first|omega|simp -dsimp [ae6,v4,hz]|apply aI|apply nI|intro
theorem akr:FO 171 Rr:=pf apq .nil
noncomputable abbrev Ru:aB:=bS Xr RrP fun e=>.bool (Ao e.1 e.2.1 e.2.2)
def wnB(r:Ro)(l:List Du)(d z:Du):Bool:=!decide (z.p=d.p) || (decide (D3 d z.a (z.a+r.win) l (gA d z.a (z.a+r.win))<=r.tot) && decide (D3 d (max 0 (z.b - r.win)) (max 0 (z.b - r.win)+r.win) l (gA d (max 0 (z.b - r.win)) (max 0 (z.b - r.win)+r.win))<=r.tot))
theorem Rv(r:Ro)(l:List Du)(d:Du):Ao r l d=(l++[d]).all (wnB r l d):=rfl
noncomputable abbrev F9:=EV [(228,.pure acr)] [11] 17000 69 [(1,[3,50003,5,50005])]
theorem apt:af F9 [(1,([3],[[0,1,2,3,4,5,6]]))] Tryz.f170 Ru:=pb <| by
 rintro⟨r,l,d⟩ ⟨hf,hn,hl,hd⟩;simp only at hf hn hl hd;have hw:=hf.win;have ht:=hf.tot;have hR:=Rv r l d;have vd:List.map Du.row l++[[V.int .i64 d.p,V.int .i64 d.a,V.int .i64 d.b]]=List.map Du.row (l++[d]):=by rw [List.map_append];rfl
 have hlen:(l++[d]).length=l.length+1:=by simp
 have hv:Bi (l++[d]):=fun x hx=>by
  rcases List.mem_append.1 hx with h|h
  ·exact hl x h
  ·exact List.mem_singleton.1 h ▸ hd
 generalize l++[d]=L at *;have vW:L.length<=1001:=by omega
 simp -dsimp [Tryz.f170,F9,aS,Ro.row,bp,Du.row];repeat' first|omega|simp -dsimp [F9,aS,Ro.row,bp,Du.row,vd,hn]|apply aI|apply nI|intro
 refine ay [17,18,19,20,23,24,25,26,27,28,29,30,31,32,33,34,35,36,37,38,39,40,41,42,43,44,9,10,45,46,47,48,49,50,51,52,53,54,55,56,57,58,59,60,61,62,63,64,65,66,67,68,6,21,22,8] (fun k:{k:Nat // k<=L.length/\∀j (h:j<L.length),j<k->wnB r l d L[j]=true}=>[(8,(true,.int .i64 k.1))]) (fun k=>_) (fun k=>L.length - k.1) ⟨0,by omega,fun _ _ h=>by omega⟩ ?_ (bA.refl _) ?_
 ·simp [aj,aT]
 rintro⟨k,hk,v3⟩;dsimp only;by_cases aH:k<L.length
 ·have v0:(k:Int)<L.length:=by omega
  have td:k<l.length+1:=by omega
  have Xt:(k:Int)<l.length+1:=by omega
  have wk:=wx k;obtain⟨x,hx,hx'⟩:=gx aH;have Wn:x∈L:=by rw [<-hx'];exact List.getElem_mem aH
  have vb:=hv x Wn;have hD:wnB r l d x=(!decide (x.p=d.p) || (decide (D3 d x.a (x.a+r.win) l (gA d x.a (x.a+r.win))<=r.tot) && decide (D3 d (max 0 (x.b - r.win)) (max 0 (x.b - r.win)+r.win) l (gA d (max 0 (x.b - r.win)) (max 0 (x.b - r.win)+r.win))<=r.tot))):=rfl;by_cases hp:x.p=d.p
  ·rw [decide_eq_true hp,Bool.not_true,Bool.false_or]at hD;have w1:=wi (x.b - r.win);have w2:=wi (x.a+r.win);obtain⟨m,hm⟩:∃m,max 0 (x.b - r.win)=m:=⟨_,rfl⟩
   have e1:(if 0<x.b - r.win then x.b - r.win else 0)=m:=(by rw [<-hm];split<;>omega);have e1':(if r.win<x.b then x.b - r.win else 0)=m:=(by rw [<-hm];split<;>omega);have vX:0<=m/\m<=2000:=(by omega);rw [hm]at hD;have w3:=wi (m+r.win);have p1:BeP (l,d,x.a,x.a+r.win):=⟨hn,hl,hd,by simp only;omega,by simp only;omega⟩
   have p2:BeP (l,d,m,m+r.win):=⟨hn,hl,hd,by simp only;omega,by simp only;omega⟩
   generalize MX:D3 d x.a (x.a+r.win) l (gA d x.a (x.a+r.win))=u1 at *;generalize Ku:D3 d m (m+r.win) l (gA d m (m+r.win))=u2 at *;by_cases c1:u1<=r.tot
   ·have Kv:(r.tot<u1)=False:=eq_false (by omega);by_cases c2:u2<=r.tot
    ·have HC:(r.tot<u2)=False:=eq_false (by omega);simp -dsimp [v0];repeat' first|omega|simp -dsimp [F9,Ro.row,bp,Du.row,v0,aH,td,Xt,hlen,hx,hx',hp,w1,w2,e1,e1',w3,ast,p1,p2,MX,Ku,Kv,HC,wk]|apply aI|apply nI|intro
     refine⟨k+1,ag rfl ?_,bA.refl _,⟨by omega,fun j h hj=>?_⟩,by omega⟩
     ·simp [aj,aT]
     ·by_cases v2:j=k
      ·subst v2;rw [hx',hD,decide_eq_true c1,decide_eq_true c2];rfl
      ·exact v3 j (by omega) (by omega)
    ·have HC:r.tot<u2:=(by omega);have hz:Ao r l d=false:=by rw [hR,List.all_eq_false];exact⟨x,Wn,by rw [hD,decide_eq_false c2];simp⟩
     simp -dsimp [v0];repeat' first|omega|simp -dsimp [F9,Ro.row,bp,Du.row,v0,aH,td,Xt,hlen,hx,hx',hp,w1,w2,e1,e1',w3,ast,p1,p2,MX,Ku,Kv,HC,hz]|apply aI|apply nI|intro
   ·have Kv:r.tot<u1:=(by omega);have hz:Ao r l d=false:=by rw [hR,List.all_eq_false];exact⟨x,Wn,by rw [hD,decide_eq_false c1];simp⟩
    simp -dsimp [v0];repeat' first|omega|simp -dsimp [F9,Ro.row,bp,Du.row,v0,aH,td,Xt,hlen,hx,hx',hp,w1,w2,e1,e1',w3,ast,p1,p2,MX,Ku,Kv,hz]|apply aI|apply nI|intro
  ·replace hp:(x.p=d.p)=False:=eq_false hp;have hb:wnB r l d x=true:=(by rw [hD,decide_eq_false (by rw [hp];exact id)];rfl);simp -dsimp [v0];repeat' first|omega|simp -dsimp [F9,Ro.row,bp,Du.row,v0,aH,td,Xt,hlen,hx,hx',hp,wk]|apply aI|apply nI|intro
   refine⟨k+1,ag rfl ?_,bA.refl _,⟨by omega,fun j h hj=>?_⟩,by omega⟩
   ·simp [aj,aT]
   ·by_cases v2:j=k
    ·subst v2;rw [hx',hb]
    ·exact v3 j (by omega) (by omega)
 ·have v4:¬ (k:Int)<L.length:=by omega
  have HD:((k:Int)<l.length+1)=False:=eq_false (by omega);have hz:Ao r l d=true:=by rw [hR,List.all_eq_true];intro z hz;obtain⟨j,hj,rfl⟩:=List.getElem_of_mem hz;exact v3 j hj (by omega)
  simp -dsimp [v4];repeat' first|omega|simp -dsimp [F9,v4,HD,hlen,hz]|apply aI|apply nI|intro
theorem akq:FO 170 Ru:=pf apt (.cons aj0 .nil)
noncomputable abbrev Kw:aB:=bS Xr RrP fun e=>ints (HE e.1 e.2.1 e.2.2)
noncomputable abbrev Rw:=EV [(169,.pure Rn),(170,.pure Ru),(171,.pure Rr)] [] 11300 44
theorem amI:af Rw [] Tryz.f113 Kw:=pb <| by
 rintro⟨r,l,d⟩ hP;have hP:RrP (r,l,d):=hP;have hd:=hP.d;unfold DZ at hd;simp only at hd;have hK:HE r l d=(if ru r l d=true then []else [3])++(if r.lY<d.b - d.a then [4]else [])++(if Ao r l d=true then []else [5])++(if CK r l d=true then []else [6]):=rfl;have w1:=wi (d.b - d.a);generalize h1:ru r l d=c1 at hK;generalize h3:Ao r l d=c3 at hK;generalize h4:CK r l d=c4 at hK;by_cases h2:r.lY<d.b - d.a
 ·rw [if_pos h2]at hK;cases c1<;>cases c3<;>cases c4
  all_goals
   simp at hK;simp -dsimp [Tryz.f113,Rw,Ro.row,bp,Du.row];repeat' first|omega|simp -dsimp [Rw,Ro.row,bp,Du.row,qw,hP,h1,h2,h3,h4,w1,hK]|apply aI|apply nI|intro
 ·rw [if_neg h2]at hK;replace h2:(r.lY<d.b - d.a)=False:=eq_false h2;cases c1<;>cases c3<;>cases c4
  all_goals
   simp at hK;simp -dsimp [Tryz.f113,Rw,Ro.row,bp,Du.row];repeat' first|omega|simp -dsimp [Rw,Ro.row,bp,Du.row,qw,hP,h1,h2,h3,h4,w1,hK]|apply aI|apply nI|intro
theorem abh:FO 113 Kw:=pf amI (.cons akp (.cons akq (.cons akr .nil)))
theorem agj{r:Ro}{l:List Du}(h:r.ok=false):fL r l=(0,100):=by simp [fL,h]
theorem Wc{r:Ro}{l:List Du}(h:r.ok=true)(h2:60<l.length):fL r l=(0,2):=by simp [fL,h,h2]
theorem nY{r:Ro}{l:List Du}(h:r.ok=true)(h2:¬ 60<l.length){k:Nat}(hk:k<l.length)(hp:ue r l k=false)(v1:Rt r l k):fL r l=((k:Int),101):=by
 have:wh r l=k:=cW _ _ (by simpa using hk) (by simp [hp]) fun j _ hj=>by simp [v1 j hj]
 simp [fL,h,h2,this]
theorem agk{r:Ro}{l:List Du}(h:r.ok=true)(h2:¬ 60<l.length)(v1:Rt r l l.length):fL r l=(0,0):=by have:wh r l = -1:=Ge v1;simp [fL,h,h2,this]
theorem aaS(r:Ro)(l:List Du)(i:Nat)(d:Du)(hd:cz l i=d):ue r l i=(U4 r d.p && r9 d.a d.b && (decide (i=0) || decide ((cz l (i - 1)).a<=d.a)) && (brk r (own (l.take i) d.p) d).isEmpty):=by subst hd;rfl
noncomputable abbrev Vj:aB:=bS chE MG fun d=>.dB [.int .i64 (fL d.1 d.2).1,.int .i64 (fL d.1 d.2).2]
noncomputable abbrev VP:=EV [(110,.pure NS),(111,.pure aff),(112,.pure aai),(113,.pure Kw)] [] 4900 76
theorem b49:af VP [] Tryz.f49 Vj:=pb <| by
 rintro⟨r,l⟩ ⟨hp,hl⟩;simp only at hp hl;cases hok:r.ok
 ·have hz:=agj (l:=l) hok;simp -dsimp [Tryz.f49,VP,Ro.row,bp,iw,hp,hok];repeat' first|omega|simp -dsimp [VP,Ro.row,bp,iw,hp,hok,hz]|apply aI|apply nI|intro
 by_cases Dt:60<l.length
 ·have IM:(60:Int)<l.length:=by omega
  have hz:=Wc (l:=l) hok Dt;simp -dsimp [Tryz.f49,VP,Ro.row,bp,iw,hp,hok];repeat' first|omega|simp -dsimp [VP,Ro.row,bp,iw,hp,hok,hz,IM]|apply aI|apply nI|intro
 have hf:=Ro.si.1 hok;have IM:((60:Int)<l.length)=False:=eq_false (by omega);simp -dsimp [Tryz.f49,VP,Ro.row,bp,iw,hp,hok];repeat' first|omega|simp -dsimp [VP,Ro.row,bp,iw,hp,hok,IM]|apply aI|apply nI|intro
 refine ay [16,17,18,19,22,23,24,25,26,27,28,29,30,31,32,33,34,35,36,37,38,39,40,41,42,43,44,45,46,47,48,49,50,51,52,53,54,55,56,57,58,59,60,61,62,63,64,65,66,67,68,69,70,71,72,73,74,75,4,5,20,21,7] (fun k:{k:Nat // k<=l.length/\Rt r l k}=>[(7,(true,.int .i64 k.1))]) (fun _=>hps [(4902,{base:=0,ah:=[{z:=6,els:=[r.row],ty:=41}]})] cg) (fun k=>l.length - k.1) ⟨0,by omega,fun _ h=>by omega⟩ ?_ ?_ ?_
 ·simp [aj,aT]
 ·(try simp -dsimp only [hpx]);refine ai ?_;simp -dsimp [aC,Ro.row,bp]<;>exact rz
 rintro⟨k,hk,v1⟩;dsimp only;by_cases aH:k<l.length
 case neg=>
  have v4:¬ (k:Int)<l.length:=by omega
  have vr:k=l.length:=by omega
  subst vr;have hz:=agk hok Dt v1;simp -dsimp [v4];repeat' first|omega|simp -dsimp [VP,v4,hz]|apply aI|apply nI|intro
 have v0:(k:Int)<l.length:=by omega
 obtain⟨d,hd⟩:∃d,l[k]?=some d:=⟨_,List.getElem?_eq_getElem aH⟩
 have hd':l[k]=d:=p6 hd aH;have vs:cz l k=d:=by simp [cz,List.getD,hd]
 have hD:=aaS r l k d vs;have hv:=Rt.val (by omega) v1;have vx:=Rt.Z8 (r:=r) hf.fN.1 d.p (by omega) v1;have vy:(l.take k).length<=1000:=by simp;omega
 have Ac:List.take k (l.map Du.row)=(l.take k).map Du.row:=by rw [List.map_take]
 have td:k<=l.length:=by omega
 generalize l.take k=lk at *;have AU:DZ d->HE r lk d=brk r (own lk d.p) d:=fun h=>LZ hf vx (qC hv d.p) h;have WH:DZ d->RrP (r,lk,d):=fun h=>⟨hf,vy,hv,h⟩
 by_cases kW:k=0
 ·subst kW;have v9:(l=[])=False:=eq_false (by rintro rfl;simp at aH);have w1:IntKind.wrap .i64 1=1:=aK (by omega) (by omega);cases c1:U4 r d.p
  ·have hz:=nY hok Dt aH (by rw [hD,c1];rfl) v1;simp -dsimp [v0];repeat' first|omega|simp -dsimp [VP,Ro.row,bp,Du.row,v0,aH,td,hd,hd',Ac,kP,hp,w1,v9,c1,hz]|apply aI|apply nI|intro
  cases c2:r9 d.a d.b
  ·have hz:=nY hok Dt aH (by rw [hD,c1,c2];rfl) v1;simp -dsimp [v0];repeat' first|omega|simp -dsimp [VP,Ro.row,bp,Du.row,v0,aH,td,hd,hd',Ac,kP,hp,w1,v9,c1,c2,hz]|apply aI|apply nI|intro
  have v7:DZ d:=gQ.1 c2;have AU:=AU v7;have WH:=WH v7;generalize hB:brk r (own lk d.p) d=B at hD AU;cases B with
  | nil=>
   simp -dsimp [v0];repeat' first|omega|simp -dsimp [VP,Ro.row,bp,Du.row,v0,aH,td,hd,hd',Ac,kP,hp,w1,v9,c1,c2,qw,WH,AU]|apply aI|apply nI|intro
   refine⟨0+1,ag rfl ?_,bA.refl _,⟨by omega,fun i hi=>?_⟩,by omega⟩
   ·simp [aj,aT,w1]
   ·by_cases va:i=0
    ·subst va;rw [hD,c1,c2];simp
    ·exact v1 i (by omega)
  | cons b bs=>
   have hz:=nY hok Dt aH (by rw [hD];simp) v1;have ry:((bs.length:Int)+1<=0)=False:=eq_false (by omega);simp -dsimp [v0];repeat' first|omega|simp -dsimp [VP,Ro.row,bp,Du.row,v0,aH,td,hd,hd',Ac,kP,hp,w1,v9,c1,c2,qw,WH,AU,ry,hz]|apply aI|apply nI|intro
 ·obtain⟨j,rfl⟩:∃j,k=j+1:=⟨k - 1,by omega⟩
  have v5:j<l.length:=by omega
  obtain⟨e,he⟩:∃e,l[j]?=some e:=⟨_,List.getElem?_eq_getElem v5⟩
  have he':l[j]=e:=p6 he v5;have vP:cz l (j+1 - 1)=e:=by simp [cz,List.getD,he]
  have wj:IntKind.wrap .i64 (((j+1:Nat):Int) - 1)=(j:Nat):=by rw [aK (by omega) (by omega)];omega
  have T3:IntKind.wrap .i64 (j:Int)=(j:Nat):=aK (by omega) (by omega);have v8:(j:Int)<l.length:=by omega
  have v6:(0:Int)<(j:Int)+1:=by omega
  have Wd:j<l.length:=v5;have w1:=wi ((j:Int)+1+1);have Cx:(decide (j+1=0) || decide ((cz l (j+1 - 1)).a<=d.a))=decide (e.a<=d.a):=by rw [vP];simp
  cases c1:U4 r d.p
  ·have hz:=nY hok Dt aH (by rw [hD,c1];rfl) v1;simp -dsimp [v0];repeat' first|omega|simp -dsimp [VP,Ro.row,bp,Du.row,v0,aH,td,hd,hd',Ac,kP,hp,w1,v8,v5,he,he',wj,T3,v6,Wd,c1,hz]|apply aI|apply nI|intro
  cases c2:r9 d.a d.b
  ·have hz:=nY hok Dt aH (by rw [hD,c1,c2];rfl) v1;simp -dsimp [v0];repeat' first|omega|simp -dsimp [VP,Ro.row,bp,Du.row,v0,aH,td,hd,hd',Ac,kP,hp,w1,v8,v5,he,he',wj,T3,v6,Wd,c1,c2,hz]|apply aI|apply nI|intro
  by_cases c3:d.a<e.a
  ·have hz:=nY hok Dt aH (by rw [hD,c1,c2,Cx,decide_eq_false (by omega:¬ e.a<=d.a)];simp) v1;simp -dsimp [v0];repeat' first|omega|simp -dsimp [VP,Ro.row,bp,Du.row,v0,aH,td,hd,hd',Ac,kP,hp,w1,v8,v5,he,he',wj,T3,v6,Wd,c1,c2,c3,hz]|apply aI|apply nI|intro
  have vV:decide (e.a<=d.a)=true:=decide_eq_true (by omega);replace c3:(d.a<e.a)=False:=eq_false c3;have v7:DZ d:=gQ.1 c2;have AU:=AU v7;have WH:=WH v7;generalize hB:brk r (own lk d.p) d=B at hD AU;cases B with
  | nil=>
   simp -dsimp [v0];repeat' first|omega|simp -dsimp [VP,Ro.row,bp,Du.row,v0,aH,td,hd,hd',Ac,kP,hp,w1,v8,v5,he,he',wj,T3,v6,Wd,c3,c1,c2,qw,WH,AU]|apply aI|apply nI|intro
   refine⟨(j+1)+1,ag rfl ?_,bA.refl _,⟨by omega,fun i hi=>?_⟩,by omega⟩
   ·simp [aj,aT,w1]
   ·by_cases va:i=(j+1)
    ·subst va;rw [hD,c1,c2,Cx,vV];simp
    ·exact v1 i (by omega)
  | cons b bs=>
   have hz:=nY hok Dt aH (by rw [hD];simp) v1;have ry:((bs.length:Int)+1<=0)=False:=eq_false (by omega);simp -dsimp [v0];repeat' first|omega|simp -dsimp [VP,Ro.row,bp,Du.row,v0,aH,td,hd,hd',Ac,kP,hp,w1,v8,v5,he,he',wj,T3,v6,Wd,c3,c1,c2,qw,WH,AU,ry,hz]|apply aI|apply nI|intro
theorem alf:FO 49 Vj:=pf b49 (.cons akE (.cons akF (.cons abC (.cons abh .nil))))
end Go.Sx
end
end
