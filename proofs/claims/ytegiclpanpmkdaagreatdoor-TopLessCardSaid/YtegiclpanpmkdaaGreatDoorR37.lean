/- A part of a proof; no conditions. -/
import Derived.Test.YtegiclpanpmkdaaGreatDoorR36
import Derived.Test.YtegiclpanpmkdaaGreatDoorR17
set_option linter.all false
set_option maxRecDepth 100000
set_option maxHeartbeats 8000000
noncomputable section
section
namespace Go.Sx
section core
variable {x y:HI}
theorem KJ(hp:x.ps=y.ps)(k a b:Int):x.at k a b=y.at k a b:=by simp only [HI.at,hp]
theorem yL(hp:x.ps=y.ps)(m:Int)(k:Nat):∀j,x.eS m k j=y.eS m k j
 | 0=>rfl
 | j+1=>by rw [HI.eS,HI.eS,HI.emp,HI.emp,KJ hp,yL hp m k j]
theorem vT(hr:x.r=y.r)(hp:x.ps=y.ps)(m:Int):∀k,x.ej m k=y.ej m k
 | 0=>rfl
 | k+1=>by simp only [HI.ej,vT hr hp m k,yL hp,HI.places,hr]
theorem HO(hr:x.r=y.r)(hp:x.ps=y.ps)(m:Int):x.ga m=y.ga m:=by simp only [HI.ga,hr,vT hr hp]
theorem yM(hr:x.r=y.r)(hi:x.aX=y.aX)(p:PS):∀i,x.fe p i=y.fe p i
 | 0=>by simp only [HI.fe,hr]
 | i+1=>by rw [HI.fe,HI.fe,HI.Ed,HI.Ed,hr,hi,yM hr hi p i]
theorem HQ(hr:x.r=y.r)(hi:x.aX=y.aX)(p:PS):x.jt p=y.jt p:=by simp only [HI.jt,hr,yM hr hi]
theorem HR(hr:x.r=y.r)(p:PS):x.iL p=y.iL p:=by simp only [HI.iL,hr]
theorem yN(hr:x.r=y.r)(hi:x.aX=y.aX)(m c:Int):∀(l:List PS) (most:Int),x.mu m c l most=y.mu m c l most
 | [],_=>rfl
 | p::l,most=>by simp only [HI.mu,HQ hr hi,HR hr,yN hr hi m c l]
theorem nL(hr:x.r=y.r)(hp:x.ps=y.ps)(hi:x.aX=y.aX)(m c:Int):x.cE m c=y.cE m c:=by simp only [HI.cE,HO hr hp,hp,yN hr hi]
end core
structure Rel (r:aZ) (s:HG) (t:RS):Prop where
 rg:s.r=r
 psq:s.ps=t.ps r
 yO:s.aX=t.aX
theorem Rel.acP{r:aZ}{s:HG}{t:RS}(h:Rel r s t){n:Nat}(hn:n<r.parts.length):s.ps[n]?=some (t.pt r n):=by rw [h.psq];exact t.nH r hn
theorem RO{t t':RS}{r:aZ}{n:Nat}{q:PS}(hn:n<r.parts.length)(h0:t'.pt r n=q)(h1:∀p,p≠n->t'.pt r p=t.pt r p):(t.ps r).set n q=t'.ps r:=by
 refine List.ext_getElem? fun k=>?_;rw [List.getElem?_set];by_cases hk:k<r.parts.length
 ·rw [t'.nH r hk];split
  ·rename_i e;subst e;rw [if_pos (by rw [RS.kz];exact hn),h0]
  ·rename_i e;rw [t.nH r hk,h1 k (fun h=>e h.symm)]
 ·have e1:(t'.ps r)[k]?=none:=List.getElem?_eq_none (by rw [RS.kz];omega);have e2:(t.ps r)[k]?=none:=List.getElem?_eq_none (by rw [RS.kz];omega);rw [e1];split
  ·rename_i e;subst e;omega
  ·exact e2
section fly
variable (aX:List Bool) (h:Int)
def HS(o:Nat)(v:Int):Int:=if aX.getD o false=true then eZ v h else v
theorem vU(l:List Int):∀i o,i<=l.length->(dX aX h l i).getD o 0=if o<i then HS aX h o (l.getD o 0)else l.getD o 0
 | 0,o,_=>by simp [dX]
 | i+1,o,hi=>by
  have ih:=vU l i;simp only [dX];by_cases hb:aX.getD i false=true
  ·rw [if_pos hb];by_cases ho:o=i
   ·subst ho;rw [jX (by rw [iP];omega),ih o (by omega),if_neg (by omega),if_pos (by omega),HS,if_pos hb]
   ·rw [getD_set_ne (fun e=>ho e.symm),ih o (by omega)];by_cases v9:o<i
    ·rw [if_pos v9,if_pos (by omega)]
    ·rw [if_neg v9,if_neg (by omega)]
  ·rw [if_neg hb,ih o (by omega)];by_cases ho:o=i
   ·subst ho;rw [if_neg (by omega),if_pos (by omega),HS,if_neg hb]
   ·by_cases v9:o<i
    ·rw [if_pos v9,if_pos (by omega)]
    ·rw [if_neg v9,if_neg (by omega)]
theorem Bp(p:Nat)(l:List (List Int))(hl:∀x∈l,p<x.length):∀i o q,i<=l.length->((dO aX h p l i).getD o []).getD q 0=if o<i/\q=p then HS aX h o ((l.getD o []).getD q 0)else (l.getD o []).getD q 0
 | 0,o,q,_=>by simp [dO]
 | i+1,o,q,hi=>by
  have ih:=Bp p l hl i;have hlen:=gh (iH aX h p l i);simp only [dO];by_cases hb:aX.getD i false=true
  ·rw [if_pos hb];by_cases ho:o=i
   ·subst ho;rw [jX (by omega)];have z5:p<((dO aX h p l o).getD o []).length:=by have hm:((dO aX h p l o).map List.length)[o]?=(l.map List.length)[o]?:=(by rw [iH]);rw [List.getElem?_map,List.getElem?_map,List.getElem?_eq_getElem (by omega:o<(dO aX h p l o).length),List.getElem?_eq_getElem (by omega:o<l.length)]at hm;simp only [Option.map_some,Option.some.injEq]at hm;have h2:=hl _ (List.getElem_mem (by omega:o<l.length));simp only [List.getD,List.getElem?_eq_getElem (by omega:o<(dO aX h p l o).length),Option.getD_some];omega
    by_cases hq:q=p
    ·subst hq;rw [jX z5,ih o q (by omega),if_neg (by omega),if_pos ⟨by omega,rfl⟩,HS,if_pos hb]
    ·rw [getD_set_ne (fun e=>hq e.symm),ih o q (by omega),if_neg (by omega),if_neg (by omega)]
   ·rw [getD_set_ne (fun e=>ho e.symm),ih o q (by omega)];by_cases v9:o<i
    ·by_cases hq:q=p
     ·rw [if_pos ⟨v9,hq⟩,if_pos ⟨by omega,hq⟩]
     ·rw [if_neg (by omega),if_neg (by omega)]
    ·rw [if_neg (by omega),if_neg (by omega)]
  ·rw [if_neg hb,ih o q (by omega)];by_cases ho:o=i
   ·subst ho;by_cases hq:q=p
    ·rw [if_neg (by omega),if_pos ⟨by omega,hq⟩,HS,if_neg hb]
    ·rw [if_neg (by omega),if_neg (by omega)]
   ·by_cases v9:o<i
    ·by_cases hq:q=p
     ·rw [if_pos ⟨v9,hq⟩,if_pos ⟨by omega,hq⟩]
     ·rw [if_neg (by omega),if_neg (by omega)]
    ·rw [if_neg (by omega),if_neg (by omega)]
variable (t:RS) (m c:Int)
theorem EW:∀k p,k<=t.used.length->(t.gB m h c k).getD p (0,0)=if p<k/\(t.cV.getD p (0,0)).1=m then (eZ (t.used.getD p (0,0)).1 h,eZ (t.used.getD p (0,0)).2 c)else t.used.getD p (0,0)
 | 0,p,_=>by simp [RS.gB]
 | k+1,p,hk=>by
  have ih:=EW k;simp only [RS.gB];by_cases hm:(t.cV.getD k (0,0)).1=m
  ·rw [if_pos hm];by_cases hp:p=k
   ·subst hp;rw [jX (by rw [pM];omega),ih p (by omega),if_neg (by omega),if_pos ⟨by omega,hm⟩]
   ·rw [getD_set_ne (fun e=>hp e.symm),ih p (by omega)];by_cases v9:p<k
    ·simp only [v9,show p<k+1 by omega,true_and]
    ·rw [if_neg (by omega),if_neg (by omega)]
  ·rw [if_neg hm,ih p (by omega)];by_cases hp:p=k
   ·subst hp;rw [if_neg (by omega),if_neg (fun e=>hm e.2)]
   ·by_cases v9:p<k
    ·simp only [v9,show p<k+1 by omega,true_and]
    ·rw [if_neg (by omega),if_neg (by omega)]
theorem EX{n:Nat}(hn:∀x∈t.since,x.length=n)(z6:t.aX.length=t.since.length):∀k o q,k<=n->o<t.since.length->((t.fK m h k).getD o []).getD q 0=if q<k/\(t.cV.getD q (0,0)).1=m then HS t.aX h o ((t.since.getD o []).getD q 0)else (t.since.getD o []).getD q 0
 | 0,o,q,_,_=>by simp [RS.fK]
 | k+1,o,q,hk,ho=>by
  have ih:=EX hn z6 k;simp only [RS.fK];by_cases hm:(t.cV.getD k (0,0)).1=m
  ·rw [if_pos hm,Bp t.aX h k _ (fun x hx=>by have:=tv (eA t m h k) hn x hx;omega) _ _ _ (by rw [gh (eA t m h k)];omega),ih o q (by omega) ho];by_cases hq:q=k
   ·subst hq;rw [if_pos ⟨by omega,rfl⟩,if_neg (by omega),if_pos ⟨by omega,hm⟩]
   ·rw [if_neg (fun e=>hq e.2)];by_cases v9:q<k
    ·simp only [v9,show q<k+1 by omega,true_and]
    ·rw [if_neg (by omega),if_neg (by omega)]
  ·rw [if_neg hm,ih o q (by omega) ho];by_cases hq:q=k
   ·subst hq;rw [if_neg (by omega),if_neg (fun e=>hm e.2)]
   ·by_cases v9:q<k
    ·simp only [v9,show q<k+1 by omega,true_and]
    ·rw [if_neg (by omega),if_neg (by omega)]
end fly
theorem rA{α:Type}{l l':List α}(d:α)(hl:l.length=l'.length)(h:∀i,i<l.length->l.getD i d=l'.getD i d):l=l':=by refine List.ext_getElem hl fun i h1 h2=>?_;have:=h i h1;simpa [List.getD,h1,h2]using this
theorem acQ{t:RS}{r:aZ}(hw:t.Wf r)(m h c:Int){p:Nat}(hp:p<r.parts.length):kB t.aX m h c (t.pt r p)=(t.kE m h c r.parts.length).pt r p:=by
 have hU:=EW h t m c r.parts.length p (by rw [hw.used];omega);have hS:=fun o (ho:o<t.since.length)=>EX h t m hw.kA (by rw [hw.aX,hw.since]) r.parts.length o p (Nat.le_refl _) ho;have z7:(t.pt r p).a=(t.cV.getD p (0,0)).1:=rfl;unfold kB;rw [z7];by_cases hm:(t.cV.getD p (0,0)).1=m
 ·rw [if_pos hm];rw [if_pos ⟨hp,hm⟩]at hU;have hs:dX t.aX h (t.pt r p).since t.aX.length=(t.fK m h r.parts.length).map fun l=>l.getD p 0:=by
   refine rA 0 (by rw [iP];simp [RS.pt,gh (eA t m h r.parts.length)]) fun o ho=>?_;rw [iP]at ho;have ho':o<t.since.length:=(by simpa [RS.pt]using ho);have g1:(t.pt r p).since.getD o 0=(t.since.getD o []).getD p 0:=(by simp [RS.pt,List.getD,ho']);have g2:((t.fK m h r.parts.length).map fun l=>l.getD p 0).getD o 0=((t.fK m h r.parts.length).getD o []).getD p 0:=by have:o<(t.fK m h r.parts.length).length:=(by rw [gh (eA t m h r.parts.length)];exact ho');simp [List.getD,this]
   rw [g2,hS o ho',if_pos ⟨hp,hm⟩,vU _ _ _ _ _ (by simp [RS.pt,hw.aX,hw.since]),if_pos (by rw [hw.aX,<-hw.since];exact ho'),g1]
  rw [hs];show _=({kind:=_,hours:=((t.gB m h c r.parts.length).getD p (0,0)).1,bh:=((t.gB m h c r.parts.length).getD p (0,0)).2,known:=_,a:=_,b:=_,since:=_,iV:=_}:PS)
  rw [hU];rfl
 ·rw [if_neg hm];rw [if_neg (fun e=>hm e.2)]at hU;have hs:(t.pt r p).since=(t.fK m h r.parts.length).map fun l=>l.getD p 0:=by
   refine rA 0 (by simp [RS.pt,gh (eA t m h r.parts.length)]) fun o ho=>?_;have ho':o<t.since.length:=(by simpa [RS.pt]using ho);have g1:(t.pt r p).since.getD o 0=(t.since.getD o []).getD p 0:=(by simp [RS.pt,List.getD,ho']);have g2:((t.fK m h r.parts.length).map fun l=>l.getD p 0).getD o 0=((t.fK m h r.parts.length).getD o []).getD p 0:=by have:o<(t.fK m h r.parts.length).length:=(by rw [gh (eA t m h r.parts.length)];exact ho');simp [List.getD,this]
   rw [g1,g2,hS o ho',if_neg (fun e=>hm e.2)]
  show _=({kind:=_,hours:=((t.gB m h c r.parts.length).getD p (0,0)).1,bh:=((t.gB m h c r.parts.length).getD p (0,0)).2,known:=_,a:=_,b:=_,since:=(t.fK m h r.parts.length).map fun l=>l.getD p 0,iV:=_}:PS)
  rw [hU,<-hs];rfl
end Go.Sx
end
section
namespace Go.Sx
section
variable {r:aZ} {s:HG} {t:RS} {n:Nat}
theorem Rel.core(h:Rel r s t):s.i.r=(t.hi r).r/\s.i.ps=(t.hi r).ps/\s.i.aX=(t.hi r).aX:=⟨h.rg,h.psq,h.yO⟩
theorem Rel.getD(h:Rel r s t){k:Nat}(hk:k<r.parts.length):s.ps.getD k default=t.pt r k:=by simp [List.getD,h.acP hk]
theorem Rel.XI(h:Rel r s t):s.ps.length=r.parts.length:=by rw [h.psq,RS.kz]
theorem Rel.KK(h:Rel r s t)(a:Int):s.i.part a=RS.fD r a:=by show au a 0 (cM s.ps.length 1)=_;rw [h.XI];rfl
theorem Rel.aiv(h:Rel r s t)(a:Int):s.i.order a=RS.uU r a:=by show au a 0 (cM s.r.az.length 1)=_;rw [h.rg];rfl
theorem Rel.KL(h:Rel r s t)(a:Int):s.i.machine a=au a 0 (cM r.ax 1):=by show au a 0 (cM s.r.ax 1)=_;rw [h.rg]
theorem acR(t:RS)(r:aZ)(p o:Nat):(t.pt r p).iV.getD o false=(t.done.getD o []).getD p false:=by simp only [RS.pt,List.getD,List.getElem?_map];cases t.done[o]?<;>simp
theorem aiw(a b:Bool)(h:a=true->b=true):(a && b)=a:=by cases a<;>simp_all
theorem Rel.okq(hI:s.Inv r n)(hw:t.Wf r)(h:Rel r s t)(w:Wk):s.eu w=t.ok r w:=by
 obtain⟨v1,v2,v3,v4,v5,v6,v7,v8⟩:=cF hw.val;obtain⟨c1,c2,c3⟩:=h.core;obtain⟨k,a,b,c⟩:=w;by_cases k1:k=1
 ·subst k1;simp only [HG.eu,RS.ok,if_true,HG.iN,h.KL];congr 1;cases hb:au b 0 100
  ·rfl
  simp only [Bool.true_and];congr 1;simp only [au,decide_eq_true_eq]at hb;rw [nL c1 c2 c3,mF hb.1 hb.2]
 by_cases k2:k=2
 ·subst k2;simp only [HG.eu,RS.ok,Int.reduceEq,if_false,if_true,HG.gL,RS.stored,h.KK,h.KL];cases pa:RS.fD r a
  ·simp
  obtain⟨ni,rfl,v0⟩:=aW (m:=r.parts.length) (by omega) pa;simp only [Int.toNat_natCast,h.getD v0,Bool.true_and];rw [KJ c2,h.rg];have e1:(t.pt r ni).a=(t.cV.getD ni (0,0)).1:=rfl;have e2:(t.pt r ni).b=(t.cV.getD ni (0,0)).2:=rfl;have e3:(t.pt r ni).known=(r.parts.getD ni default).known:=rfl;have e4:(t.pt r ni).kind=(r.parts.getD ni default).kind:=rfl;have z0:((t.pt r ni).a == -1 && (t.pt r ni).b == -1)=((t.cV.getD ni (0,0)).1 == -1):=by
   rw [<-e1];refine aiw _ _ fun ha=>?_;have GQ:(t.pt r ni).a = -1:=(by simpa using ha);rcases hI.pa ni _ (h.acP v0)with h1|h1|h1
   ·simpa using h1.2
   ·omega
   ·omega
  rw [z0,e3,e4];cases au b 0 (cM r.ax 1)<;>cases ((t.cV.getD ni (0,0)).1 == -1)<;>cases (r.parts.getD ni default).known<;>simp
 by_cases k5:k=5
 ·subst k5;simp only [HG.eu,RS.ok,Int.reduceEq,if_false,if_true,HG.iO,h.KK,h.aiv];cases pa:RS.fD r a
  ·simp
  obtain⟨ni,rfl,v0⟩:=aW (m:=r.parts.length) (by omega) pa;cases oa:RS.uU r b
  ·simp
  obtain⟨oi,rfl,O3⟩:=aW (m:=r.az.length) (by omega) oa;simp only [Int.toNat_natCast,h.getD v0,Bool.true_and,acR,h.yO,h.rg];have e4:(t.pt r ni).kind=(r.parts.getD ni default).kind:=rfl;rw [e4];have z8:((r.parts.getD ni default).kind == (r.az.getD oi default).kind)=((r.az.getD oi default).kind == (r.parts.getD ni default).kind):=by
   by_cases e:(r.parts.getD ni default).kind=(r.az.getD oi default).kind
   ·rw [e]
   ·have e':¬ (r.az.getD oi default).kind=(r.parts.getD ni default).kind:=fun h=>e h.symm;rw [beq_eq_false_iff_ne.2 e,beq_eq_false_iff_ne.2 e']
  rw [z8];cases t.aX.getD oi false<;>cases ((r.az.getD oi default).kind == (r.parts.getD ni default).kind)<;>cases (t.done.getD oi []).getD ni false<;>cases (c == 0)<;>rfl
 by_cases k3:k=3
 ·subst k3;simp only [HG.eu,RS.ok,Int.reduceEq,if_false,if_true,HG.lI,h.KK];cases pa:RS.fD r a
  ·simp
  obtain⟨ni,rfl,v0⟩:=aW (m:=r.parts.length) (by omega) pa;simp only [Int.toNat_natCast,h.getD v0,Bool.true_and];have e1:(t.pt r ni).a=(t.cV.getD ni (0,0)).1:=rfl;rw [e1];cases decide (0<=(t.cV.getD ni (0,0)).1)<;>simp
 by_cases k4:k=4
 ·subst k4;simp only [HG.eu,RS.ok,Int.reduceEq,if_false,if_true,HG.jK,h.aiv,h.yO];cases RS.uU r a<;>cases t.aX.getD a.toNat false<;>simp
 by_cases k6:k=6
 ·subst k6;simp only [HG.eu,RS.ok,Int.reduceEq,if_false,if_true,HG.jL,RS.stored,h.KK];cases pa:RS.fD r a
  ·simp
  obtain⟨ni,rfl,v0⟩:=aW (m:=r.parts.length) (by omega) pa;simp only [Int.toNat_natCast,h.getD v0,Bool.true_and];have e1:(t.pt r ni).a=(t.cV.getD ni (0,0)).1:=rfl;have z0:((t.pt r ni).a == -1 && (t.pt r ni).b == -1)=((t.cV.getD ni (0,0)).1 == -1):=by
   rw [<-e1];refine aiw _ _ fun ha=>?_;have GQ:(t.pt r ni).a = -1:=(by simpa using ha);rcases hI.pa ni _ (h.acP v0)with h1|h1|h1
   ·simpa using h1.2
   ·omega
   ·omega
  rw [z0];cases ((t.cV.getD ni (0,0)).1 == -1)<;>simp
 ·simp [HG.eu,RS.ok,k1,k2,k3,k4,k5,k6]
theorem acS{t:RS}{r:aZ}{k:Nat}(hk:k<t.cV.length)(a b:Int):({t with cV:=t.cV.set k (a,b)}:RS).pt r k={t.pt r k with a:=a,b:=b}:=by simp [RS.pt,List.getD,hk]
theorem M9{t:RS}{r:aZ}{k p:Nat}(hp:p≠k)(q:Int × Int):({t with cV:=t.cV.set k q}:RS).pt r p=t.pt r p:=by have:(t.cV.set k q).getD p (0,0)=t.cV.getD p (0,0):=getD_set_ne (Ne.symm hp);simp only [RS.pt,this]
theorem Rel.put(hw:t.Wf r)(h:Rel r s t){k:Nat}(hk:k<r.parts.length)(a b:Int):s.ps.set k {s.ps.getD k default with a:=a,b:=b}=({t with cV:=t.cV.set k (a,b)}:RS).ps r:=by
 rw [h.psq];have hg:(t.ps r).getD k default=t.pt r k:=by simp [List.getD,t.nH r hk]
 rw [hg];exact RO hk (acS (by rw [hw.cV];exact hk) a b) fun p hp=>M9 hp _
theorem Rel.step(hw:t.Wf r)(h:Rel r s t){w:Wk}(hs:s.eu w=true)(ht:t.ok r w=true):Rel r (s.step w) (t.act r w):=by
 obtain⟨v1,v2,v3,v4,v5,v6,v7,v8⟩:=cF hw.val;have vs:s.step w={s.lJ w with wk:=eZ s.wk 1}:=by simp only [HG.step,HG.after,hs,if_true]
 rw [vs];clear vs
 suffices h2:Rel r (s.lJ w) (t.act r w)from ⟨h2.rg,h2.psq,h2.yO⟩
 obtain⟨k,a,b,c⟩:=w;by_cases k1:k=1
 ·subst k1;simp only [HG.lJ,RS.act,if_true];refine⟨h.rg,?_,h.yO⟩;show s.ps.map (kB s.aX a b c)=_;rw [h.psq,h.yO];refine List.ext_getElem? fun p=>?_;rw [List.getElem?_map];by_cases hp:p<r.parts.length
  ·rw [t.nH r hp,RS.nH _ r hp,Option.map_some,acQ hw a b c hp]
  ·have e1:(t.ps r)[p]?=none:=List.getElem?_eq_none (by rw [RS.kz];omega);have e2:((t.kE a b c r.parts.length).ps r)[p]?=none:=List.getElem?_eq_none (by rw [RS.kz];omega);rw [e1,e2];rfl
 by_cases k2:k=2
 ·subst k2;simp only [HG.lJ,RS.act,Int.reduceEq,if_false,if_true];have pa:RS.fD r a=true:=by simp only [RS.ok,Int.reduceEq,if_false,if_true,RS.stored,Bool.and_eq_true]at ht;exact ht.1.1
  obtain⟨ni,rfl,v0⟩:=aW (m:=r.parts.length) (by omega) pa;unfold HG.pN;split<;>exact⟨h.rg,h.put hw v0 b c,h.yO⟩
 by_cases k5:k=5
 ·subst k5;simp only [HG.lJ,RS.act,Int.reduceEq,if_false,if_true];simp only [RS.ok,Int.reduceEq,if_false,if_true,Bool.and_eq_true]at ht;obtain⟨ni,rfl,v0⟩:=aW (m:=r.parts.length) (by omega) ht.1;obtain⟨oi,rfl,O3⟩:=aW (m:=r.az.length) (by omega) ht.2.1;refine⟨h.rg,?_,h.yO⟩;show s.ps.set _ {s.ps.getD (ni:Int).toNat default with iV:=(s.ps.getD (ni:Int).toNat default).iV.set (oi:Int).toNat true}=_;simp only [Int.toNat_natCast,h.getD v0];rw [h.psq];have jU:oi<t.done.length:=by rw [hw.done];exact O3
  have Ab:t.done.getD oi []∈t.done:=by have:t.done.getD oi []=t.done[oi]:=(by simp [List.getD,jU]);rw [this];exact List.getElem_mem jU
  have z9:=hw.oe _ Ab;refine RO v0 ?_ fun p hp=>?_
  ·simp only [RS.pt,List.map_set];rw [jX (by rw [z9];exact v0)]
  ·simp only [RS.pt,List.map_set];rw [getD_set_ne (Ne.symm hp)];have:(t.done.map fun l=>l.getD p false).set oi ((t.done.getD oi []).getD p false)=t.done.map fun l=>l.getD p false:=iz (by simp [List.getD,jU]);rw [this]
 by_cases k3:k=3
 ·subst k3;simp only [HG.lJ,RS.act,Int.reduceEq,if_false,if_true];simp only [RS.ok,Int.reduceEq,if_false,if_true,Bool.and_eq_true]at ht;obtain⟨ni,rfl,v0⟩:=aW (m:=r.parts.length) (by omega) ht.1;exact⟨h.rg,h.put hw v0 (-1) (-1),h.yO⟩
 by_cases k4:k=4
 ·subst k4;simp only [HG.lJ,RS.act,Int.reduceEq,if_false,if_true];exact⟨h.rg,h.psq,by show s.aX.set _ _=_;rw [h.yO]⟩
 by_cases k6:k=6
 ·subst k6;simp only [HG.lJ,RS.act,Int.reduceEq,if_false,if_true];simp only [RS.ok,Int.reduceEq,if_false,if_true,RS.stored,Bool.and_eq_true]at ht;obtain⟨ni,rfl,v0⟩:=aW (m:=r.parts.length) (by omega) ht.1.1;exact⟨h.rg,h.put hw v0 (-2) (-2),h.yO⟩
 ·simp [RS.ok,k1,k2,k3,k4,k5,k6]at ht
theorem RS.Wf.act(hw:t.Wf r){w:Wk}(ht:t.ok r w=true):(t.act r w).Wf r:=by
 obtain⟨v1,v2,v3,v4,v5,v6,v7,v8⟩:=cF hw.val;obtain⟨k,a,b,c⟩:=w;by_cases k1:k=1
 ·subst k1;simp only [RS.act,if_true];refine⟨hw.val,by show(t.gB a b c _).length=_;rw [pM];exact hw.used,hw.cV,hw.aX,by show(t.fK a b _).length=_;rw [gh (eA t a b _)];exact hw.since,hw.done,tv (eA t a b _) hw.kA,hw.oe⟩
 by_cases k2:k=2
 ·subst k2;simp only [RS.act,Int.reduceEq,if_false,if_true];exact⟨hw.val,hw.used,by simp [hw.cV],hw.aX,hw.since,hw.done,hw.kA,hw.oe⟩
 by_cases k3:k=3
 ·subst k3;simp only [RS.act,Int.reduceEq,if_false,if_true];exact⟨hw.val,hw.used,by simp [hw.cV],hw.aX,hw.since,hw.done,hw.kA,hw.oe⟩
 by_cases k4:k=4
 ·subst k4;simp only [RS.act,Int.reduceEq,if_false,if_true];exact⟨hw.val,hw.used,hw.cV,by simp [hw.aX],hw.since,hw.done,hw.kA,hw.oe⟩
 by_cases k5:k=5
 ·subst k5;simp only [RS.act,Int.reduceEq,if_false,if_true];simp only [RS.ok,Int.reduceEq,if_false,if_true,Bool.and_eq_true]at ht;obtain⟨oi,rfl,O3⟩:=aW (m:=r.az.length) (by omega) ht.2.1;have jU:oi<t.done.length:=by rw [hw.done];exact O3
  have Ab:t.done.getD oi []∈t.done:=by have:t.done.getD oi []=t.done[oi]:=(by simp [List.getD,jU]);rw [this];exact List.getElem_mem jU
  refine⟨hw.val,hw.used,hw.cV,hw.aX,hw.since,by simp [hw.done],hw.kA,fun l hl=>?_⟩;rcases List.mem_or_eq_of_mem_set hl with h|h
  ·exact hw.oe l h
  ·rw [h,List.length_set];exact hw.oe _ Ab
 by_cases k6:k=6
 ·subst k6;simp only [RS.act,Int.reduceEq,if_false,if_true];exact⟨hw.val,hw.used,by simp [hw.cV],hw.aX,hw.since,hw.done,hw.kA,hw.oe⟩
 ·simp [RS.ok,k1,k2,k3,k4,k5,k6]at ht
theorem Rel.new(r:aZ):Rel r (HG.new r) (RS.new r):=by
 refine⟨rfl,?_,rfl⟩;show r.parts.map (PS.new r)=_;refine List.ext_getElem? fun p=>?_;rw [List.getElem?_map];by_cases hp:p<r.parts.length
 ·rw [RS.nH _ r hp,List.getElem?_eq_getElem hp,Option.map_some];simp [PS.new,RS.pt,RS.new,List.getD,hp]
 ·have e2:((RS.new r).ps r)[p]?=none:=List.getElem?_eq_none (by rw [RS.kz];omega);rw [e2,List.getElem?_eq_none (by omega)];rfl
end
def rT(r:aZ)(l:List Wk):Nat->RS
 | 0=>RS.new r
 | k+1=>(rT r l k).after r (l.getD k default)
theorem yP{r:aZ}{l:List Wk}(hv:r.valid=true):∀k:Nat,k<=1000000->(∀j,j<k->jh r l j=true)->(rT r l k).Wf r/\Rel r (rB r l k) (rT r l k)
 | 0,_,_=>⟨RS.Wf.new hv,Rel.new r⟩
 | k+1,hk,h=>by
  obtain⟨h1,h2⟩:=yP hv k (by omega) fun j hj=>h j (by omega);have hI:=tA (l:=l) hv k (by omega) fun j hj=>h j (by omega);have hs:(rB r l k).eu (l.getD k default)=true:=h k (by omega);have ht:(rT r l k).ok r (l.getD k default)=true:=by rw [<-Rel.okq hI h1 h2];exact hs
  have ha:rT r l (k+1)=(rT r l k).act r (l.getD k default):=by simp only [rT,RS.after,ht,if_true]
  rw [ha];exact⟨h1.act ht,h2.step h1 hs ht⟩
theorem aix{r:aZ}{l:List Wk}(hv:r.valid=true){k:Nat}(hk:k<=1000000)(h:∀j,j<k->jh r l j=true):(rT r l k).ok r (l.getD k default)=jh r l k:=by obtain⟨h1,h2⟩:=yP hv k hk h;exact(Rel.okq (tA hv k hk h) h1 h2 _).symm
end Go.Sx
end
section
namespace Go.Sx
open Go.Proofs
attribute [local simp] ri aa ints
attribute [local irreducible] bA
attribute [local simp] aG
theorem yQ(r:aZ)(t:RS)(w:Wk):aY rwE [.agg [.sl 3 (r.kinds.map Kd.row),.sl 4 (r.parts.map Pt.row),.int .i64 r.ax,.sl 2 (r.az.map Od.row)],.agg [.sl 2 (t.used.map bn),.sl 2 (t.cV.map bn),.sl 1 (t.aX.map rb),kV t.since,kL t.done],.agg [.int .i64 w.kind,.int .i64 w.a,.int .i64 w.b,.int .i64 w.c]]=⟨r,t,w⟩:=aA XJ ⟨r,t,w⟩
noncomputable abbrev E48:=EV [(107,.pure acT),(108,.pure CO),(109,.pure KM)] [] 4800 41
theorem b48:af E48 [(10,([2000,2001,4,5,6],[[0,1,2,3,4,5,6,7,8,9,10,11,12]]))] Tryz.f48 mc:=pb <| by
 rintro⟨r,l⟩ ⟨b1,b2,b3,b4⟩;simp only at b1 b2 b3 b4;cases c1:r.valid
 ·have hE:jA r l=90:=by simp [jA,c1]
  have hA:D4 r l=0:=by simp [D4,c1]
  have hR:gM r=90:=by simp [gM,c1]
  simp -dsimp [Tryz.f48,E48,aZ.row];repeat' first|omega|(exact aD _)|(exact aF _)|simp -dsimp [E48,b1,b2,b3,jD,hR,hE,hA]|apply aI|apply nI|intro
 have hR:gM r=0:=by simp [gM,c1]
 by_cases c2:l.length<=200
 case neg=>
  have hE:jA r l=2:=by simp [jA,c1,c2]
  have hA:D4 r l=0:=by simp [D4,c1,c2]
  have HC:(200:Int)<l.length:=by omega
  simp -dsimp [Tryz.f48,E48,aZ.row];repeat' first|omega|(exact aD _)|(exact aF _)|simp -dsimp [E48,b1,b2,b3,jD,hR,HC,hE,hA]|apply aI|apply nI|intro
 have HC:¬ (200:Int)<l.length:=by omega
 have hN:=aU (RS.new r);simp -dsimp [Tryz.f48,E48,aZ.row];repeat' first|omega|(exact aD _)|(exact aF _)|simp -dsimp [E48,b1,b2,b3,jD,hR,c1,HC,hN]|apply aI|apply nI|intro
 refine ay [21,22,23,24,28,29,30,31,32,33,34,27,35,36,9,10,37,38,39,4,5,40,25,26,8] (fun k:{k:Nat // k<=l.length/\∀j,j<k->jh r l j=true}=>[(8,(true,.int .i64 (k.1:Nat)))])
  (fun k=>hps [(4807,{base:=0,ah:=[{z:=5,els:=[[.sl 2 ((rT r l k.1).used.map bn),.sl 2 ((rT r l k.1).cV.map bn),.sl 1 ((rT r l k.1).aX.map rb),kV (rT r l k.1).since,kL (rT r l k.1).done]],ty:=193}]}),(4809,{base:=k.1,ah:=[]}),
   (4802,{base:=0,ah:=[{z:=4,els:=[[.sl 3 (r.kinds.map Kd.row),.sl 4 (r.parts.map Pt.row),.int .i64 r.ax,.sl 2 (r.az.map Od.row)]],ty:=37}]})] cg) (fun k=>l.length - k.1) ⟨0,by omega,fun j hj=>by omega⟩ ?_ ?_ ?_
 ·simp [aj,aT]
 ·(try simp -dsimp only [hpx]);refine ai ?_;simp -dsimp [aC,rT]<;>exact rz
 rintro⟨k,hk,vx⟩;simp only;obtain⟨vb,RP⟩:=yP (l:=l) c1 k (by omega) vx;have hok:=aix (l:=l) c1 (k:=k) (by omega) vx;by_cases aH:k<l.length
 ·have va:(k:Int)<l.length:=by omega
  have vP:=wx k;obtain⟨w,hw,hw'⟩:=aM aH;have hg:l.getD k default=w:=by simp [List.getD,hw]
  rw [hg]at hok;have vs:(rT r l k).after r w=rT r l (k+1):=by simp only [rT,hg]
  have vd:=aU (rT r l (k+1));generalize hT':rT r l (k+1)=T' at *;generalize rT r l k=T at *;cases hd:jh r l k
  ·rw [hd]at hok;have vW:rC r l=k:=yR aH hd vx;have hE:jA r l=91:=(by simp [jA,c1,c2,vW]<;>omega);have hA:D4 r l=k:=(by simp [D4,c1,c2,vW]<;>omega);simp -dsimp [va];repeat' first|omega|(exact aD _)|(exact aF _)|simp -dsimp [E48,cQ,aS,va,aH,hw,hw',Wk.row,yQ,vb,vs,vd,hok,hE,hA]|apply aI|apply nI|intro
  ·rw [hd]at hok;have vV:∀j,j<k+1->jh r l j=true:=fun j hj=>by
    by_cases e:j=k
    ·subst e;exact hd
    ·exact vx j (by omega)
   simp -dsimp [va];repeat' first|omega|(exact aD _)|(exact aF _)|simp -dsimp [E48,cQ,aS,va,aH,hw,hw',Wk.row,yQ,vb,vs,vd,hok,vP]|apply aI|apply nI|intro
   refine⟨k+1,ag rfl ?_,(by(try simp -dsimp only [hpx]);refine ai ?_;simp -dsimp [aC,hT']<;>exact rz),⟨by omega,vV⟩,by omega⟩;simp [aj,aT]
 ·have vr:¬ (k:Int)<l.length:=by omega
  have z1:k=l.length:=by omega
  subst z1;have vW:rC r l = -1:=r6 vx;have hE:jA r l=0:=by simp [jA,c1,c2,vW]
  have hA:D4 r l=0:=by simp [D4,c1,c2,vW]
  simp -dsimp [vr];repeat' first|omega|(exact aD _)|(exact aF _)|simp -dsimp [E48,vr,hE,hA]|apply aI|apply nI|intro
theorem apj:FO 48 mc:=pf b48 (.cons aiz (.cons abj (.cons abl .nil)))
theorem KN{r:aZ}{l:List Wk}(h:jA r l=0):(rT r l l.length).Wf r/\Rel r (sP r l) (rT r l l.length):=by obtain⟨h1,h2,h3,_⟩:=qz h;exact yP h1 _ (by omega) h3
noncomputable abbrev CU:aB:=bS rlE (fun d=>jA d.r d.l=0) fun d=>.agg (rT d.r d.l d.l.length).row
noncomputable abbrev DK:=EV [(108,.pure CO),(109,.pure KM)] [] 23400 26
theorem ap9:af DK [] Tryz.f234 CU:=pb <| by
 rintro⟨r,l⟩ hE;simp only at hE;obtain⟨c1,c2,c3,_⟩:=qz hE;have hN:=aU (RS.new r);simp -dsimp [Tryz.f234,DK,aZ.row];repeat' first|omega|(exact aD _)|(exact aF _)|simp -dsimp [DK,jD,c1,hN]|apply aI|apply nI|intro
 refine ay [9,10,11,12,16,17,18,19,20,21,22,15,23,24,13,14,6] (fun k:Fin (l.length+1)=>[(6,(true,.int .i64 (k.1:Nat)))])
  (fun k=>hps [(23405,{base:=0,ah:=[{z:=5,els:=[[.sl 2 ((rT r l k.1).used.map bn),.sl 2 ((rT r l k.1).cV.map bn),.sl 1 ((rT r l k.1).aX.map rb),kV (rT r l k.1).since,kL (rT r l k.1).done]],ty:=193}]}),
   (23404,{base:=0,ah:=[{z:=5,els:=[[.nil,.nil,.nil,.nil,.nil]],ty:=193}]}),(23402,{base:=0,ah:=[{z:=4,els:=[[.sl 3 (r.kinds.map Kd.row),.sl 4 (r.parts.map Pt.row),.int .i64 r.ax,.sl 2 (r.az.map Od.row)]],ty:=37}]})] cg) (fun k=>l.length - k.1) ⟨0,by omega⟩ ?_ ?_ ?_
 ·simp [aj,aT]
 ·(try simp -dsimp only [hpx]);refine ai ?_;simp -dsimp [aC,rT]<;>exact rz
 rintro⟨k,hk⟩;simp only;by_cases aH:k<l.length
 ·have va:(k:Int)<l.length:=by omega
  have vP:=wx k;obtain⟨w,hw,hw'⟩:=aM aH;have hg:l.getD k default=w:=by simp [List.getD,hw]
  have vb:=(yP (l:=l) c1 k (by omega) (fun j hj=>c3 j (by omega))).1;have vs:(rT r l k).after r w=rT r l (k+1):=by simp only [rT,hg]
  have vd:=aU (rT r l (k+1));generalize hT':rT r l (k+1)=T' at *;generalize rT r l k=T at *;simp -dsimp [va];repeat' first|omega|(exact aD _)|(exact aF _)|simp -dsimp [DK,cQ,aS,va,aH,hw,hw',Wk.row,yQ,vb,vs,vd,vP]|apply aI|apply nI|intro
  refine⟨⟨k+1,by omega⟩,ag rfl ?_,(by(try simp -dsimp only [hpx]);refine ai ?_;simp -dsimp [aC,hT']<;>exact rz),by simp only;omega⟩;simp [aj,aT]
 ·have vr:¬ (k:Int)<l.length:=by omega
  have z1:k=l.length:=by omega
  subst z1;have vd:=aU (rT r l l.length);simp -dsimp [vr];repeat' first|omega|(exact aD _)|(exact aF _)|simp -dsimp [DK,vr,vd]|apply aI|apply nI|intro
theorem akV:FO 234 CU:=pf ap9 (.cons abj (.cons abl .nil))
noncomputable abbrev cmS:aB:=bS rnE RLN.oW fun d=>.int .i64 (ji d.r d.l d.n)
noncomputable abbrev DS:=EV [(48,.pure mc),(164,.pure bF)] [] 23300 24
theorem aqo:af DS [] Tryz.f233 cmS:=pb <| by
 rintro⟨r,l,m⟩ vy;have vy:RL.oW ⟨r,l⟩:=vy;by_cases hE:jA r l=0
 case neg=>
  have hR:ji r l m=jA r l:=by simp [ji,hE]
  simp -dsimp [Tryz.f233,DS,aZ.row];repeat' first|omega|(exact aD _)|(exact aF _)|simp -dsimp [DS,fZ,vy,hE,hR]|apply aI|apply nI|intro
 obtain⟨vb,RP⟩:=KN hE;cases hp:au m 0 (IntKind.wrap .i64 (r.ax - 1))
 ·have hp':(sP r l).i.machine m=false:=by rw [RP.KL];exact hp
  have hR:ji r l m=1:=by simp [ji,hE,hp']
  simp -dsimp [Tryz.f233,DS,aZ.row];repeat' first|omega|(exact aD _)|(exact aF _)|simp -dsimp [DS,fZ,vy,hE,hp,hR]|apply aI|apply nI|intro
 ·have hp':(sP r l).i.machine m=true:=by rw [RP.KL];exact hp
  have hR:ji r l m=0:=by simp [ji,hE,hp']
  simp -dsimp [Tryz.f233,DS,aZ.row];repeat' first|omega|(exact aD _)|(exact aF _)|simp -dsimp [DS,fZ,vy,hE,hp,hR]|apply aI|apply nI|intro
theorem alg:FO 233 cmS:=pf aqo (.cons apj (.cons ajS .nil))
theorem EY{r:aZ}{l:List Wk}{m:Int}(h:ji r l m=0):jA r l=0/\(sP r l).i.machine m=true:=by
 unfold ji at h;split at h
 ·rename_i h1;split at h
  ·rename_i h2;exact⟨h1,h2⟩
  ·omega
 ·contradiction
theorem Na{x:HI}{m c h:Int}(h0:0<=h)(h1:h<=100)(hf:x.lF m h c=false):x.cE m c<h:=by rw [<-mF h0 h1]at hf;have:=of_decide_eq_false hf;omega
theorem Nb{x:HI}{m c h:Int}(h0:0<=h)(h1:h<=100)(hf:x.lF m h c=true):h<=x.cE m c:=by rw [<-mF h0 h1]at hf;exact of_decide_eq_true hf
noncomputable abbrev Ap:=EV [(234,.pure CU),(164,.pure bF),(233,.pure cmS),(166,.pure xq)] [] 17700 37
theorem amJ:af Ap [] Tryz.f177 rS:=pb <| by
 rintro⟨r,l,m,c⟩ vy;have acU:RLN.oW ⟨r,l,m⟩:=vy;by_cases hL:ji r l m=0
 case neg=>
  have hR:dR r l m c=ji r l m:=by
   unfold dR;by_cases h1:jA r l=0
   ·by_cases h2:(sP r l).i.machine m=true
    ·exact absurd (by simp [ji,h1,h2]) hL
    ·simp only [Bool.not_eq_true]at h2;simp [h1,h2,ji]
   ·simp [h1,ji]
  have wN:de r l m c=0:=by simp [de,hR,hL]
  simp -dsimp [Tryz.f177,Ap,aZ.row];repeat' first|omega|(exact aD _)|(exact aF _)|simp -dsimp [Ap,yS,acU,hL,hR,wN]|apply aI|apply nI|intro
 obtain⟨hE,hm⟩:=EY hL;obtain⟨vb,RP⟩:=KN hE;obtain⟨c1,c2,c3⟩:=RP.core;cases hc:au c 0 100
 ·have hR:dR r l m c=1:=by simp [dR,hE,hm,hc]
  have wN:de r l m c=0:=by simp [de,hR]
  simp -dsimp [Tryz.f177,Ap,aZ.row];repeat' first|omega|(exact aD _)|(exact aF _)|simp -dsimp [Ap,yS,acU,hL,hc,hR,wN]|apply aI|apply nI|intro
 have z3:dR r l m c=if ((rT r l l.length).hi r).cE m c<0 then 3 else 0:=by rw [dR,if_pos hE,hm,hc,nL c1 c2 c3];rfl
 have z4:de r l m c=if dR r l m c=0 then ((rT r l l.length).hi r).cE m c else 0:=by rw [de,nL c1 c2 c3]
 have hle:=rD ((rT r l l.length).hi r) m c;have vd:=aU (rT r l l.length);generalize hT:rT r l l.length=T at *;simp -dsimp [Tryz.f177,Ap,aZ.row];repeat' first|omega|(exact aD _)|(exact aF _)|simp -dsimp [Ap,yS,fZ,acU,hL,hc,hE,hT,vd]|apply aI|apply nI|intro
 refine ay [26,27,30,31,32,33,34,35,36,8,9,28,29,12] (fun k:{k:Nat // k<=101/\(T.hi r).cE m c<101 - k}=>[(12,(true,.int .i64 (100 - (k.1:Nat))))])
  (fun _=>hps [(17711,{base:=0,ah:=[{z:=5,els:=[[.sl 2 (T.used.map bn),.sl 2 (T.cV.map bn),.sl 1 (T.aX.map rb),kV T.since,kL T.done]],ty:=193}]}),
   (17704,{base:=0,ah:=[{z:=4,els:=[[.sl 3 (r.kinds.map Kd.row),.sl 4 (r.parts.map Pt.row),.int .i64 r.ax,.sl 2 (r.az.map Od.row)]],ty:=37}]})] cg) (fun k=>101 - k.1) ⟨0,by omega,by omega⟩ ?_ ?_ ?_
 ·simp [aj,aT]
 ·(try simp -dsimp only [hpx]);refine ai ?_;simp -dsimp [aC]<;>exact rz
 rintro⟨k,hk,v9⟩;simp only;by_cases aH:k<101
 ·have va:(0:Int)<=100 - (k:Int):=by omega
  have iB:(k:Int)<=100:=by omega
  have vP:IntKind.wrap .i64 (100 - (k:Int) - 1)=100 - ((k+1:Nat):Int):=by rw [aK (by omega) (by omega)];omega
  cases hf:(T.hi r).lF m (100 - (k:Int)) c
  ·have:=Na va (by omega) hf;simp -dsimp [va,iB];repeat' first|omega|(exact aD _)|(exact aF _)|simp -dsimp [Ap,va,iB,gN,vb,hf,vP]|apply aI|apply nI|intro
   refine⟨k+1,ag rfl ?_,(by(try simp -dsimp only [hpx]);refine ai ?_;simp -dsimp [aC]<;>exact rz),⟨by omega,by omega⟩,by omega⟩;simp [aj,aT]
  ·have:=Nb va (by omega) hf;have hv:(T.hi r).cE m c=100 - (k:Int):=(by omega);have za:¬ (100:Int) - (k:Int)<0:=(by omega);have vX:dR r l m c=0:=(by rw [z3,hv,if_neg za]);have z2:de r l m c=100 - (k:Int):=(by rw [z4,vX,if_pos rfl,hv]);simp -dsimp [va,iB];repeat' first|omega|(exact aD _)|(exact aF _)|simp -dsimp [Ap,va,iB,gN,vb,hf,vX,z2]|apply aI|apply nI|intro
 ·have vr:¬ (0:Int)<=100 - (k:Int):=by omega
  have HD:¬ (k:Int)<=100:=by omega
  have hv:(T.hi r).cE m c<0:=by omega
  have vX:dR r l m c=3:=by rw [z3,if_pos hv]
  have z2:de r l m c=0:=by rw [z4,vX];rfl
  simp -dsimp [vr,HD];repeat' first|omega|(exact aD _)|(exact aF _)|simp -dsimp [Ap,vr,HD,vX,z2]|apply aI|apply nI|intro
theorem abi:FO 177 rS:=pf amJ (.cons akV (.cons ajS (.cons alg (.cons ak2 .nil))))
end Go.Sx
end
end
