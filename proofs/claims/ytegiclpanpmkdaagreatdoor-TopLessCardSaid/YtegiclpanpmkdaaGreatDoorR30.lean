/- Parts: no part is beyond its life. No conditions. -/
import Derived.Test.YtegiclpanpmkdaaGreatDoorR17
set_option linter.all false
set_option maxRecDepth 100000
set_option maxHeartbeats 8000000
noncomputable section
namespace Go.Sx
def imax(a b:Int):Int:=if a<b then b else a
structure aBX (r:aZ) (x:Pt) (p:PS):Prop where
 h0:x.hours<=p.hours
 c0:x.bh<=p.bh
 h1:p.hours<=imax (r.kinds.getD x.kind.toNat default).hours x.hours
 c1:p.bh<=imax (r.kinds.getD x.kind.toNat default).bh x.bh
 un:x.known=false->p.hours=x.hours/\p.bh=x.bh/\p.a<0
def Liv(r:aZ)(s:HG):Prop:=∀(k:Nat) (p:PS),s.ps[k]?=some p->aBX r (r.parts.getD k default) p
theorem aAZ(x:HI)(p:PS):∀i,x.fe p i<=x.fe p 0
 | 0=>Int.le_refl _
 | i+1=>by
  have:=aAZ x p i;have e:x.fe p (i+1)=if x.Ed p i=true then xR (x.fe p i) (cM (x.r.az.getD i default).within (p.since.getD i 0))else x.fe p i:=rfl;rw [e];split
  ·unfold xR;split<;>omega
  ·exact this
theorem Liv.new(r:aZ):Liv r (HG.new r):=by
 intro k p hp;have hp':(r.parts.map (PS.new r))[k]?=some p:=hp;rw [List.getElem?_map]at hp';cases hq:r.parts[k]? with
 | none=>rw [hq]at hp';simp at hp'
 | some q=>
  rw [hq]at hp';simp only [Option.map_some,Option.some.injEq]at hp';subst hp';have hg:r.parts.getD k default=q:=by simp [List.getD,hq]
  rw [hg];have hm:∀a b:Int,b<=imax a b:=fun a b=>by unfold imax;split<;>omega
  exact⟨Int.le_refl _,Int.le_refl _,hm _ _,hm _ _,fun _=>⟨rfl,rfl,by show(-1:Int)<0;omega⟩⟩
theorem Liv.step{r:aZ}{s:HG}{n:Nat}(hI:s.Inv r n)(h:Liv r s){w:Wk}(hw:s.eu w=true):Liv r (s.step w):=by
 have vb:s.step w={s.lJ w with wk:=eZ s.wk 1}:=by simp only [HG.step,HG.after,hw,if_true]
 rw [vb];clear vb;obtain⟨v1,v2,v3,v4,v5,v6,v7,v8⟩:=cF hI.val;have v9:∀(m:Nat) (a b:Int),(a<0\/∃p,s.ps[m]?=some p/\p.known=true)->∀(k:Nat) (p':PS),(s.ps.set m {s.ps.getD m default with a:=a,b:=b})[k]?=some p'->aBX r (r.parts.getD k default) p':=by
  intro m a b vr k p' hp';rcases cA hp' with⟨rfl,rfl,hl⟩|⟨_,e⟩
  ·have e:s.ps[k]?=some s.ps[k]:=List.getElem?_eq_getElem hl;have hg:s.ps.getD k default=s.ps[k]:=(by simp [List.getD,hl]);rw [hg];have hL:=h k _ e;refine⟨hL.h0,hL.c0,hL.h1,hL.c1,fun hu=>⟨(hL.un hu).1,(hL.un hu).2.1,?_⟩⟩;rcases vr with ha|⟨p,hp,hk⟩
   ·exact ha
   ·rw [e]at hp;cases hp;have:=(hI.pk k _ e).2.1;rw [this,hu]at hk;cases hk
  ·exact h k p' e
 by_cases k1:w.kind=1
 ·have hf:s.iN w.a w.b w.c=true:=by simpa [HG.eu,k1]using hw
  simp only [HG.lJ,k1,if_true];simp only [HG.iN,Bool.and_eq_true,decide_eq_true_eq]at hf;obtain⟨f1,f2,f3,f4⟩:=hf;simp only [au,decide_eq_true_eq]at f2 f3;intro k p' hp';have v0:(s.ps.map (kB s.aX w.a w.b w.c))[k]?=some p':=hp';rw [List.getElem?_map]at v0;cases hq:s.ps[k]? with
  | none=>rw [hq]at v0;simp at v0
  | some q=>
   rw [hq]at v0;simp only [Option.map_some,Option.some.injEq]at v0;subst v0;have hL:=h k q hq;unfold kB;by_cases hm:q.a=w.a
   case neg=>rw [if_neg hm];exact hL
   rw [if_pos hm];have hfl:s.i.lF w.a w.b w.c=true:=(by rw [<-mF f2.1 f2.2];exact decide_eq_true f4);simp only [HI.lF,Bool.and_eq_true]at hfl;have va:=List.all_eq_true.1 hfl.2 q (List.mem_of_getElem? hq);simp only [HI.can,hm,beq_self_eq_true,Bool.not_true,Bool.false_or,Bool.and_eq_true,decide_eq_true_eq]at va;obtain⟨g1,g2⟩:=va;have td:k<r.parts.length:=(by rw [<-hI.XI];exact(List.getElem?_eq_some_iff.1 hq).1);obtain⟨p1,_⟩:=hI.pk k q hq;have vy:=v7 _ (mX td);have vs:(r.parts.getD k default).kind.toNat<r.kinds.length:=(by omega);have vP:=v6 _ (mX vs);have wZ:∀a b:Int,a<=imax a b/\b<=imax a b/\(imax a b=a\/imax a b=b):=fun a b=>by unfold imax;split<;>omega
   have e1:=hL.h0;have e2:=hL.h1;have e3:=hL.c0;have e4:=hL.c1;obtain⟨m1,m2,m3⟩:=wZ (r.kinds.getD (r.parts.getD k default).kind.toNat default).hours (r.parts.getD k default).hours;obtain⟨m4,m5,m6⟩:=wZ (r.kinds.getD (r.parts.getD k default).kind.toNat default).bh (r.parts.getD k default).bh;have hT:s.i.jt q<=(r.kinds.getD (r.parts.getD k default).kind.toNat default).hours - q.hours:=by have a1:=aAZ s.i q s.i.r.az.length;have a2:s.i.fe q 0=cM (s.r.kinds.getD q.kind.toNat default).hours q.hours:=rfl;rw [hI.rg,p1]at a2;have a3:cM (r.kinds.getD (r.parts.getD k default).kind.toNat default).hours q.hours=(r.kinds.getD (r.parts.getD k default).kind.toNat default).hours - q.hours:=aK (by omega) (by omega);rw [a2,a3]at a1;exact a1
   have hC:s.i.iL q=(r.kinds.getD (r.parts.getD k default).kind.toNat default).bh - q.bh:=by have a2:s.i.iL q=cM (s.r.kinds.getD q.kind.toNat default).bh q.bh:=rfl;rw [hI.rg,p1]at a2;rw [a2];exact aK (by omega) (by omega)
   have w1:eZ q.hours w.b=q.hours+w.b:=aK (by omega) (by omega);have w2:eZ q.bh w.c=q.bh+w.c:=aK (by omega) (by omega);refine⟨by show _<=eZ q.hours w.b;rw [w1];omega,by show _<=eZ q.bh w.c;rw [w2];omega,by show eZ q.hours w.b<=_;rw [w1];omega,by show eZ q.bh w.c<=_;rw [w2];omega,fun hu=>?_⟩;have:=(hL.un hu).2.2;have vx:s.i.machine w.a=au w.a 0 (cM r.ax 1):=(by show au w.a 0 (cM s.r.ax 1)=_;rw [hI.rg]);rw [vx]at f1;simp only [au,decide_eq_true_eq]at f1;omega
 by_cases k2:w.kind=2
 ·have hf:s.gL w.a w.b w.c=true:=by simpa [HG.eu,k2]using hw
  simp only [HG.lJ,k2,Int.reduceEq,if_false,if_true];simp only [HG.gL,Bool.and_eq_true]at hf;obtain⟨f1,f2,f3,f4,f5,f6⟩:=hf;obtain⟨m,hm,vd⟩:=aW (m:=s.ps.length) (by rw [hI.XI];omega) f1;rw [hm]at f4;rw [Int.toNat_natCast]at f4;have hk:∃p,s.ps[m]?=some p/\p.known=true:=by have hg:s.ps.getD m default=s.ps[m]:=(by simp [List.getD,vd]);rw [hg]at f4;exact⟨_,List.getElem?_eq_getElem vd,f4⟩
  rw [hm];unfold HG.pN;split<;>exact fun k p' hp'=>v9 m w.b w.c (.inr hk) k p' hp'
 by_cases k5:w.kind=5
 ·simp only [HG.lJ,k5,Int.reduceEq,if_false,if_true];intro k p' hp';rcases cA hp' with⟨hk,e,hl⟩|⟨_,e⟩
  ·subst hk;have e2:s.ps[w.a.toNat]?=some s.ps[w.a.toNat]:=List.getElem?_eq_getElem hl;have hg:s.ps.getD w.a.toNat default=s.ps[w.a.toNat]:=(by simp [List.getD,hl]);rw [hg]at e;have hL:=h _ _ e2;subst e;exact⟨hL.h0,hL.c0,hL.h1,hL.c1,hL.un⟩
  ·exact h k p' e
 by_cases k3:w.kind=3
 ·simp only [HG.lJ,k3,Int.reduceEq,if_false,if_true];exact fun k p' hp'=>v9 w.a.toNat (-1) (-1) (.inl (by omega)) k p' hp'
 by_cases k4:w.kind=4
 ·simp only [HG.lJ,k4,Int.reduceEq,if_false,if_true];exact h
 by_cases k6:w.kind=6
 ·simp only [HG.lJ,k6,Int.reduceEq,if_false,if_true];exact fun k p' hp'=>v9 w.a.toNat (-2) (-2) (.inl (by omega)) k p' hp'
 ·simp [HG.eu,k1,k2,k5,k3,k4,k6]at hw
theorem aA9{r:aZ}{l:List Wk}(hv:r.valid=true):∀k:Nat,k<=1000000->(∀j,j<k->jh r l j=true)->Liv r (rB r l k)
 | 0,_,_=>Liv.new r
 | k+1,hk,h=>(aA9 hv k (by omega) fun j hj=>h j (by omega)).step (tA hv k (by omega) fun j hj=>h j (by omega)) (h k (by omega))
theorem aAP{r:aZ}{l:List Wk}(h:jA r l=0):Liv r (sP r l):=by obtain⟨h1,h2,h3,_⟩:=qz h;exact aA9 h1 _ (by omega) h3
end Go.Sx
end
