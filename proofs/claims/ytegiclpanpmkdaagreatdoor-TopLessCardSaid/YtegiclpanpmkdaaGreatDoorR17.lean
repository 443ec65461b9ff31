/- A part of a proof; no conditions. -/
import Derived.Test.YtegiclpanpmkdaaGreatDoorR16
set_option linter.all false
set_option maxRecDepth 100000
set_option maxHeartbeats 8000000
noncomputable section
section
namespace Go.Sx
structure HG.Inv (s:HG) (r:aZ) (n:Nat):Prop where
 rg:s.r=r
 val:r.valid=true
 XI:s.ps.length=r.parts.length
 pk:∀(k:Nat) (p:PS),s.ps[k]?=some p->p.kind=(r.parts.getD k default).kind/\p.known=(r.parts.getD k default).known/\p.since.length=r.az.length/\p.iV.length=r.az.length
 aX:s.aX.length=r.az.length
 fl:(s.fl.length:Int)=r.ax
 wk:s.wk=n
 tf:s.hi.length=s.ps.length
 hi:∀(k i m:Nat),s.hi[k]?=some (some (i,m))->∃l,s.hb[i]?=some l/\l.length=m/\0<m/\∀t∈l,0<=t.machine/\t.machine<r.ax
 inj:∀(k k' i m m':Nat),s.hi[k]?=some (some (i,m))->s.hi[k']?=some (some (i,m'))->k=k'
 cl:s.cZ=true->∀o∈s.hi,o=none
 ry:s.hb.length<=n
 oG:∀(i:Nat) (l:List oJ),s.hb[i]?=some l->l.length<=n
 pa:∀(k:Nat) (p:PS),s.ps[k]?=some p->(p.a = -1/\p.b = -1)\/(p.a = -2/\p.b = -2)\/(0<=p.a/\p.a<r.ax/\0<=p.b/\p.b<(r.kinds.getD p.kind.toNat default).places/\∃i m,s.hi[k]?=some (some (i,m)))
theorem cF{r:aZ}(h:r.valid=true):r.kinds.length<=6/\r.parts.length<=24/\r.az.length<=6/\0<=r.ax/\r.ax<=4/\
  (∀kd∈r.kinds,1<=kd.hours/\kd.hours<=100000/\1<=kd.bh/\kd.bh<=100000/\0<=kd.places/\kd.places<=4)/\
  (∀p∈r.parts,0<=p.kind/\p.kind<r.kinds.length/\0<=p.hours/\p.hours<=100000/\0<=p.bh/\p.bh<=100000)/\
  (∀o∈r.az,0<=o.kind/\o.kind<r.kinds.length/\0<=o.within/\o.within<=100000):=by
 simp only [aZ.valid,Bool.and_eq_true,decide_eq_true_eq,Bool.not_eq_true',List.any_eq_false]at h;obtain⟨h1,h2,h3,h4,h5,h6,h7⟩:=h;have h4':0<=r.ax/\r.ax<=4:=by simpa [au]using h4
 have z2:∀n,r.kindOk n=true->0<=n/\n<r.kinds.length:=by intro n hn;have hw:cM (r.kinds.length:Int) 1=r.kinds.length - 1:=aK (by omega) (by omega);simp only [aZ.kindOk,hw,au,decide_eq_true_eq]at hn;omega
 refine⟨h1,h2,h3,h4'.1,h4'.2,fun kd hk=>?_,fun p hp=>?_,fun o ho=>?_⟩
 ·have:=h5 kd hk;simp [Kd.bad,au]at this;omega
 ·have:=h6 p hp;simp only [aZ.lZ,Bool.or_eq_true,Bool.not_eq_true',not_or,Bool.not_eq_false]at this;obtain⟨⟨a1,a2⟩,a3⟩:=this;have:=z2 _ a1;simp [au]at a2 a3;omega
 ·have:=h7 o ho;simp only [aZ.l6,Bool.or_eq_true,Bool.not_eq_true',not_or,Bool.not_eq_false]at this;obtain⟨a1,a2⟩:=this;have:=z2 _ a1;simp [au]at a2;omega
theorem mX{α:Type}[Inhabited α]{l:List α}{k:Nat}(h:k<l.length):l.getD k default∈l:=by
 have:l.getD k default=l[k]:=by simp [List.getD,h]
 rw [this];exact List.getElem_mem h
theorem HG.Inv.ok{s:HG}{r:aZ}{n:Nat}(h:s.Inv r n)(hn:n<=1000000):s.Ok:=by
 obtain⟨v1,v2,v3,v4,v5,v6,v7,v8⟩:=cF h.val;have e:=h.rg;refine⟨⟨fun o ho i m ho'=>?_,h.cl⟩,by rw [h.XI];omega,by rw [e];omega,by rw [e];omega,fun kd hk=>?_,fun p hp=>?_,h.tf,by rw [e];exact v4,by rw [e];omega,by rw [e];exact h.aX,by rw [e];exact h.fl,fun i l hl=>⟨?_,?_⟩,fun k p hp ha=>?_⟩
 ·subst ho';obtain⟨k,hk⟩:=List.mem_iff_getElem?.1 ho;obtain⟨l,h1,h2,_⟩:=h.hi k i m hk;exact⟨l,h1,h2⟩
 ·rw [e]at hk;have:=v6 kd hk;omega
 ·obtain⟨k,hk⟩:=List.mem_iff_getElem?.1 hp;obtain⟨p1,p2,p3,p4⟩:=h.pk k p hk;have td:k<r.parts.length:=by rw [<-h.XI];exact(List.getElem?_eq_some_iff.1 hk).1
  have:=v7 _ (mX td);exact⟨by rw [p1];omega,by show p.kind<(s.r.kinds.length:Int);rw [e,p1];omega,by show s.aX.length=s.r.az.length;rw [e];exact h.aX,by show _=s.r.az.length;rw [e];exact p4,by show _=s.r.az.length;rw [e];exact p3,by show s.r.az.length<=_;rw [e];omega⟩
 ·have:=h.oG i l hl;omega
 ·have:=h.ry;omega
 ·rcases h.pa k p hp with h1|h1|⟨h1,h2,_,_,i,m,h5⟩
  ·omega
  ·omega
  ·refine⟨by rw [e];exact h2,?_⟩;obtain⟨l,l1,l2,l3,l4⟩:=h.hi k i m h5;have vd:l.length - 1<l.length:=(by omega);have hm:=l4 _ (mX vd);exact⟨i,l,by rw [l2];exact h5,l1,by omega,by have:=h.oG i l l1;omega,hm.1,by rw [h.fl];exact hm.2⟩
theorem HG.Inv.new{r:aZ}(h:r.valid=true):(HG.new r).Inv r 0:=by
 obtain⟨v1,v2,v3,v4,v5,v6,v7,v8⟩:=cF h;have hn:∀(k i m:Nat),(HG.new r).hi[k]?=some (some (i,m))->False:=by intro k i m hk;have:(List.replicate r.parts.length (none:Option (Nat × Nat)))[k]?=some (some (i,m)):=hk;rw [List.getElem?_replicate]at this;split at this<;>simp at this
 refine⟨rfl,h,by simp [HG.new],fun k p hp=>?_,by simp [HG.new],by simp [HG.new];omega,rfl,by simp [HG.new],fun k i m hk=>(hn k i m hk).elim,fun k _ i m _ hk _=>(hn k i m hk).elim,fun _ o ho=>(List.mem_replicate.1 ho).2,Nat.le_refl _,fun i l hl=>by simp [HG.new]at hl,fun k p hp=>?_⟩
 ·have hp':(r.parts.map (PS.new r))[k]?=some p:=hp;rw [List.getElem?_map]at hp';cases hq:r.parts[k]? with
  | none=>rw [hq]at hp';simp at hp'
  | some q=>
   rw [hq]at hp';simp only [Option.map_some,Option.some.injEq]at hp';subst hp';simp [PS.new,List.getD,hq]
 ·have hp':(r.parts.map (PS.new r))[k]?=some p:=hp;rw [List.getElem?_map]at hp';cases hq:r.parts[k]? with
  | none=>rw [hq]at hp';simp at hp'
  | some q=>
   rw [hq]at hp';simp only [Option.map_some,Option.some.injEq]at hp';subst hp';exact .inl ⟨rfl,rfl⟩
def HG.step(s:HG)(w:Wk):HG:={s.after w with wk:=eZ s.wk 1}
structure PS.Y8 (p p':PS):Prop where
 kind:p'.kind=p.kind
 known:p'.known=p.known
 since:p'.since.length=p.since.length
 iV:p'.iV.length=p.iV.length
theorem PS.Y8.refl(p:PS):p.Y8 p:=⟨rfl,rfl,rfl,rfl⟩
theorem HG.Inv.o7{s s':HG}{r:aZ}{n:Nat}(h:s.Inv r n)(e1:s'.r=s.r)(e2:s'.ps.length=s.ps.length)
  (e3:∀(k:Nat) (p':PS),s'.ps[k]?=some p'->∃p,s.ps[k]?=some p/\p.Y8 p'/\((p'.a=p.a/\p'.b=p.b)\/(p'.a = -1/\p'.b = -1)\/(p'.a = -2/\p'.b = -2)))
  (e4:s'.aX.length=s.aX.length) (e5:s'.fl.length=s.fl.length) (e6:s'.wk=s.wk+1) (e7:s'.hi=s.hi) (e8:s'.hb.length=s.hb.length)
  (e9:∀(i:Nat) (l:List oJ),s.hb[i]?=some l->∃l',s'.hb[i]?=some l'/\l'.length=l.length/\∀t'∈l',∃t∈l,t'.machine=t.machine)
  (e10:s'.cZ=true->s.cZ=true):s'.Inv r (n+1):=by
 refine⟨by rw [e1];exact h.rg,h.val,by rw [e2];exact h.XI,fun k p' hp'=>?_,by rw [e4];exact h.aX,by rw [e5];exact h.fl,by rw [e6,h.wk];rfl,by rw [e7,e2];exact h.tf,fun k i m hk=>?_,fun k k' i m m' hk hk'=>?_,fun hc=>by rw [e7];exact h.cl (e10 hc),by rw [e8];have:=h.ry;omega,fun i l' hl'=>?_,fun k p' hp'=>?_⟩
 ·obtain⟨p,hp,hs,_⟩:=e3 k p' hp';obtain⟨p1,p2,p3,p4⟩:=h.pk k p hp;exact⟨by rw [hs.kind,p1],by rw [hs.known,p2],by rw [hs.since,p3],by rw [hs.iV,p4]⟩
 ·rw [e7]at hk;obtain⟨l,l1,l2,l3,l4⟩:=h.hi k i m hk;obtain⟨l',m1,m2,m3⟩:=e9 i l l1;refine⟨l',m1,by omega,l3,fun t' ht'=>?_⟩;obtain⟨t,ht,et⟩:=m3 t' ht';rw [et];exact l4 t ht
 ·rw [e7]at hk hk';exact h.inj k k' i m m' hk hk'
 ·have:i<s.hb.length:=by rw [<-e8];exact(List.getElem?_eq_some_iff.1 hl').1
  obtain⟨l2,m1,m2,m3⟩:=e9 i _ (List.getElem?_eq_getElem this);rw [hl']at m1;cases m1;have:=h.oG i _ (List.getElem?_eq_getElem this);omega
 ·obtain⟨p,hp,hs,ha⟩:=e3 k p' hp';rcases ha with⟨a1,a2⟩|ha|ha
  ·rw [a1,a2,hs.kind,e7];exact h.pa k p hp
  ·exact .inl ha
  ·exact .inr (.inl ha)
theorem Y9{n:Nat}(hn:n<=1000000):eZ (n:Int) 1=n+1:=aK (by omega) (by omega)
theorem TM(fl:List (Int × Int))(to:Int)(l:List oJ):(Fh fl to l).length=l.length:=by simp [Fh]
theorem Dk{fl:List (Int × Int)}{to:Int}{l:List oJ}:∀t'∈Fh fl to l,∃t∈l,t'.machine=t.machine:=by
 intro t' ht';rcases List.mem_or_eq_of_mem_set ht' with h|h
 ·exact⟨t',h,rfl⟩
 ·by_cases hl:l.length - 1<l.length
  ·exact⟨_,mX hl,by rw [h];rfl⟩
  ·have:l=[]:=List.length_eq_zero_iff.1 (by omega);subst this;simp [Fh]at ht'
theorem cA{α:Type}{l:List α}{i k:Nat}{x y:α}(h:(l.set i x)[k]?=some y):(k=i/\y=x/\i<l.length)\/(k≠i/\l[k]?=some y):=by
 rw [List.getElem?_set]at h;by_cases e:i=k
 ·subst e;rw [if_pos rfl]at h;by_cases hl:i<l.length
  ·rw [if_pos hl]at h;cases h;exact .inl ⟨rfl,rfl,hl⟩
  ·rw [if_neg hl]at h;cases h
 ·rw [if_neg e]at h;exact .inr ⟨fun h=>e h.symm,h⟩
theorem HG.Inv.Za{s s':HG}{r:aZ}{n:Nat}(h:s.Inv r n)(e1:s'.r=s.r)(e2:s'.ps.length=s.ps.length)
  (e3:∀(k:Nat) (p':PS),s'.ps[k]?=some p'->∃p,s.ps[k]?=some p/\p.Y8 p'/\((p'.a=p.a/\p'.b=p.b)\/(p'.a = -1/\p'.b = -1)\/(p'.a = -2/\p'.b = -2)))
  (e4:s'.aX.length=s.aX.length) (e5:s'.fl.length=s.fl.length) (e6:s'.wk=s.wk+1) (e7:s'.hi=s.hi) (e8:s'.hb=s.hb) (e10:s'.cZ=s.cZ):s'.Inv r (n+1):=
 h.o7 e1 e2 e3 e4 e5 e6 e7 (by rw [e8]) (fun i l hl=>⟨l,by rw [e8];exact hl,rfl,fun t ht=>⟨t,ht,rfl⟩⟩) (fun hc=>by rw [<-e10];exact hc)
theorem Dl{l:List PS}{n:Nat}{q:PS}(hq:∀p,l[n]?=some p->p.Y8 q/\((q.a=p.a/\q.b=p.b)\/(q.a = -1/\q.b = -1)\/(q.a = -2/\q.b = -2))) :
  ∀(k:Nat) (p':PS),(l.set n q)[k]?=some p'->∃p,l[k]?=some p/\p.Y8 p'/\((p'.a=p.a/\p'.b=p.b)\/(p'.a = -1/\p'.b = -1)\/(p'.a = -2/\p'.b = -2)):=by
 intro k p' h;rcases cA h with⟨rfl,rfl,hl⟩|⟨_,h⟩
 ·have e:l[k]?=some l[k]:=List.getElem?_eq_getElem hl;exact⟨l[k],e,hq _ e⟩
 ·exact⟨p',h,PS.Y8.refl _,.inl ⟨rfl,rfl⟩⟩
theorem HG.Inv.step{s:HG}{r:aZ}{n:Nat}(h:s.Inv r n)(hn:n<=1000000){w:Wk}(hw:s.eu w=true):(s.step w).Inv r (n+1):=by
 have z3:eZ s.wk 1=s.wk+1:=by rw [h.wk];exact Y9 hn
 have vx:s.step w={s.lJ w with wk:=s.wk+1}:=by simp only [HG.step,HG.after,hw,if_true,z3]
 rw [vx];clear vx z3;obtain⟨v1,v2,v3,v4,v5,v6,v7,v8⟩:=cF h.val;have vy:∀m:Int,s.i.part m=true->∃k:Nat,m=k/\k<s.ps.length:=fun m hm=>aW (by rw [h.XI];omega) hm;by_cases k1:w.kind=1
 ·simp only [HG.lJ,k1,if_true];refine h.Za rfl (by simp [HG.kE]) (fun k p' hp'=>?_) rfl (by simp [HG.kE]) rfl rfl rfl rfl;have vr:(s.ps.map (kB s.aX w.a w.b w.c))[k]?=some p':=hp';rw [List.getElem?_map]at vr;cases hq:s.ps[k]? with
  | none=>rw [hq]at vr;simp at vr
  | some q=>
   rw [hq]at vr;simp only [Option.map_some,Option.some.injEq]at vr;subst vr;refine⟨q,rfl,?_,?_⟩
   ·unfold kB;split
    ·exact⟨rfl,rfl,iP _ _ _ _,rfl⟩
    ·exact PS.Y8.refl _
   ·unfold kB;split<;>exact .inl ⟨rfl,rfl⟩
 by_cases k2:w.kind=2
 ·have hf:s.gL w.a w.b w.c=true:=by simpa [HG.eu,k2]using hw
  simp only [HG.lJ,k2,Int.reduceEq,if_false,if_true];simp only [HG.gL,Bool.and_eq_true,beq_iff_eq,decide_eq_true_eq]at hf;obtain⟨f1,f2,f3,f4,f5,f6⟩:=hf;obtain⟨k,hk,td⟩:=vy _ f1;have OT:∃m:Nat,w.b=m/\m<s.fl.length:=aW (by have:=h.fl;omega) (by have:s.i.machine w.b=au w.b 0 (cM r.ax 1):=(by show au w.b 0 (cM s.r.ax 1)=_;rw [h.rg]);rw [h.fl,<-this];exact f2)
  obtain⟨m,hm,za⟩:=OT;have ajM:(m:Int)<r.ax:=by rw [<-h.fl];omega
  obtain⟨p,hp,hp'⟩:=aM td;rw [hk]at f3 f4 f5 f6 ⊢;simp only [Int.toNat_natCast,List.getD,hp,Option.getD_some]at f3 f4 f5 f6;have Af:0<=w.c/\w.c<(r.kinds.getD p.kind.toNat default).places:=by
   have z6:p.kind.toNat<r.kinds.length:=by obtain⟨p1,_⟩:=h.pk k p hp;have:=v7 _ (mX (l:=r.parts) (k:=k) (by rw [<-h.XI];exact td));rw [p1];omega
   have hb:=v6 _ (mX z6);have e:(s.r.kinds[p.kind.toNat]?.getD default)=r.kinds.getD p.kind.toNat default:=(by rw [h.rg];rfl);rw [e]at f5;have hw:cM (r.kinds.getD p.kind.toNat default).places 1=(r.kinds.getD p.kind.toNat default).places - 1:=aK (by omega) (by omega);rw [hw]at f5;simp only [au,decide_eq_true_eq]at f5;omega
  have vP:∀(p':PS) (j:Nat),(s.ps.set k {p with a:=w.b,b:=w.c})[j]?=some p'->(j=k/\p'={p with a:=w.b,b:=w.c})\/(j≠k/\s.ps[j]?=some p'):=by
   intro p' j hj;rcases cA hj with⟨e1,e2,_⟩|e
   ·exact .inl ⟨e1,e2⟩
   ·exact .inr e
  have M7:s.ps.getD (k:Int).toNat default=p:=by simp [List.getD,hp]
  have ajN:(s.stt w.b w.c).machine=w.b:=rfl;have RN:k<s.hi.length:=by rw [h.tf];exact td
  obtain⟨o,ho,ho'⟩:=aM RN;have fV:s.hi.getD (k:Int).toNat none=o:=by simp [List.getD,ho]
  unfold HG.pN;rw [fV,M7];cases o with
  | none=>
   simp only [Int.toNat_natCast];refine⟨h.rg,h.val,by simp [h.XI],fun j p' hj=>?_,h.aX,h.fl,by simp [h.wk],by simp [h.tf],fun j i mm hj=>?_,fun j j' i mm mm' hj hj'=>?_,fun hc=>by simp at hc,by have:=h.ry;simp;omega,fun i l hl=>?_,fun j p' hj=>?_⟩
   ·rcases vP p' j hj with⟨rfl,rfl⟩|⟨_,hj⟩
    ·exact h.pk j p hp
    ·exact h.pk j p' hj
   ·rcases cA hj with⟨_,e,_⟩|⟨_,e⟩
    ·cases e;refine⟨[s.stt w.b w.c],by simp,rfl,by omega,fun t ht=>?_⟩;simp only [List.mem_singleton]at ht;subst ht;rw [ajN,hm];omega
    ·obtain⟨l,l1,l2⟩:=h.hi j i mm e;exact⟨l,by rw [List.getElem?_append_left (List.getElem?_eq_some_iff.1 l1).1];exact l1,l2⟩
   ·have vd:∀j i mm,s.hi[j]?=some (some (i,mm))->i<s.hb.length:=fun j i mm e=>by obtain⟨l,l1,_⟩:=h.hi j i mm e;exact(List.getElem?_eq_some_iff.1 l1).1
    rcases cA hj with⟨e0,e,_⟩|⟨_,e⟩<;>rcases cA hj' with⟨e0',e',_⟩|⟨_,e'⟩
    ·omega
    ·cases e;have:=vd _ _ _ e';omega
    ·cases e';have:=vd _ _ _ e;omega
    ·exact h.inj j j' i mm mm' e e'
   ·by_cases hi:i<s.hb.length
    ·simp only [List.getElem?_append_left hi]at hl;have:=h.oG i l hl;omega
    ·rw [List.getElem?_append_right (by omega)]at hl;have:l=[s.stt w.b w.c]:=by
      cases hd:i - s.hb.length with
      | zero=>rw [hd]at hl;simpa using hl.symm
      | succ x=>rw [hd]at hl;simp at hl
     subst this;simp
   ·rcases vP p' j hj with⟨rfl,rfl⟩|⟨v9,hj⟩
    ·exact .inr (.inr ⟨by simp only [hm];omega,by simp only [hm];exact ajM,Af.1,Af.2,s.hb.length,1,by simp [RN]⟩)
    ·rcases h.pa j p' hj with h1|h1|⟨h1,h2,h3,h4,i,mm,h5⟩
     ·exact .inl h1
     ·exact .inr (.inl h1)
     ·exact .inr (.inr ⟨h1,h2,h3,h4,i,mm,by rw [List.getElem?_set_ne (Ne.symm v9)];exact h5⟩)
  | some x=>
   obtain⟨i0,m0⟩:=x;simp only [Int.toNat_natCast];obtain⟨l0,y1,y2,y3,y4⟩:=h.hi k i0 m0 ho;have EV:s.hb.getD i0 []=l0:=(by simp [List.getD,y1]);have Ww:i0<s.hb.length:=(List.getElem?_eq_some_iff.1 y1).1;rw [EV];have zd:=h.oG i0 l0 y1;refine⟨h.rg,h.val,by simp [h.XI],fun j p' hj=>?_,h.aX,h.fl,by simp [h.wk],by simp [h.tf],fun j i mm hj=>?_,fun j j' i mm mm' hj hj'=>?_,fun hc=>by simp at hc,by have:=h.ry;simp;omega,fun i l hl=>?_,fun j p' hj=>?_⟩
   ·rcases vP p' j hj with⟨rfl,rfl⟩|⟨_,hj⟩
    ·exact h.pk j p hp
    ·exact h.pk j p' hj
   ·rcases cA hj with⟨_,e,_⟩|⟨v9,e⟩
    ·cases e;refine⟨l0++[s.stt w.b w.c],by simp [Ww],by simp [y2],by omega,fun t ht=>?_⟩;rcases List.mem_append.1 ht with ht|ht
     ·exact y4 t ht
     ·simp only [List.mem_singleton]at ht;subst ht;rw [ajN,hm];omega
    ·obtain⟨l,l1,l2⟩:=h.hi j i mm e;have z7:i0≠i:=by rintro rfl;exact v9 (h.inj j k i0 mm m0 e ho)
     exact⟨l,by simp only [List.getElem?_set_ne z7];exact l1,l2⟩
   ·rcases cA hj with⟨e0,e,_⟩|⟨v9,e⟩<;>rcases cA hj' with⟨e0',e',_⟩|⟨ad4,e'⟩
    ·omega
    ·cases e;exact absurd (h.inj j' k _ _ _ e' ho) ad4
    ·cases e';exact absurd (h.inj j k _ _ _ e ho) v9
    ·exact h.inj j j' i mm mm' e e'
   ·rcases cA hl with⟨_,e,_⟩|⟨_,e⟩
    ·subst e;simp;omega
    ·have:=h.oG i l e;omega
   ·rcases vP p' j hj with⟨rfl,rfl⟩|⟨v9,hj⟩
    ·exact .inr (.inr ⟨by simp only [hm];omega,by simp only [hm];exact ajM,Af.1,Af.2,i0,m0+1,by simp [RN]⟩)
    ·rcases h.pa j p' hj with h1|h1|⟨h1,h2,h3,h4,i,mm,h5⟩
     ·exact .inl h1
     ·exact .inr (.inl h1)
     ·exact .inr (.inr ⟨h1,h2,h3,h4,i,mm,by rw [List.getElem?_set_ne (Ne.symm v9)];exact h5⟩)
 by_cases k5:w.kind=5
 ·have hf:s.iO w.a w.b=true:=by have:=hw;simp only [HG.eu,k5,Int.reduceEq,if_false,if_true,Bool.and_eq_true]at this;exact this.2
  simp only [HG.lJ,k5,Int.reduceEq,if_false,if_true];simp only [HG.iO,Bool.and_eq_true]at hf;obtain⟨k,hk,td⟩:=vy _ hf.1;rw [hk];refine h.Za rfl (by simp [HG.yK]) (Dl fun p hp=>?_) rfl rfl rfl rfl rfl rfl;have hg:s.ps.getD (k:Int).toNat default=p:=by simpa [List.getD]using congrArg (Option.getD · default) hp
  rw [hg];exact⟨⟨rfl,rfl,rfl,by simp⟩,.inl ⟨rfl,rfl⟩⟩
 by_cases k3:w.kind=3
 ·have hf:s.lI w.a=true:=by have:=hw;simp only [HG.eu,k3,Int.reduceEq,if_false,if_true,Bool.and_eq_true]at this;exact this.2
  simp only [HG.lJ,k3,Int.reduceEq,if_false,if_true];refine h.o7 rfl (by simp [HG.uV,HG.put,HG.ET]) (Dl fun p hp=>?_) rfl rfl rfl rfl (by simp [HG.uV,HG.put,HG.ET]) (fun i l hl=>?_) (fun hc=>hc)
  ·have hg:s.ps.getD w.a.toNat default=p:=(by simpa [List.getD]using congrArg (Option.getD · default) hp);rw [hg];exact⟨⟨rfl,rfl,rfl,rfl⟩,.inr (.inl ⟨rfl,rfl⟩)⟩
  ·show ∃l',(s.hb.set (s.M8 w.a) (Fh s.fl s.wk (s.hb.getD (s.M8 w.a) [])))[i]?=some l'/\_;by_cases e:s.M8 w.a=i
   ·subst e;have vd:=(List.getElem?_eq_some_iff.1 hl).1;have hg:s.hb.getD (s.M8 w.a) []=l:=(by simp [List.getD,hl]);exact⟨Fh s.fl s.wk l,by rw [hg];simp [vd],TM _ _ _,Dk⟩
   ·exact⟨l,by rw [List.getElem?_set_ne e];exact hl,rfl,fun t ht=>⟨t,ht,rfl⟩⟩
 by_cases k4:w.kind=4
 ·simp only [HG.lJ,k4,Int.reduceEq,if_false,if_true];exact h.Za rfl rfl (fun k p' hp'=>⟨p',hp',PS.Y8.refl _,.inl ⟨rfl,rfl⟩⟩) (by simp [HG.xx]) rfl rfl rfl rfl rfl
 by_cases k6:w.kind=6
 ·simp only [HG.lJ,k6,Int.reduceEq,if_false,if_true];refine h.Za rfl (by simp [HG.put]) (Dl fun p hp=>?_) rfl rfl rfl rfl rfl rfl;have hg:s.ps.getD w.a.toNat default=p:=by simpa [List.getD]using congrArg (Option.getD · default) hp
  rw [hg];exact⟨⟨rfl,rfl,rfl,rfl⟩,.inr (.inr ⟨rfl,rfl⟩)⟩
 ·simp [HG.eu,k1,k2,k5,k3,k4,k6]at hw
end Go.Sx
end
section
namespace Go.Sx
open Go.Proofs
attribute [local simp] ri aa ints
attribute [local irreducible] bA
attribute [local simp] aG
theorem TN(s:HG)(w:Wk):(s.after w).wk=s.wk:=by
 unfold HG.after;split
 ·unfold HG.lJ;repeat' split
  all_goals first|rfl|(unfold HG.pN;split<;>rfl)
 ·rfl
def rB(r:aZ)(l:List Wk):Nat->HG
 | 0=>HG.new r
 | k+1=>(rB r l k).step (l.getD k default)
def jh(r:aZ)(l:List Wk)(k:Nat):Bool:=(rB r l k).eu (l.getD k default)
theorem tA{r:aZ}{l:List Wk}(hv:r.valid=true):∀k:Nat,k<=1000000->(∀j,j<k->jh r l j=true)->(rB r l k).Inv r k
 | 0,_,_=>HG.Inv.new hv
 | k+1,hk,h=>(tA hv k (by omega) fun j hj=>h j (by omega)).step (by omega) (h k (by omega))
def rC(r:aZ)(l:List Wk):Int:=eB (List.range l.length) fun j=>!jh r l j
theorem yR{r:aZ}{l:List Wk}{k:Nat}(hk:k<l.length)(h:jh r l k=false)(v0:∀j,j<k->jh r l j=true):rC r l=k:=
 cW _ _ (by simpa using hk) (by simpa using h) fun j _ hj=>by simpa using v0 j hj
theorem r6{r:aZ}{l:List Wk}(v0:∀j,j<l.length->jh r l j=true):rC r l = -1:=
 bP _ _ fun j hj=>by simpa using v0 j (by simpa using hj)
def jA(r:aZ)(l:List Wk):Int:=if r.valid=true then (if l.length<=200 then (if rC r l<0 then 0 else 91)else 2)else 90
def D4(r:aZ)(l:List Wk):Int:=if r.valid=true then (if l.length<=200 then (if rC r l<0 then 0 else rC r l)else 0)else 0
def sP(r:aZ)(l:List Wk):HG:=rB r l l.length
structure RL where
 r:aZ
 l:List Wk
 deriving Inhabited
@[simp] def rlE(d:RL):List V:=[.agg d.r.row,.sl 4 (d.l.map Wk.row)]
theorem Zb(a b:RL)(h:rlE a=rlE b):a=b:=by obtain⟨r,l⟩:=a;obtain⟨r',l'⟩:=b;simp only [rlE,List.cons.injEq,V.agg.injEq,V.sl.injEq,true_and,and_true]at h;rw [aZ.aq _ _ h.1,map_inj Wk.aq h.2]
theorem gr(r:aZ)(l:List Wk):aY rlE [.agg r.row,.sl 4 (l.map Wk.row)]=⟨r,l⟩:=aA Zb ⟨r,l⟩
theorem fZ(r:aZ)(l:List Wk):aY rlE [.agg [.sl 3 (r.kinds.map Kd.row),.sl 4 (r.parts.map Pt.row),.int .i64 r.ax,.sl 2 (r.az.map Od.row)],.sl 4 (l.map Wk.row)]=⟨r,l⟩:=gr r l
def RL.oW(d:RL):Prop:=d.r.kinds.length<=9223372036854775807/\d.r.parts.length<=9223372036854775807/\d.r.az.length<=9223372036854775807/\d.l.length<=9223372036854775807
noncomputable abbrev JG:aB:=bS rlE RL.oW fun d=>.dB [if jA d.r d.l=0 then (sP d.r d.l).i.v else .lg,.int .i64 (D4 d.r d.l),.int .i64 (jA d.r d.l)]
theorem TP(s:HG)(w:Wk)(h:Hp):doS.go [.bG 14119 0 1 0 0,.agg [.int .i64 w.kind,.int .i64 w.a,.int .i64 w.b,.int .i64 w.c]] (Ob dh s h)=⟨s.Ok/\Blank om (Ob dh s h),.bool (s.eu w),Ob dh (s.after w) (ec om 1 (Ob dh s h))⟩:=aiq s w h
theorem jD(r:aZ):aY Aq [.agg [.sl 3 (r.kinds.map Kd.row),.sl 4 (r.parts.map Pt.row),.int .i64 r.ax,.sl 2 (r.az.map Od.row)]]=r:=Fg r
theorem Zc(r:aZ)(h:Hp):Ih.go [.agg [.sl 3 (r.kinds.map Kd.row),.sl 4 (r.parts.map Pt.row),.int .i64 r.ax,.sl 2 (r.az.map Od.row)]] h=⟨r.Small/\Ff h/\Blank lK h,.bG 14119 0 1 0 0,Ob dh (HG.new r) (ec lK 1000000 h)⟩:=Sd r h
@[simp] theorem ad5(h:Hp):av h .lg=(True,.lg):=rfl
theorem pS{r:aZ}(h:r.valid=true):r.Small:=by obtain⟨v1,v2,v3,v4,v5,_⟩:=cF h;exact⟨by omega,by omega,by omega,by omega,by omega⟩
noncomputable abbrev E77:=EV [(140,.pure IC),(141,.heap Ih),(142,.heap doS)] [] 7700 38
theorem b77:af E77 [] Tryz.f77 JG:=pb <| by
 rintro⟨r,l⟩ ⟨b1,b2,b3,b4⟩;simp only at b1 b2 b3 b4;cases c1:r.valid
 ·have hE:jA r l=90:=by simp [jA,c1]
  have hA:D4 r l=0:=by simp [D4,c1]
  simp -dsimp [Tryz.f77,E77,aZ.row,-ak,-av];repeat' first|omega|simp -dsimp [E77,-ak,-av,b1,b2,b3,jD,aZ.row,c1,hE,hA]|apply aI|apply nI|intro
 by_cases c2:l.length<=200
 case neg=>
  have hE:jA r l=2:=by simp [jA,c1,c2]
  have hA:D4 r l=0:=by simp [D4,c1,c2]
  have HC:(200:Int)<l.length:=by omega
  simp -dsimp [Tryz.f77,E77,aZ.row,-ak,-av];repeat' first|omega|simp -dsimp [E77,-ak,-av,b1,b2,b3,jD,aZ.row,c1,HC,hE,hA]|apply aI|apply nI|intro
 have HC:¬ (200:Int)<l.length:=by omega
 have kX:∀S:Site,Ff (hps [(7702,S)] cg):=by intro S k hk;simp only [hkeys,List.mem_cons,List.not_mem_nil,or_false]at hk;rcases hk with rfl|rfl|rfl|rfl|rfl|rfl|rfl|rfl|rfl<;>simp
 have iq:∀S:Site,Blank lK (hps [(7702,S)] cg):=by intro S k hk;simp only [lK,List.mem_cons,List.not_mem_nil,or_false]at hk;rcases hk with rfl|rfl|rfl<;>simp
 have ow:=pS c1;simp -dsimp [Tryz.f77,E77,aZ.row,-ak,-av];repeat' first|omega|simp -dsimp [E77,-ak,-av,b1,b2,b3,jD,aZ.row,c1,HC,Zc,ow,kX,iq,ec]|apply aI|apply nI|intro
 refine ay [20,21,22,23,8,7,24,25,26,27,28,4,5,6,29,30,31,32,33,34,35,36,19] (fun k:{k:Nat // k<=l.length/\∀j,j<k->jh r l j=true}=>[(4,(true,.bG 14119 0 1 0 0)),(5,(true,.int .i64 0)),(6,(true,.int .i64 0)),(19,(true,.int .i64 (k.1:Nat)))])
  (fun k=>Ob dh (rB r l k.1) (hps [(7708,{base:=k.1,ah:=[]}),(14203,{base:=k.1,ah:=[]}),(20210,{base:=k.1,ah:=[]}),(7702,{base:=1,ah:=[]}),(14101,{base:=1000000,ah:=[]}),(14105,{base:=1000000,ah:=[]}),(14144,{base:=1000000,ah:=[]})] cg)) (fun k=>l.length - k.1) ⟨0,by omega,fun j hj=>by omega⟩ ?_ ?_ ?_
 ·simp [aj,aT]
 ·exact(by(try simp -dsimp only [aV,aG,List.cons_append,List.nil_append,bq]);refine cu ?_;simp -dsimp [aC]<;>exact rz)
 rintro⟨k,hk,v0⟩;simp only;have hI:=tA (l:=l) c1 k (by omega) v0;have vX:=hI.ok (by omega);by_cases aH:k<l.length
 ·have vW:(k:Int)<l.length:=by omega
  have wk:=wx k;obtain⟨w,hw,hw'⟩:=aM aH;have hg:l.getD k default=w:=by simp [List.getD,hw]
  have hok:jh r l k=(rB r l k).eu w:=by simp only [jh,hg]
  have vx:rB r l (k+1)={(rB r l k).after w with wk:=IntKind.wrap .i64 (((rB r l k).after w).wk+1)}:=by simp only [rB,hg,HG.step,eZ,TN]
  generalize hS:rB r l k=S at *;have ry:∀(S:HG) (X:Site) (a b:Nat),Blank om (Ob dh S (hps [(7708,X),(14203,{base:=a,ah:=[]}),(20210,{base:=b,ah:=[]}),(7702,{base:=1,ah:=[]}),(14101,{base:=1000000,ah:=[]}),(14105,{base:=1000000,ah:=[]}),(14144,{base:=1000000,ah:=[]})] cg)):=by intro S X a b k hk;simp only [om,List.mem_cons,List.not_mem_nil,or_false]at hk;rcases hk with rfl|rfl<;>simp
  cases hd:S.eu w
  ·have vs:rC r l=k:=yR aH (by rw [hok,hd]) v0;have hE:jA r l=91:=(by simp [jA,c1,c2,vs]<;>omega);have hA:D4 r l=k:=(by simp [D4,c1,c2,vs]<;>omega);simp -dsimp [vW,-ak,-av];repeat' first|omega|simp -dsimp [E77,-ak,-av,vW,aH,hw,hw',Wk.row,TP,vX,ry,ec,cN,hd,hE,hA]|apply aI|apply nI|intro
  ·have vV:∀j,j<k+1->jh r l j=true:=fun j hj=>by
    by_cases e:j=k
    ·subst e;rw [hok,hd]
    ·exact v0 j (by omega)
   generalize hS':S.after w=S' at *;have z4:=fun h=>ame (s:=S') (h:=h) (IntKind.wrap .i64 (S'.wk+1));rw [<-vx]at z4;simp -dsimp [vW,-ak,-av];repeat' first|omega|simp -dsimp [E77,-ak,-av,vW,aH,hw,hw',Wk.row,TP,vX,ry,ec,cN,hd,hS',z4,wk]|apply aI|apply nI|intro
   refine⟨k+1,ag rfl ?_,(by(try simp -dsimp only [aV,aG,List.cons_append,List.nil_append,bq]);refine cu ?_;simp -dsimp [aC]<;>exact rz),⟨by omega,vV⟩,by omega⟩;simp [aj,aT]
 ·have z5:¬ (k:Int)<l.length:=by omega
  have z8:k=l.length:=by omega
  subst z8;have vs:rC r l = -1:=r6 v0;have hE:jA r l=0:=by simp [jA,c1,c2,vs]
  have hA:D4 r l=0:=by simp [D4,c1,c2,vs]
  have z9:=vX.hok;simp -dsimp [z5,-ak,-av];repeat' first|omega|simp -dsimp [E77,-ak,-av,z5,hE,hA,sP,z9,HI.v]|apply aI|apply nI|intro
theorem Yf:FO 77 JG:=pf b77 (.cons aiL (.cons aiN (.cons Tp .nil)))
theorem qz{r:aZ}{l:List Wk}(h:jA r l=0):r.valid=true/\l.length<=200/\(∀j,j<l.length->jh r l j=true)/\(sP r l).Inv r l.length:=by
 unfold jA at h;split at h
 ·rename_i h1;split at h
  ·rename_i h2;split at h
   ·rename_i h3;have:∀j,j<l.length->jh r l j=true:=by
     intro j hj;have hz:=cO (List.range l.length) fun j=>!jh r l j;have e:decide (0<=eB (List.range l.length) fun j=>!jh r l j)=false:=by have:eB (List.range l.length) (fun j=>!jh r l j)=rC r l:=rfl;rw [this];simp;omega
     rw [e]at hz;have:=List.any_eq_false.1 hz.symm j (by simpa using hj);simpa using this
    exact⟨h1,h2,this,tA h1 _ (by omega) this⟩
   ·omega
  ·omega
 ·omega
theorem Ij{r:aZ}{l:List Wk}(h:jA r l=0):(sP r l).Ok:=(qz h).2.2.2.ok (by have:=(qz h).2.1;omega)
noncomputable abbrev mc:aB:=bS rlE RL.oW fun d=>.dB [.int .i64 (D4 d.r d.l),.int .i64 (jA d.r d.l)]
def OZ{α:Type}(f:α->List V)(l:List α)(k:Nat):List (List V):=(l.take k).map f
@[simp] theorem ajO{α:Type}(f:α->List V)(l:List α):OZ f l 0=[]:=rfl
theorem Rx{α:Type}(f:α->List V){l:List α}{k:Nat}{x:α}(h:l[k]?=some x):OZ f l (k+1)=OZ f l k++[f x]:=by simp [OZ,List.take_add_one,h]
theorem Kx{α:Type}(f:α->List V){l:List α}{k:Nat}(h:k<=l.length):(OZ f l k).length=k:=by simp [OZ];omega
theorem Ky{α:Type}(f:α->List V)(l:List α):OZ f l l.length=l.map f:=by simp [OZ]
structure RLN where
 r:aZ
 l:List Wk
 n:Int
 deriving Inhabited
@[simp] def rnE(d:RLN):List V:=[.agg d.r.row,.sl 4 (d.l.map Wk.row),.int .i64 d.n]
theorem Zd(a b:RLN)(h:rnE a=rnE b):a=b:=by obtain⟨r,l,n⟩:=a;obtain⟨r',l',n'⟩:=b;simp only [rnE,List.cons.injEq,V.agg.injEq,V.sl.injEq,V.int.injEq,true_and,and_true]at h;rw [aZ.aq _ _ h.1,map_inj Wk.aq h.2.1,h.2.2]
theorem yS(r:aZ)(l:List Wk)(n:Int):aY rnE [.agg [.sl 3 (r.kinds.map Kd.row),.sl 4 (r.parts.map Pt.row),.int .i64 r.ax,.sl 2 (r.az.map Od.row)],.sl 4 (l.map Wk.row),.int .i64 n]=⟨r,l,n⟩:=aA Zd ⟨r,l,n⟩
def RLN.oW(d:RLN):Prop:=RL.oW ⟨d.r,d.l⟩
structure LR where
 h:Int
 c:Int
 e:Int
def ji(r:aZ)(l:List Wk)(m:Int):Int:=if jA r l=0 then (if (sP r l).i.machine m=true then 0 else 1)else jA r l
structure RLM where
 r:aZ
 l:List Wk
 m:Int
 c:Int
 deriving Inhabited
@[simp] def rmE(d:RLM):List V:=[.agg d.r.row,.sl 4 (d.l.map Wk.row),.int .i64 d.m,.int .i64 d.c]
theorem YU(a b:RLM)(h:rmE a=rmE b):a=b:=by obtain⟨r,l,m,c⟩:=a;obtain⟨r',l',m',c'⟩:=b;simp only [rmE,List.cons.injEq,V.agg.injEq,V.sl.injEq,V.int.injEq,true_and,and_true]at h;rw [aZ.aq _ _ h.1,map_inj Wk.aq h.2.1,h.2.2.1,h.2.2.2]
def RLM.oW(d:RLM):Prop:=RL.oW ⟨d.r,d.l⟩
def dR(r:aZ)(l:List Wk)(m c:Int):Int:=if jA r l=0 then (if ((sP r l).i.machine m && au c 0 100)=true then (if (sP r l).i.cE m c<0 then 3 else 0)else 1)else jA r l
def de(r:aZ)(l:List Wk)(m c:Int):Int:=if dR r l m c=0 then (sP r l).i.cE m c else 0
noncomputable abbrev rS:aB:=bS rmE RLM.oW fun d=>.dB [.int .i64 (de d.r d.l d.m d.c),.int .i64 (dR d.r d.l d.m d.c)]
noncomputable abbrev E33:=EV [(77,.pure JG),(78,.pure oL),(79,.pure bF),(80,.pure tE)] [] 3300 40
theorem b33:af E33 [] Tryz.f33 rS:=pb <| by
 rintro⟨r,l,m,c⟩ va;have va:RL.oW ⟨r,l⟩:=va;by_cases hE:jA r l=0
 case neg=>
  have hR:dR r l m c=jA r l:=by simp [dR,hE]
  have wN:de r l m c=0:=by simp [de,hR,hE]
  simp -dsimp [Tryz.f33,E33,aZ.row];repeat' first|omega|simp -dsimp [E33,fZ,aZ.row,va,hE,hR,wN]|apply aI|apply nI|intro
 have ow:=(Ij hE).small;have z0:∀p∈(sP r l).i.ps,(sP r l).i.Fit p:=(Ij hE).fit;cases hp:(sP r l).i.machine m
 ·have hR:dR r l m c=1:=by simp [dR,hE,hp]
  have wN:de r l m c=0:=by simp [de,hR]
  generalize hs:sP r l=s at *;simp -dsimp [Tryz.f33,E33,aZ.row];repeat' first|omega|simp -dsimp [E33,fZ,aZ.row,va,hE,hs,HI.v,bJ,hp,hR,wN]|apply aI|apply nI|intro
 cases hq:au c 0 100
 ·have hR:dR r l m c=1:=by simp [dR,hE,hp,hq]
  have wN:de r l m c=0:=by simp [de,hR]
  generalize hs:sP r l=s at *;simp -dsimp [Tryz.f33,E33,aZ.row];repeat' first|omega|simp -dsimp [E33,fZ,aZ.row,va,hE,hs,HI.v,bJ,hp,hq,hR,wN]|apply aI|apply nI|intro
 by_cases hn:(sP r l).i.cE m c<0
 ·have hR:dR r l m c=3:=by simp [dR,hE,hp,hq,hn]
  have wN:de r l m c=0:=by simp [de,hR]
  generalize hs:sP r l=s at *;simp -dsimp [Tryz.f33,E33,aZ.row];repeat' first|omega|simp -dsimp [E33,fZ,aZ.row,va,hE,hs,HI.v,bJ,tD,ow,z0,hp,hq,hn,hR,wN]|apply aI|apply nI|intro
 ·have hR:dR r l m c=0:=by simp [dR,hE,hp,hq,hn]
  have wN:de r l m c=(sP r l).i.cE m c:=by simp [de,hR]
  generalize hs:sP r l=s at *;simp -dsimp [Tryz.f33,E33,aZ.row];repeat' first|omega|simp -dsimp [E33,fZ,aZ.row,va,hE,hs,HI.v,bJ,tD,ow,z0,hp,hq,hn,hR,wN]|apply aI|apply nI|intro
theorem adh:FO 33 rS:=pf b33 (.cons Yf (.cons alp (.cons aoz (.cons ajP .nil))))
end Go.Sx
end
section
namespace Go.Sx
theorem rD(x:HI)(m c:Int):x.cE m c<=100:=by
 have key:∀(l:List PS) (most:Int),most<=100->x.mu m c l most<=100:=by
  intro l
  induction l with
  | nil=>intro most h;exact h
  | cons p l ih=>
   intro most h;simp only [HI.mu];split
   ·split
    ·omega
    ·exact ih _ (by unfold xR;split<;>omega)
   ·exact ih _ h
 unfold HI.cE;split
 ·exact key _ _ (by omega)
 ·omega
theorem Dm(r:aZ)(l x:List Wk):∀k,k<=l.length->rB r (l++x) k=rB r l k
 | 0,_=>rfl
 | k+1,hk=>by
  have hg:(l++x).getD k default=l.getD k default:=by simp [List.getD,List.getElem?_append_left (by omega:k<l.length)]
  simp only [rB,Dm r l x k (by omega),hg]
theorem TR(r:aZ)(l x:List Wk){k:Nat}(hk:k<l.length):jh r (l++x) k=jh r l k:=by
 have hg:(l++x).getD k default=l.getD k default:=by simp [List.getD,List.getElem?_append_left hk]
 simp only [jh,Dm r l x k (by omega),hg]
theorem ad6{r:aZ}{l:List Wk}(hv:r.valid=true)(hl:l.length<=200)(h:∀j,j<l.length->jh r l j=true):jA r l=0:=by have:=r6 h;simp [jA,hv,hl,this]
theorem Ze{r:aZ}{l:List Wk}(hv:r.valid=true)(hl:l.length<=200){k:Nat}(hk:k<l.length)(h:jh r l k=false)(v0:∀j,j<k->jh r l j=true):jA r l=91:=by have:=yR hk h v0;simp [jA,hv,hl,this]<;>omega
theorem TS{r:aZ}{l:List Wk}(h:jA r l=0)(hl:l.length<200)(w:Wk):jA r (l++[w])=if (sP r l).eu w=true then 0 else 91:=by
 obtain⟨h1,h2,h3,h4⟩:=qz h;have hlen:(l++[w]).length=l.length+1:=by simp
 have hg:(l++[w]).getD l.length default=w:=by simp [List.getD]
 have K7:jh r (l++[w]) l.length=(sP r l).eu w:=by simp only [jh,Dm r l [w] l.length (Nat.le_refl _),hg,sP]
 have z1:∀j,j<l.length->jh r (l++[w]) j=true:=fun j hj=>by rw [TR r l [w] hj];exact h3 j hj
 cases hd:(sP r l).eu w
 ·exact Ze h1 (by omega) (k:=l.length) (by omega) (by rw [K7,hd]) z1
 ·refine ad6 h1 (by omega) fun j hj=>?_;by_cases e:j=l.length
  ·subst e;rw [K7,hd]
  ·exact z1 j (by omega)
theorem aBs(r:aZ)(l:List Wk)(w:Wk):sP r (l++[w])=(sP r l).step w:=by
 have hg:(l++[w]).getD l.length default=w:=by simp [List.getD]
 have hlen:(l++[w]).length=l.length+1:=by simp
 simp only [sP,hlen,rB,hg,Dm r l [w] l.length (Nat.le_refl _)]
theorem ad7(s:HG)(m n c:Int):s.eu ⟨1,m,n,c⟩=s.iN m n c:=by simp [HG.eu]
section
variable {r:aZ} {l:List Wk} {m c:Int}
end
end Go.Sx
end
section
namespace Go.Sx
structure RS where
 used:List (Int × Int)
 cV:List (Int × Int)
 aX:List Bool
 since:List (List Int)
 done:List (List Bool)
 deriving Inhabited
def O0(l:List Bool):V:=.sl 1 (l.map rb)
def kV(l:List (List Int)):V:=if l=[]then .nil else .sl 1 (l.map fun x=>[ints x])
def kL(l:List (List Bool)):V:=if l=[]then .nil else .sl 1 (l.map fun x=>[O0 x])
def RS.row(t:RS):List V:=[.sl 2 (t.used.map bn),.sl 2 (t.cV.map bn),.sl 1 (t.aX.map rb),kV t.since,kL t.done]
theorem NN(a b:List Int)(h:[ints a]=[ints b]):a=b:=jk (by simpa using h)
theorem TU(a b:List Bool)(h:[O0 a]=[O0 b]):a=b:=by simp only [O0,List.cons.injEq,V.sl.injEq,true_and,and_true]at h;exact map_inj uA h
theorem Zf{a b:List (List Int)}(h:kV a=kV b):a=b:=by
 unfold kV at h;split at h<;>split at h
 ·rename_i h1 h2;rw [h1,h2]
 ·cases h
 ·cases h
 ·simp only [V.sl.injEq,true_and]at h;exact map_inj NN h
theorem Zg{a b:List (List Bool)}(h:kL a=kL b):a=b:=by
 unfold kL at h;split at h<;>split at h
 ·rename_i h1 h2;rw [h1,h2]
 ·cases h
 ·cases h
 ·simp only [V.sl.injEq,true_and]at h;exact map_inj TU h
@[simp high] theorem alY(l:List (List Int)):(kV l).len=some l.length:=by
 unfold kV;split
 ·rename_i e;subst e;rfl
 ·simp [V.len]
@[simp high] theorem alZ(l:List (List Bool)):(kL l).len=some l.length:=by
 unfold kL;split
 ·rename_i e;subst e;rfl
 ·simp [V.len]
theorem HL{l:List (List Int)}(h:0<l.length):kV l=.sl 1 (l.map fun x=>[ints x]):=by unfold kV;rw [if_neg];rintro rfl;simp at h
theorem HM{l:List (List Bool)}(h:0<l.length):kL l=.sl 1 (l.map fun x=>[O0 x]):=by unfold kL;rw [if_neg];rintro rfl;simp at h
theorem RS.aq(a b:RS)(h:a.row=b.row):a=b:=by obtain⟨u,w,i,s,d⟩:=a;obtain⟨u',w',i',s',d'⟩:=b;simp only [RS.row,List.cons.injEq,V.sl.injEq,true_and,and_true]at h;obtain⟨h1,h2,h3,h4,h5⟩:=h;rw [FG h1,FG h2,map_inj uA h3,Zf h4,Zg h5]
def RS.pt(t:RS)(r:aZ)(p:Nat):PS:={kind:=(r.parts.getD p default).kind,hours:=(t.used.getD p (0,0)).1,bh:=(t.used.getD p (0,0)).2,known:=(r.parts.getD p default).known,a:=(t.cV.getD p (0,0)).1,b:=(t.cV.getD p (0,0)).2,since:=t.since.map fun l=>l.getD p 0,iV:=t.done.map fun l=>l.getD p false}
def RS.ps(t:RS)(r:aZ):List PS:=(List.range r.parts.length).map (t.pt r)
def RS.hi(t:RS)(r:aZ):HI:={r:=r,ps:=t.ps r,aX:=t.aX,v1:=.top,v2:=.top,v3:=.top}
theorem RS.kz(t:RS)(r:aZ):(t.ps r).length=r.parts.length:=by simp [RS.ps]
theorem RS.nH(t:RS)(r:aZ){p:Nat}(h:p<r.parts.length):(t.ps r)[p]?=some (t.pt r p):=by simp [RS.ps,h]
structure RS.Wf (t:RS) (r:aZ):Prop where
 val:r.valid=true
 used:t.used.length=r.parts.length
 cV:t.cV.length=r.parts.length
 aX:t.aX.length=r.az.length
 since:t.since.length=r.az.length
 done:t.done.length=r.az.length
 kA:∀l∈t.since,l.length=r.parts.length
 oe:∀l∈t.done,l.length=r.parts.length
theorem RS.Wf.small{t:RS}{r:aZ}(h:t.Wf r):(t.hi r).Small:=by obtain⟨v1,v2,v3,v4,v5,v6,_⟩:=cF h.val;exact⟨by show(t.ps r).length<=1000;rw [RS.kz];omega,by show r.kinds.length<=1000;omega,fun kd hk=>by have:=v6 kd hk;omega⟩
theorem RS.Wf.fit{t:RS}{r:aZ}(h:t.Wf r){p:Nat}(hp:p<r.parts.length):(t.hi r).Fit (t.pt r p):=by obtain⟨v1,v2,v3,v4,v5,v6,v7,v8⟩:=cF h.val;have:=v7 _ (mX hp);exact⟨this.1,this.2.1,h.aX,by simp [RS.pt,RS.hi,h.done],by simp [RS.pt,RS.hi,h.since],by show r.az.length<=_;omega⟩
def RS.new(r:aZ):RS:={used:=r.parts.map fun p=>(p.hours,p.bh),cV:=r.parts.map fun _=>(-1,-1),aX:=List.replicate r.az.length false,since:=List.replicate r.az.length (List.replicate r.parts.length 0),done:=List.replicate r.az.length (List.replicate r.parts.length false)}
theorem RS.Wf.new{r:aZ}(h:r.valid=true):(RS.new r).Wf r:=
 ⟨h,by simp [RS.new],by simp [RS.new],by simp [RS.new],by simp [RS.new],by simp [RS.new],fun l hl=>by rw [(List.mem_replicate.1 hl).2];simp,fun l hl=>by rw [(List.mem_replicate.1 hl).2];simp⟩
def oF(k n:Nat):V:=if n=0 then .nil else .bw k 0 n
def MZ(rows:List (List V))(ty:Nat):List dZ:=if rows.length=0 then []else [{z:=1,els:=rows,ty:=ty,cl:=false}]
theorem ei{k n:Nat}(h:0<n):oF k n=.bw k 0 n:=by unfold oF;rw [if_neg (by omega)]
theorem gb{rows:List (List V)}{ty:Nat}(h:0<rows.length):MZ rows ty=[{z:=1,els:=rows,ty:=ty,cl:=false}]:=by unfold MZ;rw [if_neg (by omega)]
def qy(l:List (List Int)):List (List V):=l.mapIdx fun k x=>[.bw 16529 k x.length]
def vQ(l:List (List Bool)):List (List V):=l.mapIdx fun k x=>[.bw 16540 k x.length]
def cpB(l:List (Int × Int)):dZ:={z:=2,els:=l.map bn,ty:=90}
def O1(l:List Int):dZ:={z:=1,els:=l.map ri,ty:=3}
def GS(l:List Bool):dZ:={z:=1,els:=l.map rb,ty:=4}
def iG(t:RS):List (Nat × Site):=
 [(16507,{base:=0,ah:=[cpB t.used]}),(16510,{base:=0,ah:=[cpB t.cV]}),(16513,{base:=0,ah:=[GS t.aX]}),
  (16531,{base:=0,ah:=MZ (qy t.since) 43}),(16529,{base:=0,ah:=t.since.map O1}),(16542,{base:=0,ah:=MZ (vQ t.done) 155}),(16540,{base:=0,ah:=t.done.map GS})]
abbrev cpK:List Nat:=[16507,16510,16513,16531,16529,16542,16540]
theorem gK(t:RS):(iG t).map (·.1)=cpK:=rfl
def cpV(t:RS):V:=.agg [.bw 16507 0 t.used.length,.bw 16510 0 t.cV.length,.bw 16513 0 t.aX.length,oF 16531 t.since.length,oF 16542 t.done.length]
section
variable [aO] (s:RS) (h:Hp)
@[simp] theorem azV:Ob iG s h 16507={base:=0,ah:=[{z:=2,els:=s.used.map bn,ty:=90}]}:=rfl
@[simp] theorem azW:Ob iG s h 16510={base:=0,ah:=[{z:=2,els:=s.cV.map bn,ty:=90}]}:=rfl
@[simp] theorem azX:Ob iG s h 16513={base:=0,ah:=[{z:=1,els:=s.aX.map rb,ty:=4}]}:=rfl
@[simp] theorem ayC:Ob iG s h 16531={base:=0,ah:=MZ (qy s.since) 43}:=rfl
@[simp] theorem azY:Ob iG s h 16529={base:=0,ah:=s.since.map O1}:=rfl
@[simp] theorem ayD:Ob iG s h 16542={base:=0,ah:=MZ (vQ s.done) 155}:=rfl
@[simp] theorem azZ:Ob iG s h 16540={base:=0,ah:=s.done.map GS}:=rfl
@[simp] theorem arR{k:Nat}(hn:cpK.contains k=false):Ob iG s h k=h k:=jO gK hn
@[simp] theorem c_c(s':RS):Ob iG s (Ob iG s' h)=Ob iG s h:=AV gK _ _ _
@[simp] theorem TV(k i:Nat):aL (Ob iG s h) k i=if i<(Ob iG s h k).base then none else (Ob iG s h k).ah[i - (Ob iG s h k).base]?:=rfl
@[simp] theorem al0(k:Nat):hnext (Ob iG s h) k=(Ob iG s h k).base+(Ob iG s h k).ah.length:=rfl
@[simp] theorem al1{k:Nat}(hn:cpK.contains k=false)(B:dZ):bD (Ob iG s h) k B=Ob iG s (bD h k B):=xN gK hn B
theorem bL{k i:Nat}(hn:cpK.contains k=false)(B:dZ):bE (Ob iG s h) k i B=Ob iG s (bE h k i B):=Jz gK hn B
@[simp] theorem aow{k:Nat}{S:Site}{L:List (Nat × Site)}(hn:(((k,S)::L).all fun p=>!cpK.contains p.1)=true):hps ((k,S)::L) (Ob iG s h)=Ob iG s (hps ((k,S)::L) h):=Ch gK hn
end
section kg
variable [aO]
theorem rH{α:Type}{g:V->Prop × V}{f:Nat->α->List V}{f':α->List V}{l:List α}(h:∀k x,l[k]?=some x->cL g (f k x)=(True,f' x)):dc g (l.mapIdx f)=(True,l.map f'):=by
 induction l generalizing f with
 | nil=>rfl
 | cons a r ih=>
  simp only [List.mapIdx_cons,List.map_cons,dc];rw [h 0 a rfl,ih (f:=fun k x=>f (k+1) x) fun k x hk=>h (k+1) x hk];simp
theorem Xz(s:RS)(h:Hp):ak 3 (Ob iG s h) (oF 16531 s.since.length)=(True,kV s.since):=by
 by_cases hn:s.since.length=0
 ·have:s.since=[]:=List.length_eq_zero_iff.1 hn;rw [hn];simp [oF,this,ak,kV]
 ·have h0:¬ s.since=[]:=fun e=>hn (by rw [e];rfl);rw [ei (by omega),HL (by omega)];have hr:dc (ak 2 (Ob iG s h)) (qy s.since)=(True,s.since.map fun l=>[ints l]):=by refine rH fun k x hk=>?_;have e:(s.since.map O1)[k]?=some {z:=1,els:=x.map ri,ty:=3}:=(by rw [List.getElem?_map,hk];rfl);simp [cL,ak,V.leaf,e,bV,ints]
  rw [ak];simp only [TV,ayC,Nat.not_lt_zero,if_false,Nat.sub_zero];rw [gb (by simp [qy];omega)];simp only [List.getElem?_cons_zero,bV,hr];simp [qy]
theorem XB(s:RS)(h:Hp):ak 3 (Ob iG s h) (oF 16542 s.done.length)=(True,kL s.done):=by
 by_cases hn:s.done.length=0
 ·have:s.done=[]:=List.length_eq_zero_iff.1 hn;rw [hn];simp [oF,this,ak,kL]
 ·have h0:¬ s.done=[]:=fun e=>hn (by rw [e];rfl);rw [ei (by omega),HM (by omega)];have hr:dc (ak 2 (Ob iG s h)) (vQ s.done)=(True,s.done.map fun l=>[O0 l]):=by refine rH fun k x hk=>?_;have e:(s.done.map GS)[k]?=some {z:=1,els:=x.map rb,ty:=4}:=(by rw [List.getElem?_map,hk];rfl);simp [cL,ak,V.leaf,e,bV,O0]
  rw [ak];simp only [TV,ayD,Nat.not_lt_zero,if_false,Nat.sub_zero];rw [gb (by simp [vQ];omega)];simp only [List.getElem?_cons_zero,bV,hr];simp [vQ]
theorem aP(k n:Nat):(oF k n).leaf=true:=by unfold oF;split<;>rfl
end kg
end Go.Sx
end
section
namespace Go.Sx
def HI.can(x:HI)(m h c:Int)(p:PS):Bool:=!(p.a == m) || (decide (h<=x.jt p) && decide (c<=x.iL p))
def HI.lF(x:HI)(m h c:Int):Bool:=decide (x.ga m=[]) && x.ps.all (x.can m h c)
section core
variable {x y:HI}
theorem Zh(h a b:Int):h<=xR a b↔h<=a/\h<=b:=by unfold xR;split<;>omega
theorem zj{h:Int}(h0:0<=h)(m c:Int):∀(l:List PS) (most:Int),h<=x.mu m c l most↔h<=most/\l.all (x.can m h c)=true
 | [],most=>by simp [HI.mu]
 | p::l,most=>by
  simp only [HI.mu,List.all_cons,Bool.and_eq_true];by_cases hm:p.a=m
  ·rw [if_pos hm];by_cases hc:x.iL p<c
   ·rw [if_pos hc];have vb:x.can m h c p=false:=by have:¬ c<=x.iL p:=(by omega);simp [HI.can,hm,this]
    rw [vb];simp;omega
   ·rw [if_neg hc,zj h0 m c l,Zh];have vb:x.can m h c p=decide (h<=x.jt p):=by have:c<=x.iL p:=(by omega);simp [HI.can,hm,this]
    rw [vb,decide_eq_true_eq,and_assoc]
  ·rw [if_neg hm,zj h0 m c l];have vb:x.can m h c p=true:=(by simp [HI.can,hm]);rw [vb];simp
theorem mF{h:Int}(h0:0<=h)(h1:h<=100)(m c:Int):decide (h<=x.cE m c)=x.lF m h c:=by
 by_cases hl:x.ga m=[]
 ·simp only [HI.cE,HI.lF,hl,if_true,decide_true,Bool.true_and];have:=zj (x:=x) h0 m c x.ps 100;cases ha:x.ps.all (x.can m h c)
  ·rw [ha]at this;exact decide_eq_false fun hh=>by simpa using (this.1 hh).2
  ·rw [ha]at this;exact decide_eq_true (this.2 ⟨h1,rfl⟩)
 ·simp only [HI.cE,HI.lF,hl,if_false,decide_false,Bool.false_and];simp;omega
end core
theorem getD_set_ne{α:Type}{l:List α}{i j:Nat}{x d:α}(h:i≠j):(l.set i x).getD j d=l.getD j d:=by simp [List.getD,List.getElem?_set_ne h]
theorem jX{α:Type}{l:List α}{i:Nat}{x d:α}(h:i<l.length):(l.set i x).getD i d=x:=by simp [List.getD,h]
def RS.fD(r:aZ)(n:Int):Bool:=au n 0 (cM r.parts.length 1)
end Go.Sx
end
end
