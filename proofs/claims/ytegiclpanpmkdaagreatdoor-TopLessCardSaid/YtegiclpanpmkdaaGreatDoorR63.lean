/- A part of a proof; no conditions. -/
import Derived.Test.YtegiclpanpmkdaaGreatDoorR19
import Derived.Test.YtegiclpanpmkdaaGreatDoorR39
set_option linter.all false
set_option maxRecDepth 100000
set_option maxHeartbeats 8000000
noncomputable section
section
namespace Go.Sx
theorem avj:∀a:List Int,lxB a a=false
 | []=>rfl
 | x::a=>by simp [lxB,avj a]
theorem ax6{f:Fl}{a b:List Sr}(h:V1 f b<V1 f a):ltP f a b=true:=by simp only [ltP,plK,lxB,Bool.or_eq_true,decide_eq_true_eq];left;omega
theorem awt{f:Fl}{a b:List Sr}(h:ltP f a b=false):V1 f a<=V1 f b:=by apply Classical.byContradiction;intro hn;rw [ax6 (by omega)]at h;cases h
def aAv(f:Fl)(q:List Sr):Nat->Int
 | 0=>V1 f q
 | k+1=>aAv f q k+if (q.any fun y=>decide (y.j=k))=true then 0 else (fP f k).val
theorem awa(f:Fl)(q:List Sr):∀k,aAv f q k=V1 f q+asu f q k
 | 0=>by simp [aAv,asu]
 | k+1=>by rw [aAv,asu,awa f q k];omega
theorem Fnd.start(f:Fl)(now:Int)(q r0:List Sr):Fnd f now q r0 (fun _=>False) (if ltP f q r0=true then q else r0):=by
 by_cases h:ltP f q r0=true
 ·rw [if_pos h];refine⟨.inr (.refl q),?_,avj _,fun _ _ h=>h.elim⟩;cases e:ltP f r0 q
  ·rfl
  ·have:=asB h e;rw [avj]at this;cases this
 ·rw [if_neg h];exact⟨.inl rfl,avj _,by simpa using h,fun _ _ h=>h.elim⟩
theorem Fnd.cut{f:Fl}{now:Int}{q r0 r:List Sr}{D:Sr->Prop}(hf:gu f)(h:Fnd f now q r0 D r)(hc:aAv f q f.jobs.length<V1 f r):Top f now q r0 r:=by
 refine⟨h.it,h.old,fun x hx=>?_⟩;have:=hx.val hf;rw [awa]at hc;cases e:ltP f x r
 ·rfl
 ·exfalso;simp only [ltP,plK,lxB,Bool.or_eq_true,Bool.and_eq_true,decide_eq_true_eq]at e;omega
end Go.Sx
end
section
namespace Go.Sx
section
variable (g:List Sr->List Sr->List Sr) (f:Fl) (now:Int) (q:List Sr)
def lpC(j m:Nat)(cs:List (Int × Int))(r:List Sr):Nat->List Sr
 | 0=>r
 | k+1=>if wiB f q (E0 j m (cs.getD k default))=true then g (q++[E0 j m (cs.getD k default)]) (lpC j m cs r k)else lpC j m cs r k
def lpM(j:Nat)(r:List Sr):Nat->List Sr
 | 0=>r
 | m+1=>if ftB f q j m false=true/\now<=(jJ f j m).lv then lpC g f q j m (cwL f q j m) (lpM j r m) (cwL f q j m).length else lpM j r m
def lpJ(r:List Sr):Nat->List Sr
 | 0=>r
 | j+1=>lpM g f now q j (lpJ r j) f.dU.length
end
def E3(f:Fl)(now:Int):Nat->List Sr->List Sr->List Sr
 | 0,_,r=>r
 | M+1,q,r=>if aAv f q f.jobs.length<V1 f (if ltP f q r=true then q else r)then (if ltP f q r=true then q else r)else lpJ (E3 f now M) f now q (if ltP f q r=true then q else r) f.jobs.length
section
variable {f:Fl} {now:Int} {q r0:List Sr} {g:List Sr->List Sr->List Sr} (hg:∀s r,wS f q s false=true->now<=(ew f s).lv->Top f now (q++[s]) r (g (q++[s]) r))
include hg
theorem awb{j m:Nat}(hj:j<f.jobs.length)(hm:m<f.dU.length)(vV:ftB f q j m false=true)(vr:now<=(jJ f j m).lv){D:Sr->Prop}{r:List Sr}(h:Fnd f now q r0 D r):∀{k:Nat},k<=(cwL f q j m).length->Fnd f now q r0 (fun s=>D s\/∃i,i<k/\s=E0 j m ((cwL f q j m).getD i default)) (lpC g f q j m (cwL f q j m) r k)
 | 0,_=>h.mono fun s hs _ _=>by
  rcases hs with hs|⟨i,hi,_⟩
  ·exact hs
  ·omega
 | k+1,hk=>by
  have ih:=awb hj hm vV vr h (k:=k) (by omega);have z0:(cwL f q j m).contains ((cwL f q j m).getD k default)=true:=by rw [List.contains_iff_mem,List.getD_eq_getElem?_getD,List.getElem?_eq_getElem (by omega)];exact List.getElem_mem _
  have va:=atb (f:=f) (q:=q) (c:=(cwL f q j m).getD k default) (any:=false) hj hm;rw [vV,z0,Bool.true_and,Bool.true_and]at va;rw [lpC];by_cases hw:wiB f q (E0 j m ((cwL f q j m).getD k default))=true
  ·rw [if_pos hw];refine(ih.more (va.trans hw) vr (hg _ _ (va.trans hw) vr)).mono fun s hs _ _=>?_;rcases hs with hs|⟨i,hi,hs⟩
   ·exact .inl (.inl hs)
   ·by_cases e:i=k
    ·subst e;exact .inr hs
    ·exact .inl (.inr ⟨i,by omega,hs⟩)
  ·rw [if_neg hw];refine ih.mono fun s hs h1 _=>?_;rcases hs with hs|⟨i,hi,hs⟩
   ·exact .inl hs
   ·by_cases e:i=k
    ·subst e;subst hs;rw [va]at h1;exact absurd h1 hw
    ·exact .inr ⟨i,by omega,hs⟩
theorem awc{j:Nat}(hj:j<f.jobs.length){D:Sr->Prop}{r:List Sr}(h:Fnd f now q r0 D r):∀{m:Nat},m<=f.dU.length->Fnd f now q r0 (fun s=>D s\/(s.j=j/\0<=s.m/\s.m<m)) (lpM g f now q j r m)
 | 0,_=>h.mono fun s hs _ _=>by
  rcases hs with hs|hs
  ·exact hs
  ·omega
 | m+1,hm=>by
  have ih:=awc hj h (m:=m) (by omega);have Wl:∀s:Sr,s.j=j->s.m=m->s=E0 j m (s.c,s.k):=fun s h1 h2=>by cases s;simp at h1 h2;simp [E0,h1,h2]
  rw [lpM];by_cases hc:ftB f q j m false=true/\now<=(jJ f j m).lv
  ·rw [if_pos hc];refine(awb hg hj (by omega) hc.1 hc.2 ih (Nat.le_refl _)).mono fun s hs h1 _=>?_;rcases hs with hs|hs
   ·exact .inl (.inl hs)
   ·by_cases e:s.m=m
    ·right;have e2:=Wl s hs.1 e;rw [e2,atb hj (by omega),Bool.and_eq_true,Bool.and_eq_true,List.contains_iff_mem]at h1;obtain⟨i,hi,z1⟩:=List.getElem_of_mem h1.1.2;refine⟨i,hi,?_⟩;rw [List.getD_eq_getElem?_getD,List.getElem?_eq_getElem hi,z1];exact e2
    ·exact .inl (.inr ⟨hs.1,hs.2.1,by omega⟩)
  ·rw [if_neg hc];refine ih.mono fun s hs h1 h2=>?_;rcases hs with hs|hs
   ·exact .inl hs
   ·by_cases e:s.m=m
    ·exfalso;have e2:=Wl s hs.1 e;rw [e2,atb hj (by omega),Bool.and_eq_true,Bool.and_eq_true]at h1;rw [e2]at h2;exact hc ⟨h1.1.1,h2⟩
    ·exact .inr ⟨hs.1,hs.2.1,by omega⟩
theorem awd{D:Sr->Prop}{r:List Sr}(h:Fnd f now q r0 D r):∀{j:Nat},j<=f.jobs.length->Fnd f now q r0 (fun s=>D s\/(0<=s.j/\s.j<j)) (lpJ g f now q r j)
 | 0,_=>h.mono fun s hs _ _=>by
  rcases hs with hs|hs
  ·exact hs
  ·omega
 | j+1,hj=>by
  have ih:=awd h (j:=j) (by omega);rw [lpJ];refine(awc hg (by omega) ih (Nat.le_refl _)).mono fun s hs h1 _=>?_;have H8:=(vw.1 h1).sr;rcases hs with hs|hs
  ·exact .inl (.inl hs)
  ·by_cases e:s.j=j
   ·exact .inr ⟨e,H8.m.1⟩
   ·exact .inl (.inr (by omega))
end
theorem avo{f:Fl}(hf:gu f){now:Int}:∀{M:Nat} {q r:List Sr},Good f true q->f.jobs.length - q.length<M->Top f now q r (E3 f now M q r)
 | 0,_,_,_,h=>by omega
 | M+1,q,r,hq,hM=>by
  have hs:=Fnd.start f now q r;rw [E3];by_cases hc:aAv f q f.jobs.length<V1 f (if ltP f q r=true then q else r)
  ·rw [if_pos hc];exact hs.cut hf hc
  ·rw [if_neg hc];refine(awd (fun s r' h1 h2=>avo hf (hq.snoc (vw.2 (vw.1 h1).weak)) ?_) hs (Nat.le_refl _)).top fun s h1 _=>.inr (vw.1 h1).sr.j.1;have:=(hq.snoc (vw.2 (vw.1 h1).weak)).atw;simp at this ⊢;omega
end Go.Sx
end
section
namespace Go.Sx
theorem aA8{r:aZ}{l:List Wk}:∀k:Nat,k<=1000000->(∀j,j<k->jh r l j=true)->Snc k (rB r l k)
 | 0,_,_=>Snc.new r
 | k+1,hk,h=>(aA8 k (by omega) fun j hj=>h j (by omega)).step (by omega) (h k (by omega))
theorem aBy{r:aZ}{l:List Wk}(h:jA r l=0):Snc l.length (sP r l):=by obtain⟨h1,h2,h3,_⟩:=qz h;exact aA8 _ (by omega) h3
theorem aBa{a b c d:Int}(h:a<=c)(k:b<=d):xR a b<=xR c d:=by unfold xR;split<;>split<;>omega
section
variable {x y:HI} {m h c:Int} {aX:List Bool}
end
section
variable {r:aZ} {l:List Wk} {w:Wk}
theorem aBb(h:jA r l=0)(hl:l.length<200)(hk:w.kind=1)(h2:jA r (l++[w])=0)(n:Int)(h0:0<=(sP r (l++[w])).i.cE n 0):(sP r (l++[w])).i.cE n 0<=(sP r l).i.cE n 0:=by
 obtain⟨hf,e1,e2,e3⟩:=aAG h hl hk h2;have hI:=(qz h).2.2.2;have hL:=aAP h;have hS:=aBy h;have vP:=(qz h).2.1;obtain⟨v1,v2,v3,v4,v5,v6,v7,v8⟩:=cF hI.val;simp only [HG.iN,Bool.and_eq_true,decide_eq_true_eq]at hf;obtain⟨f1,f2,f3,f4⟩:=hf;simp only [au,decide_eq_true_eq]at f2 f3;have hle:=rD (sP r (l++[w])).i n 0;have hps:(sP r l).i.ps=(sP r l).ps:=rfl;have vb:(sP r l).i.r=r:=hI.rg;have Ww:(sP r l).i.aX=(sP r l).aX:=rfl;generalize hy:(sP r (l++[w])).i=y at *;have v0:=mF (x:=y) h0 hle n 0;rw [decide_eq_true (Int.le_refl _)]at v0;have vW:=mF (x:=(sP r l).i) h0 hle n 0;have vy:(sP r l).i.lF n (y.cE n 0) 0=true:=by
  have v0:=v0.symm;simp only [HI.lF,Bool.and_eq_true,decide_eq_true_eq]at v0 ⊢;refine⟨by rw [<-aAJ e1 e3];exact v0.1,List.all_eq_true.2 fun p hp=>?_⟩;have h4:=List.all_eq_true.1 v0.2 (kB (sP r l).aX w.a w.b w.c p) (by rw [e3];exact List.mem_map_of_mem hp);have ha:(kB (sP r l).aX w.a w.b w.c p).a=p.a:=by unfold kB;split<;>rfl
  unfold HI.can at h4 ⊢;rw [ha]at h4;by_cases vX:p.a=n
  case neg=>simp [vX]
  simp only [vX,beq_self_eq_true,Bool.not_true,Bool.false_or,Bool.and_eq_true,decide_eq_true_eq]at h4 ⊢;obtain⟨k,aH,z2⟩:=List.getElem_of_mem hp;have vs:(sP r l).ps[k]?=some p:=by rw [<-hps,<-z2];exact List.getElem?_eq_getElem aH
  have vd:=hL k p vs;have vx:=hS k p vs;have td:k<r.parts.length:=by rw [<-hI.XI,<-hps];exact aH
  obtain⟨p1,_⟩:=hI.pk k p vs;have z5:=v7 _ (mX td);have z3:(r.parts.getD k default).kind.toNat<r.kinds.length:=by omega
  have z6:=v6 _ (mX z3);have wZ:∀a b:Int,imax a b=a\/imax a b=b:=fun a b=>by unfold imax;split<;>omega
  have g1:=vd.h0;have g2:=vd.h1;have g3:=vd.c0;have g4:=vd.c1;rcases wZ (r.kinds.getD (r.parts.getD k default).kind.toNat default).hours (r.parts.getD k default).hours with m1|m1<;>rcases wZ (r.kinds.getD (r.parts.getD k default).kind.toNat default).bh (r.parts.getD k default).bh with m2|m2
  all_goals
   have hT:∀i,y.fe (kB (sP r l).aX w.a w.b w.c p) i<=(sP r l).i.fe p i:=fun i=>by
    rw [aAw e1 e2];unfold kB;split
    case isFalse=>exact Int.le_refl _
    induction i with
    | zero=>
     have e:∀q:PS,(sP r l).i.fe q 0=cM (r.kinds.getD q.kind.toNat default).hours q.hours:=fun q=>
      (show(sP r l).i.fe q 0=cM ((sP r l).i.r.kinds.getD q.kind.toNat default).hours q.hours from rfl).trans (by rw [vb])
     rw [e,e];simp only [p1];have w1:eZ p.hours w.b=p.hours+w.b:=aK (by omega) (by omega);have w2:cM (r.kinds.getD (r.parts.getD k default).kind.toNat default).hours (p.hours+w.b)=(r.kinds.getD (r.parts.getD k default).kind.toNat default).hours - (p.hours+w.b):=aK (by omega) (by omega);have w3:cM (r.kinds.getD (r.parts.getD k default).kind.toNat default).hours p.hours=(r.kinds.getD (r.parts.getD k default).kind.toNat default).hours - p.hours:=aK (by omega) (by omega);rw [w1,w2,w3];omega
    | succ i ih=>
     have e:∀q:PS,(sP r l).i.fe q (i+1)=if (sP r l).i.Ed q i=true then xR ((sP r l).i.fe q i) (cM (r.az.getD i default).within (q.since.getD i 0))else (sP r l).i.fe q i:=fun q=>
      (show(sP r l).i.fe q (i+1)=if (sP r l).i.Ed q i=true then xR ((sP r l).i.fe q i) (cM ((sP r l).i.r.az.getD i default).within (q.since.getD i 0))else (sP r l).i.fe q i from rfl).trans (by rw [vb])
     rw [e,e];have eI:(sP r l).i.Ed {p with hours:=eZ p.hours w.b,bh:=eZ p.bh w.c,since:=dX (sP r l).aX w.b p.since (sP r l).aX.length} i=(sP r l).i.Ed p i:=rfl;rw [eI];split
     ·refine aBa ih ?_;have z7:=(aAz (aX:=(sP r l).aX) (fun j=>⟨(vx j).1,by have:=(vx j).2;omega⟩) f2 (sP r l).aX.length).1 i;have z8:=vx i;have z9:0<=(r.az.getD i default).within/\(r.az.getD i default).within<=100000:=by
       by_cases ho:i<r.az.length
       ·have:=v8 _ (mX ho);omega
       ·rw [List.getD_eq_getElem?_getD,List.getElem?_eq_none (by omega)];decide
      have w4:cM (r.az.getD i default).within (p.since.getD i 0)=(r.az.getD i default).within - p.since.getD i 0:=aK (by omega) (by omega);have w5:cM (r.az.getD i default).within ((dX (sP r l).aX w.b p.since (sP r l).aX.length).getD i 0)=(r.az.getD i default).within - (dX (sP r l).aX w.b p.since (sP r l).aX.length).getD i 0:=aK (by omega) (by omega);simp only;rw [w4,w5];omega
     ·exact ih
   have hC:y.iL (kB (sP r l).aX w.a w.b w.c p)<=(sP r l).i.iL p:=by
    have e:∀q:PS,y.iL q=cM (r.kinds.getD q.kind.toNat default).bh q.bh:=fun q=>by unfold HI.iL;rw [e1,vb]
    have e':(sP r l).i.iL p=cM (r.kinds.getD p.kind.toNat default).bh p.bh:=
     (show(sP r l).i.iL p=cM ((sP r l).i.r.kinds.getD p.kind.toNat default).bh p.bh from rfl).trans (by rw [vb])
    rw [e,e'];unfold kB;split
    case isFalse=>exact Int.le_refl _
    simp only [p1];have w1:eZ p.bh w.c=p.bh+w.c:=aK (by omega) (by omega);have w2:cM (r.kinds.getD (r.parts.getD k default).kind.toNat default).bh (p.bh+w.c)=(r.kinds.getD (r.parts.getD k default).kind.toNat default).bh - (p.bh+w.c):=aK (by omega) (by omega);have w3:cM (r.kinds.getD (r.parts.getD k default).kind.toNat default).bh p.bh=(r.kinds.getD (r.parts.getD k default).kind.toNat default).bh - p.bh:=aK (by omega) (by omega);rw [w1,w2,w3];omega
   have eo:y.r.az.length=(sP r l).i.r.az.length:=(by rw [e1]);have hT':y.jt (kB (sP r l).aX w.a w.b w.c p)<=(sP r l).i.jt p:=by unfold HI.jt;rw [eo];exact hT _
   omega
 rw [vy]at vW;exact of_decide_eq_true vW
end
section
variable {f:Fl} {w:Wk} (v9:jA f.eH f.ko=0) (hl:f.ko.length<200) (hk:w.kind=1) (h2:jA f.eH (f.ko++[w])=0)
include v9 hl hk h2
theorem aAW(m:Int):(dR f.eH (f.ko++[w]) m 0=0->dR f.eH f.ko m 0=0/\de f.eH (f.ko++[w]) m 0<=de f.eH f.ko m 0)/\(m≠w.a->dR f.eH (f.ko++[w]) m 0=dR f.eH f.ko m 0/\de f.eH (f.ko++[w]) m 0=de f.eH f.ko m 0):=by
 obtain⟨hf,e1,e2,e3⟩:=aAG v9 hl hk h2;have hm:(sP f.eH (f.ko++[w])).i.machine m=(sP f.eH f.ko).i.machine m:=by unfold HI.machine;rw [e1]
 have eE:∀l',jA f.eH l'=0->dR f.eH l' m 0=if ((sP f.eH l').i.machine m && au 0 0 100)=true then (if (sP f.eH l').i.cE m 0<0 then 3 else 0)else 1:=fun l' h=>by unfold dR;rw [if_pos h]
 constructor
 ·intro h;obtain⟨_,g2,g3,g4,g5⟩:=uI h;have hle:=aBb v9 hl hk h2 m g4;have h0:dR f.eH f.ko m 0=0:=by rw [eE _ v9,<-hm,g2,g3,Bool.true_and,if_pos rfl,if_neg (by omega)]
  refine⟨h0,?_⟩;rw [g5,(uI h0).2.2.2.2];exact hle
 ·intro z4;have hlo:=aAH (x:=(sP f.eH f.ko).i) (y:=(sP f.eH (f.ko++[w])).i) e1 e2 e3 z4 0;have hE:dR f.eH (f.ko++[w]) m 0=dR f.eH f.ko m 0:=by rw [eE _ v9,eE _ h2,hm,hlo]
  refine⟨hE,?_⟩;unfold de;rw [hE,hlo]
theorem aBt(m:Nat):qP (more f w) m<=qP f m:=by
 have h:=(aAW v9 hl hk h2 (m:Int)).1;have e1:qP (more f w) m=if dR f.eH (f.ko++[w]) m 0=0 then de f.eH (f.ko++[w]) m 0 else -1:=rfl;have e2:qP f m=if dR f.eH f.ko m 0=0 then de f.eH f.ko m 0 else -1:=rfl;by_cases c:dR f.eH (f.ko++[w]) m 0=0
 ·obtain⟨h3,h4⟩:=h c;rw [e1,e2,if_pos c,if_pos h3];exact h4
 ·rw [e1,if_neg c];exact(yf m).1
end
theorem aAK(f:Fl)(w:Wk)(m:Int):∀l:List Sr,fA (more f w) m l=fA f m l
 | []=>rfl
 | x::l=>by rw [fA,fA,aAK f w m l];rfl
theorem aAX(f:Fl)(w:Wk)(l:List Sr)(t:Int):∀n:Nat,GX (more f w) l t n=GX f l t n
 | 0=>rfl
 | n+1=>by rw [GX,GX,aAX f w l t n];rfl
theorem aBc(f:Fl)(w:Wk)(l:List Sr):uZ (more f w) l=uZ f l:=by
 have h:∀t,Nt (more f w) l t=Nt f l t:=fun t=>by unfold Nt;rw [aAX];rfl
 unfold uZ;simp only [h];rfl
theorem aAY(f:Fl)(w:Wk):∀l:List Sr,V1 (more f w) l=V1 f l
 | []=>rfl
 | x::l=>by rw [V1,V1,aAY f w l];rfl
theorem Good.less{f:Fl}{w:Wk}{any:Bool}{l:List Sr}(hf:gu f)(hl:f.ko.length<200)(hk:w.kind=1)(h2:jA f.eH (f.ko++[w])=0)(h:Good (more f w) any l):Good f any l:=by
 intro i hi;have hn:=vw.1 (h i hi);have hm:=fun m=>aBt hf.op hl hk h2 m;have hh:=hf.hour;refine vw.2 ⟨hn.th,?_,hn.opn,hn.cl,?_,hn.crw,hn.iV,by rw [<-aBc f w];exact hn.rU⟩
 ·have hc:=hn.can;unfold jR at hc ⊢;simp only [Bool.and_eq_true,decide_eq_true_eq]at hc ⊢;exact⟨hc.1,Int.le_trans hc.2 (hm _)⟩
 ·have ha:=hn.mD;rw [aAK]at ha;exact Int.le_trans ha (Int.mul_le_mul_of_nonneg_right (hm _) (by show 0<=f.hour;omega))
end Go.Sx
end
section
namespace Go.Sx
section
variable {f:Fl} {l:List Sr} {now:Int}
theorem Good.sorted{any:Bool}(h:Good f any l){i k:Nat}(za:i<=k)(hk:k<l.length):(ew f (l.getD i default)).lv<=(ew f (l.getD k default)).lv:=by
 by_cases e:i=k
 ·rw [e];exact Int.le_refl _
 ·exact(On.1 (h.pair (show i<k by omega) hk)).2.2.1
theorem Top.good{q r:List Sr}(hq:Good f false q)(h:Top f now q q r):Good f false r:=by
 rcases h.1 with e|e
 ·rw [e];exact hq
 ·exact e.good hq
theorem awu{any:Bool}{x:List Sr}(hx:Good f false x):Ext f 0 [] x:=by have:=Ext.of (f:=f) (now:=0) (r:=x) (l:=[]) (by simpa using hx) fun y hy=>(hx.sr y hy).lv;simpa using this
theorem au3{b x:List Sr}(h:Top f 0 [] [] b)(hx:Good f false x):ltP f x b=false/\V1 f x<=V1 f b:=by have:=h.2.2 x (awu (any:=false) hx);exact⟨this,awt this⟩
theorem auZ{b:List Sr}(h:Top f 0 [] [] b):Good f false b:=h.good Good.nil
end
end Go.Sx
end
section
namespace Go.Sx
def nz:List Int->Int
 | []=>0
 | x::l=>if x=0 then nz l else x
def aeQ(x y:Sr):Int:=nz [x.j - y.j,x.m - y.m,x.c - y.c,x.k - y.k]
def aAt:List Sr->List Sr->Int
 | [],[]=>0
 | [],_::_=>-1
 | _::_,[]=>1
 | x::a,y::b=>if aeQ x y=0 then aAt a b else aeQ x y
def aAD(f:Fl)(a b:List Sr):Int:=nz [V1 f b - V1 f a,(a.length:Int) - b.length,aAt a b]
theorem axW(x y:Sr)(a b:List Int):lxB (srK x++a) (srK y++b)=(decide (aeQ x y<0) || (decide (aeQ x y=0) && lxB a b)):=by
 simp only [srK,List.cons_append,List.nil_append,lxB,aeQ,nz];by_cases h1:x.j=y.j
 ·by_cases h2:x.m=y.m
  ·by_cases h3:x.c=y.c
   ·by_cases h4:x.k=y.k
    ·simp [h1,h2,h3,h4]
    ·have e:¬ x.k - y.k=0:=(by omega);have e2:(x.k<y.k)=(x.k - y.k<0):=(by rw [eq_iff_iff];omega);simp [h1,h2,h3,h4,e,e2]
   ·have e:¬ x.c - y.c=0:=(by omega);have e2:(x.c<y.c)=(x.c - y.c<0):=(by rw [eq_iff_iff];omega);simp [h1,h2,h3,e,e2]
  ·have e:¬ x.m - y.m=0:=(by omega);have e2:(x.m<y.m)=(x.m - y.m<0):=(by rw [eq_iff_iff];omega);simp [h1,h2,e,e2]
 ·have e:¬ x.j - y.j=0:=by omega
  have e2:(x.j<y.j)=(x.j - y.j<0):=by rw [eq_iff_iff];omega
  simp [h1,e,e2]
theorem avL:∀{a b:List Sr},a.length=b.length->decide (aAt a b<0)=lxB (a.flatMap srK) (b.flatMap srK)
 | [],[],_=>rfl
 | [],_::_,h=>by simp at h
 | _::_,[],h=>by simp at h
 | x::a,y::b,h=>by
  rw [List.flatMap_cons,List.flatMap_cons,axW,<-avL (a:=a) (b:=b) (by simpa using h),aAt];by_cases e:aeQ x y=0
  ·simp [e]
  ·simp [e]
theorem avK(f:Fl)(a b:List Sr):decide (aAD f a b<0)=ltP f a b:=by
 simp only [ltP,plK,lxB,aAD,nz];by_cases h1:V1 f a=V1 f b
 ·by_cases h2:a.length=b.length
  ·rw [<-avL h2];by_cases h3:aAt a b=0
   ·simp [h1,h2,h3]
   ·simp [h1,h2,h3]
  ·have e:¬ ((a.length:Int) - b.length=0):=(by omega);have e1:¬ ((a.length:Int)=b.length):=(by omega);have e2:((a.length:Int)<b.length)=((a.length:Int) - b.length<0):=(by rw [eq_iff_iff];omega);simp only [h1,Int.sub_self,e,e1,e2,if_true,if_false,decide_false,Bool.false_and,Bool.or_false,decide_true,Bool.true_and,Int.lt_irrefl,Bool.false_or]
 ·have e:¬ V1 f b - V1 f a=0:=by omega
  have e1:¬ -V1 f a = -V1 f b:=by omega
  have e2:(-V1 f a < -V1 f b)=(V1 f b - V1 f a<0):=by rw [eq_iff_iff];omega
  simp only [e,e1,e2,if_false,decide_false,Bool.false_and,Bool.or_false]
end Go.Sx
end
end
