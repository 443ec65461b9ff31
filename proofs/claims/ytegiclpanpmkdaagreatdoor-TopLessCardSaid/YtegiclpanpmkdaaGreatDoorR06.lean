/- A part of a proof; no conditions. -/
import Derived.Test.YtegiclpanpmkdaaGreatDoorR05
set_option linter.all false
set_option maxRecDepth 100000
set_option maxHeartbeats 8000000
noncomputable section
section
namespace Go.Sx
open Go.RowKit
variable [aO]
section
variable {F:Fr} {w:World} {A:Nat->Prop} {X:Refs} {h:Hp}
def DU:Exit->Option Ex
 | .normal=>some .normal
 | .exit id=>some (.exit id)
 | .ret=>some .ret
 | _=>none
omit [aO]in
theorem bA.refl(h:Hp):bA h h:=⟨⟨fun _ _ _ hg=>hg,fun _=>Nat.le_refl _⟩,rfl⟩
theorem R.weaken{nt:Nat}{st st':St}{a:Act}{w:World}(hR:R F nt st a w)(hle:ZW st st'):R F nt st' a w:=by
 obtain⟨⟨A,X,hI,ht,v4⟩,hsz⟩:=hR;refine⟨⟨A,X,hI.hle hle.h,fun k=>?_,v4⟩,hsz⟩;rcases hle.t k with h1|h1|⟨x,h1,y,h2,h3⟩
 ·rw [h1];exact⟨fun _=>.pure (.top _),fun hh=>by cases hh⟩
 ·rw [h1];exact ht k
 ·have:=ht k;rw [h1]at this;rw [h2];exact⟨fun _=>sJ h3 (this.1 rfl),fun hh=>by cases hh⟩
theorem R2.weaken{E:Env}{K:Fr->Hp->Prop}{rd:Option Nat}(hK:OW E K rd){nt:Nat}{st st':St}{a:Act}{w:World}(hR:R2 K nt st a w)(hle:ZW st st'):R2 K nt st' a w:=by obtain⟨F,hF,hR⟩:=hR;exact⟨F,hK.ys F _ _ hle.h.2 hF,hR.weaken hle⟩
theorem R2.ghost{E:Env}{K:Fr->Hp->Prop}{rd:Option Nat}(hK:OW E K rd){nt:Nat}{st st':St}(hg:Gh st st'){a:Act}{w:World}:R2 K nt st a w->R2 K nt st' a w:=by
 induction hg with
 | refl st=>exact id
 | nil st st' k key z ty hk hz hy hh ih=>
  intro hR;refine ih ?_;obtain⟨F,hF,⟨A,X,hI,ht,v4⟩,hsz⟩:=hR;obtain⟨X',hX,fB,hv⟩:=hI.Ms key z ty;refine⟨F,hK.ys F _ _ (by simp only [bD];rw [if_neg (Ne.symm hy)]) hF,⟨A,X',fB,fun k'=>?_,v4.carry (.of (bC.refl w A) hX)⟩,hsz⟩;simp only [o7];have h1:=ht k';by_cases e:k'=k
  ·subst e;rw [if_pos rfl];rw [hk]at h1;have h2:=(h1.1 rfl).dY;have hb:=fB.blk key (hnext st.h key) _ (dI st.h key _);refine⟨fun _=>?_,fun hh=>by cases hh⟩;rw [h2];exact .bw key _ 0 none 0 hb.hN (Nat.zero_le _) (fun _=>hv.symm)
  ·rw [if_neg e];exact⟨fun hh=>(h1.1 hh).mono (bC.refl w A) hX,h1.2⟩
theorem R.jQ{nt:Nat}:∀(l:List Nat) {st:St} {a:Act} {w:World},R F nt st a w->(qW l st).1->R F nt (qW l st).2 a w
 | [],st,a,w,hR,_=>hR
 | k::r,st,a,w,hR,hc=>by
  have step:(Az k st).1->R F nt (Az k st).2 a w:=by
   intro h1;obtain⟨⟨A,X,hI,ht,v4⟩,hsz⟩:=hR;have key:∀h',(∃A',bC w A w A'/\Inv F w A' X h')->R F nt {t:=st.t,h:=h'} a w:=by rintro h' ⟨A',hL,fB⟩;exact⟨⟨A',X,fB,fun k=>⟨fun hh=>((ht k).1 hh).mono hL (fH.refl X),(ht k).2⟩,v4.carry (.of hL (fH.refl X))⟩,hsz⟩
   unfold Az at h1 ⊢;by_cases hk:1000000<=k
   ·rw [if_pos hk]at h1 ⊢;clear hk;revert h1;generalize k - 1000000=q;intro h1;unfold ZY at h1 ⊢;cases hq:st.t (q % 1000)with
    | mk g v=>
    rw [hq]at h1;cases v<;>simp only at h1 ⊢<;>try exact h1.elim
    case nil=>exact⟨⟨A,X,hI,ht,v4⟩,hsz⟩
    case sl z els=>exact⟨⟨A,X,hI,ht,v4⟩,hsz⟩
    case emp=>exact⟨⟨A,X,hI,ht,v4⟩,hsz⟩
    case bw s i n=>
     cases hB:aL st.h s i with
     | none=>rw [hB]at h1;exact h1.elim
     | some B=>
      rw [hB]at h1;simp only at h1 ⊢;obtain⟨⟨rfl,yk⟩,c1,c2,c5⟩:=h1;have hu:=(ht (q % 1000)).1 (by rw [hq]);rw [hq]at hu;obtain⟨ad,c,z4,hN,hn',hv⟩:=hu.gp;have hb:=hI.blk s i B hB;have fJ:=hv (by rw [hb.hlen];exact c2);have fE:=hb.real c5;rcases hb.mem with hm|⟨arr,cap,g1,g2,g3,g4,g5,g6,g7,g8⟩
      ·exact absurd hm.2 c5
      rw [g2]at fJ;injection fJ with e1 e2 e3;have yg:(X.D s i).cap=cap:=(by unfold Hd.cap;rw [g2]);obtain⟨X',k1,k2,k3,k4⟩:=hI.Vz hB c1 (q / 1000) (off:=0) (k:=n) (c:=c) (a:=ad) (by omega) (.inr ⟨(X.D s i).o,e1,fE,by rw [yg,e3];exact Nat.le_refl _,by omega,by omega,.inr (by simp)⟩);have mg:({B with els:=(B.els.drop 0).take n}:dZ)=B:=(by rw [List.drop_zero,c2,List.take_length]);rw [mg]at k2;refine⟨⟨A,X',k2,fun j=>?_,v4.carry (.of (bC.refl w A) k1)⟩,hsz⟩;simp only [o7];by_cases hj:j=q % 1000
      ·subst hj;rw [if_pos rfl];refine⟨fun _=>?_,fun hh=>by cases hh⟩;rw [z4];exact k3
      ·rw [if_neg hj];exact⟨fun hh=>((ht j).1 hh).mono (bC.refl w A) k1,(ht j).2⟩
    rename_i s i n off len cap;cases hB:aL st.h s i with
    | none=>rw [hB]at h1;exact h1.elim
    | some B=>
     rw [hB]at h1;simp only at h1 ⊢;obtain⟨⟨rfl,yk⟩,c1,c2,c3,c4,c5⟩:=h1;have hu:=(ht (q % 1000)).1 (by rw [hq]);rw [hq]at hu;obtain⟨ad,c,z4,mK,hN,hn',hv⟩:=hu.gq;have hb:=hI.blk s i B hB;obtain⟨v1,v2⟩:=hv (by rw [hb.hlen];exact c2);have fE:=hb.real c5;obtain⟨X',k1,k2,k3,k4⟩:=hI.Vz hB c1 (q / 1000) (off:=off) (k:=len) (c:=c) (a:=some ad) (by omega) (.inr ⟨(X.D s i).o+off * B.z,by rw [v1,hb.hz],fE,by have:(off+c) * B.z<=(X.D s i).cap * B.z:=Nat.mul_le_mul_right _ v2;rw [Nat.add_mul]at this;omega,by omega,by omega,.inr rfl⟩)
     refine⟨⟨A,X',k2,fun j=>?_,v4.carry (.of (bC.refl w A) k1)⟩,hsz⟩;simp only [o7];by_cases hj:j=q % 1000
     ·subst hj;rw [if_pos rfl];refine⟨fun _=>?_,fun hh=>by cases hh⟩;rw [z4];exact k3
     ·rw [if_neg hj];exact⟨fun hh=>((ht j).1 hh).mono (bC.refl w A) k1,(ht j).2⟩
   rw [if_neg hk]at h1 ⊢;by_cases hk:100000<=k
   ·rw [if_pos hk];exact key _ (hI.Mg _)
   rw [if_neg hk]at h1 ⊢;by_cases hk:50000<=k
   ·rw [if_pos hk]at h1 ⊢;clear hk;revert h1;generalize k - 50000=q;intro h1;simp only [ae1]at h1 ⊢;refine⟨⟨A,X,hI,fun j=>?_,v4⟩,hsz⟩;by_cases hj:j=q
    ·subst hj;simp only [o7,if_true];exact⟨fun hh=>.pure (nh hI 3 _ _ ((ht _).1 hh) h1.1.2 h1.2 (iK h1.1.1)),(ht _).2⟩
    ·simp only [o7,hj,if_false];exact ht j
   ·rw [if_neg hk]at h1 ⊢;cases hv:(st.t k).2<;>rw [hv]at h1<;>simp only [ZX]at h1 ⊢
    case bG s i n e j=>
     cases hB:aL st.h s i with
     | none=>simp [hB]at h1
     | some B=>simp only [];exact key _ (hI.freeze hB)
    case bw s i n=>
     cases hB:aL st.h s i with
     | none=>simp [hB]at h1
     | some B=>simp only [];exact key _ (hI.freeze hB)
    all_goals exact h1.elim
  simp only [qW]at hc ⊢;exact R.jQ r (step hc.1) hc.2
theorem R2.jQ{E:Env}{K:Fr->Hp->Prop}{rd:Option Nat}(hK:OW E K rd){nt:Nat}:∀(l:List Nat) {st:St} {a:Act} {w:World},R2 K nt st a w->(qW l st).1->R2 K nt (qW l st).2 a w
 | [],st,a,w,hR,_=>hR
 | k::r,st,a,w,hR,hc=>by simp only [qW]at hc ⊢;refine R2.jQ hK r ?_ hc.2;obtain⟨F,hF,hR⟩:=hR;refine⟨F,hK.jQ F k st hF hc.1,?_⟩;have:=R.jQ [k] hR (by simp only [qW];exact⟨hc.1,trivial⟩);simpa only [qW]using this
def K1(F0:Fr)(F:Fr)(_:Hp):Prop:=F=F0
theorem K1.ok{E:Env}(hy:E.yl=none)(F0:Fr)(rd:Option Nat)(ym:∀l,rd=some l->¬ F0.M l/\∃r,F0.w0.heap[l]?=some (.loop r)):OW E (K1 F0) rd where
 ys:=fun _ _ _ _ h=>h
 sem:=fun _ _ _ _ _ _ h _=>h
 jQ:=fun _ _ _ h _=>h
 rf:=fun _ _ _ _ h=>h
 rd:=fun l hl F h hF=>by rw [hF];exact ym l hl
 sp:=fun l Y hl=>by rw [hy]at hl;cases hl
theorem R2.k1{F0:Fr}{nt:Nat}{st:St}{a:Act}{w:World}:R2 (K1 F0) nt st a w↔R F0 nt st a w:=
 ⟨fun⟨F,hF,hR⟩=>by rw [hF]at hR;exact hR,fun h=>⟨F0,rfl,h⟩⟩
omit [aO]in
theorem GD{w:World}{A:Nat->Prop}{X:Refs}{nt:Nat}:∀(ps:List Nat) (xs:List V) (us:List Value) (t:Nat->Bool × V) (tm:Array Value),ps.length=xs.length->us.length=xs.length->(∀p∈ps,p<nt)->tm.size=nt->
  (∀(i:Nat) (c:V),xs[i]?=some c->RV w A X c (us.getD i gC))->
  (∀k,((t k).1=true->RV w A X (t k).2 (tm.getD k undef))/\((t k).1=false->tm.getD k undef=undef))->
  ((ps.zip us).foldl (fun tmps (p:Nat × Value)=>tmps.setIfInBounds p.1 p.2) tm).size=nt/\
  ∀k,((vn t ps xs k).1=true->RV w A X (vn t ps xs k).2 (((ps.zip us).foldl (fun tmps (p:Nat × Value)=>tmps.setIfInBounds p.1 p.2) tm).getD k undef))/\((vn t ps xs k).1=false->((ps.zip us).foldl (fun tmps (p:Nat × Value)=>tmps.setIfInBounds p.1 p.2) tm).getD k undef=undef)
 | [],[],us,t,tm,_,_,_,hs,_,ht=>⟨hs,ht⟩
 | [],_::_,_,_,_,hl,_,_,_,_,_=>by simp at hl
 | _::_,[],_,_,_,hl,_,_,_,_,_=>by simp at hl
 | p::ps,x::xs,[],t,tm,_,hu,_,_,_,_=>by simp at hu
 | p::ps,x::xs,u::us,t,tm,hl,hu,hp,hs,hx,ht=>by
  simp only [List.zip_cons_cons,List.foldl_cons,vn];refine GD ps xs us _ _ (by simpa using hl) (by simpa using hu) (fun q hq=>hp q (List.mem_cons_of_mem _ hq)) (by simpa using hs) (fun i c hi=>by simpa using hx (i+1) c (by simpa using hi)) fun k=>?_;have Ar:=hp p List.mem_cons_self;simp only [o7,Array.getD_eq_getD_getElem?,Array.getElem?_setIfInBounds];by_cases e:k=p
  ·subst e;rw [if_pos rfl,if_pos rfl,if_pos (by omega)];have:=hx 0 x rfl;exact⟨fun _=>by simpa using this,fun h=>by cases h⟩
  ·rw [if_neg e,if_neg (Ne.symm e)];have:=ht k;simp only [Array.getD_eq_getD_getElem?]at this;exact this
theorem sL{E:Env}(hT:nZ E){ok:jC}:∀(c:Code) (hok:dz E ok c=true) (K:Fr->Hp->Prop) (rd:Option Nat) (ob:OW E K rd) (n:Nat) (st:St) (QA:Ex->St->Prop) (Q:Exit->Act->World->Prop) (a:Act) (w:World),jo E ok c st QA->R2 K E.nt st a w->
  (∀e st' a' w' e',QA e st'->R2 K E.nt st' a' w'->DU e'=some e->Q e' a' w')->c.wpIn (jc rd) n E.P Q a w:=by
 intro c
 induction c with
 | skip=>intro hok K rd ob n st QA Q a w h hR hQ;exact wpIn_skip (hQ _ _ _ _ .normal h hR rfl)
 | ret=>intro hok K rd ob n st QA Q a w h hR hQ;exact wpIn_ret (hQ _ _ _ _ .ret h hR rfl)
 | exit id=>intro hok K rd ob n st QA Q a w h hR hQ;exact wpIn_exit (hQ _ _ _ _ (.exit id) h hR rfl)
 | region id ops draw=>
  intro hok K rd ob n st QA Q a w h hR hQ;simp only [jo]at h;have hR:=hR.jQ ob _ h.1;have h:=h.2;revert h hR;generalize (qW (OV E.jQ id) st).2=st;intro hR h;cases draw with
  | false=>
   simp only at h;cases hr:mP E ops.toList ops.toList st with
   | mk c st'=>
    rw [hr]at h;refine wpIn_region_list ?_;have:=runK (Q:=Q) (n:=n) hT ob (ops:=ops.toList) ops.toList st a w hR (by rw [hr];exact h.1) (fun a' w' sO=>hQ _ _ _ _ .normal h.2 (by rw [hr]at sO;exact sO) rfl);simpa using this
  | true=>
   simp only [dz]at hok;cases hl:ok.lookup id with
   | none=>
    rw [hl]at h hok;simp only at hok;refine aa5 hT ob hok hR ?_;simp only [runs];have y1:=qu (E:=E) (ops:=ops.toList) (fr:=[]) (List.range ops.toList.length) st;have zo:=uN (E:=E) (ops:=ops.toList) (List.range ops.toList.length) st;rw [au1]at y1 zo;rw [y1.2];cases hr:mP E ops.toList ops.toList st with
    | mk c st'=>
     rw [hr]at h zo;exact⟨⟨zo h.1,fun a' w' sO=>hQ _ _ _ _ .normal h.2 sO rfl⟩,trivial⟩
   | some p=>
    obtain⟨fr,cs⟩:=p;rw [hl]at h hok;simp only at hok;refine aa5 hT ob hok hR ?_;simp only at h;have mono:∀(cs:List (List Nat)) {K K':St->Prop},(∀s,K s->K' s)->runs E ops.toList fr cs st K->runs E ops.toList fr cs st K':=by
     intro cs K K' hk
     induction cs with
     | nil=>intro h;exact h
     | cons c cs ih=>intro h;exact⟨⟨h.1.1,hk _ h.1.2⟩,ih h.2⟩
    exact mono cs (fun s hs a' w' sO=>hQ _ _ _ _ .normal hs sO rfl) h
 | seq x y WE WG=>
  intro hok K rd ob n st QA Q a w h hR hQ;simp only [jo]at h;simp only [dz,Bool.and_eq_true]at hok;refine wpIn_seq (WE hok.1 K rd ob n st _ _ a w h hR fun e st' a' w' e' hq sO he=>?_);cases e'<;>simp only [DU,Option.some.injEq,reduceCtorEq]at he
  ·subst he;exact WG hok.2 K rd ob n st' QA Q a' w' hq sO hQ
  ·subst he;exact hQ _ _ _ _ _ hq sO rfl
  ·subst he;exact hQ _ _ _ _ _ hq sO rfl
 | cond c x y WE WG=>
  intro hok K rd ob n st QA Q a w h hR hQ;simp only [jo]at h;simp only [dz,Bool.and_eq_true]at hok;cases qm:ev st c with
  | mk g v=>
  rw [qm]at h;cases v with
  | bool b=>
   simp only at h;obtain⟨hg,h1,h2⟩:=h;have hc:a.eval c=.bool b:=by
    obtain⟨F,hF,⟨A,X,hI,ht,_⟩,_⟩:=hR;cases c with
    | tmp k=>
     have hk:st.t k=(g,.bool b):=qm;have:=ht k;rw [hk]at this;exact(this.1 hg).gD
    | const v=>
     simp only [ev,Prod.mk.injEq]at qm;have:=sX w A v;rw [qm.2]at this;cases this;rfl
    | global g=>
     simp only [ev,Prod.mk.injEq]at qm;cases hG:aO.G g with
     | none=>rw [hG]at qm;simp at qm
     | some v=>
      have:=hI.gl g v hG;rw [hG]at qm;simp only [Option.getD_some]at qm;rw [qm.2]at this;cases this
    | func f=>simp [ev]at qm
   refine wpIn_cond hc ?_;cases b with
   | true=>exact WE hok.1 K rd ob n st QA Q a w (h1 rfl) hR hQ
   | false=>exact WG hok.2 K rd ob n st QA Q a w (h2 rfl) hR hQ
  | qT=>
   simp only at h;obtain⟨hg,h1,h2⟩:=h;have hc:∃b,a.eval c=.bool b:=by
    obtain⟨F,hF,⟨A,X,hI,ht,_⟩,_⟩:=hR;cases c with
    | tmp k=>
     have hk:st.t k=(g,.qT):=qm;have:=ht k;rw [hk]at this;exact(this.1 hg).UL
    | const v=>
     simp only [ev,Prod.mk.injEq]at qm;have:=sX w A v;rw [qm.2]at this;cases this;exact⟨_,rfl⟩
    | global g=>
     simp only [ev,Prod.mk.injEq]at qm;cases hG:aO.G g with
     | none=>rw [hG]at qm;simp at qm
     | some v=>
      have:=hI.gl g v hG;rw [hG]at qm;simp only [Option.getD_some]at qm;rw [qm.2]at this;cases this
    | func f=>simp [ev]at qm
   obtain⟨b,hc⟩:=hc;refine wpIn_cond hc ?_;cases b with
   | true=>exact WE hok.1 K rd ob n st QA Q a w h1 hR hQ
   | false=>exact WG hok.2 K rd ob n st QA Q a w h2 hR hQ
  | _=>exact h.elim
 | block id c ih=>
  intro hok K rd ob n st QA Q a w h hR hQ;simp only [jo]at h;refine wpIn_block (ih hok K rd ob n st _ _ a w h hR fun e st' a' w' e' hq sO he=>?_);cases e'<;>simp only [DU,Option.some.injEq,reduceCtorEq]at he
  ·subst he;exact hQ _ _ _ _ .normal hq sO rfl
  ·rename_i i;subst he;simp only [Exit.inBlock];simp only at hq;by_cases hi:i=id
   ·rw [if_pos hi]at hq ⊢;exact hQ _ _ _ _ .normal hq sO rfl
   ·rw [if_neg hi]at hq ⊢;exact hQ _ _ _ _ (.exit i) hq sO rfl
  ·subst he;exact hQ _ _ _ _ .ret hq sO rfl
 | loop c ih=>
  intro hok K rd ob n st QA Q a w h hR hQ;simp only [jo]at h;obtain⟨ι,I,m,i0,⟨st1,yn,hle⟩,y0⟩:=h;have Jj:=(hR.ghost ob yn).weaken ob hle;intro b k cs yr hb hr
  have key:∀(j:Nat) (i:ι),m i=j->∀a w,R2 K E.nt (I i) a w->
    ∃e a' w',Q e a' w'/\ArrivesIn (Machine.fenced E.P (jc rd)) E.P (lone (b.atR a (.code c::.inLoop c::k)) cs w) b k cs e a' w':=by
   intro j
   induction j using Nat.strongRecOn with
   | _ j ihn=>
    intro i hi a w hR;have hb':=ih hok K rd ob n (I i) _ (Exit.then (fun a' w'=>∃j,R2 K E.nt (I j) a' w'/\m j<m i) Q) a w (y0 i) hR (fun e st' a' w' e' hq sO he=>by
     cases e'<;>simp only [DU,Option.some.injEq,reduceCtorEq]at he
     ·subst he;obtain⟨j,yh,v5⟩:=hq;exact⟨j,sO.weaken ob yh,v5⟩
     ·subst he;exact hQ _ _ _ _ _ hq sO rfl
     ·subst he;exact hQ _ _ _ _ _ hq sO rfl)
    obtain⟨e,a₁,w₁,hq,GF⟩:=hb' b (.inLoop c::k) cs yr hb hr;cases e with
    | normal=>
     obtain⟨j',yv,v5⟩:=hq;obtain⟨e₂,a₂,w₂,als,aaO⟩:=ihn (m j') (hi ▸ v5) j' rfl a₁ w₁ yv;exact⟨e₂,a₂,w₂,als,.of_steps (StepsIn.trans GF (.one (fenced_calm hb hr rfl) stepR_inLoop)) aaO⟩
    | exit id=>exact⟨_,a₁,w₁,hq,.pass (x:=.inLoop c) rfl (fun _ _=>.inl (by simp)) GF⟩
    | goto l=>exact⟨_,a₁,w₁,hq,.pass (x:=.inLoop c) rfl (fun _ _=>.inl (by simp)) GF⟩
    | ret=>exact⟨_,a₁,w₁,hq,.pass (x:=.inLoop c) rfl (fun _ _=>.inl (by simp)) GF⟩
    | panic ch=>exact⟨_,a₁,w₁,hq,.pass (x:=.inLoop c) rfl (fun _ _=>.inl (by simp)) GF⟩
    | outgrown=>exact⟨_,a₁,w₁,hq,.pass (x:=.inLoop c) rfl (fun _ _=>.inl (by simp)) GF⟩
  obtain⟨e,a',w',hq,GF⟩:=key (m i0) i0 rfl a w Jj;exact⟨e,a',w',hq,.of_steps (.one (fenced_calm hb hr rfl) stepR_loop) GF⟩
 | rangeFunc g ps assign body iha ihb=>
  intro hok K rd ob n st QA Q a w h hR hQ;simp only [dz,Bool.and_eq_true]at hok;simp only [jo]at h;obtain⟨hyl,it,caps,S,Y,e0,⟨⟨qm,y2⟩,hps⟩,r7,af6⟩:=h;obtain⟨F,hF,⟨A,X,hI,ht,v7⟩,hsz⟩:=hR;have hg:RV w A X (.fn it caps) (a.eval g):=by
   cases g with
   | tmp k=>have:=ht k;rw [show st.t k=(true,.fn it caps)from qm]at this;exact this.1 rfl
   | const v=>
    simp only [ev,Prod.mk.injEq,true_and]at qm;have:=sX w A v;rw [qm]at this;exact .pure this
   | global g=>
    simp only [ev,Prod.mk.injEq,true_and]at qm;cases hG:aO.G g with
    | none=>rw [hG]at qm;simp at qm
    | some v=>
     have:=hI.gl g v hG;rw [hG]at qm;simp only [Option.getD_some]at qm;rw [qm]at this;cases this
   | func f=>
    simp only [ev,Prod.mk.injEq,true_and,V.fn.injEq]at qm;obtain⟨rfl,rfl⟩:=qm;exact .pure (.fn _ [] #[] rfl (by simp))
  obtain⟨us,yB,aqG,Py⟩:=hg.nN;refine wpIn_rangeFunc fun fn _=>?_
  obtain⟨l,mark,w1,D,yi,oa,vx,oy,GG⟩:∃l mark w1 D,
    (Instr.enterLoop fn a.tmps ps assign body (jc rd).round).run E.P w=.ok (l,mark) w1/\w.heap.size<=l/\Below w.heap.size w w1/\
    w1.heap[l]?=some (.loop {state:=.ready,pending:=none,fn,tmps:=a.tmps,params:=ps,assign,body,defers:=D})/\
    Mk F.w0.heap.size A w1 (mark++a.defers):=by
   have yC:=hI.size;cases rd with
   | none=>
    refine⟨_,_,_,w.heap.size,run_enterLoop_outer fn a.tmps ps assign body,by omega,?_,?_,?_⟩
    ·exact((Below.refl w.heap.size w).alloc (Nat.le_refl _) _).alloc (by simp) _
    ·have:=World.alloc_heap_new (w.alloc (.deferred (some []))) (.loop {state:=.ready,pending:=none,fn,tmps:=a.tmps,params:=ps,assign,body,defers:=w.heap.size});rw [World.size_alloc]at this;exact this
    ·have hD:(w.alloc (.deferred (some []))).heap[w.heap.size]?=some (.deferred (some [])):=World.alloc_heap_new w _;have vx:Below w.heap.size w ((w.alloc (.deferred (some []))).alloc (.loop {state:=.ready,pending:=none,fn,tmps:=a.tmps,params:=ps,assign,body,defers:=w.heap.size})):=((Below.refl w.heap.size w).alloc (Nat.le_refl _) _).alloc (by simp) _;have zp:=v7.carry (Carry.of (hI.below vx).1 (fH.refl X));refine⟨List.pairwise_cons.2 ⟨fun d hd e=>?_,zp.1⟩,fun d hd=>?_⟩
     ·obtain⟨D',e',_,h3,_⟩:=v7.2 d hd;rw [<-e]at e';injection e' with e1;injection e1 with e1;have:=(Array.getElem?_eq_some_iff.1 h3).1;omega
     ·rcases List.mem_cons.1 hd with rfl|hd
      ·refine⟨w.heap.size,rfl,yC,?_,fun hA=>by have:=hI.oV _ hA;omega⟩;exact(Below.heap_alloc _ _ _ (by simp)).trans hD
      ·exact zp.2 d hd
   | some l0=>
    obtain⟨hM,r0,z5⟩:=ob.rd l0 rfl F _ hF;have aqH:=(Array.getElem?_eq_some_iff.1 z5).1;have yO:w.heap[l0]?=some (.loop r0):=(hI.same l0 aqH hM).trans z5;have vx:Below w.heap.size w (w.alloc (.loop {state:=.ready,pending:=none,fn,tmps:=a.tmps,params:=ps,assign,body,defers:=r0.defers})):=(Below.refl w.heap.size w).alloc (Nat.le_refl _) _;exact⟨_,_,_,r0.defers,run_enterLoop_inner yO fn a.tmps ps assign body,by omega,vx,World.alloc_heap_new w _,v7.carry (Carry.of (hI.below vx).1 (fH.refl X))⟩
  obtain⟨CP,wO⟩:=hI.below vx;have od:=hg.mono CP (fH.refl X);have af7:=wO.hfl false;have alu:=af7.self;have yT:¬ A l:=fun hA=>by have:=hI.oV _ hA;omega
  refine⟨l,mark,w1,{target:=.fn (.func it) us,args:=#[.func (.yield l) #[] #[]]},w1,it,#[.func (.yield l) #[] #[]]++us,w1,yi,?_,fun _ _=>trivial,?_,(fun hd=>by cases hd),?_⟩
  ·simp only [resolve,yB];simp [go_sem]
  ·have:=(hT it _ y2).call;simp only [invoke,this]
  obtain⟨rec,AR⟩:∃rec:Loop,rec={state:=.ready,pending:=none,fn,tmps:=a.tmps,params:=ps,assign,body,defers:=D}:=⟨_,rfl⟩
  rw [<-AR]at oy;have V6:=(Array.getElem?_eq_some_iff.1 oy).1;obtain⟨yV,af8,af9⟩:=af6 l
  let B:World->(Nat->Prop)->Refs->Prop:=fun w' A' X'=>bC w1 A w' A'/\fH X X'/\w'.heap[l]?=some (.loop rec)/\¬ A' l
  have hB:abI l B:=by refine⟨fun w' A' X' hb=>⟨rec,hb.2.2.1⟩,fun w' A' X' h w'' A'' X'' h'' hb hs aqI=>?_⟩;obtain⟨k1,k2,_⟩:=hs.back aqI;have:=k1.2 l (Array.getElem?_eq_some_iff.1 hb.2.2.1).1 hb.2.2.2;exact⟨hb.1.trans k1,hb.2.1.trans k2,this.1.trans hb.2.2.1,this.2⟩
  let Pr:Loop->Prop:=fun r=>r.state=.done/\∃c:Code,r.pending=some c/\((c=.ret/\e0=.ret)\/∃id,c=.exit id/\e0=.exit id)
  have hY:akX E.P l Pr Y B:=by
   intro args h hc;obtain⟨⟨q0,q1⟩,hlen,q2⟩:=r7 args h hc;refine⟨q0,q1,fun w' A' X' vals hb hs aqJ S6=>?_⟩;obtain⟨q3,q4,ry,q5⟩:=hb;have ON:=(Array.getElem?_eq_some_iff.1 ry).1;have q6:=run_yield (P:=E.P) (args:=vals) ry (by rw [AR];simp only;omega);refine⟨_,_,_,_,q6,roundIn_of_wpIn (F:=Fence.wide) trivial ?_⟩;have MS:rec.tmps=a.tmps:=(by rw [AR]);have qd:rec.assign=assign:=(by rw [AR]);have qk:rec.body=body:=(by rw [AR]);have zr:rec.params=ps:=(by rw [AR]);rw [MS,qd,qk,zr];have y3:=GD (w:=w') (A:=A') (X:=X') (nt:=E.nt) ps.toList args vals.toList st.t a.tmps (by simp;omega) (by simpa using aqJ) (fun p hp=>by
    have:=List.all_eq_true.1 hps p hp;simpa using this) hsz (fun i c hi=>by
    have:=S6 i c hi;simpa [Array.getD_eq_getD_getElem?,List.getD]using this) (fun k=>⟨fun hh=>(((ht k).1 hh).mono CP (fH.refl X)).mono q3 q4,(ht k).2⟩)
   have abP:(ps.zip vals).foldl (fun tmps (x:Nat × Value)=>match x with|(t,a)=>tmps.setIfInBounds t a) a.tmps=(ps.toList.zip vals.toList).foldl (fun tmps (p:Nat × Value)=>tmps.setIfInBounds p.1 p.2) a.tmps:=by rw [<-Array.foldl_toList,Array.toList_zip]
   have z6:=hs.KS ry rfl;have qr:OW E (K1 ⟨w',A',X',jY X' h⟩) (some l):=K1.ok hyl _ _ fun l' e=>by cases e;exact⟨z6,_,ry⟩
   have qU:R2 (K1 ⟨w',A',X',jY X' h⟩) E.nt {t:=vn st.t ps.toList args,h:=h} {tmps:=(ps.zip vals).foldl (fun tmps (x:Nat × Value)=>match x with|(t,a)=>tmps.setIfInBounds t a) a.tmps,defers:=[]} w':=by
    refine R2.k1.2 ⟨⟨A',X',hs,?_,Mk.nil _ _ _⟩,?_⟩
    ·simp only [abP];exact y3.2
    ·simp only [abP];exact y3.1
   refine iha hok.1 _ (some l) qr 0 _ _ _ _ w' q2 qU fun e st1 a1 wa e' hq M3 he=>?_;have qV:e=.normal:=by cases e<;>first|rfl|exact hq.elim
   subst qV;cases e'<;>simp only [DU,Option.some.injEq,reduceCtorEq]at he;obtain⟨⟨A1,X1,zs,y4,aqK⟩,aqL⟩:=R2.k1.1 M3;have vy:wa.heap[l]?=some (.loop rec):=(zs.same l ON z6).trans ry;have alv:=(Array.getElem?_eq_some_iff.1 vy).1;have ar0:¬ A1 l:=fun hA=>q5 (zs.iE l ON hA);refine⟨_,run_beginRound vy (by rw [AR]),?_⟩;have o0:=zs.KR {rec with state:=.busy} vy rfl ON;have oe:(wa.putObj l (.loop {rec with state:=.busy})).heap[l]?=some (.loop {rec with state:=.busy}):=World.putObj_heap_same alv;have y5:(Fr.stop ⟨w',A',X',jY X' h⟩ l {rec with state:=.busy}).w0.heap[l]?=some (.loop {rec with state:=.busy}):=World.putObj_heap_same ON;have o1:OW E (K1 (Fr.stop ⟨w',A',X',jY X' h⟩ l {rec with state:=.busy})) (some l):=K1.ok hyl _ _ fun l' e=>by cases e;exact⟨z6,_,y5⟩
   have o2:R2 (K1 (Fr.stop ⟨w',A',X',jY X' h⟩ l {rec with state:=.busy})) E.nt st1 a1 (wa.putObj l (.loop {rec with state:=.busy})):=by refine R2.k1.2 ⟨⟨A1,X1,o0,fun k=>⟨fun hh=>((y4 k).1 hh).calm (Calm.put _ vy rfl),(y4 k).2⟩,?_⟩,aqL⟩;have:=aqK.carry (Carry.put (X:=X1) (.loop {rec with state:=.busy}) vy);simpa [Fr.stop]using this
   refine ihb hok.2 _ (some l) o1 0 _ _ _ _ _ hq o2 fun e st2 a2 w3 e' P5 aqM z7=>?_;obtain⟨⟨A3,X3,aga,oh,ar1⟩,ar2⟩:=R2.k1.1 aqM;have z8:w3.heap[l]?=some (.loop {rec with state:=.busy}):=(aga.same l (by simpa [Fr.stop]using ON) z6).trans y5
   have stop:∀(c:Code),(c=.ret/\e0=.ret)\/(∃id,c=.exit id/\e0=.exit id)->(Y.go args h).v=.bool false->bA (hfl st2.h true) (Y.go args h).h->
     ∃v w4,(Instr.endRound l (some c)).run E.P w3=.ok v w4/\∃v' A9 X9,Ending.returned v=.returned v'/\Ends ⟨w',A',X',jY X' h⟩ l Pr w4 A9 X9 (Y.go args h).h/\RV w4 A9 X9 (Y.go args h).v v':=by
    intro c o3 hv hh;refine⟨_,_,run_endRound (some c) z8,_,A3,X3,rfl,⟨?_,.inr ⟨?_,{rec with state:=.done,pending:=some c},⟨rfl,c,rfl,o3⟩,?_⟩⟩,?_⟩
    ·rw [hh.2];simp [hfl]
    ·rw [hh.2];simp [hfl]
    ·have:=aga.Nf {rec with state:=.done,pending:=some c} z8 rfl ON;exact(this.hfl true).hle hh
    ·rw [hv];exact .pure (.bool _)
   cases e'<;>simp only [DU,Option.some.injEq,reduceCtorEq]at z7
   ·subst z7;obtain⟨hv,hh⟩:=P5;refine⟨_,_,run_endRound none z8,_,A3,X3,rfl,⟨?_,.inl ⟨?_,?_⟩⟩,?_⟩
    ·rw [hh.2];simp [hfl]
    ·rw [hh.2];simp [hfl]
    ·have D6:({({rec with state:=.busy}:Loop)with state:=if (none:Option Code).isNone then .ready else .done,pending:=none}:Loop)=rec:=(by rw [AR];rfl);rw [D6];exact((aga.RT z8 rfl ry).hfl false).hle hh
    ·rw [hv];exact .pure (.bool _)
   ·rename_i id;subst z7;obtain⟨h0,hv,hh⟩:=P5;exact stop (.exit id) (.inr ⟨id,rfl,h0⟩) hv hh
   ·subst z7;obtain⟨h0,hv,hh⟩:=P5;exact stop .ret (.inl ⟨rfl,h0⟩) hv hh
  have agb:(#[.func (.yield l) #[] #[]]++us:Array Value).size=(V.vW l::caps).length:=by simp [aqG];omega
  have v3:∀(i:Nat) (c:V),(V.vW l::caps)[i]?=some c->RV w1 A X c ((#[.func (.yield l) #[] #[]]++us:Array Value).getD i gC):=by
   intro i c hi;cases i with
   | zero=>
    simp at hi;subst hi;have e:(#[.func (.yield l) #[] #[]]++us:Array Value).getD 0 gC=.func (.yield l) #[] #[]:=by simp [Array.getD_eq_getD_getElem?,Array.getElem?_append]
    rw [e];exact .pure (.vW l)
   | succ i=>
    have e:(#[.func (.yield l) #[] #[]]++us:Array Value).getD (i+1) gC=us.getD i gC:=by simp [Array.getD_eq_getD_getElem?,Array.getElem?_append]
    rw [e];exact(Py i c (by simpa using hi)).mono CP (fH.refl X)
  refine mH.2 (((hT it _ y2).iter S rfl l Y Pr B hB hY _ (hfl st.h false) yV (by simp [hfl]) (by simp [hfl]) w1 A X _ ⟨bC.refl _ _,fH.refl _,oy,yT⟩ alu agb v3).mono ?_);rintro e w2 ⟨v,A2,X2,rfl,⟨ar3,yj⟩,oR⟩;have y6:=alu.KS oy rfl;rcases yj with⟨agc,vV⟩|⟨agc,r,⟨iI,cj,zr,o4⟩,vV⟩
  ·
   have vP:w2.heap[l]?=some (.loop rec):=(vV.same l V6 y6).trans oy;have Ar:rec.pending=none:=(by rw [AR]);refine⟨none,w2.putObj l (.loop {rec with state:=.exhausted}),?_,?_⟩
   ·have:=run_endLoop (P:=E.P) vP (by rw [AR];simp);exact this.trans (by rw [Ar])
   ·obtain⟨k1,k2,k3⟩:=af7.back vV;have agd:Carry w1 A X w2 A2 X2:=.of k1 k2;have GH:Carry w1 A X (w2.putObj l (.loop {rec with state:=.exhausted})) A2 X2:=agd.trans (.put _ vP);refine hQ _ _ _ _ .normal (af8 agc) ⟨F,ob.rf hyl F _ _ hF,⟨A2,X2,?_,fun k=>⟨fun hh=>GH.rv _ _ (((ht k).1 hh).mono CP (fH.refl X)),(ht k).2⟩,GG.carry GH⟩,hsz⟩ rfl;have:=hI.size;exact(k3.xy _ vP rfl (by omega)).hfl false
  ·
   have vP:w2.heap[l]?=some (.loop r):=(vV.same l (by simp [Fr.stop];exact V6) y6).trans (World.putObj_heap_same V6);obtain⟨z9,y7⟩:=af9 agc;refine⟨some cj,w2.putObj l (.loop {r with state:=.exhausted}),?_,?_⟩
   ·have:=run_endLoop (P:=E.P) vP (by rw [iI];simp);exact this.trans (by rw [zr])
   ·have oi:Inv (F.stop l r) (w1.putObj l (.loop r)) A X (hfl st.h false)->True:=fun _=>trivial;have aqN:Inv F (w1.putObj l (.loop r)) A X (hfl st.h false):=by have:=hI.size;exact af7.xy _ oy rfl (by omega)
    obtain⟨k1,k2,k3⟩:=aqN.back vV;have agd:Carry w1 A X w2 A2 X2:=(Carry.put _ oy).trans (.of k1 k2);have GH:Carry w1 A X (w2.putObj l (.loop {r with state:=.exhausted})) A2 X2:=agd.trans (.put _ vP);have y8:R2 K E.nt {t:=st.t,h:=hfl ((S l Y).go (.vW l::caps) (hfl st.h false)).h false} {a with defers:=mark++a.defers} (w2.putObj l (.loop {r with state:=.exhausted})):=by refine⟨F,ob.rf hyl F _ _ hF,⟨A2,X2,?_,fun k=>⟨fun hh=>GH.rv _ _ (((ht k).1 hh).mono CP (fH.refl X)),(ht k).2⟩,GG.carry GH⟩,hsz⟩;have:=hI.size;exact(k3.xy _ vP rfl (by omega)).hfl false
    rcases o4 with⟨rfl,zt⟩|⟨id,rfl,zt⟩
    ·subst zt;exact wpIn_ret (hQ _ _ _ _ .ret y7 y8 rfl)
    ·subst zt;exact wpIn_exit (hQ _ _ _ _ (.exit id) y7 y8 rfl)
 | _=>intro hok K rd ob n st QA Q a w h;exact h.elim
end
end Go.Sx
end
section
namespace Go.Sx
open Go.RowKit
variable [aO]
section
variable {F:Fr} {w:World} {A:Nat->Prop} {X:Refs} {h:Hp}
def Gr(P:Program)(st:St):ResultVar->Prop × V
 | .tmp t=>match st.t t with
  | (g,v)=>match kg st.h v with
   | (c,r)=>(g=true/\v.tW=true/\c,r)
 | .cell a T=>match st.t a with
  | (g,p)=>match l9 P T p st.h with
   | ⟨c,v,_⟩=>match kg st.h v with
    | (c',r)=>(g=true/\c/\v.tW=true/\c',r)
def rJ(P:Program)(st:St):List ResultVar->Prop × List V
 | []=>(True,[])
 | x::xs=>match Gr P st x with
  | (c,v)=>match rJ P st xs with
   | (c',vs)=>(c/\c',v::vs)
def Jr(P:Program)(rs:List ResultVar)(st:St):Prop × V:=
 match rs with
 | [x]=>Gr P st x
 | xs=>match rJ P st xs with
  | (c,vs)=>(c,.dB vs)
def cg:Hp:=fun _=>{base:=0,ah:=[]}
def js:List (Nat × (Bool × V))->(Nat->Bool × V)->Nat->Bool × V
 | [],T,k=>T k
 | (d,x)::L,T,k=>if k=d then x else js L T k
def aav(_:Nat):Bool × V:=(true,.top)
def OD:Nat->List V->List (Nat × (Bool × V))
 | _,[]=>[]
 | n,a::r=>(n,(true,a))::OD (n+1) r
omit [aO]in
theorem GI:∀(args:List V) (n k:Nat),n<=k->js (OD n args) aav k=(true,args.getD (k - n) .top)
 | [],n,k,_=>rfl
 | a::r,n,k,hk=>by
  simp only [OD,js]
  by_cases h:k=n
  ·subst h;simp
  ·rw [if_neg h,GI r (n+1) k (by omega)]
   rw [show k - n=(k - (n+1))+1 by omega];simp
def entry(args:List V)(h:Hp):St:={t:=js (OD 0 args) aav,h:=h}
omit [aO]in
theorem DV(args:List V)(h:Hp)(k:Nat):(entry args h).t k=(true,args.getD k .top):=GI args 0 k (Nat.zero_le _)
def af(E:Env)(ok:jC)(fn:Func)(S:aB):Prop:=
 E.yl=none/\∀d:S.dom,S.pre d->jo E ok (fn.body.getD .skip) (entry (S.enc d) cg) fun e st=>(e=.normal\/e=.ret)/\match Jr E.P fn.results.toList st with
  | (c,v)=>c/\sub v (S.res d)
def mJ(tmps:Array Value):ResultVar->Sem Value
 | .tmp t=>pure (tmps.getD t undef)
 | .cell a t=>do loadVar t (<-asAddr (tmps.getD a undef))
def Pj(w:World)(A:Nat->Prop)(X:Refs)(t:Nat->Bool × V)(tmps:Array Value):Prop:=
 ∀k,((t k).1=true->RV w A X (t k).2 (tmps.getD k undef))/\((t k).1=false->tmps.getD k undef=undef)
theorem leaves{P:Program}{fn:Func}{tmps:Array Value}{Q:Ending->World->Prop}{X:Refs}{h:Hp}{A:Nat->Prop}:∀(ds:List Deferred) (w:World),Inv F w A X h->Mk F.w0.heap.size A w ds->
  (∀w',Calm w w'->Inv F w' A X h->∃v,(results fn tmps).run P w'=.ok v w'/\Q (.returned v) w')->LeavesInM Fence.wide 0 P fn tmps Q ds .returning w
 | [],w,hI,_,hq=>hq w (Calm.refl w) hI
 | d::ds,w,hI,v7,hq=>by
  obtain⟨D,rfl,h1,h2,h3⟩:=v7.2 d List.mem_cons_self;have hp:=List.pairwise_cons.1 v7.1;refine⟨(fun e=>by cases e),.inl ⟨D,w.putObj D (.deferred none),rfl,run_takeDeferred h2,?_⟩⟩;refine leaves ds _ (hI.xy _ h2 rfl h1) ⟨hp.2,fun d hd=>?_⟩ fun w' hc fB=>hq w' ?_ fB
  ·obtain⟨D',rfl,k1,k2,k3⟩:=v7.2 d (List.mem_cons_of_mem _ hd);refine⟨D',rfl,k1,?_,k3⟩;rw [World.putObj_heap_other (fun e=>hp.1 _ hd (by rw [e]))];exact k2
  ·have h0:=Calm.put (l:=D) (.deferred none) h2 rfl;exact⟨Nat.le_trans h0.size hc.size,fun b arr ty fr hb=>hc.cells b arr ty fr (h0.cells b arr ty fr hb),hc.os.trans h0.os,hc.tape.trans h0.tape,hc.output.trans h0.output⟩
omit [aO]in
theorem Pj.calm{w w':World}{t:Nat->Bool × V}{tmps:Array Value}(ht:Pj w A X t tmps)(hc:Calm w w'):Pj w' A X t tmps:=fun k=>⟨fun hh=>((ht k).1 hh).calm hc,(ht k).2⟩
omit [aO]in
theorem qn{P:Program}{f:FuncId}{fn:Func}{c:Code}{args:Array Value}{w:World}{Q:Ending->World->Prop}(hf:P.funcs[f]?=some fn)(hb:fn.body=some c)
  (h:c.wpIn (jc none) 0 P (bodyPostM Fence.wide 0 P fn Q) {tmps:=args++Array.replicate (fn.ntmps - args.size) undef,defers:=[]} w):Calls P f args w Q:=
 callsIn_wide.1 (callsIn_of_wp_marks (F:=Fence.wide) (n:=0) hf hb trivial h rfl)
theorem GJ{P:Program}{st:St}{tmps:Array Value}{w:World}{A:Nat->Prop}{X:Refs}(hI:Inv F w A X st.h)(ht:Pj w A X st.t tmps)(r:ResultVar)(hc:(Gr P st r).1) :
  ∃v,(mJ tmps r).run P w=.ok v w/\PV w (uk A X st.h) (Gr P st r).2 v:=by
 cases r with
 | tmp t=>
  cases h1:st.t t with
  | mk g v=>
  cases h2:kg st.h v with
  | mk c r=>
  simp only [Gr,h1,h2]at hc ⊢;have vX:=ht t;rw [h1]at vX;have:=sI hI (vX.1 hc.1) (by rw [h2];exact hc.2.2) hc.2.1;rw [h2]at this;exact⟨_,rfl,this⟩
 | cell a T=>
  cases h1:st.t a with
  | mk g p=>
  cases h3:l9 P T p st.h with
  | mk c v h'=>
  cases h2:kg st.h v with
  | mk c' r=>
  simp only [Gr,h1,h2,h3]at hc ⊢;have vX:=ht a;rw [h1]at vX;obtain⟨u,oy,vP⟩:=oP (P:=P) (T:=T) hI (vX.1 hc.1) (by rw [h3];exact hc.2.1);rw [h3]at vP;have:=sI hI vP (by rw [h2];exact hc.2.2.2) hc.2.2.1;rw [h2]at this;refine⟨u,?_,this⟩;simp only [mJ];cases v8:tmps.getD a undef with
  | pointer x=>
   cases x with
   | some b=>
    rw [v8]at oy;simp only [Instr.loadAt,Instr.sureAddr,Sem.run_bind,Sem.run_pure,Result.andThen_ok]at oy;simpa [asAddr]using oy
   | none=>rw [v8]at oy;simp [Instr.loadAt,Instr.sureAddr]at oy
  | _=>rw [v8]at oy;simp [Instr.loadAt,Instr.sureAddr]at oy
theorem Cd{P:Program}{st:St}{tmps:Array Value}{w:World}{A:Nat->Prop}{X:Refs}(hI:Inv F w A X st.h)(ht:Pj w A X st.t tmps):∀(rs:List ResultVar),(rJ P st rs).1->
  ∃vs:List Value,(rs.mapM (mJ tmps)).run P w=.ok vs w/\vs.length=rs.length/\(rJ P st rs).2.length=rs.length/\∀(i:Nat) (c:V) (v:Value),(rJ P st rs).2[i]?=some c->vs[i]?=some v->PV w (uk A X st.h) c v
 | [],_=>⟨[],by simp,rfl,rfl,fun i c v hc=>by simp [rJ]at hc⟩
 | x::xs,hc=>by
  cases h1:Gr P st x with
  | mk c v=>
  cases h2:rJ P st xs with
  | mk c' vs=>
  simp only [rJ,h1,h2]at hc ⊢;obtain⟨u,MX,Ku⟩:=GJ (P:=P) hI ht x (by rw [h1];exact hc.1);obtain⟨us,v9,va,Wl,v6⟩:=Cd (P:=P) hI ht xs (by rw [h2];exact hc.2);rw [h1]at Ku;rw [h2]at Wl v6;refine⟨u::us,?_,by simp [va],by simpa using Wl,fun i c v hc hv=>?_⟩
  ·simp only [List.mapM_cons,Sem.run_bind,MX,Result.andThen_ok,v9,Sem.run_pure]
  ·cases i with
   | zero=>simp at hc hv;subst hc hv;exact Ku
   | succ i=>exact v6 i c v (by simpa using hc) (by simpa using hv)
omit [aO]in
theorem mB{P:Program}{fn:Func}{tmps:Array Value}{w:World}{vs:List Value}(h:(fn.results.toList.mapM (mJ tmps)).run P w=.ok vs w) :
  (results fn tmps).run P w=.ok (if h:vs.toArray.size=1 then vs.toArray[0]else .tuple vs.toArray) w:=by
 have hm:(fn.results.mapM (mJ tmps)).run P w=.ok vs.toArray w:=by rw [Array.mapM_eq_mapM_toList];refine(Sem.run_map P w _ _).trans ?_;rw [h];rfl
 unfold results;have e:(fun r=>match r with|.tmp t=>pure (tmps.getD t undef)|.cell a t=>do loadVar t (<-asAddr (tmps.getD a undef)):ResultVar->Sem Value)=mJ tmps:=by funext r;cases r<;>rfl
 show(do let vs <-fn.results.mapM (mJ tmps);pure (if h:vs.size=1 then vs[0]else .tuple vs):Sem Value).run P w=_;simp only [Sem.run_bind,hm,Result.andThen_ok,Sem.run_pure]
theorem Jv{P:Program}{fn:Func}{st:St}{tmps:Array Value}{w:World}{A:Nat->Prop}{X:Refs}(hI:Inv F w A X st.h)(ht:Pj w A X st.t tmps)(hc:(Jr P fn.results.toList st).1) :
  ∃v,(results fn tmps).run P w=.ok v w/\PV w (uk A X st.h) (Jr P fn.results.toList st).2 v:=by
 generalize iI:fn.results.toList=rs at hc ⊢;unfold Jr at hc ⊢;split at hc
 ·rename_i x;obtain⟨u,MX,Ku⟩:=GJ (P:=P) hI ht x hc;refine⟨u,?_,Ku⟩;have:=mB (P:=P) (fn:=fn) (tmps:=tmps) (w:=w) (vs:=[u]) (by rw [iI];simp [List.mapM_cons,MX]);simpa using this
 ·rename_i z9;cases h2:rJ P st rs with
  | mk c' vs=>
  rw [h2]at hc;simp only at hc ⊢;obtain⟨us,v9,va,Wl,v6⟩:=Cd (P:=P) hI ht rs (by rw [h2];exact hc);rw [h2]at Wl v6;have:=mB (P:=P) (fn:=fn) (tmps:=tmps) (w:=w) (vs:=us) (by rw [iI];exact v9);have ar4:vs.length=rs.length:=Wl;have hl:¬ us.toArray.size=1:=by intro hh;have h1:rs.length=1:=(by rw [<-va];simpa using hh);obtain⟨x,rfl⟩:=List.length_eq_one_iff.1 h1;exact z9 x rfl
  rw [dif_neg hl]at this;refine⟨_,this,.dB vs us.toArray (by simp;omega) fun i c hi=>?_⟩;have v5:i<us.length:=by have:=(List.getElem?_eq_some_iff.1 hi).1;omega
  have hg:us.toArray.getD i gC=us[i]:=by simp [Array.getD_eq_getD_getElem?,v5]
  rw [hg];exact v6 i c _ hi (List.getElem?_eq_getElem v5)
theorem aay{E:Env}(hT:nZ E){ok:jC}{f:FuncId}{fn:Func}{c:Code}{S:aB}(hf:E.P.funcs[f]?=some fn)(hb:fn.body=some c)(hok:dz E ok c=true)(vb:fn.ntmps=E.nt)(hlen:∀d,S.pre d->(S.enc d).length<=E.nt)
  (h:af E ok fn S):Jm E.P f S:=by
 intro d hd w A vals hG hA hsz v3;have hw:=h.2 d hd;rw [hb]at hw;simp only [Option.getD_some]at hw;refine qn hf hb ?_
 let X0:Refs:={D:=fun _ _=>{b:=0,z:=0,len:=0,v:=.slice none 0 0},N:=fun _=>0}
 let F0:Fr:={w0:=w,A0:=A,X0:=X0,M:=fun _=>False}
 have hI:Inv F0 w A X0 cg:=by
  refine {gl:=hG,oV:=hA,iE:=fun b _ h=>h,ep:=fun b _ h _=>h,os:=rfl,tape:=rfl,output:=rfl,size:=Nat.le_refl _,same:=fun _ _ _=>rfl,xle:=fH.refl _,nb:=fun s=>Nat.zero_le _,blk:=?_,inj:=?_}
  ·intro s i B hg;simp [aL,cg]at hg
  ·intro s i B s' i' B' hg;simp [aL,cg]at hg
 have hR:R F0 E.nt (entry (S.enc d) cg) {tmps:=vals++Array.replicate (fn.ntmps - vals.size) undef,defers:=[]} w:=by
  refine⟨⟨A,X0,hI,fun k=>?_,Mk.nil _ _ _⟩,by have:=hlen d hd;simp [vb];omega⟩;rw [DV];refine⟨fun _=>?_,fun hh=>by cases hh⟩;simp only;by_cases hk:k<(S.enc d).length
  ·have e1:(S.enc d).getD k .top=(S.enc d)[k]:=(by simp [List.getD,List.getElem?_eq_getElem hk]);rw [e1];have:=v3 k _ (List.getElem?_eq_getElem hk);have e2:(vals++Array.replicate (fn.ntmps - vals.size) undef).getD k undef=vals.getD k gC:=by simp only [Array.getD_eq_getD_getElem?];rw [Array.getElem?_append_left (by omega)]
   rw [e2];exact .pure this
  ·have e1:(S.enc d).getD k .top=.top:=(by simp [List.getD,List.getElem?_eq_none (Nat.le_of_not_lt hk)]);rw [e1];exact .pure (.top _)
 have hyl:E.yl=none:=h.1;refine sL hT c hok _ none (K1.ok hyl F0 none (fun l e=>by cases e)) 0 _ _ _ _ w hw (R2.k1.2 hR) fun e st' a' w1 e' hq sO he=>?_;obtain⟨⟨A',X',wO,z0,GG⟩,alw⟩:=R2.k1.1 sO;cases Wq:Jr E.P fn.results.toList st' with
 | mk cr vr=>
 rw [Wq]at hq;obtain⟨z1,P5,z2⟩:=hq;have uQ:LeavesInM Fence.wide 0 E.P fn a'.tmps (fun e w'=>∃v,e=.returned v/\Below w.heap.size w w'/\PV w' A (S.res d) v) a'.defers .returning w1:=by
  refine leaves a'.defers w1 wO GG fun w' GK fB=>?_;have ht':=Pj.calm z0 GK;obtain⟨v,oQ,oR⟩:=Jv (P:=E.P) (fn:=fn) fB ht' (by rw [Wq];exact P5);rw [Wq]at oR;refine⟨v,oQ,v,rfl,⟨fB.os,fB.tape,fB.output,fB.size,fun k hk=>fB.same k hk (fun hh=>hh)⟩,Ov z2 (oR.mono ⟨Nat.le_refl _,fun b hb hl=>⟨rfl,fun zv=>hl ⟨fB.ep b (hA b zv) zv (fun hh=>hh),?_⟩⟩⟩)⟩;rintro⟨s,i,B,hg,hfz,fE,Aj⟩;rcases(fB.blk s i B hg).mem with hm|⟨arr,cap,g1,g2,g3,g4,g5,g6,g7,g8⟩
  ·exact fE hm.1
  ·rcases(g8 hfz).2 with h9|h9
   ·exact h9
   ·have oj:=hA b zv;have h9':w.heap.size<=(X'.D s i).b:=h9;omega
 cases e'<;>simp only [DU,Option.some.injEq,reduceCtorEq]at he
 ·exact uQ
 ·subst he;rcases z1 with hh|hh<;>cases hh
 ·exact uQ
def Js(P:Program)(st:St):ResultVar->Prop × V
 | .tmp t=>((st.t t).1=true,(st.t t).2)
 | .cell a T=>((st.t a).1=true/\(l9 P T (st.t a).2 st.h).c,(l9 P T (st.t a).2 st.h).v)
def rK(P:Program)(st:St):List ResultVar->Prop × List V
 | []=>(True,[])
 | x::xs=>((Js P st x).1/\(rK P st xs).1,(Js P st x).2::(rK P st xs).2)
def AQ(P:Program)(rs:List ResultVar)(st:St):Prop × V:=
 match rs with
 | [x]=>Js P st x
 | xs=>((rK P st xs).1,.dB (rK P st xs).2)
theorem GL{P:Program}{st:St}{tmps:Array Value}{w:World}{A:Nat->Prop}{X:Refs}(hI:Inv F w A X st.h)(ht:Pj w A X st.t tmps)(r:ResultVar)(hc:(Js P st r).1) :
  ∃v,(mJ tmps r).run P w=.ok v w/\RV w A X (Js P st r).2 v:=by
 cases r with
 | tmp t=>exact⟨_,rfl,(ht t).1 hc⟩
 | cell a T=>
  simp only [Js]at hc ⊢;obtain⟨u,oy,vP⟩:=oP (P:=P) (T:=T) hI ((ht a).1 hc.1) hc.2;refine⟨u,?_,vP⟩;simp only [mJ];cases v8:tmps.getD a undef with
  | pointer x=>
   cases x with
   | some b=>
    rw [v8]at oy;simp only [Instr.loadAt,Instr.sureAddr,Sem.run_bind,Sem.run_pure,Result.andThen_ok]at oy;simpa [asAddr]using oy
   | none=>rw [v8]at oy;simp [Instr.loadAt,Instr.sureAddr]at oy
  | _=>rw [v8]at oy;simp [Instr.loadAt,Instr.sureAddr]at oy
theorem Ce{P:Program}{st:St}{tmps:Array Value}{w:World}{A:Nat->Prop}{X:Refs}(hI:Inv F w A X st.h)(ht:Pj w A X st.t tmps):∀(rs:List ResultVar),(rK P st rs).1->
  ∃vs:List Value,(rs.mapM (mJ tmps)).run P w=.ok vs w/\vs.length=rs.length/\(rK P st rs).2.length=rs.length/\∀(i:Nat) (c:V) (v:Value),(rK P st rs).2[i]?=some c->vs[i]?=some v->RV w A X c v
 | [],_=>⟨[],by simp,rfl,rfl,fun i c v hc=>by simp [rK]at hc⟩
 | x::xs,hc=>by
  simp only [rK]at hc ⊢;obtain⟨u,MX,Ku⟩:=GL (P:=P) hI ht x hc.1;obtain⟨us,v9,va,Wl,v6⟩:=Ce (P:=P) hI ht xs hc.2;refine⟨u::us,?_,by simp [va],by simpa using Wl,fun i c v hc hv=>?_⟩
  ·simp only [List.mapM_cons,Sem.run_bind,MX,Result.andThen_ok,v9,Sem.run_pure]
  ·cases i with
   | zero=>simp at hc hv;subst hc hv;exact Ku
   | succ i=>exact v6 i c v (by simpa using hc) (by simpa using hv)
theorem zW{P:Program}{fn:Func}{st:St}{tmps:Array Value}{w:World}{A:Nat->Prop}{X:Refs}(hI:Inv F w A X st.h)(ht:Pj w A X st.t tmps)(hc:(AQ P fn.results.toList st).1) :
  ∃v,(results fn tmps).run P w=.ok v w/\RV w A X (AQ P fn.results.toList st).2 v:=by
 generalize iI:fn.results.toList=rs at hc ⊢;unfold AQ at hc ⊢;split at hc
 ·rename_i x;obtain⟨u,MX,Ku⟩:=GL (P:=P) hI ht x hc;refine⟨u,?_,Ku⟩;have:=mB (P:=P) (fn:=fn) (tmps:=tmps) (w:=w) (vs:=[u]) (by rw [iI];simp [List.mapM_cons,MX]);simpa using this
 ·rename_i z9;simp only at hc ⊢;obtain⟨us,v9,va,Wl,v6⟩:=Ce (P:=P) hI ht rs hc;have:=mB (P:=P) (fn:=fn) (tmps:=tmps) (w:=w) (vs:=us) (by rw [iI];exact v9);have hl:¬ us.toArray.size=1:=by intro hh;have h1:rs.length=1:=(by rw [<-va];simpa using hh);obtain⟨x,rfl⟩:=List.length_eq_one_iff.1 h1;exact z9 x rfl
  rw [dif_neg hl]at this;refine⟨_,this,.dB _ us.toArray (by simp;omega) fun i c hi=>?_⟩;have v5:i<us.length:=by have:=(List.getElem?_eq_some_iff.1 hi).1;omega
  have hg:us.toArray.getD i gC=us[i]:=by simp [Array.getD_eq_getD_getElem?,v5]
  rw [hg];exact v6 i c _ hi (List.getElem?_eq_getElem v5)
def ct(E:Env)(ok:jC)(fn:Func)(S:bB):Prop:=
 ∀(args:List V) (h:Hp),(S.go args h).c->jo E ok (fn.body.getD .skip) (entry args h) fun e st=>(e=.normal\/e=.ret)/\(AQ E.P fn.results.toList st).1/\sub (AQ E.P fn.results.toList st).2 (S.go args h).v/\bA st.h (S.go args h).h
theorem uo{E:Env}{ok:jC}:∀(c:Code) (st:St) (Q Q':Ex->St->Prop),(∀e st,Q e st->Q' e st)->jo E ok c st Q->jo E ok c st Q':=by
 intro c
 induction c with
 | skip=>intro st Q Q' hq h;exact hq _ _ h
 | ret=>intro st Q Q' hq h;exact hq _ _ h
 | exit id=>intro st Q Q' hq h;exact hq _ _ h
 | region id ops draw=>
  intro st Q Q' hq h;simp only [jo]at h ⊢;obtain⟨y9,h⟩:=h;refine⟨y9,?_⟩;clear y9;revert h;generalize (qW (OV E.jQ id) st).2=st;intro h;split at h
  ·rename_i fr cs hcs;have mono:∀(cs:List (List Nat)) {K K':St->Prop},(∀s,K s->K' s)->runs E ops.toList fr cs st K->runs E ops.toList fr cs st K':=by
    intro cs K K' hk
    induction cs with
    | nil=>intro h;exact h
    | cons c cs ih=>intro h;exact⟨⟨h.1.1,hk _ h.1.2⟩,ih h.2⟩
   exact mono cs (fun s hs=>hq _ _ hs) h
  ·cases hr:mP E ops.toList ops.toList st with
   | mk c st'=>rw [hr]at h;exact⟨h.1,hq _ _ h.2⟩
 | seq x y WE WG=>
  intro st Q Q' hq h;simp only [jo]at h ⊢;refine WE st _ _ (fun e st' hh=>?_) h;cases e with
  | normal=>exact WG st' _ _ hq hh
  | exit id=>exact hq _ _ hh
  | ret=>exact hq _ _ hh
 | cond c x y WE WG=>
  intro st Q Q' hq h;simp only [jo]at h ⊢;cases qm:ev st c with
  | mk g v=>
  rw [qm]at h;cases v with
  | bool b=>exact⟨h.1,fun hb=>WE st _ _ hq (h.2.1 hb),fun hb=>WG st _ _ hq (h.2.2 hb)⟩
  | qT=>exact⟨h.1,WE st _ _ hq h.2.1,WG st _ _ hq h.2.2⟩
  | _=>exact h.elim
 | block id c ih=>
  intro st Q Q' hq h;simp only [jo]at h ⊢;refine ih st _ _ (fun e st' hh=>?_) h;cases e with
  | normal=>exact hq _ _ hh
  | exit i=>
   simp only at hh ⊢;by_cases hi:i=id
   ·rw [if_pos hi]at hh ⊢;exact hq _ _ hh
   ·rw [if_neg hi]at hh ⊢;exact hq _ _ hh
  | ret=>exact hq _ _ hh
 | loop c ih=>
  intro st Q Q' hq h;simp only [jo]at h ⊢;obtain⟨ι,I,m,i0,hle,hb⟩:=h;refine⟨ι,I,m,i0,hle,fun i=>ih (I i) _ _ (fun e st' hh=>?_) (hb i)⟩;cases e with
  | normal=>exact hh
  | exit id=>exact hq _ _ hh
  | ret=>exact hq _ _ hh
 | rangeFunc g ps x y WE WG=>
  intro st Q Q' hq h;simp only [jo]at h ⊢;obtain⟨h1,it,caps,S,Y,e0,h2,h3,h4⟩:=h;exact⟨h1,it,caps,S,Y,e0,h2,h3,fun l=>⟨(h4 l).1,fun hh=>hq _ _ ((h4 l).2.1 hh),fun hh=>⟨((h4 l).2.2 hh).1,hq _ _ ((h4 l).2.2 hh).2⟩⟩⟩
 | _=>intro st Q Q' hq h;exact h.elim
def vG(E:Env)(ok:jC)(fn:Func)(S:bB):Prop:=
 ∀(args:List V) (h:Hp),(S.go args h).c->jo E ok (fn.body.getD .skip) (entry args h) fun e st=>(e=.normal\/e=.ret)/\∃st',Gh st st'/\(AQ E.P fn.results.toList st').1/\sub (AQ E.P fn.results.toList st').2 (S.go args h).v/\bA st'.h (S.go args h).h
theorem Gs{E:Env}(hT:nZ E){ok:jC}{f:FuncId}{fn:Func}{c:Code}{S:bB}(hf:E.P.funcs[f]?=some fn)(hb:fn.body=some c)(hok:dz E ok c=true)(vb:fn.ntmps=E.nt)(hlen:∀args h,(S.go args h).c->args.length<=E.nt)
  (h:vG E ok fn S) (hyl:E.yl=none:=by rfl):Jn E.P f S:=by
 intro args hp hc w A X vals hI hsz v3;have hw:=h args hp hc;rw [hb]at hw;simp only [Option.getD_some]at hw;refine qn hf hb ?_;have hR:R ⟨w,A,X,jY X hp⟩ E.nt (entry args hp) {tmps:=vals++Array.replicate (fn.ntmps - vals.size) undef,defers:=[]} w:=by
  refine⟨⟨A,X,hI,fun k=>?_,Mk.nil _ _ _⟩,by have:=hlen args hp hc;simp [vb];omega⟩;rw [DV];refine⟨fun _=>?_,fun hh=>by cases hh⟩;simp only;by_cases hk:k<args.length
  ·have e1:args.getD k .top=args[k]:=(by simp [List.getD,List.getElem?_eq_getElem hk]);rw [e1];have:=v3 k _ (List.getElem?_eq_getElem hk);have e2:(vals++Array.replicate (fn.ntmps - vals.size) undef).getD k undef=vals.getD k gC:=by simp only [Array.getD_eq_getD_getElem?];rw [Array.getElem?_append_left (by omega)]
   rw [e2];exact this
  ·have e1:args.getD k .top=.top:=(by simp [List.getD,List.getElem?_eq_none (Nat.le_of_not_lt hk)]);rw [e1];exact .pure (.top _)
 refine sL hT c hok _ none (K1.ok hyl _ none (fun l e=>by cases e)) 0 _ _ _ _ w hw (R2.k1.2 hR) fun e st' a' w1 e' hq sO he=>?_;obtain⟨z1,H6,hg,P5,z2,vd⟩:=hq;obtain⟨⟨A',X',wO,z0,GG⟩,alw⟩:=R2.k1.1 (R2.ghost (K1.ok hyl _ none (fun l e=>by cases e)) hg sO);have uQ:LeavesInM Fence.wide 0 E.P fn a'.tmps (fun e w'=>∃v A' X',e=.returned v/\Inv ⟨w,A,X,jY X hp⟩ w' A' X' (S.go args hp).h/\RV w' A' X' (S.go args hp).v v) a'.defers .returning w1:=by refine leaves a'.defers w1 wO GG fun w' GK fB=>?_;have ht':=Pj.calm z0 GK;obtain⟨v,oQ,oR⟩:=zW (P:=E.P) (fn:=fn) fB ht' P5;exact⟨v,oQ,v,A',X',rfl,fB.hle vd,sJ z2 oR⟩
 cases e'<;>simp only [DU,Option.some.injEq,reduceCtorEq]at he
 ·exact uQ
 ·subst he;rcases z1 with hh|hh<;>cases hh
 ·exact uQ
theorem aaA{E:Env}(hT:nZ E){ok:jC}{f:FuncId}{fn:Func}{c:Code}{S:bB}(hf:E.P.funcs[f]?=some fn)(hb:fn.body=some c)(hok:dz E ok c=true)(vb:fn.ntmps=E.nt)(hlen:∀args h,(S.go args h).c->args.length<=E.nt)
  (h:ct E ok fn S) (hyl:E.yl=none:=by rfl):Jn E.P f S:=
 Gs hT hf hb hok vb hlen (fun args hp hc=>uo _ _ _ _ (fun _ _ q=>⟨q.1,_,.refl _,q.2⟩) (h args hp hc)) hyl
omit [aO]in
omit [aO]in
omit [aO]in
omit [aO]in
omit [aO]in
theorem qN{h:Hp}(hy:(h YS).ah=[])(s i:Nat)(B:dZ):bE h s i B YS=h YS:=by
 unfold bE;split
 ·rename_i e;subst e;rw [hy];cases hh:h YS with
  | mk base ah fl=>rw [hh]at hy;simp only at hy;subst hy;rfl
 ·rfl
omit [aO]in
theorem gV(h:Hp){s:Nat}(hs:s≠YS)(B:dZ):bD h s B YS=h YS:=by unfold bD;rw [if_neg (Ne.symm hs)]
omit [aO]in
theorem aaP{h:Hp}(hy:(h YS).ah=[])(i:Nat):aL h YS i=none:=by unfold aL;rw [hy];simp
omit [aO]in
theorem DW{h:Hp}{s i:Nat}{B:dZ}(hy:(h YS).ah=[])(hg:aL h s i=some B):tV h s i YS=h YS:=by
 unfold tV;split
 ·rename_i e;subst e;rw [aaP hy]at hg;cases hg
 ·rfl
theorem Jw{E:Env}{key:Nat}{T:TypeId}{s x:V}{h:Hp}(hy:(h YS).ah=[])(v0:key≠YS):(fM E key T s x h).h YS=h YS:=by
 unfold fM;cases cm E.P T with
 | none=>rfl
 | some e=>
  cases s<;>dsimp only [bad]
  case nil=>exact gV h v0 _
  case bw s i n=>
   cases aL h s i with
   | none=>rfl
   | some B=>exact qN hy _ _ _
  case gY s i n off len cap=>
   cases aL h s i with
   | none=>rfl
   | some B=>exact qN hy _ _ _
  case emp=>exact iteInduction (motive:=fun o=>(Out.h o) YS=h YS) (fun _=>rfl) (fun _=>gV h v0 _)
theorem GM:∀(L:List Nat) {h:Hp},(h YS).ah=[]->(yp L h) YS=h YS
 | [],_,_=>rfl
 | s::r,h,hy=>by
  have e:(zx h s) YS=h YS:=by
   unfold zx;split
   ·rename_i e;subst e;cases hh:h YS with
    | mk b bl fl=>rw [hh]at hy;simp only at hy;subst hy;rfl
   ·rfl
  show(yp r (zx h s)) YS=h YS;rw [GM r (by rw [e];exact hy),e]
theorem aaQ{E:Env}{d:Nat}{f:V}{h:Hp}(hy:(h YS).ah=[]):(o6 E d f h) YS=h YS:=by
 unfold o6;cases f<;>try rfl
 rename_i g cs;simp only;cases E.fn g with
 | none=>rfl
 | some S=>cases S<;>first|rfl|exact GM _ hy
def VN(E:Env):Prop:=∀f S,E.fn f=some (.heap S)->∀args h,(S.go args h).c->(h YS).ah=[]->(S.go args h).h YS=h YS
theorem age{E:Env}(hyl:E.yl=none)(hkp:VN E){d:Nat}(v0:E.key+d≠YS)(op:Op)(ρ:Operand->V){h:Hp}(hy:(h YS).ah=[])(hc:(sem E d op ρ h).c):(sem E d op ρ h).h YS=h YS:=by
 cases op<;>simp only [sem,bad]at hc ⊢
 case pick=>unfold A7 at *;split<;>rfl
 case alloc=>exact gV h v0 _
 case box=>exact gV h v0 _
 case build=>unfold ny;split<;>rfl
 case buildSlice=>
  unfold dK gX;repeat' split
  all_goals first|rfl|exact gV h v0 _
 case load=>unfold l9;split<;>(try rfl);split<;>rfl
 case store=>
  unfold nq;split
  ·split
   ·exact qN hy _ _ _
   ·rfl
  ·rfl
 case nilCheck=>unfold Co;split<;>rfl
 case unOp=>unfold sUn;split<;>rfl
 case convert=>unfold yq;split<;>rfl
 case makeFunc f first caps=>cases f<;>simp only at hc ⊢<;>(try rfl);split<;>rfl
 case makeSlice=>
  unfold eG;split
  ·split<;>exact gV h v0 _
  ·rfl
 case slice=>
  split
  ·unfold I6;split
   ·split
    ·rename_i hg;exact(gV _ v0 _).trans (DW hy hg)
    ·rfl
   ·rfl
  ·rfl
 case fieldAddr=>unfold fk;split<;>rfl
 case field=>unfold nr;split<;>rfl
 case indexAddr=>unfold ef;split<;>(try rfl);split<;>(try rfl)<;>split<;>rfl
 case index=>unfold nu;split<;>rfl
 case extract=>unfold mN;split<;>rfl
 case call c=>
  obtain⟨callee,args,ats⟩:=c;cases callee with
  | invoke r m=>rfl
  | value f=>
   simp only at hc ⊢;have hz:=aaQ (E:=E) (d:=d) (f:=ρ f) hy;have hy':((o6 E d (ρ f) h) YS).ah=[]:=(by rw [hz];exact hy);rw [<-hz];clear hz hy;generalize o6 E d (ρ f) h=h at *;have hy:=hy';cases hf:ρ f<;>simp only [hf,q9,bad,hyl]at hc ⊢
   case fn g caps=>
    unfold vM at hc ⊢;cases hg:E.fn g with
    | none=>rfl
    | some S=>
     cases S with
     | pure S=>rfl
     | iter S=>simp only [hyl];rfl
     | heap S=>simp only [hg]at hc;exact hkp g S hg _ h hc hy
  | builtin b=>
   cases b<;>simp only at hc ⊢<;>(try rfl)
   case append=>
    split
    ·split
     ·exact Jw hy v0
     ·unfold gI;split
      ·exact gV h v0 _
      ·rfl
    ·rfl
   case clear=>
    split
    ·unfold sC;split
     ·split
      ·exact qN hy _ _ _
      ·rfl
     ·rfl
    ·rfl
   case copy=>
    split
    ·unfold zz;split
     ·split
      ·exact qN hy _ _ _
      ·rfl
     ·rfl
    ·rfl
   case len=>split<;>(try rfl);unfold sLen;split<;>rfl
   case cap=>split<;>(try rfl);unfold sCap;split<;>rfl
   case max=>unfold uM;split<;>rfl
   case min=>unfold uM;split<;>rfl
def KI(F0:Fr)(l:Nat)(Pr:Loop->Prop)(F:Fr)(h:Hp):Prop:=(h YS).ah=[]/\((F=F0/\(h YS).fl=false)\/∃r,Pr r/\F=F0.stop l r/\(h YS).fl=true)
theorem Ends.conv{l:Nat}{Pr:Loop->Prop}{F0:Fr}{w w':World}{A A':Nat->Prop}{X X':Refs}{h h':Hp}{r0:Loop}(hI:Inv F0 w A X h)(hl:w.heap[l]?=some (.loop r0))(za:l<F0.w0.heap.size)(he:Ends ⟨w,A,X,jY X h⟩ l Pr w' A' X' h') :
  ∃F',KI F0 l Pr F' h'/\F'.w0.heap.size=F0.w0.heap.size/\Inv F' w' A' X' h'/\Carry w A X w' A' X':=by
 obtain⟨hb,⟨hf,fB⟩|⟨hf,r,hr,fB⟩⟩:=he
 ·obtain⟨k1,k2,k3⟩:=hI.back fB;exact⟨F0,⟨hb,.inl ⟨rfl,hf⟩⟩,rfl,k3,.of k1 k2⟩
 ·obtain⟨k1,k2,k3⟩:=(hI.KR r hl rfl za).back fB;exact⟨F0.stop l r,⟨hb,.inr ⟨r,hr,rfl,hf⟩⟩,by simp [Fr.stop],k3,(Carry.put _ hl).trans (.of k1 k2)⟩
def zq(E:Env)(ok:jC)(fn:Func)(S:Nat->bB->bB):Prop:=
 ∀(l:Nat) (Y:bB) (args:List V) (h:Hp),((S l Y).go args h).c->(h YS).ah=[]->(h YS).fl=false->jo {E with yl:=some (l,Y)} ok (fn.body.getD .skip) (entry args h) fun e st=>(e=.normal\/e=.ret)/\(AQ E.P fn.results.toList st).1/\sub (AQ E.P fn.results.toList st).2 ((S l Y).go args h).v/\bA st.h ((S l Y).go args h).h
theorem aaB{E:Env}(hT:nZ E){ok:jC}{f:FuncId}{fn:Func}{c:Code}{S:Nat->bB->bB}(hf:E.P.funcs[f]?=some fn)(hb:fn.body=some c)(hok:∀l Y,dz {E with yl:=some (l,Y)} ok c=true)(vb:fn.ntmps=E.nt)(hlen:∀l Y args h,((S l Y).go args h).c->args.length<=E.nt)
  (hyl:E.yl=none) (v0:∀d,d<E.nt\/d=0->E.key+d≠YS) (hkp:VN E) (h:zq E ok fn S):HZ E.P f S:=by
 intro l Y Pr B hB hY args hp hc yb yc w A X vals zE hI hsz v3;have hw:=h l Y args hp hc yb yc;rw [hb]at hw;simp only [Option.getD_some]at hw;refine qn hf hb ?_;have hR:R ⟨w,A,X,jY X hp⟩ E.nt (entry args hp) {tmps:=vals++Array.replicate (fn.ntmps - vals.size) undef,defers:=[]} w:=by
  refine⟨⟨A,X,hI,fun k=>?_,Mk.nil _ _ _⟩,by have:=hlen l Y args hp hc;simp [vb];omega⟩;rw [DV];refine⟨fun _=>?_,fun hh=>by cases hh⟩;simp only;by_cases hk:k<args.length
  ·have e1:args.getD k .top=args[k]:=(by simp [List.getD,List.getElem?_eq_getElem hk]);rw [e1];have:=v3 k _ (List.getElem?_eq_getElem hk);have e2:(vals++Array.replicate (fn.ntmps - vals.size) undef).getD k undef=vals.getD k gC:=by simp only [Array.getD_eq_getD_getElem?];rw [Array.getElem?_append_left (by omega)]
   rw [e2];exact this
  ·have e1:args.getD k .top=.top:=(by simp [List.getD,List.getElem?_eq_none (Nat.le_of_not_lt hk)]);rw [e1];exact .pure (.top _)
 obtain⟨r0,z5⟩:=hB.1 w A X zE;have za:=(Array.getElem?_eq_some_iff.1 z5).1;have ob:OW {E with yl:=some (l,Y)} (KI ⟨w,A,X,jY X hp⟩ l Pr) none:=by
  refine {ys:=?_,sem:=?_,jQ:=?_,rf:=?_,rd:=fun l e=>(by cases e),sp:=?_}
  ·intro F h h' e hk;unfold KI at *;rw [e];exact hk
  ·intro F d op ρ h hd hk hc;have hE:({({E with yl:=some (l,Y)}:Env)with yl:=none}:Env)=E:=(by cases E;simp only at hyl;subst hyl;rfl);rw [hE]at hc ⊢;have:=age hyl hkp (v0 d hd) op ρ hk.1 hc;unfold KI at *;rw [this];exact hk
  ·intro F k st hk OO;have:(Az k st).2.h YS=st.h YS:=by
    unfold Az at OO ⊢;split
    ·rename_i aH;rw [if_pos aH]at OO;unfold ZY at OO ⊢;split
     ·rename_i hq;rw [hq]at OO;simp only at OO ⊢;split
      ·rename_i hB;rw [hB]at OO;simp only at OO ⊢;exact(gV _ OO.1.2 _).trans (DW hk.1 hB)
      ·rfl
     ·rename_i hq;rw [hq]at OO;simp only at OO ⊢;split
      ·rename_i hB;rw [hB]at OO;simp only at OO ⊢;exact(gV _ OO.1.2 _).trans (DW hk.1 hB)
      ·rfl
     all_goals rfl
    split
    ·simp only [zx];split
     ·rename_i e;rw [<-e,hk.1];cases hh:st.h YS with
      | mk base ah fl=>have:=hk.1;rw [hh]at this;simp only at this;subst this;rfl
     ·rfl
    ·split
     ·rfl
     ·simp only;unfold ZX;split;all_goals (try rfl)
      all_goals (split<;>first|rfl|exact qN hk.1 _ _ _)
   unfold KI at *;rw [this];exact hk
  ·intro hh;cases hh
  ·intro l' Y' e;simp only [Option.some.injEq,Prod.mk.injEq]at e;obtain⟨rfl,rfl⟩:=e;constructor
   ·intro F args h hk hc w1 A1 X1 vals wO zK zY;obtain⟨ez,zd,alx⟩:=hY args h hc;obtain⟨_,⟨rfl,_⟩|⟨r,_,_,z3⟩⟩:=hk
    ·have rj:=hB.2 _ _ _ _ _ _ _ _ zE hI wO;obtain⟨r1,kR⟩:=hB.1 _ _ _ rj;obtain⟨fn',tmps,assign,body,hrun,r7⟩:=alx w1 A1 X1 vals rj wO.self zK zY;refine⟨fn',tmps,assign,body,hrun,r7.mono ?_⟩;rintro e w' ⟨v,A',X',rfl,V7,hv⟩;obtain⟨F',g1,g2,g3,g4⟩:=Ends.conv wO kR za V7;exact⟨v,A',X',F',rfl,g1,g2,g3,g4,hv⟩
    ·rw [zd]at z3;cases z3
   ·intro g S' hS' F args h hk ez zd hc w1 A1 X1 vals wO zK zY;obtain⟨_,⟨rfl,_⟩|⟨r,_,_,z3⟩⟩:=hk
    ·have rj:=hB.2 _ _ _ _ _ _ _ _ zE hI wO;obtain⟨r1,kR⟩:=hB.1 _ _ _ rj;refine(hS' l Y Pr B hB hY args h hc ez zd w1 A1 X1 vals rj wO.self zK zY).mono ?_;rintro e w' ⟨v,A',X',rfl,V7,hv⟩;obtain⟨F',g1,g2,g3,g4⟩:=Ends.conv wO kR za V7;exact⟨v,A',X',F',rfl,g1,g2,g3,g4,hv⟩
    ·rw [zd]at z3;cases z3
 refine sL (E:={E with yl:=some (l,Y)}) hT c (hok l Y) _ none ob 0 _ _ _ _ w hw ⟨_,⟨yb,.inl ⟨rfl,yc⟩⟩,hR⟩ fun e st' a' w1 e' hq sO he=>?_;obtain⟨z1,P5,z2,vd⟩:=hq;obtain⟨F',hF',⟨A',X',wO,z0,GG⟩,alw⟩:=sO;have uQ:LeavesInM Fence.wide 0 E.P fn a'.tmps (fun e w'=>∃v A' X',e=.returned v/\Ends ⟨w,A,X,jY X hp⟩ l Pr w' A' X' ((S l Y).go args hp).h/\RV w' A' X' ((S l Y).go args hp).v v) a'.defers .returning w1:=by
  refine leaves a'.defers w1 wO GG fun w' GK fB=>?_;have ht':=Pj.calm z0 GK;obtain⟨v,oQ,oR⟩:=zW (P:=E.P) (fn:=fn) fB ht' P5;refine⟨v,oQ,v,A',X',rfl,⟨?_,?_⟩,sJ z2 oR⟩
  ·rw [vd.2];exact hF'.1
  ·rcases hF'.2 with⟨rfl,hf⟩|⟨r,hr,rfl,hf⟩
   ·exact .inl ⟨by rw [vd.2];exact hf,fB.hle vd⟩
   ·exact .inr ⟨by rw [vd.2];exact hf,r,hr,fB.hle vd⟩
 cases e'<;>simp only [DU,Option.some.injEq,reduceCtorEq]at he
 ·exact uQ
 ·subst he;rcases z1 with hh|hh<;>cases hh
 ·exact uQ
end
end Go.Sx
end
end
