/- A part of a proof; no conditions. -/
import Derived.Test.YtegiclpanpmkdaaGreatDoorR39
import Derived.Test.YtegiclpanpmkdaaGreatDoorR17
import Derived.Test.YtegiclpanpmkdaaGreatDoorR66
import Derived.Test.YtegiclpanpmkdaaGreatDoorR67
import Derived.Test.YtegiclpanpmkdaaGreatDoorR69
import Derived.Test.YtegiclpanpmkdaaGreatDoorR44
import Derived.Test.YtegiclpanpmkdaaGreatDoorR50
import Derived.Test.YtegiclpanpmkdaaGreatDoorR54
set_option linter.all false
set_option maxRecDepth 100000
set_option maxHeartbeats 8000000
noncomputable section
section
namespace Go.Sx
theorem aAT{f:Fl}{m:Int}:∀{l:List Sr},0<fA f m l->∃x∈l,x.m=m
 | [],h=>by simp [fA]at h
 | x::l,h=>by
  by_cases e:x.m=m
  ·exact⟨x,by simp,e⟩
  ·rw [fA,if_neg e,Int.zero_add]at h;obtain⟨y,hy,h2⟩:=aAT h;exact⟨y,List.mem_cons_of_mem _ hy,h2⟩
def flW(f:Fl)(l:List Sr):Nat->List Wk
 | 0=>f.ko
 | m+1=>flW f l m++if 0<fA f m l then [⟨1,m,upH (fA f m l) f.hour,0⟩]else []
theorem aAO(f:Fl)(l:List Sr):∀m,(flW f l m).length<=f.ko.length+m
 | 0=>Nat.le_refl _
 | m+1=>by have:=aAO f l m;rw [flW,List.length_append];split<;>simp<;>omega
structure Flo (f:Fl) (l:List Sr) (m:Nat):Prop where
 op:jA f.eH (flW f l m)=0
 XI:(sP f.eH (flW f l m)).ps.length=(sP f.eH f.ko).ps.length
 ps:∀(k:Nat) (p:PS),(sP f.eH (flW f l m)).ps[k]?=some p->∃q,(sP f.eH f.ko).ps[k]?=some q/\p.a=q.a/\p.b=q.b/\p.bh=q.bh/\p.hours=q.hours+if 0<=q.a/\q.a<m then upH (fA f q.a l) f.hour else 0
 lY:∀n:Nat,m<=n->(sP f.eH (flW f l m)).i.cE n 0=(sP f.eH f.ko).i.cE n 0
theorem aBh{hour:Int}(h:1<=hour):upH 0 hour=0:=by unfold upH;rw [Int.tdiv_eq_ediv_of_nonneg (by omega)];exact Int.ediv_eq_zero_of_lt (by omega) (by omega)
theorem Good.flo{f:Fl}(hf:gu f)(hl:f.ko.length<=100){l:List Sr}(h:Good f false l):∀{m:Nat},m<=f.dU.length->m<=50->Flo f l m
 | 0,_,_=>⟨hf.op,rfl,fun k p hp=>⟨p,hp,rfl,rfl,rfl,by rw [if_neg (by omega)];simp⟩,fun _ _=>rfl⟩
 | m+1,hm,z2=>by
  have ih:=Good.flo hf hl h (m:=m) (by omega) (by omega);have hlen:=aAO f l m;have va:=hf.hour;have y3:=xz hf (m:Int) h.sr;by_cases ha:0<fA f m l
  ·have hw:flW f l (m+1)=flW f l m++[⟨1,m,upH (fA f m l) f.hour,0⟩]:=(by rw [flW,if_pos ha]);obtain⟨x,hx,Wn⟩:=aAT ha;obtain⟨g1,g2⟩:=h.mD x hx;rw [Wn]at g1 g2;rw [show((m:Int)).toNat=m from Int.toNat_natCast m]at g1 g2;obtain⟨e1,e2⟩:=Fa g1;obtain⟨j1,j2,j3,j4,j5⟩:=uI e1;have hu:=R6 y3.1 va.1 g2;have y4:=(qz hf.op).2.2.2;have hI:=(qz ih.op).2.2.2;have arY:=rD (sP f.eH f.ko).i (m:Int) 0;have aiE:(sP f.eH (flW f l m)).iN m (upH (fA f m l) f.hour) 0=true:=by
    have y5:(sP f.eH (flW f l m)).i.machine m=(sP f.eH f.ko).i.machine m:=by show au _ 0 (cM (sP f.eH (flW f l m)).r.ax 1)=au _ 0 (cM (sP f.eH f.ko).r.ax 1);rw [hI.rg,y4.rg]
    simp only [HG.iN,y5,j2,ih.lY m (Nat.le_refl _),au,Bool.true_and,Bool.and_eq_true,decide_eq_true_eq];omega
   have vb:jA f.eH (flW f l m++[⟨1,m,upH (fA f m l) f.hour,0⟩])=0:=by rw [TS ih.op (by omega),ad7,aiE];rfl
   obtain⟨_,q1,q2,q3⟩:=aAG (w:=⟨1,m,upH (fA f m l) f.hour,0⟩) ih.op (by omega) rfl vb;have hL:=aAP ih.op;obtain⟨v1,v2,v3,v4,v5,v6,v7,v8⟩:=cF hI.val;have q4:(sP f.eH (flW f l (m+1))).ps=(sP f.eH (flW f l m)).ps.map (kB (sP f.eH (flW f l m)).aX m (upH (fA f m l) f.hour) 0):=(by rw [hw];exact q3);refine⟨by rw [hw];exact vb,by rw [q4,List.length_map];exact ih.XI,fun k p hp=>?_,fun n hn=>?_⟩
   ·rw [q4,List.getElem?_map]at hp;cases hq:(sP f.eH (flW f l m)).ps[k]? with
    | none=>rw [hq]at hp;cases hp
    | some p0=>
     rw [hq,Option.map_some,Option.some.injEq]at hp;obtain⟨q,r1,r2,r3,r4,r5⟩:=ih.ps k p0 hq;refine⟨q,r1,?_⟩;subst hp;unfold kB;by_cases e:p0.a=(m:Int)
     ·rw [if_pos e];have vP:=hL k p0 hq;have td:k<f.eH.parts.length:=(by rw [<-hI.XI];exact(List.getElem?_eq_some_iff.1 hq).1);have yO:=v7 _ (mX td);have y6:(f.eH.parts.getD k default).kind.toNat<f.eH.kinds.length:=(by omega);have yT:=v6 _ (mX y6);have wZ:∀a b:Int,imax a b=a\/imax a b=b:=fun a b=>by unfold imax;split<;>omega
      have g3:=vP.h0;have g4:=vP.h1;have g5:=vP.c0;have g6:=vP.c1;have ez:0<=p0.hours/\p0.hours<=100000:=by rcases wZ (f.eH.kinds.getD (f.eH.parts.getD k default).kind.toNat default).hours (f.eH.parts.getD k default).hours with m1|m1<;>rw [m1]at g4<;>omega
      have kJ:0<=p0.bh/\p0.bh<=100000:=by rcases wZ (f.eH.kinds.getD (f.eH.parts.getD k default).kind.toNat default).bh (f.eH.parts.getD k default).bh with m1|m1<;>rw [m1]at g6<;>omega
      have w1:eZ p0.hours (upH (fA f m l) f.hour)=p0.hours+upH (fA f m l) f.hour:=aK (by omega) (by omega);have w2:eZ p0.bh 0=p0.bh:=by have:eZ p0.bh 0=p0.bh+0:=aK (by omega) (by omega);omega
      have y7:q.a=(m:Int):=(by omega);refine⟨r2,r3,by simp only;rw [w2];exact r4,?_⟩;simp only;rw [w1,r5,y7,if_neg (by omega),if_pos (by omega)];omega
     ·rw [if_neg e];refine⟨r2,r3,r4,?_⟩;rw [r5];by_cases e2:0<=q.a/\q.a<(m:Int)
      ·rw [if_pos e2,if_pos (by omega)]
      ·rw [if_neg e2,if_neg (by omega)]
   ·rw [hw,aAH q1 q2 q3 (show(n:Int)≠(m:Int) by omega) 0];exact ih.lY n (by omega)
  ·have hw:flW f l (m+1)=flW f l m:=(by rw [flW,if_neg ha,List.append_nil]);have h0:fA f m l=0:=(by omega);refine⟨by rw [hw];exact ih.op,by rw [hw];exact ih.XI,fun k p hp=>?_,fun n hn=>by rw [hw];exact ih.lY n (by omega)⟩;rw [hw]at hp;obtain⟨q,r1,r2,r3,r4,r5⟩:=ih.ps k p hp;refine⟨q,r1,r2,r3,r4,?_⟩;rw [r5];by_cases e:q.a=(m:Int)
   ·rw [if_neg (by omega),if_pos (by omega),e,h0,aBh va.1]
   ·by_cases e2:0<=q.a/\q.a<(m:Int)
    ·rw [if_pos e2,if_pos (by omega)]
    ·rw [if_neg e2,if_neg (by omega)]
end Go.Sx
end
section
namespace Go.Sx
open Go.Proofs
attribute [local simp] ri aa ints
attribute [local irreducible] bA
attribute [local simp] aG
@[simp] def aBi(p:PS):List V:=[vJ p]
theorem aBj(a b:PS)(h:aBi a=aBi b):a=b:=Cj _ _ (by simpa using h)
theorem aAU(p:PS):aY aBi [.ip 8 [[.int .i64 p.kind,.int .i64 p.hours,.int .i64 p.bh,.bool p.known,.int .i64 p.a,.int .i64 p.b,.sl 1 (p.since.map ri),.sl 1 (p.iV.map rb)]] 0 0]=p:=aA aBj p
noncomputable abbrev aAQ:aB:=bS aBi (fun _=>True) fun p=>.agg [.int .i64 p.hours,.int .i64 p.bh]
noncomputable abbrev E75:=EV [] [] 7500 14
theorem b75:af E75 [] Tryz.f75 aAQ:=pb <| by rintro p _;simp -dsimp [Tryz.f75,E75,vJ,PS.sU];repeat' first|omega|simp -dsimp [E75,vJ,PS.sU]|apply aI|apply nI|intro
theorem aqv:FO 75 aAQ:=pf b75 .nil
noncomputable abbrev aAE:aB:=bS aBi (fun _=>True) fun p=>.agg [.int .i64 p.a,.int .i64 p.b]
noncomputable abbrev E76:=EV [] [] 7600 7
theorem b76:af E76 [] Tryz.f76 aAE:=pb <| by rintro p _;simp -dsimp [Tryz.f76,E76,vJ,PS.sU];repeat' first|omega|simp -dsimp [E76,vJ,PS.sU]|apply aI|apply nI|intro
theorem aqB:FO 76 aAE:=pf b76 .nil
structure EaD where
 r:aZ
 l:List Wk
 b:Bool
 deriving Inhabited
@[simp] def eaE(d:EaD):List V:=[.agg d.r.row,.sl 4 (d.l.map Wk.row),.fn (if d.b then 75 else 76) []]
theorem aA6(x y:EaD)(h:eaE x=eaE y):x=y:=by obtain⟨r,l,b⟩:=x;obtain⟨r',l',b'⟩:=y;simp only [eaE,List.cons.injEq,V.agg.injEq,V.sl.injEq,true_and,and_true]at h;obtain⟨h1,h2,h3⟩:=h;rw [aZ.aq _ _ h1,map_inj Wk.aq h2];cases b<;>cases b'<;>simp at h3 ⊢
theorem aBk(r:aZ)(l:List Wk):aY eaE [.agg [.sl 3 (r.kinds.map Kd.row),.sl 4 (r.parts.map Pt.row),.int .i64 r.ax,.sl 2 (r.az.map Od.row)],.sl 4 (l.map Wk.row),.fn 75 []]=⟨r,l,true⟩:=aA aA6 ⟨r,l,true⟩
theorem aBl(r:aZ)(l:List Wk):aY eaE [.agg [.sl 3 (r.kinds.map Kd.row),.sl 4 (r.parts.map Pt.row),.int .i64 r.ax,.sl 2 (r.az.map Od.row)],.sl 4 (l.map Wk.row),.fn 76 []]=⟨r,l,false⟩:=aA aA6 ⟨r,l,false⟩
def eaP(b:Bool)(p:PS):Int × Int:=if b then (p.hours,p.bh)else (p.a,p.b)
def eaR(r:aZ)(l:List Wk)(b:Bool):List (Int × Int):=if jA r l=0 then (sP r l).ps.map (eaP b)else []
noncomputable abbrev aA7:aB:=bS eaE (fun d=>RL.oW ⟨d.r,d.l⟩) fun d=>.dB [prs (eaR d.r d.l d.b),.int .i64 (jA d.r d.l)]
noncomputable abbrev E74:=EV [(77,.pure JG),(75,.pure aAQ),(76,.pure aAE)] [] 7400 39
theorem b74:af E74 [] Tryz.f74 aA7:=pb <| by
 rintro⟨r,l,b⟩ vd;by_cases hE:jA r l=0
 case neg=>
  have hR:eaR r l b=[]:=by simp [eaR,hE]
  cases b<;>simp -dsimp [Tryz.f74,E74,aZ.row]<;>repeat' first|omega|simp -dsimp [E74,fZ,aZ.row,vd,hE,hR,prs]|apply aI|apply nI|intro
 have hR:eaR r l b=(sP r l).ps.map (eaP b):=by simp [eaR,hE]
 have hI:=(qz hE).2.2.2;have hlen:(sP r l).ps.length<=1000:=(Ij hE).ps;rw [hR];clear hR;generalize hs:sP r l=s at *;have aBZ:s.i.ps=s.ps:=rfl;cases b<;>simp -dsimp [Tryz.f74,E74,aZ.row]<;>repeat' first|omega|simp -dsimp [E74,fZ,aZ.row,vd,hE,hs,HI.v,aBZ]|apply aI|apply nI|intro
 ·refine dA [(6,7436,2,90)] rfl (by simp) [28,29,30,11,31,32,33,34,35,36,6,37,27] (fun k:Fin (s.ps.length+1)=>[(27,(true,.int .i64 (k.1:Nat))),(6,(true,.bw 7436 0 k.1))])
   (fun k=>hps [(7436,{base:=0,ah:=[{z:=2,els:=OZ (fun p=>bn (eaP false p)) s.ps k.1,ty:=90}]}),(7403,{base:=1,ah:=[]})] cg) (fun k=>s.ps.length - k.1) ⟨0,by omega⟩ ?_ ?_ ?_
  ·simp [aj,aT]
  ·(try simp -dsimp only [hpx]);refine ai ?_;simp -dsimp [aC]<;>exact rz
  rintro⟨k,hk⟩;simp only;by_cases aH:k<s.ps.length
  ·have v0:(k:Int)<s.ps.length:=(by omega);have wk:=wx k;obtain⟨p,hp,hp'⟩:=aM aH;have vr:=sV (ps:=s.ps) (by omega);have hT:=Rx (fun p=>bn (eaP false p)) hp;have HJ:=Kx (fun p=>bn (eaP false p)) (l:=s.ps) (k:=k) (by omega);have z3:bn (eaP false p)=[.int .i64 p.a,.int .i64 p.b]:=rfl;simp only [z3]at hT;generalize OZ (fun p=>bn (eaP false p)) s.ps k=T at *;have yC:(k+1) * 16<=140737488355328:=(by omega);simp -dsimp [v0,vr];repeat' first|omega|simp -dsimp [E74,v0,aH,vr,hp,hp',vJ,PS.sU,aAU,wk,HJ,yC]|apply aI|apply nI|intro
   refine⟨⟨k+1,by omega⟩,ag rfl ?_,(by(try simp -dsimp only [hpx]);refine ai ?_;simp -dsimp [aC,hT]<;>exact rz),by simp only;omega⟩;simp [aj,aT]
  ·have v9:¬ (k:Int)<s.ps.length:=(by omega);have z4:k=s.ps.length:=(by omega);subst z4;simp -dsimp [v9];repeat' first|omega|simp -dsimp [E74,v9,prs,Ky]|apply aI|apply nI|intro
 ·refine dA [(6,7436,2,90)] rfl (by simp) [28,29,30,11,31,32,33,34,35,36,6,37,27] (fun k:Fin (s.ps.length+1)=>[(27,(true,.int .i64 (k.1:Nat))),(6,(true,.bw 7436 0 k.1))])
   (fun k=>hps [(7436,{base:=0,ah:=[{z:=2,els:=OZ (fun p=>bn (eaP true p)) s.ps k.1,ty:=90}]}),(7403,{base:=1,ah:=[]})] cg) (fun k=>s.ps.length - k.1) ⟨0,by omega⟩ ?_ ?_ ?_
  ·simp [aj,aT]
  ·(try simp -dsimp only [hpx]);refine ai ?_;simp -dsimp [aC]<;>exact rz
  rintro⟨k,hk⟩;simp only;by_cases aH:k<s.ps.length
  ·have v0:(k:Int)<s.ps.length:=(by omega);have wk:=wx k;obtain⟨p,hp,hp'⟩:=aM aH;have vr:=sV (ps:=s.ps) (by omega);have hT:=Rx (fun p=>bn (eaP true p)) hp;have HJ:=Kx (fun p=>bn (eaP true p)) (l:=s.ps) (k:=k) (by omega);have z3:bn (eaP true p)=[.int .i64 p.hours,.int .i64 p.bh]:=rfl;simp only [z3]at hT;generalize OZ (fun p=>bn (eaP true p)) s.ps k=T at *;have yC:(k+1) * 16<=140737488355328:=(by omega);simp -dsimp [v0,vr];repeat' first|omega|simp -dsimp [E74,v0,aH,vr,hp,hp',vJ,PS.sU,aAU,wk,HJ,yC]|apply aI|apply nI|intro
   refine⟨⟨k+1,by omega⟩,ag rfl ?_,(by(try simp -dsimp only [hpx]);refine ai ?_;simp -dsimp [aC,hT]<;>exact rz),by simp only;omega⟩;simp [aj,aT]
  ·have v9:¬ (k:Int)<s.ps.length:=(by omega);have z4:k=s.ps.length:=(by omega);subst z4;simp -dsimp [v9];repeat' first|omega|simp -dsimp [E74,v9,prs,Ky]|apply aI|apply nI|intro
theorem aqs:FO 74 aA7:=pf b74 (.cons Yf (.cons aqv (.cons aqB .nil)))
noncomputable abbrev aBm:aB:=bS rlE RL.oW fun d=>.dB [prs (eaR d.r d.l true),.int .i64 (jA d.r d.l)]
noncomputable abbrev E30:=EV [(74,.pure aA7),(75,.pure aAQ)] [] 3000 11
theorem b30:af E30 [] Tryz.f30 aBm:=pb <| by rintro⟨r,l⟩ vd;simp -dsimp [Tryz.f30,E30,aZ.row];repeat' first|omega|simp -dsimp [E30,aBk,aZ.row,vd,prs]|apply aI|apply nI|intro
theorem aji:FO 30 aBm:=pf b30 (.cons aqs (.cons aqv .nil))
noncomputable abbrev aA3:aB:=bS rlE RL.oW fun d=>.dB [prs (eaR d.r d.l false),.int .i64 (jA d.r d.l)]
noncomputable abbrev E31:=EV [(74,.pure aA7),(76,.pure aAE)] [] 3100 11
theorem b31:af E31 [] Tryz.f31 aA3:=pb <| by rintro⟨r,l⟩ vd;simp -dsimp [Tryz.f31,E31,aZ.row];repeat' first|omega|simp -dsimp [E31,aBl,aZ.row,vd,prs]|apply aI|apply nI|intro
theorem aoB:FO 31 aA3:=pf b31 (.cons aqs (.cons aqB .nil))
end Go.Sx
end
section
namespace Go.Sx
open Go.Proofs
attribute [local simp] ri aa ints
attribute [local irreducible] bA
namespace Fln
def hrL(f:Fl)(l:List Sr)(m:Nat):List Int:=(List.range f.dU.length).map fun i:Nat=>if i<m then upH (fA f (i:Int) l) f.hour else 0
theorem aAR(f:Fl)(l:List Sr)(m:Nat):(hrL f l m).length=f.dU.length:=by simp [hrL]
theorem aBn(f:Fl)(l:List Sr):(hrL f l 0).map ri=List.replicate f.dU.length [.int .i64 0]:=by simp [hrL,ri,List.map_const']
theorem aBo(f:Fl)(l:List Sr){m:Nat}(hm:m<f.dU.length):hrL f l (m+1)=(hrL f l m).set m (upH (fA f m l) f.hour):=by
 apply List.ext_getElem
 ·simp [hrL]
 ·intro i h1 h2;rw [List.getElem_set];simp only [hrL,List.getElem_map,List.getElem_range];by_cases e:m=i
  ·subst e;simp
  ·rw [if_neg e];by_cases e2:i<m
   ·rw [if_pos e2,if_pos (by omega)]
   ·rw [if_neg e2,if_neg (by omega)]
theorem aBw{f:Fl}{l:List Sr}{i:Nat}(h:i<f.dU.length):(hrL f l f.dU.length)[i]?=some (upH (fA f i l) f.hour):=by rw [List.getElem?_eq_getElem (by rw [aAR];exact h)];simp [hrL,h]
theorem bl{f:Fl}(hK:Cw f){l:List Sr}(hG:Good f false l){k:Nat}{x:Sr}(hx:l[k]?=some x):BlP (f,x.j,x.m)/\jJ f x.j.toNat x.m.toNat=ew f x:=by
 have hk:k<l.length:=(List.getElem?_eq_some_iff.1 hx).1;have O5:l.getD k default=x:=by simp [List.getD,hx]
 have hN:=hG.nx hk;rw [O5]at hN;refine⟨⟨hN.sr.jm hK,hN.can,?_⟩,rfl⟩;rcases hN.opn with h|h
 ·cases h
 ·exact h
noncomputable abbrev ayn:aB:=bS yU RiP fun _=>.bool true
noncomputable abbrev E8:Env:={P:=Tryz.prog,fn:=bf [(18,.pure lgS),(19,.pure X6),(27,.pure y9.adi),(22,.pure cpS),(13,.pure axN),(15,.pure MH),(30,.pure aBm),(31,.pure aA3)],own:=[45,57,64,135,145],key:=800,nt:=248,jQ:=[(1,[2,50002])],cfz:=[(139,[935]),(149,[945]),(156,[857])]}
theorem b8:af E8 [(6,([0],[[0,1,2,3,4,5,6,7,8,9]])),(28,([1,4],[[0,1,2,3,4,5,6,7,8,9,10,11]])),(29,([1,4],[[0,1,2,3,4,5,6,7,8,9,10,11]]))] Tryz.f8 ayn:=pb <| by
 rintro⟨f,l⟩ XN;have hP:=XN.p;have hl:=XN.l;simp only at hP hl;cases hL:R5 f
 case true=>
  simp -dsimp [Tryz.f8,E8];repeat' first|omega|simp -dsimp [E8,fC,hP,hL]|apply aI|apply nI|intro
 by_cases h4:l.length<=4
 case neg=>
  simp -dsimp [Tryz.f8,E8];repeat' first|omega|simp -dsimp [E8,fC,mR,hP,hL,h4]|apply aI|apply nI|intro
 have zY:CpP (f,l):=⟨hP,C6 hL,by simp only;omega⟩
 by_cases hc:(O7 f l).2=0
 case neg=>
  simp -dsimp [Tryz.f8,E8];repeat' first|omega|simp -dsimp [E8,fC,mR,gO,hP,hL,h4,zY,hc]|apply aI|apply nI|intro
 obtain⟨hf,hG⟩:=Fe.1 hc;have hK:=C6 hL hf;have hN:NpP (f,l):=⟨hK,by simp only;omega⟩
 have hE:=aAF hf hG;have va:=hf.hour;have vb:=qz hf.op;have Wo:=hL;simp only [R5,Bool.or_eq_false_iff,Bool.and_eq_false_iff,decide_eq_false_iff_not]at Wo;have aCc:f.ko.length<=12:=by have:=vb.2.1;omega
 have yV:f.dU.length<=4:=by have:=(cF vb.1).2.2.2.2.1;have:=hf.dU;omega
 have aB0:=fun m hm=>hG.flo hf (by omega) (m:=m) hm (by omega);have zd:=aAO f l;have ry:l.length * 32<=140737488355328:=by omega
 have zo:f.ko.length * 32<=140737488355328:=by omega
 obtain⟨N,vy,OT⟩:∃N:Nat,f.dU.length=N/\f.eH.ax=(N:Int):=⟨_,rfl,hf.dU.symm⟩
 have OS:=aBn f l;rw [vy]at OS;have y8:((N:Int)).toNat=N:=Int.toNat_natCast N;have yb:N * 8<=140737488355328:=by omega
 have H8:=hG.sr;have zp:flW f l 0=f.ko:=rfl;have yc:=fun k x (h:l[k]?=some x)=>bl hK hG h;simp -dsimp [Tryz.f8,E8];repeat' first|omega|simp -dsimp [E8,fC,mR,gO,hP,hL,h4,zY,hc,hN,hE,ry,zo,OT,y8,yb,aS,cQ]|apply aI|apply nI|intro
 refine ay [65,66,67,68,12,13,71,72,73,74,78,79,80,81,82,83,84,85,86,87,88,89,77,90,91,92,93,14,15,16,17,94,95,4,96,97,98,99,100,101,102,103,104,105,75,76,106,107,108,109,110,111,112,113,114,115,116,117,118,119,120,121,122,123,124,125,126,127,9,69,70,11] (fun m:{m:Nat // m<=N}=>[(11,(true,.int .i64 m.1)),(9,(true,.bw 857 0 (flW f l m.1).length))]) (fun m=>hps [(845,{base:=1,ah:=[]}),(857,{base:=0,ah:=[{z:=4,els:=(flW f l m.1).map Wk.row,ty:=86}]}),(864,{base:=0,ah:=[{z:=1,els:=(hrL f l m.1).map ri,ty:=3}]}),(802,fS f)] cg) (fun m=>N - m.1) ⟨0,by omega⟩ ?_ ?_ ?_
 ·simp [aj,aT,zp]
 ·simp only [zp,OS];(try simp -dsimp only [hpx]);refine ai ?_;simp -dsimp [aC,fS]<;>exact rz
 rintro⟨m,hm⟩;dsimp only;have zr:=aAR f l m;by_cases jW:m<N
 ·have oh:(m:Int)<N:=by omega
  have wm:=wx m;simp -dsimp [oh,fS];repeat' first|omega|simp -dsimp [E8,oh]|apply aI|apply nI|intro
  refine ay [71,72,73,74,78,79,80,81,82,83,84,85,86,87,88,89,77,90,91,92,93,14,15,16,17,94,95,4,96,97,98,99,100,101,102,103,104,105,12,75,76,13] (fun i:{i:Nat // i<=l.length}=>[(13,(true,.int .i64 i.1)),(12,(true,.int .i64 (fA f m (l.take i.1))))]) (fun _=>hps [(845,{base:=1,ah:=[]}),(857,{base:=0,ah:=[{z:=4,els:=(flW f l m).map Wk.row,ty:=86}]}),(864,{base:=0,ah:=[{z:=1,els:=(hrL f l m).map ri,ty:=3}]}),(802,fS f)] cg) (fun i=>l.length - i.1) ⟨0,by omega⟩ ?_ ?_ ?_
  ·simp [aj,aT,fA]
  ·(try simp -dsimp only [hpx]);refine ai ?_;simp -dsimp [aC,fS]<;>exact rz
  rintro⟨i,hi⟩;dsimp only;have vV:=xz hf (m:Int) (l:=l.take i) fun x hx=>H8 x (List.mem_of_mem_take hx);have q0:(l.take i).length<=4:=by simp;omega
  by_cases z5:i<l.length
  ·have vW:(i:Int)<l.length:=(by omega);have w0i:=wx i;obtain⟨x,hx,hx'⟩:=gx z5;obtain⟨iq,zs⟩:=yc i x hx;have hA:=Nh (f:=f) (m:=(m:Int)) hx;have XO:=((H8 x (List.mem_of_getElem? hx)).bk hf).2.2;obtain⟨xj,xm,xc,xk⟩:=x;simp only at hA iq zs;rw [<-zs]at hA XO;generalize hB:jJ f xj.toNat xm.toNat=B at *;obtain⟨b1,b2,b3,b4⟩:=B;simp only at hA XO;generalize yB:fA f m (l.take (i+1))=A1 at *;generalize fA f m (l.take i)=A0 at *;have wA:=wi (A0+b4);by_cases Wn:xm=m
   ·have z6:((xm:Int) == m)=true:=(by simpa using Wn);rw [if_pos Wn]at hA;simp -dsimp [vW,fS];repeat' first|omega|simp -dsimp [E8,vW,z5,hx,hx',Sr.row,dS,iq,hB,z6,wA,w0i]|apply aI|apply nI|intro
    refine⟨i+1,ag rfl ?_,?_,by omega,by omega⟩
    ·simp [aj,aT,yB,hA]
    ·(try simp -dsimp only [hpx]);refine ai ?_;simp -dsimp [aC,fS]<;>exact rz
   ·have z6:((xm:Int) == m)=false:=(by simpa using Wn);rw [if_neg Wn,Int.add_zero]at hA;simp -dsimp [vW,fS];repeat' first|omega|simp -dsimp [E8,vW,z5,hx,hx',Sr.row,dS,iq,hB,z6,w0i]|apply aI|apply nI|intro
    refine⟨i+1,ag rfl ?_,?_,by omega,by omega⟩
    ·simp [aj,aT,yB,hA]
    ·(try simp -dsimp only [hpx]);refine ai ?_;simp -dsimp [aC,fS]<;>exact rz
  have vX:¬ (i:Int)<l.length:=by omega
  have yg:i=l.length:=by omega
  subst yg;rw [List.take_length]at vV ⊢;have hU:=aBo f l (m:=m) (by omega);have hW:flW f l (m+1)=flW f l m++if 0<fA f m l then [⟨1,m,upH (fA f m l) f.hour,0⟩]else []:=rfl;have yh:=zd m;have yi:0<=upH (fA f m l) f.hour/\upH (fA f m l) f.hour<=700000:=R6 vV.1 va.1 (by have:fA f m l<=700000 * 1:=(by omega);have h2:(700000:Int) * 1<=700000 * f.hour:=Int.mul_le_mul_of_nonneg_left va.1 (by omega);omega)
  have zt:upH (fA f m l) f.hour=(fA f m l+f.hour - 1).tdiv f.hour:=rfl;have zv:f.hour≠0:=by omega
  generalize upH (fA f m l) f.hour=U at *;generalize zE:hrL f l (m+1)=H1 at *;generalize hrL f l m=H0 at *;generalize z0:flW f l (m+1)=W1 at *;generalize flW f l m=W0 at *;generalize fA f m l=A at *;have hS:(H0.map ri).set m [.int .i64 U]=H1.map ri:=by rw [hU,List.map_set];rfl
  have aBH:H1[m]?=some U:=by rw [hU,List.getElem?_set_self (by omega)]
  have aBP:H1.length=N:=by rw [hU,List.length_set];omega
  have z2:m<H1.length:=by omega
  have aBQ:(m:Int)<H1.length:=by omega
  have z7:m<H0.length:=by omega
  have aBR:(m:Int)<H0.length:=by omega
  have aBE:H1[m]=U:=(List.getElem?_eq_some_iff.1 aBH).2;obtain⟨y,hy⟩:∃y,H0[m]?=some y:=⟨_,List.getElem?_eq_getElem z7⟩
  clear hU;have w1:=wi (A+f.hour);have w2:=wi (A+f.hour - 1);have w3:IntKind.wrap .i64 U=U:=aK (by omega) (by omega);have am7:(W0.length+1) * 32<=140737488355328:=by omega
  rcases Classical.propComplete (0<A)with c|c
  ·rw [if_pos (of_eq_true c)]at hW;simp -dsimp [vX,fS];repeat' first|omega|simp -dsimp [E8,vX,w1,w2,zt.symm,w3,zv,c,hy,hS,vy,zr,z2,aBQ,z7,aBR,oh,aBH,aBE,aBP,am7,wm,ri]|apply aI|apply nI|intro
   refine⟨m+1,?_,?_,by omega,by omega⟩
   ·refine cq (aN rfl (br rfl (aN rfl bO))) ?_;simp [aj,aT,z0,hW]
   ·rw [z0,zE,hW];(try simp -dsimp only [hpx]);refine ai ?_;simp -dsimp [aC,fS,Wk.row]<;>exact rz
  ·rw [if_neg (of_eq_false c),List.append_nil]at hW;simp -dsimp [vX,fS];repeat' first|omega|simp -dsimp [E8,vX,w1,w2,zt.symm,w3,zv,c,hy,hS,vy,zr,z2,aBQ,z7,aBR,oh,aBH,aBE,aBP,wm,ri]|apply aI|apply nI|intro
   refine⟨m+1,?_,?_,by omega,by omega⟩
   ·refine cq (aN rfl (br rfl (aN rfl bO))) ?_;simp [aj,aT,z0,hW]
   ·rw [z0,zE,hW];(try simp -dsimp only [hpx]);refine ai ?_;simp -dsimp [aC,fS,Wk.row]<;>exact rz
 have zK:¬ (m:Int)<N:=by omega
 obtain rfl:m=N:=by omega
 have vs:=aB0 m (by omega);have yh:=zd m;have yj:=PW hf.op;have yk:=PW vs.op;have z8:=hf.op;have y0:=vs.op;have hI:=vb.2.2.2;have aB1:=aAP hf.op;obtain⟨v1,v2,v3,v4,v5,v6,v7,v8⟩:=cF hI.val;have y1:=Ij hf.op;obtain⟨B0,hb⟩:∃B,eaR f.eH f.ko true=B:=⟨_,rfl⟩
 obtain⟨Wh,hw⟩:∃B,eaR f.eH f.ko false=B:=⟨_,rfl⟩
 obtain⟨Bh,hq⟩:∃B,eaR f.eH (flW f l m) true=B:=⟨_,rfl⟩
 have hb':B0=(sP f.eH f.ko).ps.map (eaP true):=by rw [<-hb,eaR,if_pos z8]
 have hw':Wh=(sP f.eH f.ko).ps.map (eaP false):=by rw [<-hw,eaR,if_pos z8]
 have EE:Bh=(sP f.eH (flW f l m)).ps.map (eaP true):=by rw [<-hq,eaR,if_pos y0]
 have ar3:B0.length=f.eH.parts.length:=by rw [hb',List.length_map];exact hI.XI
 have aBI:Wh.length=f.eH.parts.length:=by rw [hw',List.length_map];exact hI.XI
 have aBJ:Bh.length=f.eH.parts.length:=by rw [EE,List.length_map,vs.XI];exact hI.XI
 have aB2:((200:Int)<(flW f l m).length)=False:=eq_false (by omega);have yl:(flW f l m).length * 32<=140737488355328:=by omega
 have ym:f.row[21]?=some (V.sl 4 (f.eH.parts.map Pt.row)):=rfl;simp -dsimp [zK,fS];repeat' first|omega|simp -dsimp [E8,zK,ym,aB2,gr,yj,yk,z8,y0,hb,hw,hq,ar3,aBI,aBJ,zo,yl,prs,aS,cQ]|apply aI|apply nI|intro
 refine ay [192,193,194,195,198,199,200,201,202,25,203,204,205,206,207,208,209,210,211,212,213,214,215,216,4,217,218,219,220,221,222,223,224,225,226,227,228,229,230,231,232,233,234,235,236,237,238,239,240,241,242,243,244,245,246,196,197,24] (fun k:{k:Nat // k<=f.eH.parts.length}=>[(24,(true,.int .i64 k.1))]) (fun k=>hps [(935,{base:=1,ah:=[]}),(945,{base:=1,ah:=[]}),(845,{base:=1,ah:=[]}),(857,{base:=1,ah:=[]}),(864,{base:=0,ah:=[{z:=1,els:=(hrL f l m).map ri,ty:=3}]}),(802,fS f)] cg) (fun k=>f.eH.parts.length - k.1) ⟨0,by omega⟩ ?_ ?_ ?_
 ·simp [aj,aT]
 ·(try simp -dsimp only [hpx]);refine ai ?_;simp -dsimp [aC,fS]<;>exact rz
 rintro⟨k,hk⟩;dsimp only;by_cases aH:k<f.eH.parts.length
 case neg=>
  have v9:¬ (k:Int)<f.eH.parts.length:=by omega
  simp -dsimp [v9,fS];repeat' first|omega|simp -dsimp [E8,v9,ar3]|apply aI|apply nI|intro
 have v0:(k:Int)<f.eH.parts.length:=by omega
 have wk:=wx k;obtain⟨p,hp⟩:∃p,(sP f.eH (flW f l m)).ps[k]?=some p:=⟨_,List.getElem?_eq_getElem (by rw [vs.XI,hI.XI];exact aH)⟩
 obtain⟨q,r1,r2,r3,r4,r5⟩:=vs.ps k p hp;have z9:=aB1 k q r1;have lC:=y1.at_ k q r1;have vr:=v7 (f.eH.parts.getD k default) (by rw [List.getD_eq_getElem?_getD,List.getElem?_eq_getElem aH];exact List.getElem_mem _);have kj:(f.eH.kinds.getD (f.eH.parts.getD k default).kind.toNat default).hours<=100000:=(v6 _ (by rw [List.getD_eq_getElem?_getD,List.getElem?_eq_getElem (by omega)];exact List.getElem_mem _)).2.1;have q5:0<=q.hours/\q.hours<=100000:=by have h1:=z9.h0;have h2:=z9.h1;unfold imax at h2;split at h2<;>omega
 have hB:B0[k]?=some (q.hours,q.bh):=by rw [hb',List.getElem?_map,r1];rfl
 have z1:Wh[k]?=some (q.a,q.b):=by rw [hw',List.getElem?_map,r1];rfl
 have vx:Bh[k]?=some (p.hours,p.bh):=by rw [EE,List.getElem?_map,hp];rfl
 have mg:∀h,B0[k]'h=(q.hours,q.bh):=fun h=>(List.getElem?_eq_some_iff.1 hB).2;have aBK:∀h,Wh[k]'h=(q.a,q.b):=fun h=>(List.getElem?_eq_some_iff.1 z1).2;have aBp:∀h,Bh[k]'h=(p.hours,p.bh):=fun h=>(List.getElem?_eq_some_iff.1 vx).2;rw [r4]at vx aBp;have aB3:(sP f.eH f.ko).r.ax=m:=by rw [hI.rg];exact OT
 have y2:=aAR f l m;rw [vy]at y2;clear hb' hw' EE hb hw hq z9 y1 vs;by_cases ha:0<=q.a
 ·obtain⟨za,_⟩:=lC ha;rw [aB3]at za;rw [if_pos ⟨ha,za⟩]at r5;obtain⟨a,yn⟩:=Int.eq_ofNat_of_zero_le ha;rw [yn]at z1 aBK r5 za;have yr:a<m:=by omega
  have aB4:(a:Int)<m:=by omega
  have ys:((m:Int)<=a)=False:=eq_false (by omega);have hg:=aBw (f:=f) (l:=l) (i:=a) (by omega);rw [vy]at hg;have yv:a<(hrL f l m).length:=by omega
  have aB5:(a:Int)<(hrL f l m).length:=by omega
  have hg':=(List.getElem?_eq_some_iff.1 hg).2;have vV:=xz hf (a:Int) H8;have yi:0<=upH (fA f a l) f.hour/\upH (fA f a l) f.hour<=700000:=R6 vV.1 va.1 (by have:fA f a l<=700000 * 1:=(by omega);have h2:(700000:Int) * 1<=700000 * f.hour:=Int.mul_le_mul_of_nonneg_left va.1 (by omega);omega)
  rw [r5]at vx aBp;generalize upH (fA f a l) f.hour=U at *;generalize hrL f l m=H at *;have w1:=wi (q.hours+U);simp -dsimp [v0,fS];repeat' first|omega|simp -dsimp [E8,v0,aH,ar3,aBI,aBJ,bn,hB,mg,z1,aBK,vx,aBp,yr,aB4,ys,hg,hg',y2,yv,aB5,w1,wk,ri]|apply aI|apply nI|intro
  refine⟨k+1,ag rfl ?_,?_,by omega,by omega⟩
  ·simp [aj,aT]
  ·(try simp -dsimp only [hpx]);refine ai ?_;simp -dsimp [aC,fS]<;>exact rz
 ·rw [if_neg fun h=>ha h.1,Int.add_zero]at r5;rw [r5]at vx aBp;have GQ:(0<=q.a)=False:=eq_false ha;simp -dsimp [v0,fS];repeat' first|omega|simp -dsimp [E8,v0,aH,ar3,aBI,aBJ,bn,hB,mg,z1,aBK,vx,aBp,GQ,wk]|apply aI|apply nI|intro
  refine⟨k+1,ag rfl ?_,?_,by omega,by omega⟩
  ·simp [aj,aT]
  ·(try simp -dsimp only [hpx]);refine ai ?_;simp -dsimp [aC,fS]<;>exact rz
theorem ok8:FO 8 ayn:=pf b8 (.cons agV (.cons an2 (.cons y9.adf (.cons apQ (.cons W9 (.cons aiF (.cons aji (.cons aoB .nil))))))))
end Fln
end Go.Sx
end
end
