/- A part of a proof; no conditions. -/
import Derived.Test.YtegiclpanpmkdaaGreatDoorR63
import Derived.Test.YtegiclpanpmkdaaGreatDoorR19
import Derived.Test.YtegiclpanpmkdaaGreatDoorR18
import Derived.Test.YtegiclpanpmkdaaGreatDoorR38
import Derived.Test.YtegiclpanpmkdaaGreatDoorR50
set_option linter.all false
set_option maxRecDepth 100000
set_option maxHeartbeats 8000000
noncomputable section
section
namespace Go.Sx
theorem awx{r:Ro}{l:List Du}{c:Cl}{a b:Int}(h:(tF r l c).contains (a,b)=true):(0<=a/\a<r.bM.length)/\0<=b/\b<r.bM.length:=by rw [List.contains_iff_mem]at h;unfold tF at h;simp only [List.mem_flatMap,List.mem_map,List.mem_filter,List.mem_range,Prod.mk.injEq]at h;obtain⟨i,hi,k,⟨hk,_⟩,rfl,rfl⟩:=h;omega
structure SrB (s:Sr):Prop where
 j:0<=s.j/\s.j<6
 m:0<=s.m/\s.m<1000
 c:0<=s.c/\s.c<12
 k:0<=s.k/\s.k<12
structure PlB (f:Fl) (l:List Sr):Prop where
 n:l.length<=6
 b:∀x∈l,SrB x
 v:0<=V1 f l/\V1 f l<=6000000
theorem Nx.srb{f:Fl}(hf:gu f){any:Bool}{l:List Sr}{s:Sr}(h:Nx f any l s):SrB s:=by have h1:=h.sr;have h2:=h.crw;have hj:=hf.jobs;have hm:=hf.JJ;have hp:f.gv.bM.length<=12:=(dN.1 hf.du).1.n;rw [NK,Bool.and_eq_true]at h2;have h3:=awx h2.2;have:=h1.j;have:=h1.m;exact⟨by omega,by omega,by omega,by omega⟩
theorem avG{f:Fl}(hf:gu f):∀{l:List Sr},(∀x∈l,yW f x)->0<=V1 f l/\V1 f l<=1000000 * l.length
 | [],_=>by simp [V1]
 | x::l,h=>by have ih:=avG hf fun y hy=>h y (List.mem_cons_of_mem _ hy);have:=(hf.jb (h x (by simp)).j.2).2.2.2.2;rw [V1,List.length_cons];omega
theorem Good.plb{f:Fl}(hf:gu f){any:Bool}{l:List Sr}(h:Good f any l):PlB f l:=by
 have h1:=h.atw;have h2:=hf.jobs;have h3:=avG hf h.sr;refine⟨by omega,fun x hx=>?_,by omega⟩;obtain⟨i,hi,rfl⟩:=List.getElem_of_mem hx;have:=(h.nx hi).srb hf
 rwa [show l.getD i default=l[i] by simp [List.getD,hi]]at this
theorem avH{f:Fl}(hf:gu f)(q:List Sr):∀{k:Nat},k<=f.jobs.length->V1 f q<=aAv f q k/\aAv f q k<=V1 f q+1000000 * k
 | 0,_=>by simp [aAv]
 | k+1,hk=>by have:=avH hf q (k:=k) (by omega);have:=(hf.jb (j:=k) (by omega)).2.2.2.2;rw [aAv];split<;>omega
section
variable {f:Fl} {now:Int} {q:List Sr} {g:List Sr->List Sr->List Sr} {G:List Sr->Prop} (hg:∀s r,wS f q s false=true->G r->G (g (q++[s]) r))
include hg
theorem au7{j m:Nat}(hj:j<f.jobs.length)(hm:m<f.dU.length)(vd:ftB f q j m false=true){r:List Sr}(h:G r):∀{k:Nat},k<=(cwL f q j m).length->G (lpC g f q j m (cwL f q j m) r k)
 | 0,_=>h
 | k+1,hk=>by
  have ih:=au7 hj hm vd h (k:=k) (by omega);have vy:(cwL f q j m).contains ((cwL f q j m).getD k default)=true:=by rw [List.contains_iff_mem,List.getD_eq_getElem?_getD,List.getElem?_eq_getElem (by omega)];exact List.getElem_mem _
  have vr:=atb (f:=f) (q:=q) (c:=(cwL f q j m).getD k default) (any:=false) hj hm;rw [vd,vy,Bool.true_and,Bool.true_and]at vr;rw [lpC];by_cases hw:wiB f q (E0 j m ((cwL f q j m).getD k default))=true
  ·rw [if_pos hw];exact hg _ _ (vr.trans hw) ih
  ·rw [if_neg hw];exact ih
theorem au8{j:Nat}(hj:j<f.jobs.length){r:List Sr}(h:G r):∀{m:Nat},m<=f.dU.length->G (lpM g f now q j r m)
 | 0,_=>h
 | m+1,hm=>by
  have ih:=au8 hj h (m:=m) (by omega);rw [lpM];by_cases hc:ftB f q j m false=true/\now<=(jJ f j m).lv
  ·rw [if_pos hc];exact au7 hg hj (by omega) hc.1 ih (Nat.le_refl _)
  ·rw [if_neg hc];exact ih
theorem au9{r:List Sr}(h:G r):∀{j:Nat},j<=f.jobs.length->G (lpJ g f now q r j)
 | 0,_=>h
 | j+1,hj=>by
  rw [lpJ];exact au8 hg (by omega) (au9 h (by omega)) (Nat.le_refl _)
end
theorem aAy{f:Fl}{now:Int}:∀{M:Nat} {q r:List Sr},Good f true q->Good f true r->Good f true (E3 f now M q r)
 | 0,_,_,_,h=>h
 | M+1,q,r,hq,h=>by
  have h0:Good f true (if ltP f q r=true then q else r):=by split<;>assumption
  rw [E3];generalize (if ltP f q r=true then q else r)=R at *;split
  ·exact h0
  ·exact au9 (fun s r' h1 h2=>aAy (hq.snoc (vw.2 (vw.1 h1).weak)) h2) h0 (Nat.le_refl _)
def U0(f:Fl)(now:Int)(q:List Sr):List Sr:=E3 f now 7 q q
theorem auW{f:Fl}(hf:gu f){now:Int}{q:List Sr}(hq:Good f true q):Top f now q q (U0 f now q):=avo hf hq (by have:=hf.jobs;omega)
theorem avp{f:Fl}{now:Int}{q:List Sr}(hq:Good f true q):Good f true (U0 f now q):=aAy hq hq
end Go.Sx
end
section
namespace Go.Sx
open Go.Proofs
attribute [local simp] ri aa ints
attribute [local irreducible] bA
namespace Pm
@[simp] def orE(d:List Int):List V:=[.sl 1 (d.map ri)]
theorem axO(a b:List Int)(h:orE a=orE b):a=b:=by simp only [orE,List.cons.injEq,V.sl.injEq,true_and,and_true]at h;exact ee h
theorem auY(l:List Int):aY orE [.sl 1 (l.map ri)]=l:=aA axO l
noncomputable abbrev orS:aB:=bS orE (fun d=>d.length<=100) fun d=>.int .i64 (nz d)
noncomputable abbrev ac8:=EV [] [] 15300 18
theorem ano:af ac8 [] Tryz.f153 orS:=pb <| by
 rintro l hl;have hl:l.length<=100:=hl;simp -dsimp [Tryz.f153,ac8];refine ay [9,10,11,5,12,13,14,15,2,16,8] (fun k:{k:Nat // k<=l.length/\nz (l.drop k)=nz l}=>[(8,(true,.int .i64 k.1))]) (fun _=>cg) (fun k=>l.length - k.1) ⟨0,by omega,rfl⟩ ?_ (bA.refl _) ?_
 ·simp [aj,aT]
 rintro⟨k,hk,v2⟩;dsimp only;by_cases aH:k<l.length
 ·have v0:(k:Int)<l.length:=by omega
  have wk:=wx k;obtain⟨x,hx,hx'⟩:=gx aH;rw [List.drop_eq_getElem_cons aH,hx',nz]at v2;rcases Classical.propComplete (x=0)with c|c
  ·have c':=of_eq_true c;rw [if_pos c']at v2;simp -dsimp [v0];repeat' first|omega|simp -dsimp [ac8,v0,aH,hx,hx',ri,c,wk]|apply aI|apply nI|intro
   refine⟨k+1,ag rfl ?_,bA.refl _,⟨by omega,v2⟩,by omega⟩;simp [aj,aT]
  ·rw [if_neg (of_eq_false c)]at v2;have azJ:nz l=x:=v2.symm;clear v2;simp -dsimp [v0];repeat' first|omega|simp -dsimp [ac8,v0,aH,hx,hx',ri,c,azJ]|apply aI|apply nI|intro
 ·have v1:¬ (k:Int)<l.length:=by omega
  have v5:k=l.length:=by omega
  subst v5;rw [List.drop_length,nz]at v2;simp -dsimp [v1];repeat' first|omega|simp -dsimp [ac8,v1,<-v2]|apply aI|apply nI|intro
theorem aiu:FO 153 orS:=pf ano .nil
@[simp] def cfE(d:Fw × Fw):List V:=[.agg d.1.row,.agg d.2.row]
theorem axP(a b:Fw × Fw)(h:cfE a=cfE b):a=b:=by obtain⟨a1,a2⟩:=a;obtain⟨b1,b2⟩:=b;simp only [cfE,List.cons.injEq,V.agg.injEq,and_true]at h;rw [Fw.aq _ _ h.1,Fw.aq _ _ h.2]
theorem axQ(x y:Fw):aY cfE [.agg [.int .i64 x.s.j,.int .i64 x.s.m,.int .i64 x.s.c,.int .i64 x.s.k,.int .i64 x.b.lv,.int .i64 x.b.ar,.int .i64 x.b.hm,.int .i64 x.b.mD],.agg [.int .i64 y.s.j,.int .i64 y.s.m,.int .i64 y.s.c,.int .i64 y.s.k,.int .i64 y.b.lv,.int .i64 y.b.ar,.int .i64 y.b.hm,.int .i64 y.b.mD]]=(x,y):=aA axP (x,y)
structure CfP (d:Fw × Fw):Prop where
 a:SrB d.1.s
 b:SrB d.2.s
noncomputable abbrev cfS:aB:=bS cfE CfP fun d=>.int .i64 (aeQ d.1.s d.2.s)
noncomputable abbrev Pw:=EV [(153,.pure orS)] [] 15500 35
theorem amk:af Pw [] Tryz.f155 cfS:=pb <| by rintro⟨⟨⟨a1,a2,a3,a4⟩,⟨a5,a6,a7,a8⟩⟩,⟨⟨b1,b2,b3,b4⟩,⟨b5,b6,b7,b8⟩⟩⟩ ⟨⟨p1,p2,p3,p4⟩,⟨q1,q2,q3,q4⟩⟩;simp only at p1 p2 p3 p4 q1 q2 q3 q4;have w1:=wi (a1 - b1);have w2:=wi (a2 - b2);have w3:=wi (a3 - b3);have w4:=wi (a4 - b4);have hd:=auY [a1 - b1,a2 - b2,a3 - b3,a4 - b4];simp only [List.map,ri]at hd;have hr:aeQ ⟨a1,a2,a3,a4⟩ ⟨b1,b2,b3,b4⟩=nz [a1 - b1,a2 - b2,a3 - b3,a4 - b4]:=rfl;simp -dsimp [Tryz.f155,Pw,Fw.row];repeat' first|omega|simp -dsimp [Pw,Fw.row,w1,w2,w3,w4,hd,hr]|apply aI|apply nI|intro
theorem aaV:FO 155 cfS:=pf amk (.cons aiu .nil)
@[simp] def cfV:V:=.fn 155 []
@[simp] def awi(d:List Fw × List Fw):List V:=[.sl 8 (d.1.map Fw.row),.sl 8 (d.2.map Fw.row),cfV]
theorem awy(a b:List Fw × List Fw)(h:awi a=awi b):a=b:=by obtain⟨a1,a2⟩:=a;obtain⟨b1,b2⟩:=b;simp only [awi,List.cons.injEq,V.sl.injEq,true_and,and_true]at h;rw [aR Fw.aq h.1,aR Fw.aq h.2]
theorem awz(a b:List Fw):aY awi [.sl 8 (a.map Fw.row),.sl 8 (b.map Fw.row),.fn 155 []]=(a,b):=aA awy (a,b)
structure ay7 (d:List Fw × List Fw):Prop where
 a:d.1.length<=100/\∀x∈d.1,SrB x.s
 b:d.2.length<=100/\∀x∈d.2,SrB x.s
noncomputable abbrev ayq:aB:=bS awi ay7 fun d=>.int .i64 (aAt (d.1.map Fw.s) (d.2.map Fw.s))
theorem awj{a b:List Fw}{k:Nat}{x y:Fw}(hx:a[k]?=some x)(hy:b[k]?=some y):aAt ((a.map Fw.s).drop k) ((b.map Fw.s).drop k)=if aeQ x.s y.s=0 then aAt ((a.map Fw.s).drop (k+1)) ((b.map Fw.s).drop (k+1))else aeQ x.s y.s:=by simp only [<-List.map_drop];obtain⟨h1,h2⟩:=List.getElem?_eq_some_iff.1 hx;obtain⟨g1,g2⟩:=List.getElem?_eq_some_iff.1 hy;rw [List.drop_eq_getElem_cons h1,List.drop_eq_getElem_cons g1,h2,g2];rfl
noncomputable abbrev abU:=EV [(155,.pure cfS)] [] 15400 39
theorem amh:af abU [] Tryz.f154 ayq:=pb <| by
 rintro⟨a,b⟩ ⟨⟨ha,vs⟩,⟨hb,vx⟩⟩;simp only at ha vs hb vx;simp -dsimp [Tryz.f154,abU,cfV];refine ay [14,15,16,17,8,7,18,19,20,21,6,22,23,24,25,9,26,27,28,29,10,30,31,32,33,13] (fun k:{k:Nat // k<=a.length/\k<=b.length/\aAt ((a.map Fw.s).drop k) ((b.map Fw.s).drop k)=aAt (a.map Fw.s) (b.map Fw.s)}=>[(13,(true,.int .i64 k.1))]) (fun k=>hps [(15408,{base:=k.1,ah:=[]}),(15409,{base:=k.1,ah:=[]})] cg) (fun k=>a.length - k.1) ⟨0,by omega,by omega,rfl⟩ ?_ ?_ ?_
 ·simp [aj,aT]
 ·show bA (hps [] cg) (hps _ cg);(try simp -dsimp only [hpx]);refine ai ?_;simp -dsimp [aC]<;>exact rz
 rintro⟨k,hk,vW,hc⟩;dsimp only;by_cases aH:k<a.length
 case neg=>
  have v1:¬ (k:Int)<a.length:=by omega
  have v5:k=a.length:=by omega
  subst v5;simp only [<-List.map_drop]at hc;rw [List.drop_length]at hc;by_cases vP:a.length<b.length
  ·have zo:(a.length:Int)<b.length:=(by omega);have hr:aAt (a.map Fw.s) (b.map Fw.s) = -1:=by rw [<-hc,List.drop_eq_getElem_cons vP];rfl
   simp -dsimp [v1];repeat' first|omega|simp -dsimp [abU,v1,zo,hr]|apply aI|apply nI|intro
  ·have zo:¬ (a.length:Int)<b.length:=(by omega);have hr:aAt (a.map Fw.s) (b.map Fw.s)=0:=by rw [<-hc,List.drop_eq_nil_of_le (by omega)];rfl
   simp -dsimp [v1];repeat' first|omega|simp -dsimp [abU,v1,zo,hr]|apply aI|apply nI|intro
 have v0:(k:Int)<a.length:=by omega
 have wk:=wx k;obtain⟨x,hx,hx'⟩:=gx aH;by_cases v6:k<b.length
 case neg=>
  have v4:((b.length:Int)<=k)=True:=eq_true (by omega);have hr:aAt (a.map Fw.s) (b.map Fw.s)=1:=by have e2:b.drop k=[]:=List.drop_eq_nil_of_le (by omega);simp only [<-List.map_drop]at hc;rw [<-hc,List.drop_eq_getElem_cons aH,e2];rfl
  simp -dsimp [v0];repeat' first|omega|simp -dsimp [abU,v0,aH,hx,hx',Fw.row,v4,hr]|apply aI|apply nI|intro
 have iB:(k:Int)<b.length:=by omega
 have v4:((b.length:Int)<=k)=False:=eq_false (by omega);obtain⟨y,hy,hy'⟩:=gx v6;have hP:CfP (x,y):=⟨vs x (List.mem_of_getElem? hx),vx y (List.mem_of_getElem? hy)⟩
 have hS:=awj hx hy;rw [hc]at hS;obtain⟨⟨x1,x2,x3,x4⟩,⟨x5,x6,x7,x8⟩⟩:=x;obtain⟨⟨y1,y2,y3,y4⟩,⟨y5,y6,y7,y8⟩⟩:=y;simp only at hS;generalize hC:aeQ ⟨x1,x2,x3,x4⟩ ⟨y1,y2,y3,y4⟩=C at *;have v7:=axQ ⟨⟨x1,x2,x3,x4⟩,⟨x5,x6,x7,x8⟩⟩ ⟨⟨y1,y2,y3,y4⟩,⟨y5,y6,y7,y8⟩⟩;simp only at v7;rcases Classical.propComplete (C=0)with c|c
 ·have c':=of_eq_true c;rw [if_pos c']at hS;subst c';simp -dsimp [v0];repeat' first|omega|simp -dsimp [abU,v0,iB,aH,v6,hx,hx',hy,hy',Fw.row,v4,v7,hP,hC,wk]|apply aI|apply nI|intro
  refine⟨k+1,ag rfl ?_,?_,⟨by omega,by omega,hS.symm⟩,by omega⟩
  ·simp [aj,aT]
  ·(try simp -dsimp only [hpx]);refine ai ?_;simp -dsimp [aC]<;>exact rz
 ·rw [if_neg (of_eq_false c)]at hS;simp -dsimp [v0];repeat' first|omega|simp -dsimp [abU,v0,iB,aH,v6,hx,hx',hy,hy',Fw.row,v4,v7,hP,hC,c,hS]|apply aI|apply nI|intro
theorem aaU:FO 154 ayq:=pf amh (.cons aaV .nil)
noncomputable abbrev ax8:aB:={ayq with dec:=fun l=>aY awi (l.map (dn 8))}
theorem azK:FO 154 ax8:=at0 _ aaU
@[simp] def awA(d:(Fl × List Sr) × List Sr):List V:=[plI d.1.1 d.1.2,plI d.1.1 d.2]
theorem awB(a b:(Fl × List Sr) × List Sr)(h:awA a=awA b):a=b:=by obtain⟨⟨a1,a2⟩,a3⟩:=a;obtain⟨⟨b1,b2⟩,b3⟩:=b;simp only [awA,List.cons.injEq,and_true]at h;obtain⟨e1,e2⟩:=ar8 h.1;rw [e1,e2,(ar8 h.2).2]
theorem awC(f:Fl)(a b:List Sr):aY awA [.ip 4 [plR f a] 0 0,.ip 4 [plR f b] 0 0]=((f,a),b):=aA awB ((f,a),b)
structure ay8 (d:(Fl × List Sr) × List Sr):Prop where
 a:PlB d.1.1 d.1.2
 b:PlB d.1.1 d.2
noncomputable abbrev ayr:aB:=bS awA ay8 fun d=>.int .i64 (aAD d.1.1 d.1.2 d.2)
theorem ax9(f:Fl)(l:List Sr):(E1 f l).map Fw.s=l:=by simp [E1,List.map_map,Function.comp_def]
theorem avI{f:Fl}{l:List Sr}{x:Fw}(h:x∈E1 f l):x.s∈l:=by obtain⟨s,hs,rfl⟩:=List.mem_map.1 h;exact hs
noncomputable abbrev Uf:=EV [(154,.pure ax8),(153,.pure orS)] [] 9800 36
theorem b98:af Uf [] Tryz.f98 ayr:=pb <| by
 rintro⟨⟨f,a⟩,b⟩ ⟨⟨na,ba,va⟩,⟨nb,bb,vb⟩⟩;simp only at na ba va nb bb vb;have hR:aAD f a b=nz [V1 f b - V1 f a,(a.length:Int) - b.length,aAt a b]:=rfl;have w1:=wi (V1 f b - V1 f a);have w2:=wi ((a.length:Int) - b.length);have hP:ay7 (E1 f a,E1 f b):=⟨⟨by simp only [ass];omega,fun x hx=>ba _ (avI hx)⟩,⟨by simp only [ass];omega,fun x hx=>bb _ (avI hx)⟩⟩
 have hd:=awz (E1 f a) (E1 f b);have hD:=auY [V1 f b - V1 f a,(a.length:Int) - b.length,aAt a b];simp only [List.map,ri]at hD;have sa:=ax9 f a;have sb:=ax9 f b;have la:=ass f a;have lb:=ass f b;by_cases ha:a=[]<;>by_cases hb:b=[]
 ·subst ha hb;have hR:aAD f [] []=0:=by simp [aAD,nz,aAt]
  have hD:=auY [0,0,0];have hz:nz [0,0,0]=0:=rfl;have hc:aAt [] []=0:=rfl;simp only [List.map,ri]at hD;simp only [asv,List.map_nil]at hd hP;simp -dsimp [Tryz.f98,Uf,asv,aso];repeat' first|omega|simp -dsimp [Uf,asv,aso,hd,hP,hc,hD,hz,hR]|apply aI|apply nI|intro
 ·subst ha;have v8:=ase (asJ (f:=f) hb);have w2:=wi (-(b.length:Int));have hD:=auY [V1 f b - V1 f [],-(b.length:Int),aAt [] b];have hR:aAD f [] b=nz [V1 f b - V1 f [],-(b.length:Int),aAt [] b]:=by simp [aAD]
  simp only [List.map,ri]at hD;simp only [asv,List.map_nil]at hd hP;simp -dsimp [Tryz.f98,Uf,asv,aso];repeat' first|omega|simp -dsimp [Uf,asv,aso,v8,hd,hP,sb,lb,w1,w2,hD,hR]|apply aI|apply nI|intro
 ·subst hb;have v9:=ase (asJ (f:=f) ha);have w2:IntKind.wrap .i64 (a.length:Int)=(a.length:Int):=aK (by omega) (by omega);have hD:=auY [V1 f [] - V1 f a,(a.length:Int),aAt a []];have hR:aAD f a []=nz [V1 f [] - V1 f a,(a.length:Int),aAt a []]:=by simp [aAD]
  simp only [List.map,ri]at hD;simp only [asv,List.map_nil]at hd hP;simp -dsimp [Tryz.f98,Uf,asv,aso];repeat' first|omega|simp -dsimp [Uf,asv,aso,v9,hd,hP,sa,la,w1,w2,hD,hR]|apply aI|apply nI|intro
 ·have v9:=ase (asJ (f:=f) ha);have v8:=ase (asJ (f:=f) hb);simp -dsimp [Tryz.f98,Uf];repeat' first|omega|simp -dsimp [Uf,v9,v8,hd,hP,sa,sb,la,lb,w1,w2,hD,hR]|apply aI|apply nI|intro
theorem aoH:FO 98 ayr:=pf b98 (.cons azK (.cons aiu .nil))
def jqP(q:Int)(x:Fw):Bool:=decide (x.s.j=q)
def jqV(q:Int):V:=.fn 100 [.ip 1 [[.int .i64 q]] 0 0]
theorem axR(a b:Int)(h:jqV a=jqV b):a=b:=by simpa [jqV]using h
@[simp] def awD(d:Fw × Int):List V:=[.agg d.1.row,.ip 1 [[.int .i64 d.2]] 0 0]
theorem awE(a b:Fw × Int)(h:awD a=awD b):a=b:=by obtain⟨a1,a2⟩:=a;obtain⟨b1,b2⟩:=b;simp only [awD,List.cons.injEq,V.agg.injEq,V.ip.injEq,V.int.injEq,true_and,and_true]at h;rw [Fw.aq _ _ h.1,h.2]
theorem avq(x:Fw)(q:Int):aY awD [.agg [.int .i64 x.s.j,.int .i64 x.s.m,.int .i64 x.s.c,.int .i64 x.s.k,.int .i64 x.b.lv,.int .i64 x.b.ar,.int .i64 x.b.hm,.int .i64 x.b.mD],.ip 1 [[.int .i64 q]] 0 0]=(x,q):=aA awE (x,q)
noncomputable abbrev ays:aB:=bS awD (fun _=>True) fun d=>.bool (jqP d.2 d.1)
noncomputable abbrev Uh:=EV [] [] 10000 9
theorem aoI:af Uh [] Tryz.f100 ays:=pb <| by rintro⟨⟨⟨a1,a2,a3,a4⟩,⟨a5,a6,a7,a8⟩⟩,q⟩ _;have e:jqP q ⟨⟨a1,a2,a3,a4⟩,⟨a5,a6,a7,a8⟩⟩=decide (a1=q):=rfl;have hb:(a1 == q)=decide (a1=q):=rfl;simp -dsimp [Tryz.f100,Uh,Fw.row];repeat' first|omega|simp -dsimp [Uh,Fw.row,hb,e]|apply aI|apply nI|intro
theorem ajV:FO 100 ays:=pf aoI .nil
@[simp] def avh(d:Int × List Fw):List V:=[.sl 8 (d.2.map Fw.row),jqV d.1]
theorem awF(a b:Int × List Fw)(h:avh a=avh b):a=b:=by obtain⟨a1,a2⟩:=a;obtain⟨b1,b2⟩:=b;simp only [avh,List.cons.injEq,V.sl.injEq,true_and,and_true]at h;rw [aR Fw.aq h.1,axR _ _ h.2]
theorem ava(q:Int)(l:List Fw):aY avh [.sl 8 (l.map Fw.row),jqV q]=(q,l):=aA awF (q,l)
structure ayt (d:Int × List Fw):Prop where
 l:d.2.length<=1000000
 q:(fun q:Int=>True) d.1
noncomputable abbrev awG:aB:=bS avh ayt fun d=>.int .i64 (eB d.2 (jqP d.1))
noncomputable abbrev awH:aB:=bS avh ayt fun d=>.bool (d.2.any (jqP d.1))
noncomputable abbrev asa:=EV [(100,.pure ays)] [] 15600 19
theorem auG:af asa [] Tryz.f156 awG:=pb <| by
 rintro⟨q,l⟩ ⟨hl,hq⟩;have hl:l.length<=1000000:=hl;try dsimp only at hq
 simp -dsimp [Tryz.f156,asa];refine ay [9,10,5,11,12,13,14,15,16,17,4,18,8] (fun k:{k:Nat // k<=l.length/\∀j (h:j<l.length),j<k->jqP q l[j]=false}=>[(8,(true,.int .i64 k.1))]) (fun _=>cg) (fun k=>l.length - k.1) ⟨0,by omega,fun _ _ h=>by omega⟩ ?_ (bA.refl _) ?_
 ·simp [aj,aT]
 rintro⟨k,hk,v3⟩;by_cases aH:k<l.length
 ·have v0:(k:Int)<l.length:=by omega
  have wk:=wx k;obtain⟨x,hx,hx'⟩:=gx aH;cases hw:jqP q x
  ·simp -dsimp [v0];repeat' first|omega|simp -dsimp [asa,v0,aH,hl,hx,hx',hw,wk,hq,jqV,avq,Fw.row]|apply aI|apply nI|intro
   refine⟨k+1,ag rfl ?_,bA.refl _,⟨by omega,fun j h hj=>?_⟩,by omega⟩
   ·simp [aj,aT]
   ·by_cases vV:j=k
    ·subst vV;rw [hx'];exact hw
    ·exact v3 j h (by omega)
  ·have hz:=cW l (jqP q) aH (by rw [hx'];exact hw) v3;simp -dsimp [v0];repeat' first|omega|simp -dsimp [asa,v0,aH,hl,hx,hx',hw,wk,hz,hq,jqV,avq,Fw.row]|apply aI|apply nI|intro
 ·have v1:¬ (k:Int)<l.length:=by omega
  have hz:=bP l (jqP q) (fun j h=>v3 j h (by omega));simp -dsimp [v1];repeat' first|omega|simp -dsimp [asa,v1,hz]|apply aI|apply nI|intro
theorem aui:FO 156 awG:=pf auG (.cons ajV .nil)
noncomputable abbrev E99:=EV [(156,.pure awG)] [] 9900 9
theorem b99:af E99 [] Tryz.f99 awH:=pb <| by rintro⟨q,l⟩ hP;have hz:=cO l (jqP q);have hd:=ava q l;simp -dsimp only [jqV]at hd;simp -dsimp [Tryz.f99,E99,jqV];repeat' first|omega|simp -dsimp [E99,hP,hd,hz,jqV]|apply aI|apply nI|intro
theorem adA:FO 99 awH:=pf b99 (.cons aui .nil)
noncomputable abbrev ay9:aB:={awH with dec:=fun l=>aY avh (l.map (dn 8))}
theorem azL:FO 99 ay9:=at0 _ adA
theorem awI(q:Int):aY avh [.sl 8 [],.fn 100 [.ip 1 [[.int .i64 q]] 0 0]]=(q,[]):=ava q []
theorem awJ(q:Int)(l:List Fw):aY avh [.sl 8 (l.map Fw.row),.fn 100 [.ip 1 [[.int .i64 q]] 0 0]]=(q,l):=ava q l
theorem ayu(f:Fl)(l:List Sr)(q:Int):(E1 f l).any (jqP q)=l.any fun y=>decide (y.j=q):=by simp [E1,List.any_map,Function.comp_def,jqP]
end Pm
end Go.Sx
end
end
