/- A part of a proof; no conditions. -/
import Derived.Test.YtegiclpanpmkdaaGreatDoorR29
set_option linter.all false
set_option maxRecDepth 100000
set_option maxHeartbeats 8000000
noncomputable section
section
namespace Go.Sx
open Go.Proofs
attribute [local simp] ri aa ints
attribute [local irreducible] bA
@[simp] def ckE(d:Ro × List Du × Bool):List V:=[.agg d.1.row,.sl 3 (d.2.1.map Du.row),.bool d.2.2]
theorem KY(a b:Ro × List Du × Bool)(h:ckE a=ckE b):a=b:=by obtain⟨a1,a2,a3⟩:=a;obtain⟨b1,b2,b3⟩:=b;simp only [ckE,List.cons.injEq,V.agg.injEq,V.sl.injEq,V.bool.injEq,true_and,and_true]at h;rw [Ro.aq _ _ h.1,aR Du.aq h.2.1,h.2.2]
theorem tM(r:Ro)(l:List Du)(b:Bool):aY ckE [.agg [.sl 3 (r.bM.map Pn.row),.int .i64 r.lY,.int .i64 r.fN,.int .i64 r.win,.int .i64 r.tot,.int .i64 r.iW],.sl 3 (l.map Du.row),.bool b]=(r,l,b):=aA KY (r,l,b)
noncomputable abbrev ckS:aB:=bS ckE (fun d=>MG (d.1,d.2.1)) fun d=>.int .i64 (fQ bH d.1 d.2.1 d.2.2)
noncomputable abbrev WN:=EV [(87,.pure chS)] [] 22100 22
theorem ami:af WN [] Tryz.f221 ckS:=pb <| by
 rintro⟨r,l,b⟩ hC;have hC:MG (r,l):=hC;have h2:fQ bH r l b=if (gT bH r l).2=0 then (if b=true then 0 else 1)else (gT bH r l).2:=rfl;rcases hK:gT bH r l with⟨i,e⟩
 rw [hK]at h2;dsimp only at h2;by_cases he:e=0
 ·subst he;rw [if_pos rfl]at h2;cases b
  ·simp -dsimp [Tryz.f221,WN,Ro.row,bp];repeat' first|omega|simp -dsimp [WN,Ro.row,bp,De,hC,hK,h2]|apply aI|apply nI|intro
  ·simp -dsimp [Tryz.f221,WN,Ro.row,bp];repeat' first|omega|simp -dsimp [WN,Ro.row,bp,De,hC,hK,h2]|apply aI|apply nI|intro
 ·rw [if_neg he]at h2;have he':((e:Int)=0)=False:=eq_false he;simp -dsimp [Tryz.f221,WN,Ro.row,bp];repeat' first|omega|simp -dsimp [WN,Ro.row,bp,De,hC,hK,h2,he']|apply aI|apply nI|intro
theorem agR:FO 221 ckS:=pf ami (.cons anf .nil)
@[simp] def clE(c:Cl):List V:=[.agg c.row]
theorem Li(a b:Cl)(h:clE a=clE b):a=b:=Cl.aq _ _ (by simpa using h)
theorem xG(c:Cl):aY clE [.agg [.int .i64 c.a,.int .i64 c.b,.int .i64 c.gP,.bool c.vX]]=c:=aA Li c
noncomputable abbrev Lj:aB:=bS clE (fun _=>True) fun c=>.bool (gR c)
theorem Tj(c:Cl):gR c=(tH c.a c.b && au c.gP 0 7):=rfl
noncomputable abbrev asT:=EV [(149,.pure SD),(148,.pure bF)] [] 22200 13
theorem aup:af asT [] Tryz.f222 Lj:=pb <| by rintro⟨a,b,k,w⟩ _;simp -dsimp [Tryz.f222,asT,Tj,Cl.row]
theorem aua:FO 222 Lj:=pf aup (.cons ais (.cons abt .nil))
@[simp] def Yi(d:Ro × List Du × Int × Cl):List V:=[.agg d.1.row,.sl 3 (d.2.1.map Du.row),.int .i64 d.2.2.1,.agg d.2.2.2.row]
theorem C9(a b:Ro × List Du × Int × Cl)(h:Yi a=Yi b):a=b:=by obtain⟨a1,a2,a3,a4⟩:=a;obtain⟨b1,b2,b3,b4⟩:=b;simp only [Yi,List.cons.injEq,V.agg.injEq,V.sl.injEq,V.int.injEq,true_and,and_true]at h;rw [Ro.aq _ _ h.1,aR Du.aq h.2.1,h.2.2.1,Cl.aq _ _ h.2.2.2]
theorem Ll(r:Ro)(l:List Du)(n:Int)(c:Cl):aY Yi [.agg [.sl 3 (r.bM.map Pn.row),.int .i64 r.lY,.int .i64 r.fN,.int .i64 r.win,.int .i64 r.tot,.int .i64 r.iW],.sl 3 (l.map Du.row),.int .i64 n,.agg [.int .i64 c.a,.int .i64 c.b,.int .i64 c.gP,.bool c.vX]]=(r,l,n,c):=aA C9 (r,l,n,c)
structure WhP (d:Ro × List Du × Int × Cl):Prop where
 fit:d.1.Fit
 len:d.2.1.length<=60
 beg:∀x∈d.2.1,0<=x.a/\x.a<=9223372036854775807
 n:0<=d.2.2.1/\d.2.2.1<=d.1.bM.length - 1
 call:gR d.2.2.2=true
theorem WhP.of{r:Ro}{l:List Du}{n:Int}{c:Cl}(h:(gT bH r l).2=0)(hn:0<=n/\n<=r.bM.length - 1)(hc:gR c=true):WhP (r,l,n,c):=by
 unfold gT at h;split at h
 ·rename_i h1;split at h
  ·simp at h
  ·rename_i h2;split at h
   ·simp at h
   ·rename_i h3;refine⟨Ro.si.1 h1,by simpa using h2,?_,hn,hc⟩;have hb:ar6 bH r l = -1:=by apply Classical.byContradiction;intro v8;obtain⟨k,_,e,_⟩:=ve v8;exact h3 (by rw [ar6,e];omega)
    have v3:∀j,j<l.length->kG bH r l j=true:=by
     intro j hj;apply Classical.byContradiction;intro v8;have:eB (List.range l.length) (fun i=>!kG bH r l i)≠-1:=by intro e;have h0:=cO (List.range l.length) (fun i=>!kG bH r l i);rw [e,decide_eq_false (by omega)]at h0;have:=(List.any_eq_false.1 h0.symm) j (List.mem_range.2 hj);simp at this;exact v8 this
     exact this hb
    have:=zh (r:=r) (Nat.le_refl l.length) v3
    rwa [List.take_length]at this
 ·simp at h
noncomputable abbrev YA:aB:=bS Yi WhP fun d=>ints (ar9 bH d.1 d.2.1 d.2.2.1 d.2.2.2)
theorem Ie{x k:Int}(hx:0<=x/\x<=255)(hk:0<=k/\k<=7):r8 .and .i64 (tB .i64 x k) 1=if wP x k=true then 1 else 0:=by
 obtain⟨a,rfl⟩:∃a:Nat,x=a:=⟨x.toNat,by omega⟩
 obtain⟨n,rfl⟩:∃n:Nat,k=n:=⟨k.toNat,by omega⟩
 have h:sr a n<9223372036854775808:=Nat.lt_of_le_of_lt (Nat.shiftRight_le a n) (by omega);rw [YB a n (by omega),show(1:Int)=((1:Nat):Int)from rfl,YC h (by omega),YD];unfold wP;simp only [Int.toNat_natCast];split<;>rfl
noncomputable abbrev at3:=EV [(150,.pure ofS),(151,.pure YE)] [] 22300 50
theorem auE:af at3 [] Tryz.f223 YA:=pb <| by
 rintro⟨r,l,n,c⟩ ⟨hf,hl,hb,hn,gi⟩;simp only at hf hl hb hn gi;obtain⟨k,rfl⟩:∃k:Nat,n=k:=⟨n.toNat,by omega⟩
 have hk:k<r.bM.length:=by omega
 have v0:(k:Int)<r.bM.length:=by omega
 obtain⟨p,hp,hp'⟩:=gx hk;have v9:mV r k=p:=by simp [mV,List.getD,hp]
 have NG:=hf.p p (by rw [<-hp'];exact List.getElem_mem hk);have adK:0<=p.rat/\p.rat<=255:=by simp only [Pn.ok,Bool.and_eq_true,decide_eq_true_eq]at NG;exact NG.1.1
 have GY:0<=c.gP/\c.gP<=7:=by simp only [gR,Bool.and_eq_true,decide_eq_true_eq]at gi;exact gi.2
 have z4:tH c.a c.b=true:=by simp only [gR,Bool.and_eq_true]at gi;exact gi.1
 have yV:=Ie adK GY;have z5:=tN z4;have Aa:l.length<=1000000:=by omega
 have YF:SA (own l k++[⟨k,c.a,c.b⟩]):=⟨by have:=xC l k;simp;omega,fun x hx=>by
  rcases List.mem_append.1 hx with h|h
  ·exact hb x (nP.1 h).1
  ·exact List.mem_singleton.1 h ▸ z5⟩
 have hW:ar9 bH r l k c=(if wP p.rat c.gP=true then []else [1])++(if c.vX=true/\p.mW<c.b then [2]else [])++tO bH r (own l k) ⟨k,c.a,c.b⟩:=by unfold ar9;rw [v9]
 have iq:(tO bH r (own l k) ⟨k,c.a,c.b⟩).length<=4:=by unfold tO;simp only [List.length_append];split<;>split<;>split<;>split<;>simp
 generalize hB:tO bH r (own l k) ⟨k,c.a,c.b⟩=B at *;have v5:=ir r (own l k) ⟨k,c.a,c.b⟩;simp only at v5;have hd:(decide (p.mW<c.b))=decide (p.mW<c.b):=rfl;cases h1:wP p.rat c.gP<;>rw [h1]at yV hW
 all_goals
  cases h2:c.vX<;>rw [h2]at hW
  ·simp at hW;simp -dsimp [Tryz.f223,at3,Ro.row,bp,Cl.row];repeat' first|omega|simp -dsimp [at3,Ro.row,bp,Cl.row,Pn.row,bX,hk,v0,hp,hp',yV,Aa,iu,v5,YF,hB,iq,h2,hW]|apply aI|apply nI|intro
  ·by_cases h3:p.mW<c.b
   ·simp [h3]at hW;simp -dsimp [Tryz.f223,at3,Ro.row,bp,Cl.row];repeat' first|omega|simp -dsimp [at3,Ro.row,bp,Cl.row,Pn.row,bX,hk,v0,hp,hp',yV,Aa,iu,v5,YF,hB,iq,h2,h3,hW]|apply aI|apply nI|intro
   ·simp [h3]at hW;have h3':(p.mW<c.b)=False:=eq_false h3;simp -dsimp [Tryz.f223,at3,Ro.row,bp,Cl.row];repeat' first|omega|simp -dsimp [at3,Ro.row,bp,Cl.row,Pn.row,bX,hk,v0,hp,hp',yV,Aa,iu,v5,YF,hB,iq,h2,h3',hW]|apply aI|apply nI|intro
theorem aun:FO 223 YA:=pf auE (.cons aip (.cons ait .nil))
structure WyP (d:Ro × List Du × Int × Cl):Prop where
 p:d.1.bM.length<=100000000000000
 n:d.2.1.length<=100000000000000
theorem vf{r:Ro}{l:List Du}{b:Bool}(h:fQ bH r l b=0):(gT bH r l).2=0/\b=true:=by
 unfold fQ at h;split at h
 ·split at h
  ·exact⟨by assumption,by assumption⟩
  ·omega
 ·exact absurd h (by assumption)
@[simp] def utE(d:Ro × List Du × Int × Int):List V:=[.agg d.1.row,.sl 3 (d.2.1.map Du.row),.int .i64 d.2.2.1,.int .i64 d.2.2.2]
structure UtP (d:Ro × List Du × Int × Int):Prop where
 p:d.1.bM.length<=100000000000000
 n:d.2.1.length<=100000000000000
end Go.Sx
end
section
namespace Go.Sx
open Go.Proofs
attribute [local simp] ri aa ints
attribute [local irreducible] bA
def Tk(p:Int × Int):List V:=[.int .i64 p.1,.int .i64 p.2]
theorem atu(a b:Int × Int)(h:Tk a=Tk b):a=b:=by simp [Tk]at h;exact Prod.ext h.1 h.2
noncomputable def Sj(r:Ro)(l:List Du)(c:Cl):List (Int × Int) × Int:=if fQ bH r l (gR c)=0 then (Sk bH r l c,0)else ([],fQ bH r l (gR c))
@[simp] def crE(d:Ro × List Du × Cl):List V:=[.agg d.1.row,.sl 3 (d.2.1.map Du.row),.agg d.2.2.row]
theorem YG(a b:Ro × List Du × Cl)(h:crE a=crE b):a=b:=by obtain⟨a1,a2,a3⟩:=a;obtain⟨b1,b2,b3⟩:=b;simp only [crE,List.cons.injEq,V.agg.injEq,V.sl.injEq,true_and,and_true]at h;rw [Ro.aq _ _ h.1,aR Du.aq h.2.1,Cl.aq _ _ h.2.2]
structure CrP (e:Ro × List Du × Cl):Prop where
 p:e.1.bM.length<=100000000000000
 n:e.2.1.length<=100000000000000
noncomputable abbrev adL:aB:=bS crE CrP fun e=>.dB [.sl 2 ((Sj e.1 e.2.1 e.2.2).1.map Tk),.int .i64 (Sj e.1 e.2.1 e.2.2).2]
def su(n:Nat)(mv:Nat->Int)(k:Nat):List Int:=(List.range n).map fun i=>if i<k then mv i else 0
theorem asC(n:Nat)(mv:Nat->Int)(k:Nat):(su n mv k).length=n:=by simp [su]
theorem NH(n:Nat)(mv:Nat->Int):List.replicate n [V.int .i64 0]=(su n mv 0).map ri:=by
 apply List.ext_getElem
 ·simp [su]
 ·intro i h1 h2;simp [su,ri]
theorem Tl{n:Nat}(mv:Nat->Int){k:Nat}(hk:k<n){x:Int}(hx:mv k=x):((su n mv k).map ri).set k [V.int .i64 x]=(su n mv (k+1)).map ri:=by
 apply List.ext_getElem
 ·simp [su]
 ·intro i h1 h2;simp only [List.length_map,asC]at h2;rw [List.getElem_set];by_cases h:k=i
  ·subst h;rw [if_pos rfl];simp [su,ri,hx]
  ·rw [if_neg h];simp only [su,List.getElem_map,List.getElem_range,ri];by_cases vb:i<k
   ·rw [if_pos vb,if_pos (by omega)]
   ·rw [if_neg vb,if_neg (by omega)]
theorem YH{n:Nat}(mv:Nat->Int){k:Nat}(hk:k<n):(su n mv n)[k]?=some (mv k):=by simp [su,hk]
section
variable (r:Ro) (l:List Du) (c:Cl)
noncomputable def Fx(i:Nat):Int:=if ar9 bH r l i c=[]then (mV r i).qV else -1
noncomputable def vg(i k:Nat):List (Int × Int):=((List.range k).filter fun k:Nat=>Fi bH r l c i k).map fun k:Nat=>((i:Int),(k:Int))
noncomputable def tP(i:Nat):List (Int × Int):=(List.range i).flatMap fun i:Nat=>vg r l c i r.bM.length
theorem Tm:tP r l c r.bM.length=Sk bH r l c:=rfl
theorem NI(i k:Nat):vg r l c i (k+1)=if Fi bH r l c i k=true then vg r l c i k++[((i:Int),(k:Int))]else vg r l c i k:=by
 unfold vg;rw [List.range_succ,List.filter_append,List.map_append];by_cases h:Fi bH r l c i k=true
 ·rw [if_pos h];simp [h]
 ·rw [if_neg h];simp [h]
theorem BB(i:Nat):tP r l c (i+1)=tP r l c i++vg r l c i r.bM.length:=by unfold tP;rw [List.range_succ,List.flatMap_append];simp
theorem Fy(i:Nat):∀k,(vg r l c i k).length<=k:=fun k=>by unfold vg;rw [List.length_map];exact Nat.le_trans (List.length_filter_le _ _) (by simp)
theorem Fz:∀i,(tP r l c i).length<=i * r.bM.length
 | 0=>by simp [tP]
 | i+1=>by have:=Fz i;have:=Fy r l c i r.bM.length;rw [BB,List.length_append,Nat.add_mul];omega
theorem YI(i k:Nat):Fi bH r l c i k=(decide (i≠k) && decide (2<=Fx r l c i) && decide (1<=Fx r l c k)):=by
 have h:∀(n:Int) (i:Nat),0<n->decide (n<=Fx r l c i)=(decide (n<=(mV r i).qV) && (ar9 bH r l i c).isEmpty):=by
  intro n i hn;unfold Fx;by_cases h:ar9 bH r l i c=[]
  ·rw [if_pos h,h];simp
  ·rw [if_neg h];have:(ar9 bH r l i c).isEmpty=false:=(by simpa using h);rw [this,decide_eq_false (by omega),Bool.and_false]
 unfold Fi;rw [h 2 i (by omega),h 1 k (by omega)]
end
noncomputable abbrev atP:=EV [(221,.pure ckS),(222,.pure Lj),(223,.pure YA)] [] 15700 86
theorem auq:af atP [] Tryz.f157 adL:=pb <| by
 rintro⟨r,l,c⟩ ⟨hp,hl⟩;simp only at hp hl;have hK:Sj r l c=if fQ bH r l (gR c)=0 then (Sk bH r l c,0)else ([],fQ bH r l (gR c)):=rfl;have zY:MG (r,l):=⟨hp,hl⟩
 generalize h2:gR c=b at hK;by_cases he:fQ bH r l b=0
 case neg=>
  rw [if_neg he]at hK;have he':(fQ bH r l b=0)=False:=eq_false he;simp -dsimp [Tryz.f157,atP,Ro.row,bp,Cl.row];repeat' first|omega|simp -dsimp [atP,Ro.row,bp,Cl.row,tM,xG,zY,h2,he',hK]|apply aI|apply nI|intro
 rw [if_pos he]at hK;obtain⟨z1,z2⟩:=vf he;subst z2;have z6:∀k:Nat,k<r.bM.length->WhP (r,l,(k:Int),c):=fun k hk=>WhP.of z1 (by omega) h2;have z3:=Tm r l c;have adM:r.bM.length<=12:=by
  have:r.ok=true:=by
   unfold gT at z1;split at z1
   ·assumption
   ·simp at z1
  exact(Ro.si.1 this).n
 simp -dsimp [Tryz.f157,atP,Ro.row,bp,Cl.row];repeat' first|omega|simp -dsimp [atP,Ro.row,bp,Cl.row,tM,xG,zY,h2,he]|apply aI|apply nI|intro
 refine ay [32,33,34,35,11,10,36,37,38,39,40,41,42,43,44,45,46,47,48,49,50,51,31] (fun k:{k:Nat // k<=r.bM.length}=>[(31,(true,.int .i64 k.1))]) (fun k=>hps [(15711,{base:=k.1,ah:=[]}),(15727,{base:=0,ah:=[{z:=1,els:=(su r.bM.length (Fx r l c) k.1).map ri,ty:=3}]}),(15703,{base:=0,ah:=[{z:=6,els:=[r.row],ty:=41}]}),(15705,{base:=0,ah:=[{z:=4,els:=[c.row],ty:=212}]})] cg) (fun k=>r.bM.length - k.1) ⟨0,by omega⟩ ?_ ?_ ?_
 ·simp [aj,aT]
 ·simp only [<-NH];(try simp -dsimp only [hpx]);refine ai ?_;simp -dsimp [aC,Ro.row,bp,Cl.row]<;>exact rz
 rintro⟨k,hk⟩;dsimp only;have v1:=asC r.bM.length (Fx r l c) k;by_cases aH:k<r.bM.length
 ·have v0:(k:Int)<r.bM.length:=by omega
  have wk:=wx k;obtain⟨p,va,FA⟩:=gx aH;have v9:mV r k=p:=by simp [mV,List.getD,va]
  have hW:=z6 k aH;have vd:=Ll r l k c;have v6:Fx r l c k=if ar9 bH r l k c=[]then p.qV else -1:=by unfold Fx;rw [v9]
  have bE:=fun x (h:Fx r l c k=x)=>Tl (Fx r l c) aH h;have vr:k<(su r.bM.length (Fx r l c) k).length:=by omega
  rcases YJ:ar9 bH r l k c with _|⟨y,ys⟩
  ·rw [YJ,if_pos rfl]at v6;have bE:=bE _ v6;simp -dsimp [v0];repeat' first|omega|simp -dsimp [atP,Ro.row,bp,Cl.row,Pn.row,v0,aH,vr,v1,va,FA,vd,hW,YJ,wk]|apply aI|apply nI|intro
   refine⟨k+1,ag rfl ?_,?_,by omega,by omega⟩
   ·simp [aj,aT]
   ·rw [<-bE];(try simp -dsimp only [hpx]);refine ai ?_;simp -dsimp [aC,Ro.row,bp,Cl.row]<;>exact rz
  ·rw [YJ,if_neg (by simp)]at v6;have bE:=bE _ v6;have hyl:(0:Int)<(ys.length:Int)+1:=(by omega);simp -dsimp [v0];repeat' first|omega|simp -dsimp [atP,Ro.row,bp,Cl.row,Pn.row,v0,aH,vr,v1,va,FA,vd,hW,YJ,hyl,wk]|apply aI|apply nI|intro
   refine⟨k+1,ag rfl ?_,?_,by omega,by omega⟩
   ·simp [aj,aT]
   ·rw [<-bE];(try simp -dsimp only [hpx]);refine ai ?_;simp -dsimp [aC,Ro.row,bp,Cl.row]<;>exact rz
 have vs:¬ (k:Int)<r.bM.length:=by omega
 have z7:k=r.bM.length:=by omega
 subst z7;have lC:=fun k (hk:k<r.bM.length)=>YH (Fx r l c) hk;generalize su r.bM.length (Fx r l c) r.bM.length=M at *;simp -dsimp [vs];repeat' first|omega|simp -dsimp [atP,vs,v1]|apply aI|apply nI|intro
 refine dA [(6,15782,2,90)] rfl (by simp) [55,56,57,58,12,13,59,60,61,62,63,64,65,14,15,66,67,68,69,70,71,72,73,74,75,76,77,78,79,80,81,82,6,83,84,54] (fun i:{i:Nat // i<=r.bM.length}=>[(54,(true,.int .i64 i.1)),(6,(true,.bw 15782 0 (tP r l c i.1).length))]) (fun i=>hps [(15782,{base:=0,ah:=[{z:=2,els:=(tP r l c i.1).map Tk,ty:=90}]}),(15711,{base:=r.bM.length,ah:=[]}),(15727,{base:=0,ah:=[{z:=1,els:=M.map ri,ty:=3}]}),(15703,{base:=0,ah:=[{z:=6,els:=[r.row],ty:=41}]}),(15705,{base:=0,ah:=[{z:=4,els:=[c.row],ty:=212}]})] cg) (fun i=>r.bM.length - i.1) ⟨0,by omega⟩ ?_ ?_ ?_
 ·simp [aj,aT,tP]
 ·(try simp -dsimp only [hpx]);refine ai ?_;simp -dsimp [aC,Ro.row,bp,Cl.row,tP]<;>exact rz
 rintro⟨i,hi⟩;dsimp only;have jU:=Fz r l c i;by_cases vx:i<r.bM.length
 case neg=>
  have vy:¬ (i:Int)<r.bM.length:=by omega
  have z8:i=r.bM.length:=by omega
  subst z8;simp -dsimp [vy];repeat' first|omega|simp -dsimp [atP,vy,z3,hK]|apply aI|apply nI|intro
 have vP:(i:Int)<r.bM.length:=by omega
 have w0i:=wx i;have vV:=lC i vx;have z9:i<M.length:=by omega
 have adN:M[i]=Fx r l c i:=(List.getElem?_eq_some_iff.1 vV).2;have vW:=BB r l c i;simp -dsimp [vP];repeat' first|omega|simp -dsimp [atP,vP,vx,z9,v1,vV,adN]|apply aI|apply nI|intro
 refine ay [62,63,64,65,14,15,66,67,68,69,70,71,72,73,74,75,76,77,78,79,80,81,82,6,83,61] (fun j:{j:Nat // j<=r.bM.length}=>[(61,(true,.int .i64 j.1)),(6,(true,.bw 15782 0 ((tP r l c i).length+(vg r l c i j.1).length)))]) (fun j=>hps [(15782,{base:=0,ah:=[{z:=2,els:=(tP r l c i++vg r l c i j.1).map Tk,ty:=90}]}),(15711,{base:=r.bM.length,ah:=[]}),(15727,{base:=0,ah:=[{z:=1,els:=M.map ri,ty:=3}]}),(15703,{base:=0,ah:=[{z:=6,els:=[r.row],ty:=41}]}),(15705,{base:=0,ah:=[{z:=4,els:=[c.row],ty:=212}]})] cg) (fun j=>r.bM.length - j.1) ⟨0,by omega⟩ ?_ ?_ ?_
 ·simp [aj,aT,vg]
 ·(try simp -dsimp only [hpx]);refine ai ?_;simp -dsimp [aC,Ro.row,bp,Cl.row,vg]<;>exact rz
 rintro⟨j,hj⟩;dsimp only;have tf:=Fy r l c i j;by_cases v4:j<r.bM.length
 case neg=>
  have z0:¬ (j:Int)<r.bM.length:=by omega
  have AD:j=r.bM.length:=by omega
  subst AD;simp -dsimp [z0];repeat' first|omega|simp -dsimp [atP,z0,w0i]|apply aI|apply nI|intro
  refine⟨i+1,cq (aN rfl (br rfl (aN rfl bO))) ?_,?_,by omega,by omega⟩
  ·simp [aj,aT,vW]
  ·rw [vW];(try simp -dsimp only [hpx]);refine ai ?_;simp -dsimp [aC,Ro.row,bp,Cl.row]<;>exact rz
 have v2:(j:Int)<r.bM.length:=by omega
 have wj:=wx j;have YK:=lC j v4;have v7:j<M.length:=by omega
 have IA:M[j]=Fx r l c j:=(List.getElem?_eq_some_iff.1 YK).2;have D7:=NI r l c i j;have OY:=YI r l c i j;have an1:(tP r l c i).length<=1000:=by have:i * r.bM.length<=12 * 12:=Nat.mul_le_mul (by omega) adM;omega
 generalize Fx r l c i=mi at *;generalize Fx r l c j=mj at *;by_cases v3:(i≠j/\2<=mi)/\1<=mj
 ·obtain⟨⟨a1,a2⟩,a3⟩:=v3;have a1':(i=j)=False:=eq_false a1;have a1i:((i:Int)=j)=False:=eq_false (by omega);rw [if_pos (by rw [OY,decide_eq_true a1,decide_eq_true a2,decide_eq_true a3];rfl)]at D7;have hb:((tP r l c i).length+(vg r l c i j).length+1) * 16<=140737488355328:=by omega
  simp -dsimp [v2];repeat' first|omega|simp -dsimp [atP,v2,v4,v7,v1,YK,IA,a1',a1i,a2,a3,hb,wj]|apply aI|apply nI|intro
  refine⟨j+1,ag rfl ?_,?_,by omega,by omega⟩
  ·simp [aj,aT,D7,Nat.add_assoc]
  ·rw [D7];(try simp -dsimp only [hpx]);refine ai ?_;simp -dsimp [aC,Ro.row,bp,Cl.row,Tk]<;>exact rz
 ·rw [if_neg (by rw [OY];simp only [Bool.and_eq_true,decide_eq_true_eq];exact v3)]at D7;by_cases a1:i=j
  ·subst a1;simp -dsimp [v2];repeat' first|omega|simp -dsimp [atP,v2,v4,v7,v1,YK,IA,wj]|apply aI|apply nI|intro
   refine⟨i+1,ag rfl ?_,?_,by omega,by omega⟩
   ·simp [aj,aT,D7]
   ·rw [D7];(try simp -dsimp only [hpx]);refine ai ?_;simp -dsimp [aC,Ro.row,bp,Cl.row]<;>exact rz
  ·have a1':(i=j)=False:=eq_false a1;have a1i:((i:Int)=j)=False:=eq_false (by omega);by_cases a2:2<=mi
   ·have a3:(1<=mj)=False:=eq_false fun h=>v3 ⟨⟨a1,a2⟩,h⟩;simp -dsimp [v2];repeat' first|omega|simp -dsimp [atP,v2,v4,v7,v1,YK,IA,a1',a1i,a2,a3,wj]|apply aI|apply nI|intro
    refine⟨j+1,ag rfl ?_,?_,by omega,by omega⟩
    ·simp [aj,aT,D7]
    ·rw [D7];(try simp -dsimp only [hpx]);refine ai ?_;simp -dsimp [aC,Ro.row,bp,Cl.row]<;>exact rz
   ·replace a2:(2<=mi)=False:=eq_false a2;simp -dsimp [v2];repeat' first|omega|simp -dsimp [atP,v2,v4,v7,v1,YK,IA,a1',a1i,a2,wj]|apply aI|apply nI|intro
    refine⟨j+1,ag rfl ?_,?_,by omega,by omega⟩
    ·simp [aj,aT,D7]
    ·rw [D7];(try simp -dsimp only [hpx]);refine ai ?_;simp -dsimp [aC,Ro.row,bp,Cl.row]<;>exact rz
theorem aub:FO 157 adL:=pf auq (.cons agR (.cons aua (.cons aun .nil)))
end Go.Sx
end
end
