/- A part of a proof; no conditions. -/
import Derived.Test.YtegiclpanpmkdaaGreatDoorR13
set_option linter.all false
set_option maxRecDepth 100000
set_option maxHeartbeats 8000000
noncomputable section
section
namespace Go.Sx
open Go.Proofs
attribute [local simp] ri aa ints
def HI.emp(x:HI)(m:Int)(k j:Nat):Bool:=decide (x.at k m j<0)
def HI.eS(x:HI)(m:Int)(k:Nat):Nat->List (Int × Int)
 | 0=>[]
 | j+1=>if x.emp m k j=true then x.eS m k j++[((k:Int),(j:Int))]else x.eS m k j
def HI.places(x:HI)(k:Nat):Nat:=(x.r.kinds.getD k default).places.toNat
def HI.ej(x:HI)(m:Int):Nat->List (Int × Int)
 | 0=>[]
 | k+1=>x.ej m k++x.eS m k (x.places k)
def HI.ga(x:HI)(m:Int):List (Int × Int):=x.ej m x.r.kinds.length
theorem qD(x:HI)(m:Int)(k:Nat):∀j,(x.eS m k j).length<=j
 | 0=>by simp [HI.eS]
 | j+1=>by have:=qD x m k j;simp only [HI.eS];split<;>simp<;>omega
structure HI.Small (x:HI):Prop where
 ps:x.ps.length<=1000
 kinds:x.r.kinds.length<=1000
 places:∀kd∈x.r.kinds,kd.places<=1000
theorem vh{x:HI}(hs:x.Small)(k:Nat):x.places k<=1000:=by
 unfold HI.places;by_cases hk:k<x.r.kinds.length
 ·have:=hs.places _ (List.getElem_mem hk);simp only [List.getD,List.getElem?_eq_getElem hk,Option.getD_some];omega
 ·simp only [List.getD,List.getElem?_eq_none (by omega:x.r.kinds.length<=k),Option.getD_none];decide
theorem nG{x:HI}(hs:x.Small)(m:Int):∀k,(x.ej m k).length<=1000 * k
 | 0=>by simp [HI.ej]
 | k+1=>by have h1:=nG hs m k;have h2:=qD x m k (x.places k);have h3:=vh hs k;simp only [HI.ej,List.length_append];omega
theorem pP(x:HI)(k a b:Int):aY haE [.ip 9 [[.sl 3 (x.r.kinds.map Kd.row),.sl 4 (x.r.parts.map Pt.row),.int .i64 x.r.ax,.sl 2 (x.r.az.map Od.row),oK x.ps,.sl 1 (x.aX.map rb),x.v1,x.v2,x.v3]] 0 0,.int .i64 k,.agg [.int .i64 a,.int .i64 b]]=(x,k,a,b):=WR x k a b
noncomputable abbrev IB:aB:=bS OR (fun d=>d.1.Small) fun d=>prs (d.1.ga d.2)
noncomputable abbrev adR:=EV [(207,.pure haS)] [] 14300 40
theorem an8:af adR [] Tryz.f143 IB:=pb <| by
 rintro⟨x,m⟩ ow;simp only at ow;have an3:=ow.ps;have arO:=ow.kinds;have vr:x.ps.length<=9223372036854775807:=by omega
 simp -dsimp [Tryz.f143,adR,HI.v];repeat' first|omega|simp -dsimp [adR,HI.v]|apply aI|apply nI|intro
 refine dA [(4,14336,2,90)] rfl (by simp) [15,16,17,18,6,5,19,20,21,22,23,7,24,25,26,27,28,29,30,31,32,33,34,35,36,4,37,38,14] (fun k:Fin (x.r.kinds.length+1)=>[(14,(true,.int .i64 (k.1:Nat))),(4,(true,.bw 14336 0 (x.ej m k.1).length))])
  (fun k=>hps [(14336,{base:=0,ah:=[{z:=2,els:=(x.ej m k.1).map bn,ty:=90}]}),(14306,{base:=k.1,ah:=[]})] cg) (fun k=>x.r.kinds.length - k.1) ⟨0,by omega⟩ ?_ ?_ ?_
 ·simp [aj,aT,HI.ej]
 ·(try simp -dsimp only [hpx]);refine ai ?_;simp -dsimp [aC,HI.ej]<;>exact rz
 rintro⟨k,hk⟩;simp only;by_cases aH:k<x.r.kinds.length
 ·have v0:(k:Int)<x.r.kinds.length:=by omega
  have wk:=wx k;obtain⟨kd,kj,iA⟩:=aM aH;have hT:x.ej m (k+1)=x.ej m k++x.eS m k (x.places k):=rfl;have Af:x.places k=kd.places.toNat:=by simp [HI.places,List.getD,kj]
  have HJ:=nG ow m k;have v7:=vh ow k;rw [Af]at hT v7;generalize x.ej m k=T at *;generalize Ar:kd.places.toNat=pn at *;simp -dsimp [v0];repeat' first|omega|simp -dsimp [adR,v0,aH,kj,iA,wk,Kd.row]|apply aI|apply nI|intro
  refine ay [22,23,7,24,25,26,27,28,29,30,31,32,33,34,35,36,4,37,21] (fun j:Fin (pn+1)=>[(21,(true,.int .i64 (j.1:Nat))),(4,(true,.bw 14336 0 (T++x.eS m k j.1).length))])
   (fun j=>hps [(14336,{base:=0,ah:=[{z:=2,els:=(T++x.eS m k j.1).map bn,ty:=90}]}),(14306,{base:=k+1,ah:=[]})] cg) (fun j=>pn - j.1) ⟨0,by omega⟩ ?_ ?_ ?_
  ·simp [aj,aT,HI.eS]
  ·(try simp -dsimp only [hpx]);refine ai ?_;simp -dsimp [aC,HI.eS]<;>exact rz
  rintro⟨j,hj⟩;simp only;by_cases vV:j<pn
  ·have v9:(j:Int)<kd.places:=(by omega);have wj:=wx j;have hL:x.eS m k (j+1)=if x.emp m k j=true then x.eS m k j++[((k:Int),(j:Int))]else x.eS m k j:=rfl;have vW:=qD x m k j;have vs:x.emp m k j=decide (x.at k m j<0):=rfl;generalize x.eS m k j=L at *;by_cases he:x.at k m j<0
   ·rw [vs,decide_eq_true he,if_pos rfl]at hL;have yC:(T.length+L.length+1) * 16<=140737488355328:=(by omega);simp -dsimp [v9];repeat' first|omega|simp -dsimp [adR,v9,HI.v,pP,vr,he,wj,yC,bn]|apply aI|apply nI|intro
    refine⟨⟨j+1,by omega⟩,ag rfl ?_,(by(try simp -dsimp only [hpx]);refine ai ?_;simp -dsimp [aC,hL,bn]<;>exact rz),by simp only;omega⟩;simp [aj,aT,hL,Nat.add_assoc]
   ·rw [vs,decide_eq_false he,if_neg (by simp)]at hL;simp -dsimp [v9];repeat' first|omega|simp -dsimp [adR,v9,HI.v,pP,vr,he,wj,bn]|apply aI|apply nI|intro
    refine⟨⟨j+1,by omega⟩,ag rfl ?_,(by(try simp -dsimp only [hpx]);refine ai ?_;simp -dsimp [aC,hL,bn]<;>exact rz),by simp only;omega⟩;simp [aj,aT,hL]
  ·have AD:j=pn:=(by omega);have vx:¬ (j:Int)<kd.places:=(by omega);simp -dsimp [vx];repeat' first|omega|simp -dsimp [adR,vx,wk]|apply aI|apply nI|intro
   refine⟨⟨k+1,by omega⟩,cq (aN rfl (br rfl (aN rfl bO))) ?_,(by(try simp -dsimp only [hpx]);refine ai ?_;simp -dsimp [aC,hT,AD]<;>exact rz),by simp only;omega⟩;simp [aj,aT,hT,AD]
 ·have v6:¬ (k:Int)<x.r.kinds.length:=by omega
  have va:k=x.r.kinds.length:=by omega
  subst va;simp -dsimp [v6];repeat' first|omega|simp -dsimp [adR,v6,HI.ga,prs]|apply aI|apply nI|intro
theorem ajm:FO 143 IB:=pf an8 (.cons ayb .nil)
theorem Tn(x:HI)(p:PS):aY hpE [.ip 9 [[.sl 3 (x.r.kinds.map Kd.row),.sl 4 (x.r.parts.map Pt.row),.int .i64 x.r.ax,.sl 2 (x.r.az.map Od.row),oK x.ps,.sl 1 (x.aX.map rb),x.v1,x.v2,x.v3]] 0 0,.ip 8 [[.int .i64 p.kind,.int .i64 p.hours,.int .i64 p.bh,.bool p.known,.int .i64 p.a,.int .i64 p.b,.sl 1 (p.since.map ri),.sl 1 (p.iV.map rb)]] 0 0]=(x,p):=WT x p
theorem bJ(x:HI)(n:Int):aY OR [.ip 9 [[.sl 3 (x.r.kinds.map Kd.row),.sl 4 (x.r.parts.map Pt.row),.int .i64 x.r.ax,.sl 2 (x.r.az.map Od.row),oK x.ps,.sl 1 (x.aX.map rb),x.v1,x.v2,x.v3]] 0 0,.int .i64 n]=(x,n):=WM x n
def HI.mu(x:HI)(m lM:Int):List PS->Int->Int
 | [],most=>most
 | p::r,most=>if p.a=m then (if x.iL p<lM then -1 else x.mu m lM r (xR most (x.jt p)))else x.mu m lM r most
def HI.cE(x:HI)(m lM:Int):Int:=if x.ga m=[]then x.mu m lM x.ps 100 else -1
@[simp] def hmE(d:HI × Int × Int):List V:=[d.1.v,.int .i64 d.2.1,.int .i64 d.2.2]
theorem YL(a b:HI × Int × Int)(h:hmE a=hmE b):a=b:=by obtain⟨x,a1,a2⟩:=a;obtain⟨y,b1,b2⟩:=b;simp only [hmE,List.cons.injEq,V.int.injEq,true_and,and_true]at h;rw [HI.qZ _ _ h.1,h.2.1,h.2.2]
theorem X8(x:HI)(m c:Int):aY hmE [x.v,.int .i64 m,.int .i64 c]=(x,m,c):=aA YL (x,m,c)
noncomputable abbrev tE:aB:=bS hmE (fun d=>d.1.Small/\∀p∈d.1.ps,d.1.Fit p) fun d=>.int .i64 (d.1.cE d.2.1 d.2.2)
structure LgI (n:Nat) (P:Nat->Int->Prop) where
 k:Nat
 most:Int
 hk:k<=n
 h:P k most
noncomputable abbrev E80:=EV [(143,.pure IB),(144,.pure Px)] [] 8000 47
theorem b80:af E80 [] Tryz.f80 tE:=pb <| by
 rintro⟨x,m,lM⟩ ⟨ow,vb⟩;simp only at ow vb;have an3:=ow.ps;by_cases hl:x.ga m=[]
 case neg=>
  have hl':(0:Int)<(x.ga m).length:=by have:0<(x.ga m).length:=List.length_pos_iff.2 hl;omega
  have vP:0<(x.ga m).length:=by omega
  simp -dsimp [Tryz.f80,E80,HI.v];repeat' first|omega|simp -dsimp [E80,HI.v,bJ,ow,hl,hl',vP,prs,HI.cE]|apply aI|apply nI|intro
 simp -dsimp [Tryz.f80,E80,HI.v];repeat' first|omega|simp -dsimp [E80,HI.v,bJ,ow,hl,prs]|apply aI|apply nI|intro
 refine ay [23,24,25,9,26,27,28,29,30,31,32,34,35,36,33,37,38,10,11,39,40,41,6,42,43,44,7,45,22] (fun q:LgI x.ps.length fun k most=>x.mu m lM (x.ps.drop k) most=x.cE m lM=>[(22,(true,.int .i64 (q.k:Nat))),(7,(true,.int .i64 q.most))]) (fun _=>cg) (fun q=>x.ps.length - q.k) ⟨0,100,by simp,by simp [HI.cE,hl]⟩ ?_ (bA.refl _) ?_
 ·simp [aj,aT]
 rintro⟨k,most,hk,hq⟩;simp only at hk hq ⊢;by_cases aH:k<x.ps.length
 ·have v0:(k:Int)<x.ps.length:=by omega
  have hp:=sV (ps:=x.ps) (by omega);have wk:=wx k;obtain⟨p,v7,FA⟩:=aM aH;have hd:x.ps.drop k=p::x.ps.drop (k+1):=by rw [List.drop_eq_getElem_cons aH,FA]
  have vd:=fun p:PS=>Tn x p;simp only [hp,vJ,PS.sU]at vd;have hf:=vb p (FA ▸ List.getElem_mem aH);rw [hd,HI.mu]at hq;by_cases hm:p.a=m
  ·rw [if_pos hm]at hq;subst hm;by_cases hc:x.iL p<lM
   ·rw [if_pos hc]at hq;simp -dsimp [v0,hp];repeat' first|omega|simp -dsimp [E80,v0,hp,v7,FA,aH,vJ,PS.sU,HI.v,vd,hf,hc,hq.symm]|apply aI|apply nI|intro
   ·rw [if_neg hc]at hq;simp -dsimp [v0,hp];repeat' first|omega|simp -dsimp [E80,v0,hp,v7,FA,aH,vJ,PS.sU,HI.v,vd,hf,hc,wk]|apply aI|apply nI|intro
    refine⟨⟨k+1,xR most (x.jt p),by omega,hq⟩,ag rfl ?_,bA.refl _,by simp only;omega⟩;simp [aj,aT];by_cases vy:x.jt p<most<;>simp [xR,vy]
  ·rw [if_neg hm]at hq;simp -dsimp [v0,hp];repeat' first|omega|simp -dsimp [E80,v0,hp,v7,FA,aH,hm,vJ,PS.sU,wk]|apply aI|apply nI|intro
   refine⟨⟨k+1,most,by omega,hq⟩,ag rfl ?_,bA.refl _,by simp only;omega⟩;simp [aj,aT]
 ·have v6:¬ (k:Int)<x.ps.length:=by omega
  have va:k=x.ps.length:=by omega
  subst va;simp only [List.drop_length,HI.mu]at hq;simp -dsimp [v6];repeat' first|omega|simp -dsimp [E80,v6,hq]|apply aI|apply nI|intro
theorem ajP:FO 80 tE:=pf b80 (.cons ajm (.cons abq .nil))
end Go.Sx
end
section
namespace Go.Sx
open Go.Proofs
attribute [local simp] ri aa ints
attribute [local irreducible] bA
attribute [local simp] aG
def aZ.kindOk(r:aZ)(n:Int):Bool:=au n 0 (cM r.kinds.length 1)
def Kd.bad(k:Kd):Bool:=!au k.hours 1 100000 || !au k.bh 1 100000 || !au k.places 0 4
def aZ.lZ(r:aZ)(p:Pt):Bool:=!r.kindOk p.kind || !au p.hours 0 100000 || !au p.bh 0 100000
def aZ.l6(r:aZ)(o:Od):Bool:=!r.kindOk o.kind || !au o.within 0 100000
def To(r:aZ):V:=.ip 4 [r.row] 0 0
@[simp] def kkE(d:aZ × Int):List V:=[.int .i64 d.2,To d.1]
theorem YN(a b:aZ × Int)(h:kkE a=kkE b):a=b:=by simp only [kkE,To,List.cons.injEq,V.int.injEq,V.ip.injEq,true_and,and_true]at h;exact Prod.ext (aZ.aq _ _ h.2) h.1
theorem Lm(r:aZ)(n:Int):aY kkE [.int .i64 n,.ip 4 [[.sl 3 (r.kinds.map Kd.row),.sl 4 (r.parts.map Pt.row),.int .i64 r.ax,.sl 2 (r.az.map Od.row)]] 0 0]=(r,n):=aA YN (r,n)
noncomputable abbrev kkS:aB:=bS kkE (fun _=>True) fun d=>.bool (d.1.kindOk d.2)
noncomputable abbrev aiZ:=EV [(79,.pure bF)] [] 19400 10
theorem anC:af aiZ [] Tryz.f194 kkS:=pb <| by rintro⟨r,n⟩ _;simp -dsimp [Tryz.f194,aiZ,To,aZ.row,aZ.kindOk,cM];repeat' first|omega|simp -dsimp [aiZ,aZ.kindOk,cM]|apply aI|apply nI|intro
theorem ai0:FO 194 kkS:=pf anC (.cons aoz .nil)
@[simp] def kdE(d:Kd):List V:=[.agg d.row]
theorem YO(a b:Kd)(h:kdE a=kdE b):a=b:=Kd.aq _ _ (by simpa using h)
theorem Ln(k:Kd):aY kdE [.agg [.int .i64 k.hours,.int .i64 k.bh,.int .i64 k.places]]=k:=aA YO k
noncomputable abbrev kdS:aB:=bS kdE (fun _=>True) fun d=>.bool d.bad
noncomputable abbrev adp:=EV [(79,.pure bF)] [] 19600 19
theorem anG:af adp [] Tryz.f196 kdS:=pb <| by rintro k _;simp -dsimp [Tryz.f196,adp,Kd.row,Kd.bad]
theorem ahR:FO 196 kdS:=pf anG (.cons aoz .nil)
@[simp] def Tq(d:List Kd):List V:=[.sl 3 (d.map Kd.row),.fn 196 []]
theorem Tr(a b:List Kd)(h:Tq a=Tq b):a=b:=map_inj Kd.aq (by simpa using h)
theorem FC(l:List Kd):aY Tq [.sl 3 (l.map Kd.row),.fn 196 []]=l:=aA Tr l
noncomputable abbrev adP:aB:=bS Tq (fun d=>d.length<=1000000) fun d=>.int .i64 (eB d Kd.bad)
noncomputable abbrev Vr:=EV [(196,.pure kdS)] [] 26000 19
theorem ap2:af Vr [] Tryz.f260 adP:=pb <| by
 rintro l hl;simp -dsimp [Tryz.f260,Vr];refine ay [9,10,5,11,12,13,14,15,16,17,4,18,8] (fun k:{k:Nat // k<=l.length/\∀j (h:j<l.length),j<k->l[j].bad=false}=>[(8,(true,.int .i64 k.1))]) (fun _=>cg) (fun k=>l.length - k.1) ⟨0,by omega,fun _ _ h=>by omega⟩ ?_ (bA.refl _) ?_
 ·simp [aj,aT]
 rintro⟨k,hk,v4⟩;by_cases aH:k<l.length
 ·have v0:(k:Int)<l.length:=by omega
  have wk:=wx k;cases hw:l[k].bad
  ·simp -dsimp [v0];repeat' first|omega|simp -dsimp [Vr,v0,aH,hl,hw,wk,Kd.row,Ln]|apply aI|apply nI|intro
   refine⟨k+1,ag rfl ?_,bA.refl _,⟨by omega,fun j h hj=>?_⟩,by omega⟩
   ·simp [aj,aT]
   ·by_cases v8:j=k
    ·subst v8;exact hw
    ·exact v4 j h (by omega)
  ·have hz:=cW l Kd.bad aH hw v4;simp -dsimp [v0];repeat' first|omega|simp -dsimp [Vr,v0,aH,hl,hw,wk,hz,Kd.row,Ln]|apply aI|apply nI|intro
 ·have v6:¬ (k:Int)<l.length:=by omega
  have hz:=bP l Kd.bad (fun j h=>v4 j h (by omega));simp -dsimp [v6];repeat' first|omega|simp -dsimp [Vr,v6,hz]|apply aI|apply nI|intro
theorem abG:FO 260 adP:=pf ap2 (.cons ahR .nil)
noncomputable abbrev adQ:aB:=bS Tq (fun d=>d.length<=1000000) fun d=>.bool (d.any Kd.bad)
noncomputable abbrev pH:=EV [(260,.pure adP)] [] 19500 9
theorem amA:af pH [] Tryz.f195 adQ:=pb <| by rintro l hl;have hz:=cO l Kd.bad;simp -dsimp [Tryz.f195,pH];repeat' first|omega|simp -dsimp [pH,hl,FC,hz]|apply aI|apply nI|intro
theorem ahJ:FO 195 adQ:=pf amA (.cons abG .nil)
def gj(r:aZ):List (Nat × Site):=[(14001,{base:=0,ah:=[{z:=4,els:=[r.row],ty:=37}]}),(14003,{base:=0,ah:=[{z:=1,els:=[[.fn 194 [.bG 14001 0 1 0 0]]],ty:=134,cl:=false}]})]
theorem cK(r:aZ):(gj r).map (·.1)=[14001,14003]:=rfl
theorem qE(r r':aZ)(h:∀k∈[14001,14003],hps (gj r) cg k=hps (gj r') cg k):r=r':=by have h1:=congrArg Site.ah (h 14001 (by simp));simp only [gj,eU]at h1;exact aZ.aq _ _ (by simpa using h1)
section
variable (s:aZ) (h:Hp)
@[simp] theorem aAd:Ob gj s h 14001={base:=0,ah:=[{z:=4,els:=[[.sl 3 (s.kinds.map Kd.row),.sl 4 (s.parts.map Pt.row),.int .i64 s.ax,.sl 2 (s.az.map Od.row)]],ty:=37}]}:=rfl
@[simp] theorem aAe:Ob gj s h 14003={base:=0,ah:=[{z:=1,els:=[[.fn 194 [.bG 14001 0 1 0 0]]],ty:=134,cl:=false}]}:=rfl
@[simp] theorem arP{k:Nat}(hn:[14001,14003].contains k=false):Ob gj s h k=h k:=jO cK hn
@[simp] theorem v_v(s':aZ):Ob gj s (Ob gj s' h)=Ob gj s h:=AV cK _ _ _
@[simp] theorem an9(k i:Nat):aL (Ob gj s h) k i=if i<(Ob gj s h k).base then none else (Ob gj s h k).ah[i - (Ob gj s h k).base]?:=rfl
@[simp] theorem alD(k:Nat):hnext (Ob gj s h) k=(Ob gj s h k).base+(Ob gj s h k).ah.length:=rfl
@[simp] theorem alE{k:Nat}(hn:[14001,14003].contains k=false)(B:dZ):bD (Ob gj s h) k B=Ob gj s (bD h k B):=xN cK hn B
@[simp] theorem aoa{k:Nat}{S:Site}{L:List (Nat × Site)}(hn:(((k,S)::L).all fun p=>![14001,14003].contains p.1)=true):hps ((k,S)::L) (Ob gj s h)=Ob gj s (hps ((k,S)::L) h):=Ch cK hn
end
@[simp] def ptE(r:aZ)(p:Pt):List V:=[.agg p.row,.bG 14003 0 1 0 0]
noncomputable abbrev ptS:bB:=ES gj [14001,14003] ptE (fun _ _ h=>Blank [19802] h) (fun r p _=>.bool (r.lZ p)) (fun r _=>r) fun _ _ h=>ec [19802] 1 h
theorem ajn(r:aZ)(p:Pt)(h:Hp):ptS.go [.agg p.row,.bG 14003 0 1 0 0] (Ob gj r h)=⟨Blank [19802] (Ob gj r h),.bool (r.lZ p),Ob gj r (ec [19802] 1 (Ob gj r h))⟩:=
 lH cK qE (fun s d d' h=>Pt.aq _ _ (by simpa using h)) r p h
noncomputable abbrev adE:=EV [(79,.pure bF),(194,.pure kkS)] [] 19800 21
theorem anV:ct adE [] Tryz.f198 ptS:=by
 intro args h hc;obtain⟨r,p,hh,rfl,hp,fV⟩:=dG cK hc;rw [fV];clear fV hc;obtain⟨h0,rfl⟩:∃h0,h=Ob gj r h0:=⟨h,hh⟩
 clear hh;have hb:h0 19802={base:=(h0 19802).base,ah:=[]}:=by simpa [Blank]using hp
 clear hp;have v5:h0=hps [(19802,{base:=(h0 19802).base,ah:=[]})] h0:=Blank.self (own:=[19802]) (by simpa [Blank]using hb);clear hb;generalize (h0 19802).base=b at v5;rw [v5];clear v5;simp -dsimp [Tryz.f198,adE,Pt.row,ec,aZ.lZ];cases h1:r.kindOk p.kind<;>cases h2:au p.hours 0 100000<;>cases h3:au p.bh 0 100000<;>repeat' first|omega|simp -dsimp [adE,h1,h2,h3,Pt.row,Lm,To,aZ.row]|apply aI|apply nI|intro
 all_goals exact(by(try simp -dsimp only [aV,aG,List.cons_append,List.nil_append,bq]);refine cu ?_;simp -dsimp [aC]<;>exact rz)
theorem ai9:dM Tryz.prog 198 (.heap ptS):=yE anV (.cons aoz (.cons ai0 .nil)) (fun args h hc=>by obtain⟨_,_,_,rfl,_⟩:=dG cK hc;simp)
@[simp] def ajo(r:aZ)(d:List Pt):List V:=[.sl 4 (d.map Pt.row),.fn 198 [.bG 14003 0 1 0 0]]
noncomputable abbrev YP:bB:=ES gj [14001,14003] ajo (fun _ d h=>Blank [19802] h/\d.length<=1000000) (fun r d _=>.int .i64 (eB d r.lZ)) (fun r _=>r) fun _ d h=>ec [19802] d.length h
theorem adT(r:aZ)(d:List Pt)(h:Hp):YP.go [.sl 4 (d.map Pt.row),.fn 198 [.bG 14003 0 1 0 0]] (Ob gj r h)=⟨Blank [19802] (Ob gj r h)/\d.length<=1000000,.int .i64 (eB d r.lZ),Ob gj r (ec [19802] d.length (Ob gj r h))⟩:=
 lH cK qE (fun s d d' h=>map_inj Pt.aq (by simpa using h)) r d h
theorem Tt(r:aZ)(p:Pt)(h:Hp):ptS.go [.agg [.int .i64 p.kind,.int .i64 p.hours,.int .i64 p.bh,.bool p.known],.bG 14003 0 1 0 0] (Ob gj r h)=⟨Blank [19802] (Ob gj r h),.bool (r.lZ p),Ob gj r (ec [19802] 1 (Ob gj r h))⟩:=ajn r p h
noncomputable abbrev afu:=EV [(198,.heap ptS)] [] 26100 19
theorem ap4:ct afu [] Tryz.f261 YP:=by
 intro args h hc;obtain⟨r,l,hh,rfl,⟨hp,hl⟩,fV⟩:=dG cK hc;rw [fV];clear fV hc;obtain⟨h0,rfl⟩:∃h0,h=Ob gj r h0:=⟨h,hh⟩
 clear hh;have hb:h0 19802={base:=(h0 19802).base,ah:=[]}:=by simpa [Blank]using hp
 clear hp;have v5:h0=hps [(19802,{base:=(h0 19802).base,ah:=[]})] h0:=Blank.self (own:=[19802]) (by simpa [Blank]using hb);clear hb;generalize (h0 19802).base=b at v5;rw [v5];clear v5;simp -dsimp [Tryz.f261,afu,ec];refine ay [9,10,5,11,12,13,14,15,16,17,4,18,8] (fun k:{k:Nat // k<=l.length/\∀j (h:j<l.length),j<k->r.lZ l[j]=false}=>[(8,(true,.int .i64 k.1))]) (fun k=>Ob gj r (hps [(19802,{base:=b+k.1,ah:=[]})] h0)) (fun k=>l.length - k.1) ⟨0,by omega,fun _ _ h=>by omega⟩ ?_ (bA.refl _) ?_
 ·simp [aj,aT]
 rintro⟨k,hk,v4⟩;by_cases aH:k<l.length
 ·have v0:(k:Int)<l.length:=by omega
  have wk:=wx k;cases hw:r.lZ l[k]
  ·simp -dsimp [v0];repeat' first|omega|simp -dsimp [afu,v0,aH,hl,hw,wk,Pt.row,Tt,Blank,ec]|apply aI|apply nI|intro
   refine⟨k+1,ag rfl ?_,(by(try simp -dsimp only [aV,aG,List.cons_append,List.nil_append,bq]);refine cu ?_;simp -dsimp [aC]<;>exact rz),⟨by omega,fun j h hj=>?_⟩,by omega⟩
   ·simp [aj,aT]
   ·by_cases v8:j=k
    ·subst v8;exact hw
    ·exact v4 j h (by omega)
  ·have hz:=cW l r.lZ aH hw v4;simp -dsimp [v0];repeat' first|omega|simp -dsimp [afu,v0,aH,hl,hw,wk,hz,Pt.row,Tt,Blank,ec]|apply aI|apply nI|intro
   exact(by(try simp -dsimp only [aV,aG,List.cons_append,List.nil_append,bq]);refine cu ?_;simp -dsimp [aC]<;>exact rz)
 ·have v6:¬ (k:Int)<l.length:=by omega
  have hz:=bP l r.lZ (fun j h=>v4 j h (by omega));simp -dsimp [v6];repeat' first|omega|simp -dsimp [afu,v6,hz]|apply aI|apply nI|intro
  exact(by(try simp -dsimp only [aV,aG,List.cons_append,List.nil_append,bq]);refine cu ?_;simp -dsimp [aC]<;>exact rz)
theorem akQ:dM Tryz.prog 261 (.heap YP):=yE ap4 (.cons ai9 .nil) (fun args h hc=>by obtain⟨_,_,_,rfl,_⟩:=dG cK hc;simp)
noncomputable abbrev YQ:bB:=ES gj [14001,14003] ajo (fun _ d h=>Blank [19802] h/\d.length<=1000000) (fun r d _=>.bool (d.any r.lZ)) (fun r _=>r) fun _ d h=>ec [19802] d.length h
theorem adU(r:aZ)(d:List Pt)(h:Hp):YQ.go [.sl 4 (d.map Pt.row),.fn 198 [.bG 14003 0 1 0 0]] (Ob gj r h)=⟨Blank [19802] (Ob gj r h)/\d.length<=1000000,.bool (d.any r.lZ),Ob gj r (ec [19802] d.length (Ob gj r h))⟩:=
 lH cK qE (fun s d d' h=>map_inj Pt.aq (by simpa using h)) r d h
noncomputable abbrev ado:=EV [(261,.heap YP)] [] 19700 9
theorem anF:ct ado [] Tryz.f197 YQ:=by
 intro args h hc;obtain⟨r,l,hh,rfl,⟨hp,hl⟩,fV⟩:=dG cK hc;rw [fV];clear fV hc;obtain⟨h0,rfl⟩:∃h0,h=Ob gj r h0:=⟨h,hh⟩
 clear hh;have hz:=cO l r.lZ;have hb:h0 19802={base:=(h0 19802).base,ah:=[]}:=by simpa [Blank]using hp
 have hp':Blank [19802] (Ob gj r h0):=hp;simp -dsimp [Tryz.f197,ado,ec];repeat' first|omega|simp -dsimp [ado,adT,hp',hl,hz,ec,bU]|apply aI|apply nI|intro
theorem ahQ:dM Tryz.prog 197 (.heap YQ):=yE anF (.cons akQ .nil) (fun args h hc=>by obtain⟨_,_,_,rfl,_⟩:=dG cK hc;simp)
@[simp] def odE(r:aZ)(p:Od):List V:=[.agg p.row,.bG 14003 0 1 0 0]
noncomputable abbrev odS:bB:=ES gj [14001,14003] odE (fun _ _ h=>Blank [20002] h) (fun r p _=>.bool (r.l6 p)) (fun r _=>r) fun _ _ h=>ec [20002] 1 h
theorem ajr(r:aZ)(p:Od)(h:Hp):odS.go [.agg p.row,.bG 14003 0 1 0 0] (Ob gj r h)=⟨Blank [20002] (Ob gj r h),.bool (r.l6 p),Ob gj r (ec [20002] 1 (Ob gj r h))⟩:=
 lH cK qE (fun s d d' h=>Od.aq _ _ (by simpa using h)) r p h
noncomputable abbrev adH:=EV [(79,.pure bF),(194,.pure kkS)] [] 20000 15
theorem anY:ct adH [] Tryz.f200 odS:=by
 intro args h hc;obtain⟨r,p,hh,rfl,hp,fV⟩:=dG cK hc;rw [fV];clear fV hc;obtain⟨h0,rfl⟩:∃h0,h=Ob gj r h0:=⟨h,hh⟩
 clear hh;have hb:h0 20002={base:=(h0 20002).base,ah:=[]}:=by simpa [Blank]using hp
 clear hp;have v5:h0=hps [(20002,{base:=(h0 20002).base,ah:=[]})] h0:=Blank.self (own:=[20002]) (by simpa [Blank]using hb);clear hb;generalize (h0 20002).base=b at v5;rw [v5];clear v5;simp -dsimp [Tryz.f200,adH,Od.row,ec,aZ.l6];cases h1:r.kindOk p.kind<;>cases h2:au p.within 0 100000<;>repeat' first|omega|simp -dsimp [adH,h1,h2,Od.row,Lm,To,aZ.row]|apply aI|apply nI|intro
 all_goals exact(by(try simp -dsimp only [aV,aG,List.cons_append,List.nil_append,bq]);refine cu ?_;simp -dsimp [aC]<;>exact rz)
theorem ajc:dM Tryz.prog 200 (.heap odS):=yE anY (.cons aoz (.cons ai0 .nil)) (fun args h hc=>by obtain⟨_,_,_,rfl,_⟩:=dG cK hc;simp)
@[simp] def ajs(r:aZ)(d:List Od):List V:=[.sl 2 (d.map Od.row),.fn 200 [.bG 14003 0 1 0 0]]
noncomputable abbrev YR:bB:=ES gj [14001,14003] ajs (fun _ d h=>Blank [20002] h/\d.length<=1000000) (fun r d _=>.int .i64 (eB d r.l6)) (fun r _=>r) fun _ d h=>ec [20002] d.length h
theorem adX(r:aZ)(d:List Od)(h:Hp):YR.go [.sl 2 (d.map Od.row),.fn 200 [.bG 14003 0 1 0 0]] (Ob gj r h)=⟨Blank [20002] (Ob gj r h)/\d.length<=1000000,.int .i64 (eB d r.l6),Ob gj r (ec [20002] d.length (Ob gj r h))⟩:=
 lH cK qE (fun s d d' h=>map_inj Od.aq (by simpa using h)) r d h
theorem Tv(r:aZ)(p:Od)(h:Hp):odS.go [.agg [.int .i64 p.kind,.int .i64 p.within],.bG 14003 0 1 0 0] (Ob gj r h)=⟨Blank [20002] (Ob gj r h),.bool (r.l6 p),Ob gj r (ec [20002] 1 (Ob gj r h))⟩:=ajr r p h
noncomputable abbrev Yr:=EV [(200,.heap odS)] [] 26200 19
theorem anL:ct Yr [] Tryz.f262 YR:=by
 intro args h hc;obtain⟨r,l,hh,rfl,⟨hp,hl⟩,fV⟩:=dG cK hc;rw [fV];clear fV hc;obtain⟨h0,rfl⟩:∃h0,h=Ob gj r h0:=⟨h,hh⟩
 clear hh;have hb:h0 20002={base:=(h0 20002).base,ah:=[]}:=by simpa [Blank]using hp
 clear hp;have v5:h0=hps [(20002,{base:=(h0 20002).base,ah:=[]})] h0:=Blank.self (own:=[20002]) (by simpa [Blank]using hb);clear hb;generalize (h0 20002).base=b at v5;rw [v5];clear v5;simp -dsimp [Tryz.f262,Yr,ec];refine ay [9,10,5,11,12,13,14,15,16,17,4,18,8] (fun k:{k:Nat // k<=l.length/\∀j (h:j<l.length),j<k->r.l6 l[j]=false}=>[(8,(true,.int .i64 k.1))]) (fun k=>Ob gj r (hps [(20002,{base:=b+k.1,ah:=[]})] h0)) (fun k=>l.length - k.1) ⟨0,by omega,fun _ _ h=>by omega⟩ ?_ (bA.refl _) ?_
 ·simp [aj,aT]
 rintro⟨k,hk,v4⟩;by_cases aH:k<l.length
 ·have v0:(k:Int)<l.length:=by omega
  have wk:=wx k;cases hw:r.l6 l[k]
  ·simp -dsimp [v0];repeat' first|omega|simp -dsimp [Yr,v0,aH,hl,hw,wk,Od.row,Tv,Blank,ec]|apply aI|apply nI|intro
   refine⟨k+1,ag rfl ?_,(by(try simp -dsimp only [aV,aG,List.cons_append,List.nil_append,bq]);refine cu ?_;simp -dsimp [aC]<;>exact rz),⟨by omega,fun j h hj=>?_⟩,by omega⟩
   ·simp [aj,aT]
   ·by_cases v8:j=k
    ·subst v8;exact hw
    ·exact v4 j h (by omega)
  ·have hz:=cW l r.l6 aH hw v4;simp -dsimp [v0];repeat' first|omega|simp -dsimp [Yr,v0,aH,hl,hw,wk,hz,Od.row,Tv,Blank,ec]|apply aI|apply nI|intro
   exact(by(try simp -dsimp only [aV,aG,List.cons_append,List.nil_append,bq]);refine cu ?_;simp -dsimp [aC]<;>exact rz)
 ·have v6:¬ (k:Int)<l.length:=by omega
  have hz:=bP l r.l6 (fun j h=>v4 j h (by omega));simp -dsimp [v6];repeat' first|omega|simp -dsimp [Yr,v6,hz]|apply aI|apply nI|intro
  exact(by(try simp -dsimp only [aV,aG,List.cons_append,List.nil_append,bq]);refine cu ?_;simp -dsimp [aC]<;>exact rz)
theorem ai6:dM Tryz.prog 262 (.heap YR):=yE anL (.cons ajc .nil) (fun args h hc=>by obtain⟨_,_,_,rfl,_⟩:=dG cK hc;simp)
noncomputable abbrev YT:bB:=ES gj [14001,14003] ajs (fun _ d h=>Blank [20002] h/\d.length<=1000000) (fun r d _=>.bool (d.any r.l6)) (fun r _=>r) fun _ d h=>ec [20002] d.length h
theorem adY(r:aZ)(d:List Od)(h:Hp):YT.go [.sl 2 (d.map Od.row),.fn 200 [.bG 14003 0 1 0 0]] (Ob gj r h)=⟨Blank [20002] (Ob gj r h)/\d.length<=1000000,.bool (d.any r.l6),Ob gj r (ec [20002] d.length (Ob gj r h))⟩:=
 lH cK qE (fun s d d' h=>map_inj Od.aq (by simpa using h)) r d h
noncomputable abbrev adD:=EV [(262,.heap YR)] [] 19900 9
theorem anU:ct adD [] Tryz.f199 YT:=by
 intro args h hc;obtain⟨r,l,hh,rfl,⟨hp,hl⟩,fV⟩:=dG cK hc;rw [fV];clear fV hc;obtain⟨h0,rfl⟩:∃h0,h=Ob gj r h0:=⟨h,hh⟩
 clear hh;have hz:=cO l r.l6;have hb:h0 20002={base:=(h0 20002).base,ah:=[]}:=by simpa [Blank]using hp
 have hp':Blank [20002] (Ob gj r h0):=hp;simp -dsimp [Tryz.f199,adD,ec];repeat' first|omega|simp -dsimp [adD,adX,hp',hl,hz,ec,bU]|apply aI|apply nI|intro
theorem S8:dM Tryz.prog 199 (.heap YT):=yE anU (.cons ai6 .nil) (fun args h hc=>by obtain⟨_,_,_,rfl,_⟩:=dG cK hc;simp)
def aZ.valid(r:aZ):Bool:=decide (r.kinds.length<=6) && (decide (r.parts.length<=24) && (decide (r.az.length<=6) && (au r.ax 0 4 && (!r.kinds.any Kd.bad && (!r.parts.any r.lZ && !r.az.any r.l6)))))
@[simp] def Aq(r:aZ):List V:=[.agg r.row]
theorem Tx(a b:aZ)(h:Aq a=Aq b):a=b:=aZ.aq _ _ (by simpa using h)
theorem Fg(r:aZ):aY Aq [.agg r.row]=r:=aA Tx r
noncomputable abbrev IC:aB:=bS Aq (fun r=>r.kinds.length<=9223372036854775807/\r.parts.length<=9223372036854775807/\r.az.length<=9223372036854775807) fun r=>.bool r.valid
noncomputable abbrev acY:=EV [(79,.pure bF),(195,.pure adQ),(196,.pure kdS),(197,.heap YQ),(198,.heap ptS),(199,.heap YT),(200,.heap odS),(194,.pure kkS)] [] 14000 45
theorem ane:af acY [] Tryz.f140 IC:=pb <| by
 rintro r ⟨b1,b2,b3⟩;have hv:∀r:aZ,hps [(14003,{base:=0,ah:=[{z:=1,els:=[[.fn 194 [.bG 14001 0 1 0 0]]],ty:=134,cl:=false}]}),(14001,{base:=0,ah:=[{z:=4,els:=[[.sl 3 (r.kinds.map Kd.row),.sl 4 (r.parts.map Pt.row),.int .i64 r.ax,.sl 2 (r.az.map Od.row)]],ty:=37}]})] cg=Ob gj r cg:=by
  intro r;funext k;simp only [Ob,gj,eU,Lo,aZ.row];by_cases h1:k=14003
  ·subst h1;simp
  ·by_cases h2:k=14001
   ·subst h2;simp
   ·simp [h1,h2]
 by_cases c1:r.kinds.length<=6
 case neg=>
  have d1:(6:Int)<r.kinds.length:=by omega
  have e1:6<r.kinds.length:=by omega
  simp -dsimp [Tryz.f140,acY,aZ.row];repeat' first|omega|simp -dsimp [acY,b1,b2,b3,d1,e1,aZ.row,aZ.valid]|apply aI|apply nI|intro
 have d1:¬ (6:Int)<r.kinds.length:=by omega
 have e1:¬ 6<r.kinds.length:=by omega
 by_cases c2:r.parts.length<=24
 case neg=>
  have d2:(24:Int)<r.parts.length:=by omega
  have e2:24<r.parts.length:=by omega
  simp -dsimp [Tryz.f140,acY,aZ.row];repeat' first|omega|simp -dsimp [acY,b1,b2,b3,d1,e1,c1,d2,e2,aZ.row,aZ.valid]|apply aI|apply nI|intro
 have d2:¬ (24:Int)<r.parts.length:=by omega
 have e2:¬ 24<r.parts.length:=by omega
 by_cases c3:r.az.length<=6
 case neg=>
  have d3:(6:Int)<r.az.length:=by omega
  have e3:6<r.az.length:=by omega
  simp -dsimp [Tryz.f140,acY,aZ.row];repeat' first|omega|simp -dsimp [acY,b1,b2,b3,d1,e1,c1,d2,e2,c2,d3,e3,aZ.row,aZ.valid]|apply aI|apply nI|intro
 have d3:¬ (6:Int)<r.az.length:=by omega
 have e3:¬ 6<r.az.length:=by omega
 cases c4:au r.ax 0 4
 ·simp -dsimp [Tryz.f140,acY,aZ.row];repeat' first|omega|simp -dsimp [acY,b1,b2,b3,d1,e1,c1,d2,e2,c2,d3,e3,c3,c4,aZ.row,aZ.valid]|apply aI|apply nI|intro
 have k1:r.kinds.length<=1000000:=by omega
 have k2:r.parts.length<=1000000:=by omega
 have k3:r.az.length<=1000000:=by omega
 cases c5:r.kinds.any Kd.bad<;>cases c6:r.parts.any r.lZ<;>cases c7:r.az.any r.l6<;>simp -dsimp [Tryz.f140,acY,aZ.row]<;>repeat' first|omega|simp -dsimp [acY,b1,b2,b3,k1,k2,k3,d1,e1,c1,d2,e2,c2,d3,e3,c3,c4,c5,c6,c7,hv,FC,adU,adY,Blank,ec,aZ.row,aZ.valid]|apply aI|apply nI|intro
theorem aiL:FO 140 IC:=pf ane (.cons aoz (.cons ahJ (.cons ahR (.cons ahQ (.cons ai9 (.cons S8 (.cons ajc (.cons ai0 .nil))))))))
end Go.Sx
end
end
