/- A part of a proof; no conditions. -/
import Derived.Test.YtegiclpanpmkdaaGreatDoorR44
import Derived.Test.YtegiclpanpmkdaaGreatDoorR40
set_option linter.all false
set_option maxRecDepth 100000
set_option maxHeartbeats 8000000
noncomputable section
section
namespace Go.Sx
open Go.Proofs
attribute [local simp] ri aa ints
attribute [local irreducible] bA
def apW(f:Fl)(a b:Bk):Bool:=decide (wr (b.hm+f.turn)<=a.lv) || decide (wr (a.hm+f.turn)<=b.lv)
def XP(f:Fl):V:=.fn 172 [.ip 1 [[.ip 41 [qs f] 0 0]] 0 0]
@[simp] def apE(d:Bk × Bk × Fl):List V:=[.agg d.1.row,.agg d.2.1.row,.ip 1 [[.ip 41 [qs d.2.2] 0 0]] 0 0]
abbrev FB:=Fl × Bk
def Ni(q:FB)(x:Bk):Bool:=!apW q.1 q.2 x
def O6(q:FB):V:=.fn 174 [.ip 1 [[XP q.1]] 0 0,.ip 4 [q.2.row] 0 0]
@[simp] def nbE(d:Bk × Fl × Bk):List V:=[.agg d.1.row,.ip 1 [[.fn 172 [.ip 1 [[.ip 41 [qs d.2.1] 0 0]] 0 0]]] 0 0,.ip 4 [d.2.2.row] 0 0]
@[simp] def Br(d:FB × List Bk):List V:=[.sl 4 (d.2.map Bk.row),O6 d.1]
structure R7 (d:FB × List Bk):Prop where
 l:d.2.length<=1000000
 q:(fun q:FB=>True) d.1
end Go.Sx
end
section
namespace Go.Sx
open Go.Proofs
attribute [local simp] ri aa ints
attribute [local irreducible] bA
def uX(n:Int):Bool:=!bQ n 0 1000000
noncomputable abbrev afX:=EV [(56,.pure rgS)] [] 11400 6
theorem aqq:af afX [] Tryz.f114 (Wr uX):=pb <| by rintro n _;simp -dsimp [Tryz.f114,afX,uX];repeat' first|omega|simp -dsimp [afX,uX]|apply aI|apply nI|intro
theorem aky:dM Tryz.prog 114 (.pure (Wr uX)):=pf aqq (.cons Sl .nil)
namespace Fc
@[simp] def Bt(d:List Int):List V:=[.sl 1 (d.map ri),.fn 114 []]
theorem Nk(a b:List Int)(h:Bt a=Bt b):a=b:=by simp only [Bt,List.cons.injEq,V.sl.injEq,true_and,and_true]at h;exact aR Cu h
theorem Bu(l:List Int):aY Bt [.sl 1 (l.map ri),.fn 114 []]=l:=aA Nk l
noncomputable abbrev Ib:aB:=bS Bt (fun d=>d.length<=1000000) fun d=>.int .i64 (eB d uX)
noncomputable abbrev Ic:aB:=bS Bt (fun d=>d.length<=1000000) fun d=>.bool (d.any uX)
noncomputable abbrev SL:=EV [(114,.pure (Wr uX))] [] 13000 19
theorem anE:af SL [] Tryz.f130 Ib:=pb <| by
 rintro l hl;have hl:l.length<=1000000:=hl;simp -dsimp [Tryz.f130,SL];refine ay [9,10,5,11,12,13,14,15,16,17,4,18,8] (fun k:{k:Nat // k<=l.length/\∀j (h:j<l.length),j<k->uX l[j]=false}=>[(8,(true,.int .i64 k.1))]) (fun _=>cg) (fun k=>l.length - k.1) ⟨0,by omega,fun _ _ h=>by omega⟩ ?_ (bA.refl _) ?_
 ·simp [aj,aT]
 rintro⟨k,hk,v0⟩;by_cases aH:k<l.length
 ·have v1:(k:Int)<l.length:=by omega
  have wk:=wx k;cases hw:uX l[k]
  ·simp -dsimp [v1];repeat' first|omega|simp -dsimp [SL,v1,aH,hl,hw,wk,ri]|apply aI|apply nI|intro
   refine⟨k+1,ag rfl ?_,bA.refl _,⟨by omega,fun j h hj=>?_⟩,by omega⟩
   ·simp [aj,aT]
   ·by_cases v3:j=k
    ·subst v3;exact hw
    ·exact v0 j h (by omega)
  ·have hz:=cW l uX aH hw v0;simp -dsimp [v1];repeat' first|omega|simp -dsimp [SL,v1,aH,hl,hw,wk,hz,ri]|apply aI|apply nI|intro
 ·have v2:¬ (k:Int)<l.length:=by omega
  have hz:=bP l uX (fun j h=>v0 j h (by omega));simp -dsimp [v2];repeat' first|omega|simp -dsimp [SL,v2,hz]|apply aI|apply nI|intro
theorem ahS:FO 130 Ib:=pf anE (.cons aky .nil)
noncomputable abbrev E68:=EV [(130,.pure Ib)] [] 6800 9
theorem b68:af E68 [] Tryz.f68 Ic:=pb <| by rintro l hl;have hl:l.length<=1000000:=hl;have hz:=cO l uX;simp -dsimp [Tryz.f68,E68];repeat' first|omega|simp -dsimp [E68,hl,Bu,hz]|apply aI|apply nI|intro
theorem ams:FO 68 Ic:=pf b68 (.cons ahS .nil)
end Fc
@[simp] def fqE(d:Fl × List Int):List V:=[flI d.1,.sl 1 (d.2.map ri)]
structure PrP (f:Fl) (l:List Int):Prop where
 ok:Cw f
 n:l.length=f.jobs.length
 a:l.any uX=false
structure Er where
 bl:List Bk
 sum:Int
 mD:Int
 ok:Bool
structure Er2 where
 a:Nat
 b:Nat
def rG(f:Fl)(m:Nat)(ps:List Int)(s:Nat):Nat->Er
 | 0=>⟨[],0,0,true⟩
 | j+1=>if wP s j=true then ⟨(rG f m ps s j).bl++[D5 f j m],wr ((rG f m ps s j).sum+wr ((fP f j).val - ps.getD j 0)),wr ((rG f m ps s j).mD+(D5 f j m).mD),((rG f m ps s j).ok && (jR f j m && DY f j m)) && !((rG f m ps s j).bl.any (Ni (f,D5 f j m)))⟩else rG f m ps s j
def KV(f:Fl)(m:Nat)(ps:List Int):Nat->Int
 | 0=>0
 | s+1=>if ((rG f m ps s f.jobs.length).ok && decide ((rG f m ps s f.jobs.length).mD<=max (Ai f m) 0))=true then max (KV f m ps s) (rG f m ps s f.jobs.length).sum else KV f m ps s
@[simp] def eqE(d:Fl × Int × List Int):List V:=[flI d.1,.int .i64 d.2.1,.sl 1 (d.2.2.map ri)]
structure ErP (d:Fl × Int × List Int):Prop where
 ok:Cw d.1
 m:0<=d.2.1/\d.2.1<d.1.dU.length
 n:d.2.2.length=d.1.jobs.length
def boP(ps:List Int):Nat->Int
 | 0=>0
 | j+1=>wr (boP ps j+ps.getD j 0)
def boM(f:Fl)(ps:List Int):Nat->Int
 | 0=>boP ps ps.length
 | m+1=>wr (boM f ps m+KV f m ps (2 ^ f.jobs.length))
noncomputable abbrev Ig:aB:=bS fqE (fun d=>PrP d.1 d.2) fun d=>.int .i64 (boM d.1 d.2 d.1.dU.length)
end Go.Sx
end
section
namespace Go.Sx
open Go.Proofs
attribute [local simp] ri aa ints
attribute [local irreducible] bA
@[simp] def Sa(d:Fl × List Int):List V:=[.agg d.1.row,.sl 1 (d.2.map ri)]
theorem Sb(a b:Fl × List Int)(h:Sa a=Sa b):a=b:=by obtain⟨a1,a2⟩:=a;obtain⟨b1,b2⟩:=b;simp only [Sa,List.cons.injEq,V.sl.injEq,V.agg.injEq,true_and,and_true]at h;rw [Fl.aq _ _ h.1,ee h.2]
theorem Sc(f:Fl)(l:List Int):aY Sa [.agg f.row,.sl 1 (l.map ri)]=(f,l):=aA Sb (f,l)
noncomputable abbrev ac1:aB:=bS Sa (fun d=>PrP d.1 d.2) fun d=>.dB [.int .i64 (boM d.1 d.2 d.1.dU.length),.int .i64 0]
def Nq:Fl:={met:={n:=3,any:=⟨⟨0,0⟩,⟨9000,9000⟩,⟨3000,3000⟩,false,false⟩,w:=0,s:=0,c:=0,fs:=[],ss:=[]},mn:=⟨0,0,0,false,false⟩,Ah:=[⟨0,1,5⟩,⟨1,2,4⟩],eH:={kinds:=[⟨1000,1000,0⟩],parts:=[],ax:=2,az:=[]},ko:=[],gv:={bM:=[⟨1,2,0⟩,⟨1,2,0⟩,⟨1,1,0⟩,⟨1,1,0⟩],lY:=60,fN:=0,win:=100,tot:=100,iW:=100},wF:=[],dU:=[0,1],lz:=[0,0],turn:=2,hour:=10,rU:=1,gF:=60,jobs:=[⟨0,1,10,5,false⟩,⟨1,2,12,4,false⟩,⟨0,2,30,7,false⟩]}
theorem ac2:Nr Nq=0:=by decide +kernel
theorem abn:Cw Nq:=⟨tC.1 ac2,by decide,by decide⟩
theorem X4:jR Nq 2 1=true:=by decide +kernel
theorem ac3:DY Nq 2 1=true:=by decide +kernel
theorem ac4:jJ Nq 2 1=⟨23,39,45,18⟩:=by decide +kernel
theorem ac5:boM Nq [0,0,0] 2=24:=by decide +kernel
noncomputable abbrev ac6:aB:=bS (D:=Unit) (fun _=>[]) (fun _=>True) fun _=>.agg Nq.row
noncomputable abbrev C0:aB:=bS (D:=Unit) (fun _=>[]) (fun _=>True) fun _=>.bool true
noncomputable abbrev E11:=EV [(34,.pure ac6),(15,.pure MH),(21,.pure ac1)] [] 1100 42
theorem b11:af E11 [] Tryz.f11 C0:=pb <| by
 rintro _ _;have p1:BlP (Nq,2,1):=⟨⟨abn,by decide,by decide⟩,X4,ac3⟩
 have p2:PrP Nq [0,0,0]:=⟨abn,rfl,by decide⟩
 have e1:=ac4;have e2:=ac5;have hb:Nq.dU.length=2:=rfl;have d2:=Sc Nq [0,0,0];simp only [List.map,ri]at d2;have h2:(2:Int).toNat=2:=rfl;have h1:(1:Int).toNat=1:=rfl;simp -dsimp [Tryz.f11,E11];repeat' first|omega|simp -dsimp [E11,dS,d2,p1,p2,e1,e2,hb,h1,h2]|apply aI|apply nI|intro
def AB(f:Fl)(l:List Sr):Bool:=!R5 f && decide (l.length<=4) && decide ((O7 f l).2=0)
structure RiP (d:Fl × List Sr):Prop where
 p:KD d.1
 l:d.2.length<=100000000000000
noncomputable abbrev XM:aB:=bS yU RiP fun d=>.bool (AB d.1 d.2)
noncomputable abbrev E10:=EV [(18,.pure lgS),(19,.pure X6),(22,.pure cpS)] [] 1000 22 [(1,[2,50002])]
theorem b10:af E10 [] Tryz.f10 XM:=pb <| by
 rintro⟨f,l⟩ ⟨hP,hl⟩;simp only at hP hl;have hR:AB f l=(!R5 f && decide (l.length<=4) && decide ((O7 f l).2=0)):=rfl;cases hL:R5 f
 case true=>
  rw [hL]at hR;have hR:AB f l=false:=by rw [hR];rfl
  simp -dsimp [Tryz.f10,E10];repeat' first|omega|simp -dsimp [E10,fC,hP,hL,hR]|apply aI|apply nI|intro
 by_cases hF:l.length<=4
 case neg=>
  have hR:AB f l=false:=by rw [hR,decide_eq_false hF];simp
  simp -dsimp [Tryz.f10,E10];repeat' first|omega|simp -dsimp [E10,fC,mR,hP,hL,hF,hR]|apply aI|apply nI|intro
 have hk:=C6 hL;have zY:CpP (f,l):=⟨hP,hk,by simp only;omega⟩
 rw [hL,decide_eq_true hF]at hR;by_cases hc:(O7 f l).2=0
 ·have hR:AB f l=true:=by rw [hR,decide_eq_true hc];rfl
  simp -dsimp [Tryz.f10,E10];repeat' first|omega|simp -dsimp [E10,fC,mR,gO,hP,hL,hF,zY,hc,hR]|apply aI|apply nI|intro
 ·have hR:AB f l=false:=by rw [hR,decide_eq_false hc];rfl
  simp -dsimp [Tryz.f10,E10];repeat' first|omega|simp -dsimp [E10,fC,mR,gO,hP,hL,hF,zY,hc,hR]|apply aI|apply nI|intro
end Go.Sx
end
end
