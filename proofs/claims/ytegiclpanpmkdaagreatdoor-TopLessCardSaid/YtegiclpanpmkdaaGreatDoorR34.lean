/- A part of a proof; no conditions. -/
import Derived.Test.YtegiclpanpmkdaaGreatDoorR17
set_option linter.all false
set_option maxRecDepth 100000
set_option maxHeartbeats 8000000
noncomputable section
section
namespace Go.Sx
open Go.Proofs
attribute [local simp] ri aa ints
attribute [local irreducible] bA
attribute [local simp] aG
def gM(r:aZ):Int:=if r.valid=true then 0 else 90
noncomputable abbrev acT:aB:=bS Aq (fun r=>r.kinds.length<=9223372036854775807/\r.parts.length<=9223372036854775807/\r.az.length<=9223372036854775807) fun r=>.int .i64 (gM r)
noncomputable abbrev kC:=EV [(164,.pure bF)] [] 10700 119
theorem aqC:af kC [] Tryz.f107 acT:=pb <| by
 rintro r ⟨b1,b2,b3⟩;by_cases c1:r.kinds.length<=6
 case neg=>
  have d1:(6:Int)<r.kinds.length:=by omega
  have hv:gM r=90:=by simp [gM,aZ.valid,c1]
  simp -dsimp [Tryz.f107,kC,aZ.row];repeat' first|omega|simp -dsimp [kC,b1,b2,b3,d1,hv]|apply aI|apply nI|intro
 have d1:¬ (6:Int)<r.kinds.length:=by omega
 by_cases c2:r.parts.length<=24
 case neg=>
  have d2:(24:Int)<r.parts.length:=by omega
  have hv:gM r=90:=by simp [gM,aZ.valid,c2]
  simp -dsimp [Tryz.f107,kC,aZ.row];repeat' first|omega|simp -dsimp [kC,b1,b2,b3,d1,d2,hv]|apply aI|apply nI|intro
 have d2:¬ (24:Int)<r.parts.length:=by omega
 by_cases c3:r.az.length<=6
 case neg=>
  have d3:(6:Int)<r.az.length:=by omega
  have hv:gM r=90:=by simp [gM,aZ.valid,c3]
  simp -dsimp [Tryz.f107,kC,aZ.row];repeat' first|omega|simp -dsimp [kC,b1,b2,b3,d1,d2,d3,hv]|apply aI|apply nI|intro
 have d3:¬ (6:Int)<r.az.length:=by omega
 cases c4:au r.ax 0 4
 ·have hv:gM r=90:=by simp [gM,aZ.valid,c4]
  simp -dsimp [Tryz.f107,kC,aZ.row];repeat' first|omega|simp -dsimp [kC,b1,b2,b3,d1,d2,d3,c4,hv]|apply aI|apply nI|intro
 have vy:r.valid=(!r.kinds.any Kd.bad && (!r.parts.any r.lZ && !r.az.any r.l6)):=by simp [aZ.valid,c1,c2,c3,c4]
 simp -dsimp [Tryz.f107,kC,aZ.row];repeat' first|omega|simp -dsimp [kC,b1,b2,b3,d1,d2,d3,c4]|apply aI|apply nI|intro
 refine ay [30,31,32,33,34,37,38,39,40,41,4,42,43,44,45,46,47,48,49,50,51,52,53,54,55,56,57,2,35,36,3] (fun k:{k:Nat // k<=r.kinds.length/\∀j (h:j<r.kinds.length),j<k->r.kinds[j].bad=false}=>[(3,(true,.int .i64 (k.1:Nat)))])
  (fun k=>hps [(10701,{base:=0,ah:=[{z:=4,els:=[[.sl 3 (r.kinds.map Kd.row),.sl 4 (r.parts.map Pt.row),.int .i64 r.ax,.sl 2 (r.az.map Od.row)]],ty:=37}]}),(10704,{base:=k.1,ah:=[]})] cg) (fun k=>r.kinds.length - k.1) ⟨0,by omega,fun _ _ h=>by omega⟩ ?_ ?_ ?_
 ·simp [aj,aT]
 ·(try simp -dsimp only [hpx]);refine ai ?_;simp -dsimp [aC]<;>exact rz
 rintro⟨k,hk,v9⟩;simp only;by_cases aH:k<r.kinds.length
 ·have v0:(k:Int)<r.kinds.length:=by omega
  have wk:=wx k;obtain⟨kd,kj,iA⟩:=aM aH;have va:kd.bad=(!au kd.hours 1 100000 || !au kd.bh 1 100000 || !au kd.places 0 4):=rfl;cases hb:kd.bad
  ·rw [hb]at va;have hq:au kd.hours 1 100000=true/\au kd.bh 1 100000=true/\au kd.places 0 4=true:=by have:=va.symm;simp only [Bool.or_eq_false_iff,Bool.not_eq_false']at this;exact⟨this.1.1,this.1.2,this.2⟩
   obtain⟨q1,q2,q3⟩:=hq;clear va;simp -dsimp [v0];repeat' first|omega|simp -dsimp [kC,v0,aH,kj,iA,wk,Kd.row,q1,q2,q3]|apply aI|apply nI|intro
   refine⟨k+1,ag rfl ?_,(by(try simp -dsimp only [hpx]);refine ai ?_;simp -dsimp [aC]<;>exact rz),⟨by omega,fun j h hj=>?_⟩,by omega⟩
   ·simp [aj,aT]
   ·by_cases vs:j=k
    ·subst vs;rw [iA,hb]
    ·exact v9 j h (by omega)
  ·have af3:r.kinds.any Kd.bad=true:=List.any_eq_true.2 ⟨kd,iA ▸ List.getElem_mem aH,hb⟩;have hv:gM r=90:=(by simp [gM,vy,af3]);rw [hb]at va;cases q1:au kd.hours 1 100000
   ·simp -dsimp [v0];repeat' first|omega|simp -dsimp [kC,v0,aH,kj,iA,wk,Kd.row,q1,hv]|apply aI|apply nI|intro
   cases q2:au kd.bh 1 100000
   ·simp -dsimp [v0];repeat' first|omega|simp -dsimp [kC,v0,aH,kj,iA,wk,Kd.row,q1,q2,hv]|apply aI|apply nI|intro
   cases q3:au kd.places 0 4
   ·simp -dsimp [v0];repeat' first|omega|simp -dsimp [kC,v0,aH,kj,iA,wk,Kd.row,q1,q2,q3,hv]|apply aI|apply nI|intro
   ·rw [q1,q2,q3]at va;simp at va
 have vb:¬ (k:Int)<r.kinds.length:=by omega
 have af3:r.kinds.any Kd.bad=false:=by rw [List.any_eq_false];intro x hx;obtain⟨j,hj,rfl⟩:=List.mem_iff_getElem.1 hx;rw [v9 j hj (by omega)];simp
 have vx:k=r.kinds.length:=by omega
 subst vx;simp -dsimp [vb];repeat' first|omega|simp -dsimp [kC,vb]|apply aI|apply nI|intro
 clear v9 hk vb aH
 refine ay [58,59,60,61,62,65,66,67,68,69,6,70,71,72,73,74,75,76,77,78,79,80,81,82,83,84,85,86,87,88,89,2,63,64,5] (fun k:{k:Nat // k<=r.parts.length/\∀j (h:j<r.parts.length),j<k->r.lZ r.parts[j]=false}=>[(5,(true,.int .i64 (k.1:Nat)))])
  (fun k=>hps [(10701,{base:=0,ah:=[{z:=4,els:=[[.sl 3 (r.kinds.map Kd.row),.sl 4 (r.parts.map Pt.row),.int .i64 r.ax,.sl 2 (r.az.map Od.row)]],ty:=37}]}),(10706,{base:=k.1,ah:=[]}),(10704,{base:=r.kinds.length,ah:=[]})] cg) (fun k=>r.parts.length - k.1) ⟨0,by omega,fun _ _ h=>by omega⟩ ?_ ?_ ?_
 ·simp [aj,aT]
 ·(try simp -dsimp only [hpx]);refine ai ?_;simp -dsimp [aC]<;>exact rz
 rintro⟨k,hk,v9⟩;simp only;by_cases aH:k<r.parts.length
 ·have v0:(k:Int)<r.parts.length:=by omega
  have wk:=wx k;obtain⟨p,hp,hp'⟩:=aM aH;have va:r.lZ p=(!au p.kind 0 (IntKind.wrap .i64 ((r.kinds.length:Int) - 1)) || !au p.hours 0 100000 || !au p.bh 0 100000):=rfl;cases hb:r.lZ p
  ·rw [hb]at va;have hq:au p.kind 0 (IntKind.wrap .i64 ((r.kinds.length:Int) - 1))=true/\au p.hours 0 100000=true/\au p.bh 0 100000=true:=by have:=va.symm;simp only [Bool.or_eq_false_iff,Bool.not_eq_false']at this;exact⟨this.1.1,this.1.2,this.2⟩
   obtain⟨q1,q2,q3⟩:=hq;clear va;simp -dsimp [v0];repeat' first|omega|simp -dsimp [kC,v0,aH,hp,hp',wk,Pt.row,q1,q2,q3]|apply aI|apply nI|intro
   refine⟨k+1,ag rfl ?_,(by(try simp -dsimp only [hpx]);refine ai ?_;simp -dsimp [aC]<;>exact rz),⟨by omega,fun j h hj=>?_⟩,by omega⟩
   ·simp [aj,aT]
   ·by_cases vs:j=k
    ·subst vs;rw [hp',hb]
    ·exact v9 j h (by omega)
  ·have V2:r.parts.any r.lZ=true:=List.any_eq_true.2 ⟨p,hp' ▸ List.getElem_mem aH,hb⟩;have hv:gM r=90:=(by simp [gM,vy,V2]);rw [hb]at va;cases q1:au p.kind 0 (IntKind.wrap .i64 ((r.kinds.length:Int) - 1))
   ·simp -dsimp [v0];repeat' first|omega|simp -dsimp [kC,v0,aH,hp,hp',wk,Pt.row,q1,hv]|apply aI|apply nI|intro
   cases q2:au p.hours 0 100000
   ·simp -dsimp [v0];repeat' first|omega|simp -dsimp [kC,v0,aH,hp,hp',wk,Pt.row,q1,q2,hv]|apply aI|apply nI|intro
   cases q3:au p.bh 0 100000
   ·simp -dsimp [v0];repeat' first|omega|simp -dsimp [kC,v0,aH,hp,hp',wk,Pt.row,q1,q2,q3,hv]|apply aI|apply nI|intro
   ·rw [q1,q2,q3]at va;simp at va
 have vb:¬ (k:Int)<r.parts.length:=by omega
 have V2:r.parts.any r.lZ=false:=by rw [List.any_eq_false];intro x hx;obtain⟨j,hj,rfl⟩:=List.mem_iff_getElem.1 hx;rw [v9 j hj (by omega)];simp
 have vx:k=r.parts.length:=by omega
 subst vx;simp -dsimp [vb];repeat' first|omega|simp -dsimp [kC,vb]|apply aI|apply nI|intro
 clear v9 hk vb aH
 refine ay [90,91,92,93,94,97,98,99,100,101,102,103,104,105,106,107,108,109,110,111,112,113,114,115,116,117,118,2,95,96,7] (fun k:{k:Nat // k<=r.az.length/\∀j (h:j<r.az.length),j<k->r.l6 r.az[j]=false}=>[(7,(true,.int .i64 (k.1:Nat)))])
  (fun k=>hps [(10701,{base:=0,ah:=[{z:=4,els:=[[.sl 3 (r.kinds.map Kd.row),.sl 4 (r.parts.map Pt.row),.int .i64 r.ax,.sl 2 (r.az.map Od.row)]],ty:=37}]}),(10706,{base:=r.parts.length,ah:=[]}),(10704,{base:=r.kinds.length,ah:=[]})] cg) (fun k=>r.az.length - k.1) ⟨0,by omega,fun _ _ h=>by omega⟩ ?_ ?_ ?_
 ·simp [aj,aT]
 ·(try simp -dsimp only [hpx]);refine ai ?_;simp -dsimp [aC]<;>exact rz
 rintro⟨k,hk,v9⟩;simp only;by_cases aH:k<r.az.length
 ·have v0:(k:Int)<r.az.length:=by omega
  have wk:=wx k;obtain⟨p,hp,hp'⟩:=aM aH;have va:r.l6 p=(!au p.kind 0 (IntKind.wrap .i64 ((r.kinds.length:Int) - 1)) || !au p.within 0 100000):=rfl;cases hb:r.l6 p
  ·rw [hb]at va;have hq:au p.kind 0 (IntKind.wrap .i64 ((r.kinds.length:Int) - 1))=true/\au p.within 0 100000=true:=by have:=va.symm;simp only [Bool.or_eq_false_iff,Bool.not_eq_false']at this;exact this
   obtain⟨q1,q2⟩:=hq;clear va;simp -dsimp [v0];repeat' first|omega|simp -dsimp [kC,v0,aH,hp,hp',wk,Od.row,q1,q2]|apply aI|apply nI|intro
   refine⟨k+1,ag rfl ?_,(by(try simp -dsimp only [hpx]);refine ai ?_;simp -dsimp [aC]<;>exact rz),⟨by omega,fun j h hj=>?_⟩,by omega⟩
   ·simp [aj,aT]
   ·by_cases vs:j=k
    ·subst vs;rw [hp',hb]
    ·exact v9 j h (by omega)
  ·have V3:r.az.any r.l6=true:=List.any_eq_true.2 ⟨p,hp' ▸ List.getElem_mem aH,hb⟩;have hv:gM r=90:=(by simp [gM,vy,V3]);rw [hb]at va;cases q1:au p.kind 0 (IntKind.wrap .i64 ((r.kinds.length:Int) - 1))
   ·simp -dsimp [v0];repeat' first|omega|simp -dsimp [kC,v0,aH,hp,hp',wk,Od.row,q1,hv]|apply aI|apply nI|intro
   cases q2:au p.within 0 100000
   ·simp -dsimp [v0];repeat' first|omega|simp -dsimp [kC,v0,aH,hp,hp',wk,Od.row,q1,q2,hv]|apply aI|apply nI|intro
   ·rw [q1,q2]at va;simp at va
 have vb:¬ (k:Int)<r.az.length:=by omega
 have V3:r.az.any r.l6=false:=by rw [List.any_eq_false];intro x hx;obtain⟨j,hj,rfl⟩:=List.mem_iff_getElem.1 hx;rw [v9 j hj (by omega)];simp
 have hv:gM r=0:=by simp [gM,vy,af3,V2,V3]
 simp -dsimp [vb];repeat' first|omega|simp -dsimp [kC,vb,hv]|apply aI|apply nI|intro
theorem aiz:FO 107 acT:=pf aqC (.cons ajS .nil)
structure RtX where
 r:aZ
 t:RS
 a:Int
 b:Int
 c:Int
 deriving Inhabited
@[simp] def rxE(d:RtX):List V:=[.agg d.r.row,.agg d.t.row,.int .i64 d.a,.int .i64 d.b,.int .i64 d.c]
theorem aaK(x y:RtX)(h:rxE x=rxE y):x=y:=by obtain⟨r,t,a,b,c⟩:=x;obtain⟨r',t',a',b',c'⟩:=y;simp only [rxE,List.cons.injEq,V.agg.injEq,V.int.injEq,true_and,and_true]at h;rw [aZ.aq _ _ h.1,RS.aq _ _ h.2.1,h.2.2.1,h.2.2.2.1,h.2.2.2.2]
theorem gN(r:aZ)(t:RS)(a b c:Int):aY rxE [.agg [.sl 3 (r.kinds.map Kd.row),.sl 4 (r.parts.map Pt.row),.int .i64 r.ax,.sl 2 (r.az.map Od.row)],.agg [.sl 2 (t.used.map bn),.sl 2 (t.cV.map bn),.sl 1 (t.aX.map rb),kV t.since,kL t.done],.int .i64 a,.int .i64 b,.int .i64 c]=⟨r,t,a,b,c⟩:=aA aaK ⟨r,t,a,b,c⟩
structure RtY where
 r:aZ
 t:RS
 a:Int
 deriving Inhabited
@[simp] def ryE(d:RtY):List V:=[.agg d.r.row,.agg d.t.row,.int .i64 d.a]
theorem aaL(x y:RtY)(h:ryE x=ryE y):x=y:=by obtain⟨r,t,a⟩:=x;obtain⟨r',t',a'⟩:=y;simp only [ryE,List.cons.injEq,V.agg.injEq,V.int.injEq,true_and,and_true]at h;rw [aZ.aq _ _ h.1,RS.aq _ _ h.2.1,h.2.2]
theorem pJ(r:aZ)(t:RS)(a:Int):aY ryE [.agg [.sl 3 (r.kinds.map Kd.row),.sl 4 (r.parts.map Pt.row),.int .i64 r.ax,.sl 2 (r.az.map Od.row)],.agg [.sl 2 (t.used.map bn),.sl 2 (t.cV.map bn),.sl 1 (t.aX.map rb),kV t.since,kL t.done],.int .i64 a]=⟨r,t,a⟩:=aA aaL ⟨r,t,a⟩
theorem OG(f:Nat)(h:Hp)(l:List (List Int)):ak f h (kV l)=(True,kV l):=by unfold kV;split<;>cases f<;>rfl
theorem OH(f:Nat)(h:Hp)(l:List (List Bool)):ak f h (kL l)=(True,kL l):=by unfold kL;split<;>cases f<;>rfl
@[simp ↓ high] theorem OI(h:Hp)(l:List (List Int)):av h (kV l)=(True,kV l):=OG 3 h l
@[simp ↓ high] theorem OJ(h:Hp)(l:List (List Bool)):av h (kL l)=(True,kL l):=OH 3 h l
@[simp ↓ high] theorem V4(l:List (List Int)):(kV l).leaf=true:=by unfold kV;split<;>rfl
@[simp ↓ high] theorem V5(l:List (List Bool)):(kL l).leaf=true:=by unfold kL;split<;>rfl
@[simp ↓ high] theorem OK(l:List (List Int)):(kV l).dQ=true:=by unfold kV;split<;>rfl
@[simp ↓ high] theorem OL(l:List (List Bool)):(kL l).dQ=true:=by unfold kL;split<;>rfl
@[simp ↓ high] theorem aaM(l:List (List Int)):(kV l).bZ=true:=by unfold kV;split<;>rfl
@[simp ↓ high] theorem aaN(l:List (List Bool)):(kL l).bZ=true:=by unfold kL;split<;>rfl
@[simp ↓ high] theorem af4(l:List (List Int)):(kV l).cD=true:=by unfold kV;split<;>rfl
@[simp ↓ high] theorem af5(l:List (List Bool)):(kL l).cD=true:=by unfold kL;split<;>rfl
@[simp ↓ high] theorem aD(l:List (List Int)):aAx (kV l) (kV l):=by unfold kV;split<;>simp [aAx]
@[simp ↓ high] theorem aF(l:List (List Bool)):aAx (kL l) (kL l):=by unfold kL;split<;>simp [aAx]
attribute [simp high] OI OJ V4 V5 OK OL aaM aaN af4 af5 aD aF
@[simp] theorem arC(l:List (List Int)):(match kV l,kV l with|_,.top=>True|.nil,.sl _ []=>True|.emp,.sl _ []=>True|x,y=>x=y)=True:=eq_true (aD l)
@[simp] theorem arD(l:List (List Bool)):(match kL l,kL l with|_,.top=>True|.nil,.sl _ []=>True|.emp,.sl _ []=>True|x,y=>x=y)=True:=eq_true (aF l)
noncomputable abbrev Db:aB:=bS rxE (fun d=>d.t.Wf d.r) fun d=>.int .i64 ((d.t.hi d.r).at d.b d.a d.c)
noncomputable abbrev afI:=EV [] [] 16700 39
theorem aqe:af afI [] Tryz.f167 Db:=pb <| by
 rintro⟨r,t,m,kk,pl⟩ vd;simp only at vd;obtain⟨v1,v2,v3,v4,v5,v6,v7,v8⟩:=cF vd.val;simp -dsimp [Tryz.f167,afI,aZ.row,RS.row]
 refine ay [12,13,14,15,16,19,20,21,22,23,24,25,26,27,28,29,30,31,32,33,34,35,36,37,38,10,17,18,11] (fun k:{k:Nat // k<=r.parts.length/\∀j (h:j<(t.ps r).length),j<k->oM kk m pl (t.ps r)[j]=false}=>[(11,(true,.int .i64 (k.1:Nat)))])
  (fun k=>hps [(16706,{base:=0,ah:=[{z:=5,els:=[[.sl 2 (t.used.map bn),.sl 2 (t.cV.map bn),.sl 1 (t.aX.map rb),kV t.since,kL t.done]],ty:=193}]}),(16705,{base:=0,ah:=[{z:=4,els:=[[.sl 3 (r.kinds.map Kd.row),.sl 4 (r.parts.map Pt.row),.int .i64 r.ax,.sl 2 (r.az.map Od.row)]],ty:=37}]})] cg) (fun k=>r.parts.length - k.1) ⟨0,by omega,fun _ _ h=>by omega⟩ ?_ ?_ ?_
 ·simp [aj,aT]
 ·(try simp -dsimp only [hpx]);refine ai ?_;simp -dsimp [aC]<;>exact rz
 rintro⟨k,hk,v9⟩;simp only;by_cases aH:k<r.parts.length
 ·have v0:(k:Int)<r.parts.length:=by omega
  have wk:=wx k;obtain⟨p,hp,hp'⟩:=aM aH;have EM:k<t.cV.length:=by rw [vd.cV];exact aH
  obtain⟨w,hw,hw'⟩:=aM EM;have hkp:k<(t.ps r).length:=by rw [RS.kz];exact aH
  have z7:(t.ps r)[k]=t.pt r k:=by have:=t.nH r aH;rw [List.getElem?_eq_getElem hkp]at this;exact Option.some.inj this
  have lC:oM kk m pl (t.ps r)[k]=(p.kind == kk && (w.1 == m && w.2 == pl)):=by rw [z7];simp [oM,RS.pt,List.getD,hp,hw]
  by_cases vr:p.kind=kk
  ·cases hq:(w.1 == m && w.2 == pl)
   ·have hf:oM kk m pl (t.ps r)[k]=false:=(by rw [lC,hq];simp);simp -dsimp [v0];repeat' first|omega|simp -dsimp [afI,v0,aH,hp,hp',hw,hw',EM,wk,Pt.row,bn,vr,hq]|apply aI|apply nI|intro
    refine⟨k+1,ag rfl ?_,(by(try simp -dsimp only [hpx]);refine ai ?_;simp -dsimp [aC]<;>exact rz),⟨by omega,fun j h hj=>?_⟩,by omega⟩
    ·simp [aj,aT]
    ·by_cases vs:j=k
     ·subst vs;exact hf
     ·exact v9 j h (by omega)
   ·have hf:oM kk m pl (t.ps r)[k]=true:=(by rw [lC,hq];simp [vr]);have hz:(t.hi r).at kk m pl=k:=cW (t.ps r) (oM kk m pl) hkp hf v9;simp -dsimp [v0];repeat' first|omega|simp -dsimp [afI,v0,aH,hp,hp',hw,hw',EM,wk,Pt.row,bn,vr,hq,hz]|apply aI|apply nI|intro
  ·have hf:oM kk m pl (t.ps r)[k]=false:=(by rw [lC];simp [vr]);simp -dsimp [v0];repeat' first|omega|simp -dsimp [afI,v0,aH,hp,hp',wk,Pt.row,vr]|apply aI|apply nI|intro
   refine⟨k+1,ag rfl ?_,(by(try simp -dsimp only [hpx]);refine ai ?_;simp -dsimp [aC]<;>exact rz),⟨by omega,fun j h hj=>?_⟩,by omega⟩
   ·simp [aj,aT]
   ·by_cases vs:j=k
    ·subst vs;exact hf
    ·exact v9 j h (by omega)
 ·have vb:¬ (k:Int)<r.parts.length:=by omega
  have hz:(t.hi r).at kk m pl = -1:=bP (t.ps r) (oM kk m pl) (fun j h=>v9 j h (by rw [RS.kz]at h;omega));simp -dsimp [vb];repeat' first|omega|simp -dsimp [afI,vb,hz]|apply aI|apply nI|intro
theorem ak0:FO 167 Db:=pf aqe .nil
noncomputable abbrev CM:aB:=bS ryE (fun d=>d.t.Wf d.r) fun d=>prs ((d.t.hi d.r).ga d.a)
noncomputable abbrev Ue:=EV [(167,.pure Db)] [] 22600 41
theorem aoF:af Ue [] Tryz.f226 CM:=pb <| by
 rintro⟨r,t,m⟩ vd;simp only at vd;obtain⟨v1,v2,v3,v4,v5,v6,v7,v8⟩:=cF vd.val;have ow:=vd.small;obtain⟨x,hx⟩:∃x,x=t.hi r:=⟨_,rfl⟩
 have z2:x.r=r:=by rw [hx];rfl
 rw [<-hx]at ow;simp -dsimp [Tryz.f226,Ue,aZ.row,RS.row];repeat' first|omega|simp -dsimp [Ue,RS.row]|apply aI|apply nI|intro
 refine dA [(7,22639,2,90)] rfl (by simp) [10,11,12,13,14,9,17,18,19,20,21,22,23,24,27,28,29,30,31,32,33,34,35,36,37,38,39,7,25,26,15,16,8] (fun k:Fin (r.kinds.length+1)=>[(8,(true,.int .i64 (k.1:Nat))),(7,(true,.bw 22639 0 (x.ej m k.1).length))])
  (fun k=>hps [(22639,{base:=0,ah:=[{z:=2,els:=(x.ej m k.1).map bn,ty:=90}]}),(22604,{base:=0,ah:=[{z:=5,els:=[[.sl 2 (t.used.map bn),.sl 2 (t.cV.map bn),.sl 1 (t.aX.map rb),kV t.since,kL t.done]],ty:=193}]}),(22603,{base:=0,ah:=[{z:=4,els:=[[.sl 3 (r.kinds.map Kd.row),.sl 4 (r.parts.map Pt.row),.int .i64 r.ax,.sl 2 (r.az.map Od.row)]],ty:=37}]})] cg) (fun k=>r.kinds.length - k.1) ⟨0,by omega⟩ ?_ ?_ ?_
 ·simp [aj,aT,HI.ej]
 ·(try simp -dsimp only [hpx]);refine ai ?_;simp -dsimp [aC,HI.ej]<;>exact rz
 rintro⟨k,hk⟩;simp only;by_cases aH:k<r.kinds.length
 ·have v0:(k:Int)<r.kinds.length:=by omega
  have wk:=wx k;obtain⟨kd,kj,iA⟩:=aM aH;have hT:x.ej m (k+1)=x.ej m k++x.eS m k (x.places k):=rfl;have Af:x.places k=kd.places.toNat:=by simp [HI.places,z2,List.getD,kj]
  have HJ:=nG ow m k;have z8:=vh ow k;rw [Af]at hT z8;generalize x.ej m k=T at *;generalize Ar:kd.places.toNat=pn at *;simp -dsimp [v0];repeat' first|omega|simp -dsimp [Ue,v0,aH,kj,iA,wk,Kd.row]|apply aI|apply nI|intro
  refine ay [17,18,19,20,21,22,23,24,27,28,29,30,31,32,33,34,35,36,37,38,39,7,25,26,9] (fun j:Fin (pn+1)=>[(9,(true,.int .i64 (j.1:Nat))),(7,(true,.bw 22639 0 (T++x.eS m k j.1).length))])
   (fun j=>hps [(22639,{base:=0,ah:=[{z:=2,els:=(T++x.eS m k j.1).map bn,ty:=90}]}),(22604,{base:=0,ah:=[{z:=5,els:=[[.sl 2 (t.used.map bn),.sl 2 (t.cV.map bn),.sl 1 (t.aX.map rb),kV t.since,kL t.done]],ty:=193}]}),(22603,{base:=0,ah:=[{z:=4,els:=[[.sl 3 (r.kinds.map Kd.row),.sl 4 (r.parts.map Pt.row),.int .i64 r.ax,.sl 2 (r.az.map Od.row)]],ty:=37}]})] cg) (fun j=>pn - j.1) ⟨0,by omega⟩ ?_ ?_ ?_
  ·simp [aj,aT,HI.eS]
  ·(try simp -dsimp only [hpx]);refine ai ?_;simp -dsimp [aC,HI.eS]<;>exact rz
  rintro⟨j,hj⟩;simp only;by_cases zp:j<pn
  ·have vP:(j:Int)<kd.places:=(by omega);have wj:=wx j;have hL:x.eS m k (j+1)=if x.emp m k j=true then x.eS m k j++[((k:Int),(j:Int))]else x.eS m k j:=rfl;have zr:=qD x m k j;have z3:x.emp m k j=decide (x.at k m j<0):=rfl;have Dy:(t.hi r).at k m j=x.at k m j:=(by rw [hx]);generalize x.eS m k j=L at *;by_cases he:x.at k m j<0
   ·rw [z3,decide_eq_true he,if_pos rfl]at hL;have yC:(T.length+L.length+1) * 16<=140737488355328:=(by omega);simp -dsimp [vP];repeat' first|omega|simp -dsimp [Ue,vP,kj,iA,aH,v0,Kd.row,gN,vd,Dy,he,wj,yC,bn]|apply aI|apply nI|intro
    refine⟨⟨j+1,by omega⟩,ag rfl ?_,(by(try simp -dsimp only [hpx]);refine ai ?_;simp -dsimp [aC,hL,bn]<;>exact rz),by simp only;omega⟩;simp [aj,aT,hL,Nat.add_assoc]
   ·rw [z3,decide_eq_false he,if_neg (by simp)]at hL;simp -dsimp [vP];repeat' first|omega|simp -dsimp [Ue,vP,kj,iA,aH,v0,Kd.row,gN,vd,Dy,he,wj,bn]|apply aI|apply nI|intro
    refine⟨⟨j+1,by omega⟩,ag rfl ?_,(by(try simp -dsimp only [hpx]);refine ai ?_;simp -dsimp [aC,hL,bn]<;>exact rz),by simp only;omega⟩;simp [aj,aT,hL]
  ·have AD:j=pn:=(by omega);have z4:¬ (j:Int)<kd.places:=(by omega);simp -dsimp [z4];repeat' first|omega|simp -dsimp [Ue,z4,kj,iA,aH,v0,Kd.row,wk]|apply aI|apply nI|intro
   refine⟨⟨k+1,by omega⟩,cq (aN rfl (br rfl (aN rfl bO))) ?_,(by(try simp -dsimp only [hpx]);refine ai ?_;simp -dsimp [aC,hT,AD]<;>exact rz),by simp only;omega⟩;simp [aj,aT,hT,AD]
 ·have vb:¬ (k:Int)<r.kinds.length:=by omega
  have vx:k=r.kinds.length:=by omega
  subst vx;have z9:(t.hi r).ga m=x.ej m r.kinds.length:=by rw [<-hx,HI.ga,z2]
  simp -dsimp [vb];repeat' first|omega|simp -dsimp [Ue,vb,z9,prs]|apply aI|apply nI|intro
theorem ajT:FO 226 CM:=pf aoF (.cons ak0 .nil)
structure RS.LfP (r:aZ) (t:RS) (p:Int):Prop where
 wf:t.Wf r
 p0:0<=p
 p1:p<r.parts.length
noncomputable abbrev HF:aB:=bS ryE (fun d=>RS.LfP d.r d.t d.a) fun d=>.dB [.int .i64 ((d.t.hi d.r).jt (d.t.pt d.r d.a.toNat)),.int .i64 ((d.t.hi d.r).iL (d.t.pt d.r d.a.toNat))]
noncomputable abbrev VB:=EV [] [] 22700 94
theorem aqf:af VB [] Tryz.f227 HF:=pb <| by
 rintro⟨r,t,pi⟩ ⟨vd,vV,vW⟩;simp only at vd vV vW;obtain⟨v1,v2,v3,v4,v5,v6,v7,v8⟩:=cF vd.val;obtain⟨pn,rfl⟩:∃pn:Nat,pi=pn:=⟨pi.toNat,by omega⟩
 have Ar:pn<r.parts.length:=by omega
 obtain⟨p,hp,hp'⟩:=aM Ar;have vX:pn<t.used.length:=by rw [vd.used];exact Ar
 obtain⟨u,hu,WV⟩:=aM vX;have zs:=v7 p (hp' ▸ List.getElem_mem Ar);obtain⟨ki,v0⟩:∃ki:Nat,p.kind=ki:=⟨p.kind.toNat,by omega⟩
 have z0:ki<r.kinds.length:=by omega
 obtain⟨kd,kj,iA⟩:=aM z0;obtain⟨x,hx⟩:∃x,x=t.hi r:=⟨_,rfl⟩
 obtain⟨q,hq⟩:∃q,q=t.pt r pn:=⟨_,rfl⟩
 have z1:x.r=r:=by rw [hx];rfl
 have za:x.aX=t.aX:=by rw [hx];rfl
 have q1:q.kind=ki:=by rw [hq];simp [RS.pt,List.getD,hp,v0]
 have q2:q.hours=u.1:=by rw [hq];simp [RS.pt,List.getD,hu]
 have q3:q.bh=u.2:=by rw [hq];simp [RS.pt,List.getD,hu]
 have q4:∀i,q.since.getD i 0=(t.since.getD i []).getD pn 0:=by intro i;rw [hq];simp only [RS.pt,List.getD,List.getElem?_map];cases t.since[i]?<;>simp
 have q5:∀i,q.iV.getD i false=(t.done.getD i []).getD pn false:=by intro i;rw [hq];simp only [RS.pt,List.getD,List.getElem?_map];cases t.done[i]?<;>simp
 have g1:x.r.kinds.getD ki default=kd:=by simp [z1,List.getD,kj]
 have hC:x.iL q=IntKind.wrap .i64 (kd.bh - u.2):=by simp only [HI.iL,cM,q1,q3,Int.toNat_natCast,g1]
 have hH:x.fe q 0=IntKind.wrap .i64 (kd.hours - u.1):=by simp only [HI.fe,cM,q1,q2,Int.toNat_natCast,g1]
 have OU:x.jt q=x.fe q r.az.length:=by rw [HI.jt,z1]
 have r1:(t.hi r).jt (t.pt r pn)=x.fe q r.az.length:=by rw [<-hx,<-hq,OU]
 have r2:(t.hi r).iL (t.pt r pn)=IntKind.wrap .i64 (kd.bh - u.2):=by rw [<-hx,<-hq,hC]
 simp -dsimp [Tryz.f227,VB,aZ.row,RS.row];repeat' first|omega|simp -dsimp [VB,RS.row,hp,hp',Ar,vV,vW,Pt.row,v0,kj,iA,z0,Kd.row,hu,WV,vX,bn]|apply aI|apply nI|intro
 refine ay [30,31,32,33,34,37,38,39,40,41,42,43,44,45,46,47,48,49,50,51,52,53,54,55,56,57,58,59,60,61,62,63,64,65,66,67,68,69,70,71,72,73,74,75,76,77,78,79,9,35,36,10] (fun k:Fin (r.az.length+1)=>[(10,(true,.int .i64 (k.1:Nat))),(9,(true,.int .i64 (x.fe q k.1)))]) (fun k=>hps [(22704,{base:=0,ah:=[{z:=5,els:=[[.sl 2 (t.used.map bn),.sl 2 (t.cV.map bn),.sl 1 (t.aX.map rb),kV t.since,kL t.done]],ty:=193}]}),(22703,{base:=0,ah:=[{z:=4,els:=[[.sl 3 (r.kinds.map Kd.row),.sl 4 (r.parts.map Pt.row),.int .i64 r.ax,.sl 2 (r.az.map Od.row)]],ty:=37}]})] cg) (fun k=>r.az.length - k.1) ⟨0,by omega⟩ ?_ ?_ ?_
 ·simp [aj,aT,hH]
 ·(try simp -dsimp only [hpx]);refine ai ?_;simp -dsimp [aC]<;>exact rz
 rintro⟨k,hk⟩;simp only;by_cases aH:k<r.az.length
 ·have iB:(k:Int)<r.az.length:=by omega
  have wk:=wx k;have l1:k<t.aX.length:=by rw [vd.aX];exact aH
  have l2:k<t.done.length:=by rw [vd.done];exact aH
  have l3:k<t.since.length:=by rw [vd.since];exact aH
  obtain⟨od,xS,nk⟩:=aM aH;obtain⟨b1,ez,iC⟩:=aM l1;obtain⟨dr,Ab,Fo⟩:=aM l2;obtain⟨sr,H8,alr⟩:=aM l3;have l4:pn<dr.length:=by rw [vd.oe dr (Fo ▸ List.getElem_mem l2)];exact Ar
  have l5:pn<sr.length:=by rw [vd.kA sr (alr ▸ List.getElem_mem l3)];exact Ar
  obtain⟨b2,kJ,rN⟩:=aM l4;obtain⟨sn,xT,Mz⟩:=aM l5;have hs:x.fe q (k+1)=if b1 && (od.kind == (ki:Int) && !b2)then xR (x.fe q k) (cM od.within sn)else x.fe q k:=by simp only [HI.fe,HI.Ed,q4,q5,q1,z1,za];simp only [List.getD,xS,ez,Ab,H8,kJ,xT,Option.getD_some]
  have zd:=HL (l:=t.since) (by omega);have z5:=HM (l:=t.done) (by omega);generalize x.fe q k=H at *;by_cases vr:od.kind=(ki:Int)
  case neg=>
   have abW:(od.kind == (ki:Int))=false:=(by simpa using vr);have z6:(od.kind=(ki:Int))=False:=eq_false vr;simp -dsimp [iB];repeat' first|omega|simp -dsimp [VB,iB,aH,xS,nk,wk,Od.row,z6,abW]|apply aI|apply nI|intro
   refine⟨⟨k+1,by omega⟩,ag rfl ?_,(by(try simp -dsimp only [hpx]);refine ai ?_;simp -dsimp [aC]<;>exact rz),by simp only;omega⟩;simp [aj,aT,hs,vr]
  cases b1
  ·simp -dsimp [iB];repeat' first|omega|simp -dsimp [VB,iB,aH,xS,nk,ez,iC,l1,wk,Od.row,rb,vr]|apply aI|apply nI|intro
   refine⟨⟨k+1,by omega⟩,ag rfl ?_,(by(try simp -dsimp only [hpx]);refine ai ?_;simp -dsimp [aC]<;>exact rz),by simp only;omega⟩;simp [aj,aT,hs]
  cases b2
  ·simp -dsimp [iB];repeat' first|omega|simp -dsimp [VB,iB,aH,xS,nk,ez,iC,l1,l2,l3,l4,l5,Ab,Fo,H8,alr,kJ,rN,xT,Mz,zd,z5,O0,wk,Od.row,rb,vr]|apply aI|apply nI|intro
   refine⟨⟨k+1,by omega⟩,ag rfl ?_,(by(try simp -dsimp only [hpx]);refine ai ?_;simp -dsimp [aC]<;>exact rz),by simp only;omega⟩;by_cases zo:IntKind.i64.wrap (od.within - sn)<H<;>simp [aj,aT,hs,vr,xR,cM,zo]
  ·simp -dsimp [iB];repeat' first|omega|simp -dsimp [VB,iB,aH,xS,nk,ez,iC,l1,l2,l4,Ab,Fo,kJ,rN,z5,O0,wk,Od.row,rb,vr]|apply aI|apply nI|intro
   refine⟨⟨k+1,by omega⟩,ag rfl ?_,(by(try simp -dsimp only [hpx]);refine ai ?_;simp -dsimp [aC]<;>exact rz),by simp only;omega⟩;simp [aj,aT,hs,vr]
 ·have vb:¬ (k:Int)<r.az.length:=by omega
  have vx:k=r.az.length:=by omega
  subst vx;simp -dsimp [vb];repeat' first|omega|simp -dsimp [VB,vb,v0,kj,iA,z0,Kd.row,hu,WV,vX,bn,r1,r2,vV,vW,Ar]|apply aI|apply nI|intro
theorem ak1:FO 227 HF:=pf aqf .nil
end Go.Sx
end
end
