/- TopLess: the law. No conditions. -/
import Derived.Test.YtegiclpanpmkdaaGreatDoorR63
import Derived.Test.YtegiclpanpmkdaaGreatDoorR47
import Derived.Test.YtegiclpanpmkdaaGreatDoorR50
import Derived.Test.YtegiclpanpmkdaaGreatDoorR39
import Derived.Test.YtegiclpanpmkdaaGreatDoorR54
set_option linter.all false
set_option maxRecDepth 100000
set_option maxHeartbeats 8000000
noncomputable section
namespace Go.Sx
open Go.Proofs
attribute [local simp] ri aa ints
attribute [local irreducible] bA
namespace Les
@[simp] def tlE(d:(Fl × List Sr) × Wk):List V:=[.agg d.1.1.row,.sl 4 (d.1.2.map Sr.row),.agg d.2.row]
def wkS(l:List Wk):Site:={base:=0,ah:=[{z:=4,els:=l.map Wk.row,ty:=86,fz:=true}]}
def gWs(f:Fl)(n:Nat):List V:=List.take 24 f.row++V.bw 950 0 n::List.drop 25 f.row
theorem aBF(f:Fl)(n:Nat):gWs f n=f.met.row++(f.mn.row++(.sl 3 (f.Ah.map eN.row)::(f.eH.row++(V.bw 950 0 n::(f.gv.row++[.sl 3 (f.wF.map Du.row),.sl 1 (f.dU.map ri),.sl 1 (f.lz.map ri),.int .i64 f.turn,.int .i64 f.hour,.int .i64 f.rU,.int .i64 f.gF,.sl 5 (f.jobs.map Jb.row)]))))):=rfl
theorem aAM{h:Hp}{f:Fl}{w:Wk}{n:Nat}(hn:n=(f.ko++[w]).length)(h1:h 950=wkS (f.ko++[w])):cL (ak 2 h) (gWs f n)=(True,(more f w).row):=by
 have hg:aL h 950 0=some {z:=4,els:=(f.ko++[w]).map Wk.row,ty:=86,fz:=true}:=by simp [aL,h1,wkS]
 have e:ak 2 h (.bw 950 0 n)=(True,.sl 4 ((f.ko++[w]).map Wk.row)):=by rw [ak,hg];simp [bV,hn]
 rw [aBF];simp only [List.cons_append,List.nil_append,Met.row,Wt.row,aZ.row,Ro.row,bp,cL,e,V.leaf,true_and];simp [ak,more,Fl.row,Met.row,Wt.row,aZ.row,Ro.row,bp]
theorem aBf{h:Hp}{f:Fl}{w:Wk}{n:Nat}(h1:h 950=wkS (f.ko++[w]))(k:Nat):F3 (Wz k h) (gWs f n)=True:=by
 have hg:aL h 950 0=some {z:=4,els:=(f.ko++[w]).map Wk.row,ty:=86,fz:=true}:=by simp [aL,h1,wkS]
 have e:Wz k h (.bw 950 0 n)=True:=by cases k<;>simp [Wz,V.at?,hg]
 rw [aBF];simp only [List.cons_append,List.nil_append,Met.row,Wt.row,aZ.row,Ro.row,bp,F3,e,and_true,true_and];cases k<;>simp [Wz,V.at?]
theorem aAN{h:Hp}{f:Fl}{w:Wk}{n:Nat}(hn:n=(f.ko++[w]).length)(h0:h 907={base:=0,ah:=[{z:=39,els:=[gWs f n],ty:=46,fz:=true,cl:=false}]})(h1:h 950=wkS (f.ko++[w])):ak 3 h (.bG 907 0 1 0 0)=(True,.ip 39 [(more f w).row] 0 0):=by
 have hg:aL h 907 0=some {z:=39,els:=[gWs f n],ty:=46,fz:=true,cl:=false}:=by simp [aL,h0]
 rw [ak,hg];simp [bV,dc,aAM hn h1]
structure TlP (d:(Fl × List Sr) × Wk):Prop where
 r:RiP d.1
noncomputable abbrev ayn:aB:=bS tlE TlP fun _=>.bool true
noncomputable abbrev E9:=EV [(18,.pure lgS),(19,.pure X6),(27,.pure y9.adi),(20,.pure afl),(32,.pure mc),(33,.pure rS),(13,.pure axN),(17,.pure awo)] [50,79,90,127,135] 900 174 [(1,[3,5,50003,50005]),(5,[100950,7,50007])]
theorem b9:af E9 [(4,([2,4],[[0,1,2,3,4,5,6,7,8]])),(11,([1,4],[[0,1,2,3,4,5,6,7,8,9,10,11,12]])),(12,([1,4],[[0,1,2,3,4,5,6,7,8,9,10,11,12]])),(15,([0],[[0,1,2,3,4,5,6,7,8,9]])),(16,([0],[[0,1,2,3,4,5,6,7,8,9]]))] Tryz.f9 ayn:=pb <| by
 rintro⟨⟨f,l⟩,⟨w1,w2,w3,w4⟩⟩ ⟨XN⟩;have hP:=XN.p;have hl:=XN.l;simp only at hP hl XN;cases hL:R5 f
 case true=>
  simp -dsimp [Tryz.f9,E9,Wk.row];repeat' first|omega|simp -dsimp [E9,fC,hP,hL,Wk.row]|apply aI|apply nI|intro
 by_cases h4:l.length<=4
 case neg=>
  simp -dsimp [Tryz.f9,E9,Wk.row];repeat' first|omega|simp -dsimp [E9,fC,mR,hP,hL,h4,Wk.row]|apply aI|apply nI|intro
 by_cases hE:Nr f=0
 case neg=>
  simp -dsimp [Tryz.f9,E9,Wk.row];repeat' first|omega|simp -dsimp [E9,fC,mR,hP,hL,h4,hE,Wk.row]|apply aI|apply nI|intro
 by_cases k1:w1=1
 case neg=>
  have k1':(w1 == 1)=false:=by simpa using k1
  simp -dsimp [Tryz.f9,E9,Wk.row];repeat' first|omega|simp -dsimp [E9,fC,mR,hP,hL,h4,hE,k1,k1',Wk.row]|apply aI|apply nI|intro
 subst k1;rcases Classical.propComplete ((12:Int)<=f.ko.length)with k2|k2
 ·simp -dsimp [Tryz.f9,E9,Wk.row];repeat' first|omega|simp -dsimp [E9,fC,mR,hP,hL,h4,hE,k2,Wk.row]|apply aI|apply nI|intro
 have k2':=of_eq_false k2;have hf:=tC.1 hE;have hK:=C6 hL hf;have hB:=awq hL hK;have vy:=qz hf.op;have Aj:f.ko.length * 32<=140737488355328:=by omega
 have am7:(f.ko.length+1) * 32<=140737488355328:=by omega
 have v5:List.take 24 f.row++V.bw 950 0 (f.ko.length+1)::List.drop 25 f.row=gWs f (f.ko.length+1):=rfl;have hle:=fun h=>aAN (h:=h) (f:=f) (w:=⟨1,w2,w3,w4⟩) (n:=f.ko.length+1) (by simp);have hfz:=fun h=>aBf (h:=h) (f:=f) (w:=⟨1,w2,w3,w4⟩) (n:=f.ko.length+1);simp only [wkS,List.map_append,List.map_cons,List.map_nil,Wk.row]at hle hfz;have v6:∀(h:Hp) (b:Bool),ak 3 h (.bool b)=(True,.bool b):=fun _ _=>rfl;have v7:∀(h:Hp) (z:Nat) (l:List (List V)),ak 3 h (.sl z l)=(True,.sl z l):=fun _ _ _=>rfl;have v8:∀(h:Hp) (n:Int),ak 3 h (.int .i64 n)=(True,.int .i64 n):=fun _ _=>rfl;have v9:=PW hf.op;have aBz:RL.oW ⟨f.eH,f.ko++[⟨1,w2,w3,w4⟩]⟩:=by obtain⟨z1,z2,z3,z4⟩:=v9;exact⟨z1,z2,z3,by simp only [List.length_append,List.length_singleton];omega⟩
 have v1:(more f ⟨1,w2,w3,w4⟩).eH=f.eH:=rfl;have OY:(more f ⟨1,w2,w3,w4⟩).ko=f.ko++[⟨1,w2,w3,w4⟩]:=rfl;obtain⟨W,hW⟩:∃W,f.ko++[⟨1,w2,w3,w4⟩]=W:=⟨_,rfl⟩
 have Aa:=fun(h2:jA f.eH (f.ko++[⟨1,w2,w3,w4⟩])=0) m=>aAW (f:=f) (w:=⟨1,w2,w3,w4⟩) hf.op (by omega) rfl h2 m;have v2:jA f.eH (f.ko++[⟨1,w2,w3,w4⟩])=0->Cw (more f ⟨1,w2,w3,w4⟩):=fun h2=>⟨hf.more h2,hK.fw,hK.sw⟩
 have v0:=fun(h2:jA f.eH (f.ko++[⟨1,w2,w3,w4⟩])=0) (l:List Sr) h=>Good.less (f:=f) (w:=⟨1,w2,w3,w4⟩) (any:=false) (l:=l) hf (by omega) rfl h2 h;have vr:=aAY f ⟨1,w2,w3,w4⟩;rw [hW]at aBz OY;simp only [hW]at Aa v2 v0;have EV:(more f ⟨1,w2,w3,w4⟩).jobs.length<=4/\(more f ⟨1,w2,w3,w4⟩).gv.bM.length<=4:=⟨hB.j,hB.n⟩
 generalize more f ⟨1,w2,w3,w4⟩=g at *;by_cases h2:jA f.eH W=0
 case neg=>
  simp -dsimp [Tryz.f9,E9,Wk.row];repeat' first|omega|simp -dsimp [E9,fC,mR,gr,hP,hL,h4,hE,k2,Aj,am7,v5,-ak,-Wz,hle,hfz,v6,v7,v8,hW,v1,OY,aBz,h2,aS,cQ,Wk.row]|apply aI|apply nI|intro
 have Aa:=Aa h2;have v2:=v2 h2;have v0:=v0 h2;have YF:BpE g:=⟨v2,EV.1,EV.2⟩
 have va:NpP (f,l):=⟨hK,by simp only;omega⟩
 have vb:NpP (g,l):=⟨v2,by simp only;omega⟩
 have ry:l.length * 32<=140737488355328:=by omega
 have vP:W.length=f.ko.length+1:=by rw [<-hW];simp
 have v3:W.length * 32<=140737488355328:=by omega
 have kM:(O7 g l).2=0->(O7 f l).2=0:=fun h=>by obtain⟨_,h3⟩:=Fe.1 h;exact Fe.2 ⟨hf,v0 l h3⟩
 have vd:(V1 g (U0 g 0 [])<=V1 f (U0 f 0 []))=True:=eq_true (by
  have rj:=auW hf (now:=0) (q:=[]) Good.nil;have vs:=auW v2.ok (now:=0) (q:=[]) Good.nil;have:=(au3 rj (v0 _ (auZ vs))).2
  rwa [<-vr]at this)
 obtain⟨N,vV,OT⟩:∃N:Nat,f.dU.length=N/\f.eH.ax=(N:Int):=⟨_,rfl,hf.dU.symm⟩
 have vW:=hf.JJ;have W6:∀m:Nat,RLM.oW ⟨f.eH,f.ko,(m:Int),0⟩:=fun _=>v9;have aBA:∀m:Nat,RLM.oW ⟨f.eH,W,(m:Int),0⟩:=fun _=>aBz;simp -dsimp [Tryz.f9,E9,Wk.row];repeat' first|omega|simp -dsimp [E9,fC,mR,gr,hP,hL,h4,hE,k2,Aj,am7,v5,-ak,-Wz,hle,hfz,v6,v7,v8,hW,v1,OY,aBz,h2,aS,cQ,Wk.row]|apply aI|apply nI|intro
 refine ay [69,70,71,72,73,77,78,79,80,81,82,83,84,76,85,86,11,12,88,89,90,91,92,93,94,95,87,96,97,13,14,98,99,100,101,102,103,104,105,106,107,108,109,110,111,112,113,114,115,116,117,118,119,120,121,122,123,124,6,74,75,10] (fun m:{m:Nat // m<=N}=>[(10,(true,.int .i64 m.1))]) (fun m=>hps [(979,{base:=m.1,ah:=[]}),(990,{base:=m.1,ah:=[]}),(907,{base:=1,ah:=[]}),(950,{base:=1,ah:=[]}),(905,{base:=1,ah:=[]}),(903,fS f)] cg) (fun m=>N - m.1) ⟨0,by omega⟩ ?_ ?_ ?_
 ·simp [aj,aT]
 ·(try simp -dsimp only [hpx]);refine ai ?_;simp -dsimp [aC,fS]<;>exact rz
 rintro⟨m,hm⟩;dsimp only;by_cases jW:m<N
 ·have oh:(m:Int)<N:=by omega
  have wm:=wx m;obtain⟨q1,q2⟩:=Aa (m:Int);by_cases e:(m:Int)=w2
  ·have d:((m:Int) == w2)=true:=(by simpa using e);by_cases c:dR f.eH W m 0=0
   ·obtain⟨r1,r2⟩:=q1 c;have vx:(de f.eH f.ko m 0<de f.eH W m 0)=False:=eq_false (by omega);simp -dsimp [oh,fS];repeat' first|omega|simp -dsimp [E9,oh,OT,v1,OY,ta,W6,aBA,Aj,v3,aS,cQ,d,c,r1,vx,wm]|apply aI|apply nI|intro
    refine⟨m+1,ag rfl ?_,?_,by omega,by omega⟩
    ·simp [aj,aT]
    ·(try simp -dsimp only [hpx]);refine ai ?_;simp -dsimp [aC,fS]<;>exact rz
   ·simp -dsimp [oh,fS];repeat' first|omega|simp -dsimp [E9,oh,OT,v1,OY,ta,W6,aBA,Aj,v3,aS,cQ,d,c,wm]|apply aI|apply nI|intro
    refine⟨m+1,ag rfl ?_,?_,by omega,by omega⟩
    ·simp [aj,aT]
    ·(try simp -dsimp only [hpx]);refine ai ?_;simp -dsimp [aC,fS]<;>exact rz
  ·have d:((m:Int) == w2)=false:=(by simpa using e);obtain⟨r1,r2⟩:=q2 e;by_cases c:dR f.eH W m 0=0
   ·simp -dsimp [oh,fS];repeat' first|omega|simp -dsimp [E9,oh,OT,v1,OY,ta,W6,aBA,Aj,v3,aS,cQ,d,c,r1,r2,wm]|apply aI|apply nI|intro
    refine⟨m+1,ag rfl ?_,?_,by omega,by omega⟩
    ·simp [aj,aT]
    ·(try simp -dsimp only [hpx]);refine ai ?_;simp -dsimp [aC,fS]<;>exact rz
   ·simp -dsimp [oh,fS];repeat' first|omega|simp -dsimp [E9,oh,OT,v1,OY,ta,W6,aBA,Aj,v3,aS,cQ,d,c,r1,r2,wm]|apply aI|apply nI|intro
    refine⟨m+1,ag rfl ?_,?_,by omega,by omega⟩
    ·simp [aj,aT]
    ·(try simp -dsimp only [hpx]);refine ai ?_;simp -dsimp [aC,fS]<;>exact rz
 have v4:¬ (m:Int)<N:=by omega
 by_cases c:(O7 g l).2=0
 ·have c2:=kM c;simp -dsimp [v4,fS];repeat' first|omega|simp -dsimp [E9,v4,OT,gO,fC,va,vb,hB,YF,c,c2,vd,ry,aS,cQ]|apply aI|apply nI|intro
 ·simp -dsimp [v4,fS];repeat' first|omega|simp -dsimp [E9,v4,OT,gO,fC,va,vb,hB,YF,c,vd,ry,aS,cQ]|apply aI|apply nI|intro
theorem ok9:FO 9 ayn:=pf b9 (.cons agV (.cons an2 (.cons y9.adf (.cons auN (.cons adg (.cons adh (.cons W9 (.cons ag2 .nil))))))))
end Les
end Go.Sx
end
