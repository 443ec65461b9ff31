/- TopFog: the law. No conditions. -/
import Derived.Test.YtegiclpanpmkdaaGreatDoorR66
import Derived.Test.YtegiclpanpmkdaaGreatDoorR67
import Derived.Test.YtegiclpanpmkdaaGreatDoorR69
import Derived.Test.YtegiclpanpmkdaaGreatDoorR50
import Derived.Test.YtegiclpanpmkdaaGreatDoorR19
import Derived.Test.YtegiclpanpmkdaaGreatDoorR56
import Derived.Test.YtegiclpanpmkdaaGreatDoorR54
import Derived.Test.YtegiclpanpmkdaaGreatDoorR22
set_option linter.all false
set_option maxRecDepth 100000
set_option maxHeartbeats 8000000
noncomputable section
namespace Go.Sx
open Go.Proofs
attribute [local simp] ri aa ints
attribute [local irreducible] bA
namespace Fog
structure aBO (d:Met × Int × Int):Prop where
 my:EC d
 at':atB d.1 d.2.1 d.2.2=true
noncomputable abbrev aBG:aB:=bS Xn aBO fun d=>.dB [ints (Rk d.1 d.2.1 d.2.2),.int .i64 0]
noncomputable abbrev E29:=EV [(72,.pure O9),(71,.pure caS),(73,.pure myS)] [] 2900 27 [(1,[3,50003])]
theorem b29:af E29 [] Tryz.f29 aBG:=pb <| by
 rintro⟨m,p,t⟩ ⟨hM,ha⟩;have s9:=hM.met;have hok:=hM.ok;simp only at s9 hok ha;have hE:pT m p t=0:=by simp [pT,uH,hok,ha]
 simp -dsimp [Tryz.f29,E29];repeat' first|omega|simp -dsimp [E29,Yl,tj,cR.row,Sp.row,hM,s9,hE,aS,cQ]|apply aI|apply nI|intro
theorem ajh:FO 29 aBG:=pf b29 (.cons aqt (.cons aoq (.cons alk .nil)))
theorem aAC{α:Type}{l:List α}{k:Nat}{x:α}{P:α->Prop}(hx:l[k]?=some x)(h:∀y∈l.take k,P y)(hp:P x):∀y∈l.take (k+1),P y:=by
 rw [List.take_add_one,hx];intro y hy;rcases List.mem_append.1 hy with hy|hy
 ·exact h y hy
 ·simp at hy;rw [hy];exact hp
@[simp] def tfE(d:(Fl × List Sr) × Fc):List V:=[.agg d.1.1.row,.sl 4 (d.1.2.map Sr.row),.agg d.2.row]
def fcS(fs:List Fc):Site:={base:=0,ah:=[{z:=12,els:=fs.map Fc.row,ty:=77,fz:=true}]}
def gCs(f:Fl)(n:Nat):List V:=List.take 12 f.row++V.bw 793 0 n::List.drop 13 f.row
theorem aAM{h:Hp}{f:Fl}{fs:List Fc}{n:Nat}(hn:n=fs.length)(h1:h 793=fcS fs):cL (ak 2 h) (gCs f n)=(True,(auV f fs f.mn).row):=by
 have hg:aL h 793 0=some {z:=12,els:=fs.map Fc.row,ty:=77,fz:=true}:=by simp [aL,h1,fcS]
 have e:ak 2 h (.bw 793 0 n)=(True,.sl 12 (fs.map Fc.row)):=by rw [ak,hg];simp [bV,hn]
 have e2:gCs f n=[.int .i64 f.met.n,.int .i64 f.met.any.w.lo,.int .i64 f.met.any.w.hi,.int .i64 f.met.any.s.lo,.int .i64 f.met.any.s.hi,.int .i64 f.met.any.c.lo,.int .i64 f.met.any.c.hi,.bool f.met.any.pE,.bool f.met.any.pF,.int .i64 f.met.w,.int .i64 f.met.s,.int .i64 f.met.c]++V.bw 793 0 n::List.drop 13 f.row:=rfl;have e3:List.drop 13 f.row=.sl 7 (f.met.ss.map Sg.row)::(f.mn.row++(.sl 3 (f.Ah.map eN.row)::(f.eH.row++(.sl 4 (f.ko.map Wk.row)::(f.gv.row++[.sl 3 (f.wF.map Du.row),.sl 1 (f.dU.map ri),.sl 1 (f.lz.map ri),.int .i64 f.turn,.int .i64 f.hour,.int .i64 f.rU,.int .i64 f.gF,.sl 5 (f.jobs.map Jb.row)]))))):=rfl;rw [e2,e3];simp only [List.cons_append,List.nil_append,Wt.row,aZ.row,Ro.row,bp,cL,e,V.leaf,true_and];simp [ak,auV,Fl.row,Met.row,Wt.row,aZ.row,Ro.row,bp]
theorem aBf{h:Hp}{f:Fl}{fs:List Fc}{n:Nat}(h1:h 793=fcS fs)(k:Nat):F3 (Wz k h) (gCs f n)=True:=by
 have hg:aL h 793 0=some {z:=12,els:=fs.map Fc.row,ty:=77,fz:=true}:=by simp [aL,h1,fcS]
 have e:Wz k h (.bw 793 0 n)=True:=by cases k<;>simp [Wz,V.at?,hg]
 have e2:gCs f n=[.int .i64 f.met.n,.int .i64 f.met.any.w.lo,.int .i64 f.met.any.w.hi,.int .i64 f.met.any.s.lo,.int .i64 f.met.any.s.hi,.int .i64 f.met.any.c.lo,.int .i64 f.met.any.c.hi,.bool f.met.any.pE,.bool f.met.any.pF,.int .i64 f.met.w,.int .i64 f.met.s,.int .i64 f.met.c]++V.bw 793 0 n::List.drop 13 f.row:=rfl;have e3:List.drop 13 f.row=.sl 7 (f.met.ss.map Sg.row)::(f.mn.row++(.sl 3 (f.Ah.map eN.row)::(f.eH.row++(.sl 4 (f.ko.map Wk.row)::(f.gv.row++[.sl 3 (f.wF.map Du.row),.sl 1 (f.dU.map ri),.sl 1 (f.lz.map ri),.int .i64 f.turn,.int .i64 f.hour,.int .i64 f.rU,.int .i64 f.gF,.sl 5 (f.jobs.map Jb.row)]))))):=rfl;rw [e2,e3];simp only [List.cons_append,List.nil_append,Wt.row,aZ.row,Ro.row,bp,F3,e,and_true,true_and];cases k<;>simp [Wz,V.at?]
theorem aAN{h:Hp}{f:Fl}{fs:List Fc}{n:Nat}(hn:n=fs.length)(h0:h 711={base:=0,ah:=[{z:=39,els:=[gCs f n],ty:=46,fz:=true,cl:=false}]})(h1:h 793=fcS fs):ak 3 h (.bG 711 0 1 0 0)=(True,.ip 39 [(auV f fs f.mn).row] 0 0):=by
 have hg:aL h 711 0=some {z:=39,els:=[gCs f n],ty:=46,fz:=true,cl:=false}:=by simp [aL,h0]
 rw [ak,hg];simp [bV,dc,aAM hn h1]
structure TfP (d:(Fl × List Sr) × Fc):Prop where
 r:RiP d.1
noncomputable abbrev ayn:aB:=bS tfE TfP fun _=>.bool true
noncomputable abbrev E7:=EV [(18,.pure lgS),(19,.pure X6),(27,.pure y9.adi),(22,.pure cpS),(28,.pure PR),(29,.pure aBG),(13,.pure axN),(12,.pure awM)] [93,156,164,172] 700 200 [(1,[3,5,50003,50005]),(18,[100793,11,50011])]
theorem b7:af E7 [(17,([3,5],[[0,1,2,3,4,5,6,7,8,9,10]])),(31,([0],[[0,1,2,3,4,5,6,7,8,9]])),(32,([0],[[0,1,2,3,4,5,6,7,8,9]])),(33,([0],[[0,1,2,3,4,5,6,7,8,9]]))] Tryz.f7 ayn:=pb <| by
 rintro⟨⟨f,l⟩,x⟩ ⟨XN⟩;have hP:=XN.p;have hl:=XN.l;simp only at hP hl XN;obtain⟨x1,x2,x3,x4,⟨⟨c1,c2⟩,⟨c3,c4⟩,⟨c5,c6⟩,c7,c8⟩⟩:=x;cases hL:R5 f
 case true=>
  simp -dsimp [Tryz.f7,E7,Fc.row];repeat' first|omega|simp -dsimp [E7,fC,hP,hL,Fc.row]|apply aI|apply nI|intro
 by_cases h4:l.length<=4
 case neg=>
  simp -dsimp [Tryz.f7,E7,Fc.row];repeat' first|omega|simp -dsimp [E7,fC,mR,hP,hL,h4,Fc.row]|apply aI|apply nI|intro
 rcases Classical.propComplete ((40:Int)<=f.met.fs.length)with v3|v3
 ·simp -dsimp [Tryz.f7,E7,Fc.row];repeat' first|omega|simp -dsimp [E7,fC,mR,hP,hL,h4,v3,Fc.row]|apply aI|apply nI|intro
 generalize hW:IntKind.wrap .i64 (x3 - x2)=W;rcases Classical.propComplete (60<W)with Dt|Dt
 ·simp -dsimp [Tryz.f7,E7,Fc.row];repeat' first|omega|simp -dsimp [E7,fC,mR,Fc.row,hP,hL,h4,v3,hW,Dt]|apply aI|apply nI|intro
 have zY:CpP (f,l):=⟨hP,C6 hL,by simp only;omega⟩
 by_cases hc:(O7 f l).2=0
 case neg=>
  simp -dsimp [Tryz.f7,E7,Fc.row];repeat' first|omega|simp -dsimp [E7,fC,mR,gO,Fc.row,hP,hL,h4,v3,hW,Dt,zY,hc]|apply aI|apply nI|intro
 obtain⟨hf,hG⟩:=Fe.1 hc;have hK:=C6 hL hf;have z4:=hK.fw;simp -dsimp [Tryz.f7,E7,Fc.row];repeat' first|omega|simp -dsimp [E7,fC,mR,gO,Fc.row,hP,hL,h4,v3,hW,Dt,zY,hc]|apply aI|apply nI|intro
 refine ay [54,55,56,57,58,59,62,63,64,65,66,67,68,69,70,71,72,6,60,61,9] (fun i:{i:Nat // i<=f.met.fs.length/\∀y∈f.met.fs.take i,y.aX<=x4}=>[(9,(true,.int .i64 i.1))]) (fun _=>hps [(705,{base:=1,ah:=[]}),(703,fS f)] cg) (fun i=>f.met.fs.length - i.1) ⟨0,by omega,by simp⟩ ?_ ?_ ?_
 ·simp [aj,aT]
 ·(try simp -dsimp only [hpx]);refine ai ?_;simp -dsimp [aC,fS]<;>exact rz
 rintro⟨i,hi,arM⟩;dsimp only;by_cases v1:i<f.met.fs.length
 ·have v0:(i:Int)<f.met.fs.length:=by omega
  have w0i:=wx i;obtain⟨y,hy,hy'⟩:=gx v1;rcases Classical.propComplete (x4<y.aX)with c|c
  ·simp -dsimp [v0,fS];repeat' first|omega|simp -dsimp [E7,v0,v1,hy,hy',Fc.row,c,w0i]|apply aI|apply nI|intro
  ·have hn:∀z∈f.met.fs.take (i+1),z.aX<=x4:=aAC hy arM (by have c':=of_eq_false c;exact Int.not_lt.1 c');simp -dsimp [v0,fS];repeat' first|omega|simp -dsimp [E7,v0,v1,hy,hy',Fc.row,c,w0i]|apply aI|apply nI|intro
   refine⟨i+1,ag rfl ?_,?_,⟨by omega,hn⟩,by omega⟩
   ·simp [aj,aT]
   ·(try simp -dsimp only [hpx]);refine ai ?_;simp -dsimp [aC,fS]<;>exact rz
 have v2:¬ (i:Int)<f.met.fs.length:=by omega
 have v4:i=f.met.fs.length:=by omega
 subst v4;rw [List.take_length]at arM;simp -dsimp [v2,fS];repeat' first|omega|simp -dsimp [E7,v2]|apply aI|apply nI|intro
 refine ay [73,74,75,76,77,78,81,82,83,84,85,86,87,88,89,90,91,6,79,80,10] (fun i:{i:Nat // i<=f.met.ss.length/\∀y∈f.met.ss.take i,y.pl≠x1}=>[(10,(true,.int .i64 i.1))]) (fun _=>hps [(705,{base:=1,ah:=[]}),(703,fS f)] cg) (fun i=>f.met.ss.length - i.1) ⟨0,by omega,by simp⟩ ?_ ?_ ?_
 ·simp [aj,aT]
 ·(try simp -dsimp only [hpx]);refine ai ?_;simp -dsimp [aC,fS]<;>exact rz
 rintro⟨i,hi,va⟩;dsimp only;by_cases v1:i<f.met.ss.length
 ·have v0:(i:Int)<f.met.ss.length:=by omega
  have vx:=hK.sw;have w0i:=wx i;obtain⟨y,hy,hy'⟩:=gx v1;by_cases c:y.pl=x1
  ·have d:(y.pl == x1)=true:=(by simpa using c);simp -dsimp [v0,fS];repeat' first|omega|simp -dsimp [E7,v0,v1,hy,hy',Sg.row,c,d,w0i]|apply aI|apply nI|intro
  ·have d:(y.pl == x1)=false:=(by simpa using c);have hn:∀z∈f.met.ss.take (i+1),z.pl≠x1:=aAC hy va c;simp -dsimp [v0,fS];repeat' first|omega|simp -dsimp [E7,v0,v1,hy,hy',Sg.row,c,d,w0i]|apply aI|apply nI|intro
   refine⟨i+1,ag rfl ?_,?_,⟨by omega,hn⟩,by omega⟩
   ·simp [aj,aT]
   ·(try simp -dsimp only [hpx]);refine ai ?_;simp -dsimp [aC,fS]<;>exact rz
 have v2:¬ (i:Int)<f.met.ss.length:=by omega
 have v4:i=f.met.ss.length:=by omega
 subst v4;rw [List.take_length]at va;have Aj:f.met.fs.length * 96<=140737488355328:=by omega
 have am7:(f.met.fs.length+1) * 96<=140737488355328:=by omega
 have v6:List.take 12 f.row++V.bw 793 0 (f.met.fs.length+1)::List.drop 13 f.row=gCs f (f.met.fs.length+1):=rfl;have hle:=fun h=>aAN (h:=h) (f:=f) (fs:=f.met.fs++[⟨x1,x2,x3,x4,⟨⟨c1,c2⟩,⟨c3,c4⟩,⟨c5,c6⟩,c7,c8⟩⟩]) (n:=f.met.fs.length+1) (by simp);have hfz:=fun h=>aBf (h:=h) (f:=f) (fs:=f.met.fs++[⟨x1,x2,x3,x4,⟨⟨c1,c2⟩,⟨c3,c4⟩,⟨c5,c6⟩,c7,c8⟩⟩]) (n:=f.met.fs.length+1);simp only [fcS,List.map_append,List.map_cons,List.map_nil,Fc.row]at hle hfz;obtain⟨g,hg⟩:∃g,auV f (f.met.fs++[⟨x1,x2,x3,x4,⟨⟨c1,c2⟩,⟨c3,c4⟩,⟨c5,c6⟩,c7,c8⟩⟩]) f.mn=g:=⟨_,rfl⟩
 have v5:g.met={f.met with fs:=f.met.fs++[⟨x1,x2,x3,x4,⟨⟨c1,c2⟩,⟨c3,c4⟩,⟨c5,c6⟩,c7,c8⟩⟩]}:=by rw [<-hg];rfl
 have z5:g.met.fs.length=f.met.fs.length+1:=by rw [v5];simp
 have z6:g.met.ss.length=f.met.ss.length:=by rw [v5]
 rw [hg]at hle;have vx:=hK.sw;have v7:∀(h:Hp) (b:Bool),ak 3 h (.bool b)=(True,.bool b):=fun _ _=>rfl;have z7:f.met.fs.length<=6:=by have Wo:=hL;simp only [R5,Bool.or_eq_false_iff,Bool.and_eq_false_iff,decide_eq_false_iff_not]at Wo;omega
 have v8:qQ g.met:=⟨by omega,by omega⟩
 by_cases hok:g.met.ok=true
 case neg=>
  have hE:uH g.met=40:=by simp [uH,hok]
  simp -dsimp [v2,fS];repeat' first|omega|simp -dsimp [E7,v2,Aj,am7,v6,-ak,-Wz,hle,hfz,v7,E4,v8,hE,aS,cQ]|apply aI|apply nI|intro
 have hE:uH g.met=0:=by simp [uH,hok]
 rcases Classical.propComplete (x2<0)with n1|n1
 ·simp -dsimp [v2,fS];repeat' first|omega|simp -dsimp [E7,v2,Aj,am7,v6,-ak,-Wz,hle,hfz,v7,E4,v8,hE,n1,aS,cQ]|apply aI|apply nI|intro
 rcases Classical.propComplete (2000<x3)with n2|n2
 ·simp -dsimp [v2,fS];repeat' first|omega|simp -dsimp [E7,v2,Aj,am7,v6,-ak,-Wz,hle,hfz,v7,E4,v8,hE,n1,n2,aS,cQ]|apply aI|apply nI|intro
 have n1':=of_eq_false n1;have n2':=of_eq_false n2;have Af:bQ x1 0 (g.met.n - 1)=true:=by have h:=hok;simp only [Met.ok,Bool.and_eq_true,Bool.not_eq_true']at h;have h2:=List.any_eq_false.1 h.1.2.2 ⟨x1,x2,x3,x4,⟨⟨c1,c2⟩,⟨c3,c4⟩,⟨c5,c6⟩,c7,c8⟩⟩ (by rw [v5];simp);simp only [Fc.bad,Bool.not_eq_true',Bool.not_eq_false,Bool.and_eq_true]at h2;simpa using h2.1.1.1
 have aBY:∀t:Int,0<=t->t<=2000->atB g.met x1 t=true:=fun t h1 h2=>by unfold atB;rw [Af];simp [bQ];omega
 have vy:∀t:Int,0<=t->t<=2000->aBO (g.met,x1,t):=fun t h1 h2=>⟨⟨hok,by simp only;omega,by simp only;omega,⟨h1,h2⟩⟩,aBY t h1 h2⟩
 obtain⟨n,rfl⟩:=Int.eq_ofNat_of_zero_le (Int.not_lt.1 n1');simp -dsimp [v2,fS];repeat' first|omega|simp -dsimp [E7,v2,Aj,am7,v6,-ak,-Wz,hle,hfz,v7,E4,v8,hE,n1,n2,aS,cQ]|apply aI|apply nI|intro
 refine ay [120,121,122,123,127,128,129,130,131,132,126,133,134,13,14,135,136,137,6,15,138,139,140,141,144,145,146,147,148,149,150,151,152,153,142,143,124,125,12] (fun t:{t:Nat // t<=3000+n/\n<=t/\∀u:Int,(n:Int)<=u->u<t->f.met.fs.length ∉ (Al g.met x1 u).2}=>[(12,(true,.int .i64 t.1))]) (fun _=>hps [(711,{base:=1,ah:=[]}),(793,{base:=1,ah:=[]}),(705,{base:=1,ah:=[]}),(703,fS f)] cg) (fun t=>3001+n - t.1) ⟨n,by omega,by omega,fun u h1 h2=>by omega⟩ ?_ ?_ ?_
 ·simp [aj,aT]
 ·(try simp -dsimp only [hpx]);refine ai ?_;simp -dsimp [aC,fS]<;>exact rz
 rintro⟨t,ht,z8,vb⟩;dsimp only;by_cases v9:(t:Int)<x3
 ·have wt:=wx t;have vP:=vy t (by omega) (by omega);have vs:(f.met.fs.length:Int) ∉ Rk g.met x1 t->f.met.fs.length ∉ (Al g.met x1 t).2:=fun h h2=>h (by unfold Rk;rw [aBg];exact List.mem_map_of_mem h2)
  have z9:(Rk g.met x1 t).length<=20:=by have h1:(Al g.met x1 t).2.length<=(je g.met x1 t g.met.fs.length).length:=pG _ _ _;have h2:=tn g.met x1 t g.met.fs.length;rw [je,jV]at h1;rw [Rk,awK,List.length_map];omega
  generalize vV:Rk g.met x1 t=S at *;simp -dsimp [v9,fS];repeat' first|omega|simp -dsimp [E7,v9,tj,vP,vV,aS,cQ]|apply aI|apply nI|intro
  refine ay [138,139,140,141,144,145,146,147,148,149,150,151,152,153,6,142,143,15] (fun i:{i:Nat // i<=S.length/\∀y∈S.take i,y≠(f.met.fs.length:Int)}=>[(15,(true,.int .i64 i.1))]) (fun _=>hps [(711,{base:=1,ah:=[]}),(793,{base:=1,ah:=[]}),(705,{base:=1,ah:=[]}),(703,fS f)] cg) (fun i=>S.length - i.1) ⟨0,by omega,by simp⟩ ?_ ?_ ?_
  ·simp [aj,aT]
  ·(try simp -dsimp only [hpx]);refine ai ?_;simp -dsimp [aC,fS]<;>exact rz
  rintro⟨i,hi,vd⟩;dsimp only;by_cases v1:i<S.length
  ·have v0:(i:Int)<S.length:=(by omega);have w0i:=wx i;obtain⟨y,hy,hy'⟩:=gx v1;by_cases c:y=(f.met.fs.length:Int)
   ·have d:(y == (f.met.fs.length:Int))=true:=(by simpa using c);simp -dsimp [v0,fS];repeat' first|omega|simp -dsimp [E7,v0,v1,hy,hy',ri,c,d,w0i]|apply aI|apply nI|intro
   ·have d:(y == (f.met.fs.length:Int))=false:=(by simpa using c);have hn:=aAC (P:=fun y=>y≠(f.met.fs.length:Int)) hy vd c;simp -dsimp [v0,fS];repeat' first|omega|simp -dsimp [E7,v0,v1,hy,hy',ri,c,d,w0i]|apply aI|apply nI|intro
    refine⟨i+1,ag rfl ?_,?_,⟨by omega,hn⟩,by omega⟩
    ·simp [aj,aT]
    ·(try simp -dsimp only [hpx]);refine ai ?_;simp -dsimp [aC,fS]<;>exact rz
  have v0:¬ (i:Int)<S.length:=by omega
  have v4:i=S.length:=by omega
  subst v4;rw [List.take_length]at vd;have vW:=vs fun h=>vd _ h rfl;simp -dsimp [v0,fS];repeat' first|omega|simp -dsimp [E7,v0,wt]|apply aI|apply nI|intro
  refine⟨t+1,?_,?_,⟨by omega,by omega,fun u h1 h2=>?_⟩,by omega⟩
  ·refine cq (aN rfl (br rfl (aN rfl bO))) ?_;simp [aj,aT]
  ·(try simp -dsimp only [hpx]);refine ai ?_;simp -dsimp [aC,fS]<;>exact rz
  ·by_cases e:u=t
   ·rw [e];exact vW
   ·exact vb u h1 (by omega)
 have vX:=aA5 (m:=f.met) (x:=⟨(n:Int),n,x3,x4,⟨⟨c1,c2⟩,⟨c3,c4⟩,⟨c5,c6⟩,c7,c8⟩⟩) (mn:=f.mn);have z0:Good g false l:=by
  rw [<-hg];refine hG.auV fun p t h=>?_;refine aA5 (m:=f.met) arM va (fun u h1 h2=>?_) p t h;have:=vb u h1 (by simp only at h2;omega)
  rwa [v5]at this
 have vr:Cw g:=⟨by rw [<-hg];refine hf.auV ?_ hf.mn;rw [<-v5];exact hok,by omega,by omega⟩
 have hN:NpP (f,l):=⟨hK,by simp only;omega⟩
 have z1:NpP (g,l):=⟨vr,by simp only;omega⟩
 have z2:=aAF hf hG;have z3:=aAF vr.ok z0;have hv:V1 g l=V1 f l:=by rw [<-hg];exact avl f _ _ l
 have ry:l.length * 32<=140737488355328:=by omega
 clear vX;simp -dsimp [v9,fS];repeat' first|omega|simp -dsimp [E7,v9,gO,hN,z1,z2,z3,hv,ry,aS,cQ]|apply aI|apply nI|intro
theorem ok7:FO 7 ayn:=pf b7 (.cons agV (.cons an2 (.cons y9.adf (.cons apQ (.cons AE (.cons ajh (.cons W9 (.cons anw .nil))))))))
end Fog
end Go.Sx
end
