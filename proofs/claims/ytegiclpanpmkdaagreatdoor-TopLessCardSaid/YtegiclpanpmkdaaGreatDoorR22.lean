/- A part of a proof; no conditions. -/
import Derived.Test.YtegiclpanpmkdaaGreatDoorR21
set_option linter.all false
set_option maxRecDepth 100000
set_option maxHeartbeats 8000000
noncomputable section
section
namespace Go.Sx
open Go.Proofs
attribute [local simp] ri aa ints
attribute [local irreducible] bA
theorem acp{s i n e j:Nat}{h:Hp}{k:cR}{b1 b2 b3:Nat}(ha:s=7306/\i=0/\n=1/\e=0/\j=0)(h0:h 7306=kU k)(h1:h 19103={base:=b1,ah:=[]})(h2:h 19105={base:=b2,ah:=[]})(h3:h 13603={base:=b3,ah:=[]}):C3P s i n e j h:=
 ⟨ha,by rw [h0,xl],by
  intro q hq;simp only [List.mem_cons,List.not_mem_nil,or_false]at hq;rcases hq with rfl|rfl|rfl
  ·rw [h1]
  ·rw [h2]
  ·rw [h3]⟩
abbrev sk8(a b c d u v:Int)(x y:Bool):Site:={base:=0,ah:=[{z:=8,els:=[[.int .i64 a,.int .i64 b,.int .i64 c,.int .i64 d,.int .i64 u,.int .i64 v,.bool x,.bool y]],ty:=147}]}
theorem tg(a b c d u v:Int)(x y:Bool):nF (sk8 a b c d u v x y)=⟨⟨a,b⟩,⟨c,d⟩,⟨u,v⟩,x,y⟩:=xl ⟨⟨a,b⟩,⟨c,d⟩,⟨u,v⟩,x,y⟩
theorem fo{s i n e j:Nat}{h:Hp}{a b c d u v:Int}{x y:Bool}{b1 b2 b3:Nat}(ha:s=7306/\i=0/\n=1/\e=0/\j=0)(h0:h 7306=sk8 a b c d u v x y)(h1:h 19103={base:=b1,ah:=[]})(h2:h 19105={base:=b2,ah:=[]})(h3:h 13603={base:=b3,ah:=[]}):C3P s i n e j h:=
 acp (k:=⟨⟨a,b⟩,⟨c,d⟩,⟨u,v⟩,x,y⟩) ha h0 h1 h2 h3
theorem mh(k b:cR):(pz k b).1=⟨(eM k.w b.w).1,(eM k.s b.s).1,(eM k.c b.c).1,k.pE && b.pE,k.pF && b.pF⟩:=rfl
structure amz (m:Met):Prop where
 w:0<=m.w/\m.w<=20000
 s:0<=m.s/\m.s<=20000
 c:0<=m.c/\m.c<=20000
 f:∀x∈m.fs,0<=x.a/\x.a<x.b/\x.b<=2000
 g:∀x∈m.ss,(0<=x.at'/\x.at'<=2000)/\(0<=x.k.w/\x.k.w<=300)/\(0<=x.k.s/\x.k.s<=20000)/\0<=x.k.c/\x.k.c<=20000
theorem Be{m:Met}(h:m.ok=true):amz m:=by
 simp only [Met.ok,Bool.and_eq_true,bQ,decide_eq_true_eq,Bool.not_eq_true',List.any_eq_false]at h;obtain⟨⟨⟨⟨⟨⟨_,_⟩,h1⟩,h2⟩,h3⟩,_,h4⟩,_,h5⟩:=h;refine⟨h1,h2,h3,fun x hx=>?_,fun x hx=>?_⟩
 ·have:=h4 x hx;simp [Fc.bad,bQ]at this;omega
 ·have:=h5 x hx;simp [Sg.bad,bQ,Wt.ok]at this;omega
structure EC (d:Met × Int × Int):Prop where
 ok:d.1.ok=true
 f:d.1.fs.length<20
 s:d.1.ss.length<20
 t:0<=d.2.2/\d.2.2<=2000
@[simp] def Xn(d:Met × Int × Int):List V:=[.agg d.1.row,.int .i64 d.2.1,.int .i64 d.2.2]
theorem Xo(a b:Met × Int × Int)(h:Xn a=Xn b):a=b:=by obtain⟨a1,a2,a3⟩:=a;obtain⟨b1,b2,b3⟩:=b;simp only [Xn,List.cons.injEq,V.agg.injEq,V.int.injEq,true_and,and_true]at h;rw [Met.aq _ _ h.1,h.2.1,h.2.2]
theorem tj(m:Met)(p t:Int):aY Xn [.agg m.row,.int .i64 p,.int .i64 t]=(m,p,t):=aA Xo (m,p,t)
def Rk(m:Met)(p t:Int):List Int:=CI ((Al m p t).2.map fun k:Nat=>(k:Int))
noncomputable abbrev myS:aB:=bS Xn EC fun d=>.dB [.agg (ED d.1 d.2.1 d.2.2).row,ints (Rk d.1 d.2.1 d.2.2)]
def mS(m:Met):Site:={base:=0,ah:=[{z:=14,els:=[m.row],ty:=29,fz:=true}]}
theorem ahI(l:List Nat):l.map nR=(l.map fun k:Nat=>(k:Int)).map ri:=by rw [List.map_map];rfl
theorem pG(m:Met)(l:List Nat):∀k,(fq m l k).2.length<=k
 | 0=>by simp [fq]
 | k+1=>by have:=pG m l k;simp only [fq,List.length_append];split<;>simp<;>omega
theorem Ko{key:Nat->Int}{l:List Nat}{n:Nat}(h:∀x∈l,x<n):∀x∈fT key l,x<n:=fun x hx=>h x (mQ.1 hx)
noncomputable abbrev E73:=EV [(61,.pure rgS),(133,.heap s2S),(136,.heap Bf),(138,.pure MT),(139,.heap rq)] [] 7300 174 [(1,[3,50003])]
theorem b73:af E73 [(16,([],[[0,1,2,3,4,5,6,7,8,9,10,11,12,13,14,15,16,17,18,19],[0,1,2,3,4,5,6,7,8,9,10,11,14,15,16,12,13,17,18,19]])),(32,([],[[0,1,2,3,4,5,6,7,8,9,10,11],[0,1,2,3,4,6,7,8,5,9,10,11]]))] Tryz.f73 myS:=pb <| by
 rintro⟨m,p,t⟩ ⟨hok,hf,hs,ht⟩;simp only at hok hf hs ht;have hF:=Be hok;simp -dsimp [Tryz.f73,E73];repeat' first|omega|(exact fo (by simp) rfl rfl rfl rfl)|simp -dsimp [E73,cR.row]|apply aI|apply nI|intro
 refine dA [(8,7348,1,3)] rfl (by simp) [28,29,30,31,11,10,32,33,34,35,36,37,38,39,40,41,42,43,44,45,46,47,48,8,49,27] (fun k:{k:Nat // k<=m.fs.length}=>[(27,(true,.int .i64 k.1)),(8,(true,.bw 7348 0 (lW m p t k.1).length))]) (fun k=>hps [(7311,{base:=k.1,ah:=[]}),(7348,{base:=0,ah:=[dP (lW m p t k.1)]}),(7306,kU m.any),(7303,mS m)] cg) (fun k=>m.fs.length - k.1) ⟨0,by omega⟩ ?_ ?_ ?_
 ·simp [aj,aT,lW]
 ·(try simp -dsimp only [hpx]);refine ai ?_;simp -dsimp [aC,dP,lW,kU,mS,cR.row]<;>exact rz
 rintro⟨k,hk⟩;dsimp only;by_cases aH:k<m.fs.length
 ·have v0:(k:Int)<m.fs.length:=by omega
  have wk:=wx k;obtain⟨x,hx,hx'⟩:=gx aH;have z9:=hF.f x (hx' ▸ List.getElem_mem aH);have wb:=wi (x.b - 1);have lC:lD m k=x:=by simp [lD,List.getD,hx]
  have P7:Am m p t k=(decide (x.pl=p) && bQ t x.a (x.b - 1)):=by unfold Am bQ;rw [lC,Bool.eq_iff_iff];simp;omega
  have hS:=Bg m p t k;have cZ:=tn m p t k;have h8:((lW m p t k).length+1) * 8<=140737488355328:=by omega
  rw [P7]at hS;by_cases hp:x.pl=p
  ·cases hr:bQ t x.a (x.b - 1)
   ·rw [hr,Bool.and_false,if_neg (by simp),List.append_nil]at hS;simp -dsimp [v0];repeat' first|omega|(exact fo (by simp) rfl rfl rfl rfl)|simp -dsimp [E73,v0,aH,hx,hx',Fc.row,wb,wk,hp,hr]|apply aI|apply nI|intro
    refine⟨k+1,ag rfl ?_,?_,by omega,by omega⟩
    ·simp [aj,aT,hS]
    ·rw [hS];(try simp -dsimp only [hpx]);refine ai ?_;simp -dsimp [aC]<;>exact rz
   ·rw [hr,Bool.and_true,decide_eq_true hp,if_pos rfl]at hS;simp -dsimp [v0];repeat' first|omega|(exact fo (by simp) rfl rfl rfl rfl)|simp -dsimp [E73,v0,aH,hx,hx',Fc.row,wb,wk,hp,hr,dP,h8]|apply aI|apply nI|intro
    refine⟨k+1,ag rfl ?_,?_,by omega,by omega⟩
    ·simp [aj,aT,hS]
    ·rw [hS];(try simp -dsimp only [hpx]);refine ai ?_;simp -dsimp [aC,dP,nR]<;>exact rz
  ·have hp':(x.pl=p)=False:=eq_false hp;rw [decide_eq_false hp,Bool.false_and,if_neg (by simp),List.append_nil]at hS;simp -dsimp [v0];repeat' first|omega|(exact fo (by simp) rfl rfl rfl rfl)|simp -dsimp [E73,v0,aH,hx,hx',Fc.row,wb,wk,hp']|apply aI|apply nI|intro
   refine⟨k+1,ag rfl ?_,?_,by omega,by omega⟩
   ·simp [aj,aT,hS]
   ·rw [hS];(try simp -dsimp only [hpx]);refine ai ?_;simp -dsimp [aC]<;>exact rz
 have v2:¬ (k:Int)<m.fs.length:=by omega
 have v3:k=m.fs.length:=by omega
 subst v3;clear hk aH;have v9:∀x∈lW m p t m.fs.length,x<m.fs.length:=fun x hx=>(CJ hx).1;have za:=tn m p t m.fs.length;have vV:(je m p t m.fs.length).length=(lW m p t m.fs.length).length:=jV _ _;have vW:∀x∈je m p t m.fs.length,x<m.fs.length:=Ko v9;have vX:je m p t m.fs.length=fT (lX.fc m).key (lW m p t m.fs.length):=rfl;have va:Al m p t=fq m (je m p t m.fs.length) (je m p t m.fs.length).length:=rfl;generalize je m p t m.fs.length=K at *;generalize lW m p t m.fs.length=L at *;have GR:∀s i,Wj ⟨s,i,L,.fc m⟩:=fun _ _=>⟨by simp only;omega,v9⟩
 have vb:∀h,aL h 7348 0=some (dP L)->s2S.go [.bw 7348 0 L.length,.fn 134 [.ip 14 [m.row] 0 0]] h=⟨Wj ⟨7348,0,L,.fc m⟩,.dB [],bE h 7348 0 (dP K)⟩:=fun h hB=>by rw [vX];exact abg (c:=.fc m) hB
 simp -dsimp [v2];repeat' first|omega|(exact fo (by simp) rfl rfl rfl rfl)|simp -dsimp [E73,v2,vb,GR]|apply aI|apply nI|intro
 refine dA [(7,7370,1,3)] rfl (by simp) [56,57,58,13,59,60,61,62,63,64,14,65,66,67,68,69,70,7,71,72,73,74,75,76,77,78,79,80,81,82,83,84,85,86,87,88,89,55] (fun k:{k:Nat // k<=K.length}=>[(55,(true,.int .i64 k.1)),(7,(true,.bw 7370 0 (fq m K k.1).2.length))]) (fun k=>hps [(7314,{base:=k.1,ah:=[]}),(19103,{base:=3 * k.1,ah:=[]}),(19105,{base:=3 * k.1,ah:=[]}),(13603,{base:=k.1,ah:=[]}),(7370,{base:=0,ah:=[dP (fq m K k.1).2]}),(7306,kU (fq m K k.1).1),(7311,{base:=m.fs.length,ah:=[]}),(7348,{base:=0,ah:=[dP K]}),(7303,mS m)] cg) (fun k=>K.length - k.1) ⟨0,by omega⟩ ?_ ?_ ?_
 ·simp [aj,aT,fq,vV]
 ·(try simp -dsimp only [hpx]);refine ai ?_;simp -dsimp [aC,dP,fq]<;>exact rz
 rintro⟨k,hk⟩;dsimp only;by_cases aH:k<K.length
 ·have v0:(k:Int)<K.length:=by omega
  have wk:=wx k;obtain⟨q,hq,EE⟩:=gx aH;have EF:q<m.fs.length:=vW q (EE ▸ List.getElem_mem aH);have v4:(q:Int)<m.fs.length:=by omega
  obtain⟨x,hx,hx'⟩:=gx EF;have lC:lD m q=x:=by simp [lD,List.getD,hx]
  have v1:(fq m K (k+1)).1=(pz (fq m K k).1 x.k).1:=by simp [fq,List.getD,hq,lC]
  have HB:(fq m K (k+1)).2=(fq m K k).2++if (pz (fq m K k).1 x.k).2=true then [q]else []:=by simp [fq,List.getD,hq,lC]
  have zd:=pG m K k;have h8:((fq m K k).2.length+1) * 8<=140737488355328:=by omega
  generalize (fq m K k).1=Kp at *;generalize (fq m K k).2=Sp0 at *;obtain⟨⟨w1,w2⟩,⟨s1,s2⟩,⟨c1,c2⟩,ic,st⟩:=Kp;obtain⟨x1,x2,x3,x4,⟨⟨y1,y2⟩,⟨y3,y4⟩,⟨y5,y6⟩,yi,ys⟩⟩:=x;simp only at v1 HB;rw [mh]at v1;cases hc:(pz ⟨⟨w1,w2⟩,⟨s1,s2⟩,⟨c1,c2⟩,ic,st⟩ ⟨⟨y1,y2⟩,⟨y3,y4⟩,⟨y5,y6⟩,yi,ys⟩).2
  ·rw [hc,if_neg (by simp),List.append_nil]at HB;cases ic<;>cases st
   all_goals
    simp -dsimp [v0,kU,cR.row];repeat' first|omega|(exact fo (by simp) rfl rfl rfl rfl)|simp -dsimp [E73,v0,aH,hq,EE,EF,v4,hx,hx',Fc.row,dP,nR,kU,cR.row,tq,tg,bm,hc,mh,wk]|apply aI|apply nI|intro
    all_goals
     refine⟨k+1,ag rfl ?_,?_,by omega,by omega⟩
     ·simp [aj,aT,HB]
     ·rw [v1,HB];simp -dsimp only [aG,List.cons_append,List.nil_append];exact(by(try simp -dsimp only [hpx]);refine ai ?_;simp -dsimp [aC,dP,nR,kU,cR.row]<;>exact rz)
  ·rw [hc,if_pos rfl]at HB;cases ic<;>cases st
   all_goals
    simp -dsimp [v0,kU,cR.row];repeat' first|omega|(exact fo (by simp) rfl rfl rfl rfl)|simp -dsimp [E73,v0,aH,hq,EE,EF,v4,hx,hx',Fc.row,dP,nR,kU,cR.row,tq,tg,bm,hc,mh,wk,h8]|apply aI|apply nI|intro
    all_goals
     refine⟨k+1,ag rfl ?_,?_,by omega,by omega⟩
     ·simp [aj,aT,HB]
     ·rw [v1,HB];simp -dsimp only [aG,List.cons_append,List.nil_append];exact(by(try simp -dsimp only [hpx]);refine ai ?_;simp -dsimp [aC,dP,nR,kU,cR.row]<;>exact rz)
 have v2:¬ (k:Int)<K.length:=by omega
 have v3:k=K.length:=by omega
 subst v3;rw [<-va];clear hk aH;have z0:(Al m p t).2.length<=K.length:=by rw [va];exact pG m K _
 generalize vd:Al m p t=MF at *;obtain⟨k0,Ss⟩:=MF;simp only at z0;simp -dsimp [v2];repeat' first|omega|(exact fo (by simp) rfl rfl rfl rfl)|simp -dsimp [E73,v2]|apply aI|apply nI|intro
 refine dA [(9,7411,1,3)] rfl (by simp) [94,95,96,97,16,15,98,99,100,101,102,103,104,105,106,107,108,109,110,111,9,112,93] (fun k:{k:Nat // k<=m.ss.length}=>[(93,(true,.int .i64 k.1)),(9,(true,.bw 7411 0 (seen m p t k.1).length))]) (fun k=>hps [(7316,{base:=k.1,ah:=[]}),(7411,{base:=0,ah:=[dP (seen m p t k.1)]}),(7314,{base:=K.length,ah:=[]}),(19103,{base:=3 * K.length,ah:=[]}),(19105,{base:=3 * K.length,ah:=[]}),(13603,{base:=K.length,ah:=[]}),(7370,{base:=0,ah:=[dP Ss]}),(7306,kU k0),(7311,{base:=m.fs.length,ah:=[]}),(7348,{base:=0,ah:=[dP K]}),(7303,mS m)] cg) (fun k=>m.ss.length - k.1) ⟨0,by omega⟩ ?_ ?_ ?_
 ·simp [aj,aT,seen]
 ·(try simp -dsimp only [hpx]);refine ai ?_;simp -dsimp [aC,dP,seen]<;>exact rz
 rintro⟨k,hk⟩;dsimp only;by_cases aH:k<m.ss.length
 ·have v0:(k:Int)<m.ss.length:=by omega
  have wk:=wx k;obtain⟨x,hx,hx'⟩:=gx aH;have lC:lE m k=x:=by simp [lE,List.getD,hx]
  have hS:=aAL m p t k;have cZ:=tr m p t k;have h8:((seen m p t k).length+1) * 8<=140737488355328:=by omega
  have P7:wL m p t k=(decide (x.pl=p) && decide (x.at'<=t)):=by unfold wL;rw [lC,Bool.eq_iff_iff];simp
  rw [P7]at hS;by_cases hp:x.pl=p
  ·by_cases hr:x.at'<=t
   ·have hr':(x.at'<=t)=True:=eq_true hr;rw [decide_eq_true hp,decide_eq_true hr,Bool.and_true,if_pos rfl]at hS;simp -dsimp [v0];repeat' first|omega|(exact fo (by simp) rfl rfl rfl rfl)|simp -dsimp [E73,v0,aH,hx,hx',Sg.row,wk,hp,hr',dP,h8]|apply aI|apply nI|intro
    refine⟨k+1,ag rfl ?_,?_,by omega,by omega⟩
    ·simp [aj,aT,hS]
    ·rw [hS];(try simp -dsimp only [hpx]);refine ai ?_;simp -dsimp [aC,dP,nR]<;>exact rz
   ·have hr':(x.at'<=t)=False:=eq_false hr;rw [decide_eq_true hp,decide_eq_false hr,Bool.and_false,if_neg (by simp),List.append_nil]at hS;simp -dsimp [v0];repeat' first|omega|(exact fo (by simp) rfl rfl rfl rfl)|simp -dsimp [E73,v0,aH,hx,hx',Sg.row,wk,hp,hr']|apply aI|apply nI|intro
    refine⟨k+1,ag rfl ?_,?_,by omega,by omega⟩
    ·simp [aj,aT,hS]
    ·rw [hS];(try simp -dsimp only [hpx]);refine ai ?_;simp -dsimp [aC]<;>exact rz
  ·have hp':(x.pl=p)=False:=eq_false hp;rw [decide_eq_false hp,Bool.false_and,if_neg (by simp),List.append_nil]at hS;simp -dsimp [v0];repeat' first|omega|(exact fo (by simp) rfl rfl rfl rfl)|simp -dsimp [E73,v0,aH,hx,hx',Sg.row,wk,hp']|apply aI|apply nI|intro
   refine⟨k+1,ag rfl ?_,?_,by omega,by omega⟩
   ·simp [aj,aT,hS]
   ·rw [hS];(try simp -dsimp only [hpx]);refine ai ?_;simp -dsimp [aC]<;>exact rz
 have v2:¬ (k:Int)<m.ss.length:=by omega
 have v3:k=m.ss.length:=by omega
 subst v3;clear hk aH vb GR;have z1:jf m p t m.ss.length=fT (lX.sg m).key (seen m p t m.ss.length):=rfl;have amB:∀x∈seen m p t m.ss.length,x<m.ss.length:=fun x hx=>(xo hx).1;have z2:∀x∈jf m p t m.ss.length,x<m.ss.length/\(lE m x).at'<=t:=fun x hx=>by have:=xo (mQ.1 hx);simp only [wL,decide_eq_true_eq]at this;exact⟨this.1,this.2.2⟩
 have zo:(jf m p t m.ss.length).length=(seen m p t m.ss.length).length:=jV _ _;have amC:=tr m p t m.ss.length;have z3:ED m p t=qR m t (jf m p t m.ss.length) k0 (jf m p t m.ss.length).length:=by rw [ED,vd]
 have vr:Rk m p t=CI (Ss.map fun k:Nat=>(k:Int)):=by rw [Rk,vd]
 generalize jf m p t m.ss.length=G at *;generalize seen m p t m.ss.length=L2 at *;have z4:∀s i,Wj ⟨s,i,L2,.sg m⟩:=fun _ _=>⟨by simp only;omega,amB⟩
 have Wl:∀h,aL h 7411 0=some (dP L2)->s2S.go [.bw 7411 0 L2.length,.fn 137 [.ip 14 [m.row] 0 0]] h=⟨Wj ⟨7411,0,L2,.sg m⟩,.dB [],bE h 7411 0 (dP G)⟩:=fun h hB=>by rw [z1];exact abg (c:=.sg m) hB
 have z5:∀h,aL h 7370 0=some (dP Ss)->rq.go [.bw 7370 0 Ss.length] h=⟨True,.dB [],bE h 7370 0 {z:=1,els:=(Rk m p t).map ri,ty:=3}⟩:=fun h hB=>by
  have e:dP Ss={z:=1,els:=(Ss.map fun k:Nat=>(k:Int)).map ri,ty:=3,cl:=true}:=by rw [dP,ahI]
  rw [e]at hB;have:=Xp hB (by rw [List.length_map];omega);rw [List.length_map]at this;rw [vr];exact this
 simp -dsimp [v2];repeat' first|omega|(exact fo (by simp) rfl rfl rfl rfl)|simp -dsimp [E73,v2,Wl,z4]|apply aI|apply nI|intro
 refine ay [119,120,121,18,122,123,124,125,126,19,127,128,129,130,20,131,132,133,134,135,136,137,138,139,140,141,142,143,144,145,146,147,148,149,150,151,152,153,154,155,156,157,158,159,160,161,162,163,164,165,166,167,168,169,118] (fun k:{k:Nat // k<=G.length}=>[(118,(true,.int .i64 k.1))]) (fun k=>hps [(7319,{base:=k.1,ah:=[]}),(19103,{base:=3 * K.length+3 * k.1,ah:=[]}),(19105,{base:=3 * K.length+3 * k.1,ah:=[]}),(13603,{base:=K.length+k.1,ah:=[]}),(7306,kU (qR m t G k0 k.1)),(7316,{base:=m.ss.length,ah:=[]}),(7411,{base:=0,ah:=[dP G]}),(7314,{base:=K.length,ah:=[]}),(7370,{base:=0,ah:=[dP Ss]}),(7311,{base:=m.fs.length,ah:=[]}),(7348,{base:=0,ah:=[dP K]}),(7303,mS m)] cg) (fun k=>G.length - k.1) ⟨0,by omega⟩ ?_ ?_ ?_
 ·simp [aj,aT]
 ·(try simp -dsimp only [hpx]);refine ai ?_;simp -dsimp [aC,dP,qR]<;>exact rz
 rintro⟨k,hk⟩;dsimp only;by_cases aH:k<G.length
 ·have v0:(k:Int)<G.length:=by omega
  have wk:=wx k;obtain⟨q,hq,EE⟩:=gx aH;obtain⟨EF,z6⟩:=z2 q (EE ▸ List.getElem_mem aH);have v4:(q:Int)<m.ss.length:=by omega
  obtain⟨x,hx,hx'⟩:=gx EF;have lC:lE m q=x:=by simp [lE,List.getD,hx]
  rw [lC]at z6;have v1:qR m t G k0 (k+1)=EG m t (qR m t G k0 k) x:=by simp [qR,List.getD,hq,lC]
  obtain⟨Rl,vs,vx,vy⟩:=hF.g x (hx' ▸ List.getElem_mem EF);obtain⟨OY,z7,z8⟩:=And.intro hF.w (And.intro hF.s hF.c);have v5:0<=t - x.at'/\t - x.at'<=2000:=by omega
  unfold EG at v1;obtain⟨n,v6⟩:∃n,t - x.at'=n:=⟨_,rfl⟩
  rw [v6]at v1 v5;have w0:IntKind.wrap .i64 (t - x.at')=n:=by rw [aK (by omega) (by omega),v6]
  have Xq:∀c:Int,0<=c/\c<=20000->0<=n * c/\n * c<=40000000:=fun c hc=>⟨Int.mul_nonneg v5.1 hc.1,by have:=Int.mul_le_mul v5.2 hc.2 hc.1 (by omega:(0:Int)<=2000);omega⟩
  have p1:=Xq _ OY;have p2:=Xq _ z7;have p3:=Xq _ z8;clear Xq;obtain⟨n1,MR⟩:∃n1,n * m.w=n1:=⟨_,rfl⟩
  obtain⟨n2,v7⟩:∃n2,n * m.s=n2:=⟨_,rfl⟩
  obtain⟨n3,v8⟩:∃n3,n * m.c=n3:=⟨_,rfl⟩
  rw [MR]at v1 p1;rw [v7]at v1 p2;rw [v8]at v1 p3;have w1:IntKind.wrap .i64 (n * m.w)=n1:=by rw [MR];exact aK (by omega) (by omega)
  have w2:IntKind.wrap .i64 (n * m.s)=n2:=by rw [v7];exact aK (by omega) (by omega)
  have w3:IntKind.wrap .i64 (n * m.c)=n3:=by rw [v8];exact aK (by omega) (by omega)
  clear MR v7 v8 v6;generalize yB:Kq x.k.w n1 300=A1 at *;generalize Wm:Kq x.k.s n2 20000=A2 at *;generalize vP:Kq x.k.c n3 20000=A3 at *;obtain⟨a1,b1⟩:=A1;obtain⟨a2,b2⟩:=A2;obtain⟨a3,b3⟩:=A3;generalize zp:qR m t G k0 k=Kp at *;obtain⟨⟨w1',w2'⟩,⟨s1,s2⟩,⟨c1,c2⟩,ic,st⟩:=Kp;simp only at v1;by_cases hn:n=0
  ·rw [if_pos hn,if_pos hn]at v1;have hn':(n=0)=True:=eq_true hn;simp -dsimp [v0,kU,cR.row];repeat' first|omega|(exact fo (by simp) rfl rfl rfl rfl)|simp -dsimp [E73,v0,aH,hq,EE,EF,v4,hx,hx',Sg.row,Sp.row,dP,nR,kU,cR.row,tq,tg,bm,mh,wk,w0,w1,w2,w3,yB,Wm,vP,hn',vs,vx,vy,p1,p2,p3]|apply aI|apply nI|intro
   all_goals
    refine⟨k+1,ag rfl ?_,?_,by omega,by omega⟩
    ·simp [aj,aT]
    ·rw [v1];simp -dsimp only [aG,List.cons_append,List.nil_append];exact(by(try simp -dsimp only [hpx]);refine ai ?_;simp -dsimp [aC,dP,nR,kU,cR.row]<;>exact rz)
  ·rw [if_neg hn,if_neg hn]at v1;have hn':(n=0)=False:=eq_false hn;simp -dsimp [v0,kU,cR.row];repeat' first|omega|(exact fo (by simp) rfl rfl rfl rfl)|simp -dsimp [E73,v0,aH,hq,EE,EF,v4,hx,hx',Sg.row,Sp.row,dP,nR,kU,cR.row,tq,tg,bm,mh,wk,w0,w1,w2,w3,yB,Wm,vP,hn',vs,vx,vy,p1,p2,p3]|apply aI|apply nI|intro
   all_goals
    refine⟨k+1,ag rfl ?_,?_,by omega,by omega⟩
    ·simp [aj,aT]
    ·rw [v1];simp -dsimp only [aG,List.cons_append,List.nil_append];exact(by(try simp -dsimp only [hpx]);refine ai ?_;simp -dsimp [aC,dP,nR,kU,cR.row]<;>exact rz)
 have v2:¬ (k:Int)<G.length:=by omega
 have v3:k=G.length:=by omega
 subst v3;rw [<-z3];have amD:(Rk m p t).length=Ss.length:=by rw [vr,awK,List.length_map]
 simp -dsimp [v2,kU,cR.row];repeat' first|omega|(exact fo (by simp) rfl rfl rfl rfl)|simp -dsimp [E73,v2,z5,amD,kU,cR.row]|apply aI|apply nI|intro
theorem alk:FO 73 myS:=pf b73 (.cons W8 (.cons ya (.cons abN (.cons aza (.cons azb .nil)))))
structure OpP (d:Met × Mn × Int × Int):Prop where
 my:EC (d.1,d.2.2.1,d.2.2.2)
 ok:d.2.1.ok=true
 at':atB d.1 d.2.2.1 d.2.2.2=true
theorem Kr(k:cR)(l:Mn):MU (EH k) l=ahO k l:=rfl
noncomputable abbrev MV:aB:=bS moE (fun d=>EC (d.1,d.2.2.1,d.2.2.2)) fun d=>.bool (EI d.1 d.2.1 d.2.2.1 d.2.2.2)
noncomputable abbrev YM:=EV [(73,.pure myS),(96,.pure wsS),(95,.pure MW)] [] 4100 22
theorem b41:af YM [] Tryz.f41 MV:=pb <| by rintro⟨m,l,p,t⟩ hP;have hP:EC (m,p,t):=hP;have e:MU (EH (ED m p t)) l=EI m l p t:=Kr _ _;simp -dsimp [Tryz.f41,YM,Wt.row];repeat' first|omega|simp -dsimp [YM,Wt.row,cR.row,tj,hP,dH,EJ,e]|apply aI|apply nI|intro
theorem aiQ:FO 41 MV:=pf b41 (.cons alk (.cons auB (.cons aut .nil)))
noncomputable abbrev OpS:aB:=bS moE OpP fun d=>.dB [.bool (EI d.1 d.2.1 d.2.2.1 d.2.2.2),.int .i64 0]
theorem EC.met{d:Met × Int × Int}(h:EC d):qQ d.1:=⟨by have:=h.f;omega,by have:=h.s;omega⟩
noncomputable abbrev E16:=EV [(40,.pure coS),(41,.pure MV)] [] 1600 24
theorem b16:af E16 [] Tryz.f16 OpS:=pb <| by
 rintro⟨m,l,p,t⟩ ⟨h1,h2,h3⟩;simp only at h1 h2 h3;have hM:=h1.met;simp only at hM;have hE:uS m l p t=0:=by
  have pI:m.ok=true:=h1.ok;have:uz m l=0:=by simp [uz,pI,h2]
  simp [uS,this,h3]
 simp -dsimp [Tryz.f16,E16,Wt.row];repeat' first|omega|simp -dsimp [E16,Wt.row,Ks,hM,hE,h1]|apply aI|apply nI|intro
theorem aiG:FO 16 OpS:=pf b16 (.cons xO (.cons aiQ .nil))
end Go.Sx
end
end
