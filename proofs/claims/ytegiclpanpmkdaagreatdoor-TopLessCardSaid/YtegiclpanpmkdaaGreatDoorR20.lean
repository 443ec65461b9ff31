/- A part of a proof; no conditions. -/
import Derived.Test.YtegiclpanpmkdaaGreatDoorR12
import Derived.Test.YtegiclpanpmkdaaGreatDoorR18
import Derived.Test.YtegiclpanpmkdaaGreatDoorR13
set_option linter.all false
set_option maxRecDepth 100000
set_option maxHeartbeats 8000000
noncomputable section
section
namespace Go.Sx
open Go.Proofs
attribute [local simp] ri aa ints
attribute [local irreducible] bA
def BU(n:Nat)(R:T2):Prop:=R.length=2 * n/\∀r∈R,r.length=n
theorem BU.of{n:Nat}{L T:T2}(hL:Sq n L)(hT:Sq n T):BU n (L++T):=by
 refine⟨by rw [List.length_append,hL.1,hT.1];omega,fun r hr=>?_⟩;rcases List.mem_append.1 hr with h|h
 ·exact hL.2 r h
 ·exact hT.2 r h
theorem V0{s o n:Nat}{a b:Int}{h:Hp}{R:T2}(ho:s=8514/\(o=0\/o=1))(ha:(0<=a/\a<n)/\0<=b/\b<n)(hu:h 8514={base:=0,ah:=[u9 0 n,u9 n n]})(hr:h 14630={base:=0,ah:=R.map gz})(hs:BU n R):ShP s o n a b h:=by
 have e:AG (h 14630)=R:=by rw [hr];exact Lg R
 exact⟨ho,ha,hu,by rw [e,hr];rfl,by rw [e];exact hs.1,by rw [e];exact hs.2⟩
theorem zF(R:T2):AG {base:=0,ah:=R.map gz}=R:=Lg R
theorem akz{n:Nat}{L T:T2}(hL:Sq n L){a:Nat}(ha:a<n)(b:Nat)(x:Int):sh (L++T) a b x=sh L a b x++T:=by
 have hl:a<L.length:=by rw [hL.1];exact ha
 have e:(L++T).getD a []=L.getD a []:=by simp [List.getD,List.getElem?_append_left hl]
 unfold sh g2 s2;rw [e];split
 ·rw [List.set_append_left _ _ hl]
 ·rfl
theorem Jh{n:Nat}{L:T2}(T:T2)(hL:Sq n L)(a:Nat):(L++T).getD (n+a) []=T.getD a []:=by simp only [List.getD,List.getElem?_append_right (by rw [hL.1];omega:L.length<=n+a),hL.1,Nat.add_sub_cancel_left]
theorem akA{n:Nat}{L:T2}(T:T2)(hL:Sq n L)(a b:Nat)(x:Int):s2 (L++T) (n+a) b x=L++s2 T a b x:=by unfold s2;rw [Jh T hL,List.set_append_right _ _ (by rw [hL.1];omega),hL.1,Nat.add_sub_cancel_left]
theorem akB{n:Nat}{L:T2}(T:T2)(hL:Sq n L)(a b:Nat):g2 (L++T) (n+a) b=g2 T a b:=by unfold g2;rw [Jh T hL]
theorem ae8{n:Nat}{L:T2}(T:T2)(hL:Sq n L)(a b:Nat)(x:Int):sh (L++T) (n+a) b x=L++sh T a b x:=by unfold sh;rw [akB T hL,akA T hL];split<;>rfl
theorem BU.row{n:Nat}{R:T2}(h:BU n R){i b:Nat}(hi:i<2 * n)(hb:b<n):∃r,R[i]?=some r/\r.length=n/\r[b]?=some (g2 R i b):=by
 have hi':i<R.length:=by rw [h.1];exact hi
 have hl:=h.2 _ (List.getElem_mem hi');refine⟨R[i],List.getElem?_eq_getElem hi',hl,?_⟩;rw [List.getElem?_eq_getElem (by omega)];simp [g2,List.getD,hi',hl,hb]
theorem ae9(m:Met)(l:List V):(m.row++l).take 14=m.row:=rfl
theorem aac(m:Met)(x:V)(l:List V):(m.row++x::l).take 15=m.row++[x]:=rfl
theorem afa(m:Met)(x:V)(l:List V):(m.row++x::l).drop 15=l:=rfl
theorem aad(m:Met)(x y:V)(l:List V):(m.row++x::y::l).drop 16=l:=rfl
theorem vp(m:Met)(x:V)(l:List V):(m.row++x::l)[14]?=some x:=rfl
theorem vq(m:Met)(x y:V)(l:List V):(m.row++x::y::l)[15]?=some y:=rfl
theorem qJ(m:Met)(x:V)(l:List V)(h:14<(m.row++x::l).length):(m.row++x::l)[14]=x:=rfl
theorem qK(m:Met)(x y:V)(l:List V)(h:15<(m.row++x::y::l).length):(m.row++x::y::l)[15]=y:=rfl
structure MQ (m:Met) (l:List eN):Prop where
 ok:m.ok=true
 nb:o9 m l=true
@[simp] def neE(d:Met × List eN):List V:=[.agg d.1.row,.lg,.sl 3 (d.2.map eN.row)]
theorem aae(a b:Met × List eN)(h:neE a=neE b):a=b:=by obtain⟨a1,a2⟩:=a;obtain⟨b1,b2⟩:=b;simp only [neE,List.cons.injEq,V.agg.injEq,V.sl.injEq,true_and,and_true]at h;rw [Met.aq _ _ h.1,aR eN.aq h.2]
theorem aaf(m:Met)(l:List eN):aY neE [.agg m.row,.lg,.sl 3 (l.map eN.row)]=(m,l):=aA aae (m,l)
def mL(T:T2):V:=.sl 1 (T.map fun r=>[.sl 1 (r.map ri)])
noncomputable abbrev afb:aB:=bS neE (fun d=>MQ d.1 d.2) fun d=>.dB [.ip 16 [d.1.row++[mL (nW d.1.n.toNat d.2 d.2.length),mL (rV d.1.n.toNat d.2)]] 0 0,.int .i64 0]
theorem PT{m:Met}(h:m.ok=true):qQ m:=by simp only [Met.ok,Bool.and_eq_true,decide_eq_true_eq]at h;exact⟨by omega,by omega⟩
def vt(m:Met):Site:={base:=0,ah:=[{z:=14,els:=[m.row],ty:=29,fz:=true}]}
def vu(m:Met):Site:={base:=0,ah:=[{z:=1,els:=[[.fn 81 [.ip 14 [m.row] 0 0]]],ty:=134}]}
def oH(m:Met)(n:Nat):Site:={base:=0,ah:=[{z:=16,els:=[m.row++[.bw 8514 0 n,.bw 8514 1 n]],ty:=106,cl:=false}]}
theorem Vb{h:Hp}{R:T2}{n i:Nat}(h1:h 14630={base:=0,ah:=R.map gz})(hq:BU n R)(hi:i<R.length):ak 1 h (.gY 14630 i n 0 n n)=(True,.sl 1 ((R.getD i []).map ri)):=by
 have hg:aL h 14630 i=some (gz R[i]):=by simp [aL,h1,hi]
 have hl:=hq.2 _ (List.getElem_mem hi);have hd:R.getD i []=R[i]:=by simp [List.getD,hi]
 rw [ak,hg];simp only [bV,gz,List.length_map,hl,hd,Nat.zero_add,Nat.le_refl,true_and,and_true,List.drop_zero];rw [List.take_of_length_le (by rw [List.length_map,hl];exact Nat.le_refl _)]
theorem Gf{h:Hp}{R T:T2}{n o b:Nat}(h1:h 14630={base:=0,ah:=R.map gz})(hq:BU n R)(ho:aL h 8514 o=some (u9 b n))(hb:b+n<=2 * n)(hT:Sq n T)(he:∀j,j<n->R.getD (b+j) []=T.getD j []):ak 2 h (.bw 8514 o n)=(True,mL T):=by
 have e:dc (ak 1 h) (NC b n n)=(True,(List.range n).map fun j=>[.sl 1 ((T.getD j []).map ri)]):=by
  refine jy fun j hj=>?_;have hj:j<n:=by simpa using hj
  have:=Vb (n:=n) h1 hq (i:=b+j) (by rw [hq.1];omega);simp only [cL,this,he j hj,V.leaf];simp
 have e2:(List.range n).map (fun j=>[V.sl 1 ((T.getD j []).map ri)])=T.map fun r=>[V.sl 1 (r.map ri)]:=by
  have:=rM T [] fun r=>[V.sl 1 (r.map ri)]
  rw [hT.1]at this;exact this
 rw [ak,ho];simp only [bV,u9,e,e2,tL,mL,and_self]
theorem Vc{h:Hp}{m:Met}{L T:T2}{n:Nat}(h1:h 14630={base:=0,ah:=(L++T).map gz})(h2:h 8514={base:=0,ah:=[u9 0 n,u9 n n]})(h3:h 3659={base:=0,ah:=[{z:=16,els:=[m.row++[.bw 8514 0 n,.bw 8514 1 n]],ty:=106,cl:=false}]})(hL:Sq n L)(hT:Sq n T):av h (.bG 3659 0 1 0 0)=(True,.ip 16 [m.row++[mL L,mL T]] 0 0):=by
 have hq:=BU.of hL hT;have t1:ak 2 h (.bw 8514 0 n)=(True,mL L):=Gf h1 hq (b:=0) (by simp [aL,h2]) (by omega) hL fun j hj=>by
  have hl:j<L.length:=by rw [hL.1];exact hj
  simp [List.getD,List.getElem?_append_left hl]
 have t2:ak 2 h (.bw 8514 1 n)=(True,mL T):=Gf h1 hq (b:=n) (by simp [aL,h2]) (by omega) hT fun j hj=>Jh T hL j;have hg:aL h 3659 0=some {z:=16,els:=[m.row++[.bw 8514 0 n,.bw 8514 1 n]],ty:=106,cl:=false}:=by simp [aL,h3]
 rw [av,ak,hg];simp only [bV,dc,Met.row,List.cons_append,List.nil_append,cL,t1,t2,V.leaf];simp [ak]
theorem Rg{n:Nat}{T0:T2}(h:Ji n 200 T0)(hn:n<=8){y a b:Nat}(hy:y<n)(ha:a<n)(hb:b<=n):Gg n y 51200 (ov (oc (lU T0 n y) n y a) y a b):=by have h1:Ji n 51200 (lU T0 n y):=(h.lU (y:=y) (by omega)).le (by have:=L4 (y:=y) (by omega);omega);exact((h1.stg (by omega) hy).oc hy (a:=a) (by omega)).ov hy ha hb
noncomputable abbrev E36:=EV [(28,.pure PR),(82,.pure rgS),(83,.pure Iw),(85,.heap ND),(86,.heap NF)] [] 3600 169 [(1,[3,50003])]
theorem b36:af E36 [(11,([0,2,5],[[0,1,2,3,4,5,6,7,8,9]]))] Tryz.f36 afb:=pb <| by
 rintro⟨m,l⟩ ⟨hok,v4⟩;simp only at hok v4;have s9:=PT hok;have vx:uH m=0:=by simp [uH,hok]
 have vy:=yd hok;have v1:=uP (by omega) v4;obtain⟨n,hn⟩:∃n:Nat,m.n=n:=⟨m.n.toNat,by omega⟩
 rw [hn]at vy v1;simp only [Int.toNat_natCast]at v1;have PU:n<=8:=by omega
 have MR:1<=n:=by omega
 simp only [o9,Bool.and_eq_true,decide_eq_true_eq,Bool.not_eq_true']at v4;have Re:((20:Int)<l.length)=False:=eq_false (by omega);have vP:l.any (Ta m)=false:=v4.2;have vb:=BA m l;simp -dsimp only [asm]at vb;have vV:Td (m,l):=⟨by have:=v4.1;simp only;omega,by simp only;omega⟩
 have TJ:∀h:Hp,(h 8513).ah=[]->(h 8513).fl=false->(h 14630).fl=false->(h 8514).fl=false->SqP n h:=fun h h1 h2 h3 h4=>⟨by omega,by intro q hq;simp only [List.mem_cons,List.not_mem_nil,or_false]at hq;subst hq;rw [<-h1,<-h2],h3,h4⟩
 simp -dsimp [Tryz.f36,E36];repeat' first|omega|(exact V0 (by simp) ⟨⟨by omega,by omega⟩,by omega,by omega⟩ rfl rfl (by assumption))|simp -dsimp [E36,E4,s9,vx,Re,vP,vb,vV,asm,hn,aS,Th,TJ,ae9,aac,afa,aad]|apply aI|apply nI|intro
 refine ay [63,64,65,15,66,67,68,69,70,71,72,73,74,75,76,77,17,78,79,80,81,82,83,84,85,86,87,88,89,90,91,92,93,94,95,96,97,62] (fun k:{k:Nat // k<=l.length}=>[(62,(true,.int .i64 k.1))]) (fun k=>hps [(3615,{base:=k.1,ah:=[]}),(14630,eF (nW n l k.1++nW n l k.1)),(8514,kF n),(8513,{base:=n+n,ah:=[]}),(3659,oH m n),(3611,vu m),(3603,vt m)] cg) (fun k=>l.length - k.1) ⟨0,by omega⟩ ?_ ?_ ?_
 ·simp [aj,aT]
 ·try simp -dsimp only [aG,List.cons_append,List.nil_append]
  exact(by(try simp -dsimp only [hpx]);refine ai ?_;simp -dsimp [aC,eF,kF,oH,vu,vt,nW,List.map_replicate]<;>exact rz)
 rintro⟨k,hk⟩;dsimp only;by_cases aH:k<l.length
 ·have v5:(k:Int)<l.length:=by omega
  have wk:=wx k;obtain⟨x,hx,hx'⟩:=gx aH;have v9:=v1 x (hx' ▸ List.getElem_mem aH);have lC:nX l k=x:=by simp [nX,List.getD,hx]
  have hS:nW n l (k+1)=sh (sh (nW n l k) x.a.toNat x.b.toNat x.t) x.b.toNat x.a.toNat x.t:=by rw [nW,lC]
  have v3:=qv v1 hk;obtain⟨xa,xb,xt⟩:=x;simp only at v9 hS;obtain⟨a,rfl⟩:=Int.eq_ofNat_of_zero_le v9.1.1;obtain⟨b,rfl⟩:=Int.eq_ofNat_of_zero_le v9.2.1.1;simp only [Int.toNat_natCast]at hS;have ha:a<n:=by omega
  have hb:b<n:=by omega
  generalize vW:nW n l (k+1)=L2 at *;generalize nW n l k=L0 at *;have CP:=v3.sh ha b xt;have Wo:=CP.sh hb a xt;rw [<-hS]at Wo;obtain⟨R0,Jj⟩:∃R,L0++L0=R:=⟨_,rfl⟩
  obtain⟨R1,M3⟩:∃R,sh R0 a b xt=R:=⟨_,rfl⟩
  obtain⟨R2,wN⟩:∃R,sh R1 b a xt=R:=⟨_,rfl⟩
  obtain⟨R3,vd⟩:∃R,sh R2 (n+a) b xt=R:=⟨_,rfl⟩
  obtain⟨R4,vr⟩:∃R,sh R3 (n+b) a xt=R:=⟨_,rfl⟩
  have e1:R1=sh L0 a b xt++L0:=by rw [<-M3,<-Jj,akz v3 ha]
  have e2:R2=L2++L0:=by rw [<-wN,e1,akz CP hb,hS]
  have e3:R3=L2++sh L0 a b xt:=by rw [<-vd,e2,ae8 _ Wo]
  have e4:R4=L2++L2:=by rw [<-vr,e3,ae8 _ Wo,<-hS]
  have q0:BU n R0:=Jj ▸ BU.of v3 v3;have q1:BU n R1:=e1 ▸ BU.of CP v3;have q2:BU n R2:=e2 ▸ BU.of Wo v3;have q3:BU n R3:=e3 ▸ BU.of Wo CP;rw [Jj];simp -dsimp [v5,eF,kF,oH,vu,vt];repeat' first|omega|(exact V0 (by simp) ⟨⟨by omega,by omega⟩,by omega,by omega⟩ rfl rfl (by assumption))|simp -dsimp [E36,v5,aH,hx,hx',eN.row,vp,vq,qJ,qK,eF,kF,oH]|apply aI|apply nI|intro
  refine ay [76,77,17,78,79,80,81,82,83,84,85,86,87,88,89,90,91,92,93,94,95,96,75] (fun j:{j:Nat // j<=2}=>[(75,(true,.int .i64 j.1))]) (fun j=>hps [(14630,eF (if j.1=0 then R0 else if j.1=1 then R2 else R4)),(3615,{base:=k,ah:=[{z:=3,els:=[[.int .i64 a,.int .i64 b,.int .i64 xt]],ty:=164}]}),(8514,kF n),(8513,{base:=n+n,ah:=[]}),(3659,oH m n),(3611,vu m),(3603,vt m)] cg) (fun j=>2 - j.1) ⟨0,by omega⟩ ?_ ?_ ?_
  ·simp [aj,aT]
  ·(try simp -dsimp only [hpx]);refine ai ?_;simp -dsimp [aC,eF,kF,oH,vu,vt]<;>exact rz
  rintro⟨j,hj⟩;dsimp only;have vX:j=0\/j=1\/j=2:=by omega
  rcases vX with rfl|rfl|rfl
  ·simp -dsimp [eF,kF,oH,vu,vt];repeat' first|omega|(exact V0 (by simp) ⟨⟨by omega,by omega⟩,by omega,by omega⟩ rfl rfl (by assumption))|simp -dsimp [E36,eN.row,eF,kF,oH,Dd,zF,M3,wN]|apply aI|apply nI|intro
   refine⟨1,ag rfl ?_,⟨by omega,?_⟩,by omega⟩
   ·simp [aj,aT,aK]
   ·try simp -dsimp only [aG,List.cons_append,List.nil_append]
    exact(by(try simp -dsimp only [hpx]);refine ai ?_;simp -dsimp [aC,eF,kF,oH,vu,vt]<;>exact rz)
  ·simp -dsimp [eF,kF,oH,vu,vt];repeat' first|omega|(exact V0 (by simp) ⟨⟨by omega,by omega⟩,by omega,by omega⟩ rfl rfl (by assumption))|simp -dsimp [E36,eN.row,eF,kF,oH,Dd,zF,vd,vr]|apply aI|apply nI|intro
   refine⟨2,ag rfl ?_,⟨by omega,?_⟩,by omega⟩
   ·simp [aj,aT,aK]
   ·try simp -dsimp only [aG,List.cons_append,List.nil_append]
    exact(by(try simp -dsimp only [hpx]);refine ai ?_;simp -dsimp [aC,eF,kF,oH,vu,vt]<;>exact rz)
  ·simp -dsimp [eF,kF,oH,vu,vt];repeat' first|omega|(exact V0 (by simp) ⟨⟨by omega,by omega⟩,by omega,by omega⟩ rfl rfl (by assumption))|simp -dsimp [E36,eN.row,eF,kF,oH,wk]|apply aI|apply nI|intro
   refine⟨k+1,cq (aN rfl (br rfl (aN rfl bO))) ?_,?_,by omega,by omega⟩
   ·simp [aj,aT]
   ·have e5:R4.map gz=L2.map gz++L2.map gz:=(by rw [e4,List.map_append]);rw [e5,vW];try simp -dsimp only [aG,List.cons_append,List.nil_append]
    exact(by(try simp -dsimp only [hpx]);refine ai ?_;simp -dsimp [aC,eF,kF,oH,vu,vt]<;>exact rz)
 have v6:¬ (k:Int)<l.length:=by omega
 have va:k=l.length:=by omega
 subst va;clear hk aH;have hL:=qv v1 (Nat.le_refl l.length);have hD:=fun p (hp:p<=n)=>xL hL hp;have z0:=yy v1;have z1:rV n l=lU (wJ n l) n n:=rfl;have z2:wJ n l=vv (nW n l l.length) n:=rfl;generalize nW n l l.length=L at *;simp -dsimp [v6];repeat' first|omega|(exact V0 (by simp) ⟨⟨by omega,by omega⟩,by omega,by omega⟩ rfl rfl (by assumption))|simp -dsimp [E36,v6,hn]|apply aI|apply nI|intro
 refine ay [101,102,18,103,104,105,106,107,108,109,110,111,112,100] (fun p:{p:Nat // p<=n}=>[(100,(true,.int .i64 p.1))]) (fun p=>hps [(14630,eF (L++vv L p.1)),(3615,{base:=l.length,ah:=[]}),(8514,kF n),(8513,{base:=n+n,ah:=[]}),(3659,oH m n),(3611,vu m),(3603,vt m)] cg) (fun p=>n - p.1) ⟨0,by omega⟩ ?_ ?_ ?_
 ·simp [aj,aT]
 ·try simp -dsimp only [aG,List.cons_append,List.nil_append]
  exact(by(try simp -dsimp only [hpx]);refine ai ?_;simp -dsimp [aC,eF,kF,oH,vu,vt,vv]<;>exact rz)
 rintro⟨p,hp⟩;dsimp only;by_cases v8:p<n
 ·have vs:(p:Int)<n:=by omega
  have wp:=wx p;have z3:=hD p hp;have hS:vv L (p+1)=s2 (vv L p) p p 0:=rfl;generalize z4:vv L (p+1)=D1 at *;generalize vv L p=D0 at *;obtain⟨R0,Jj⟩:∃R,L++D0=R:=⟨_,rfl⟩
  have q0:BU n R0:=Jj ▸ BU.of hL z3;obtain⟨r,hr,wK,hy⟩:=q0.row (i:=n+p) (b:=p) (by omega) v8;have jP:=(List.getElem?_eq_some_iff.1 hr).2;have z5:=(List.getElem?_eq_some_iff.1 hy).2;have tf:n+p<R0.length:=by rw [q0.1];omega
  have Xl:p<r.length:=by omega
  have ho:=tK n n v8;have Ak:=(List.getElem?_eq_some_iff.1 ho).2;have jU:=tL n n n;have ow:=CH (b:=p) hr 0;have z6:gz (r.set p 0)={z:=1,els:=(r.map ri).set p [.int .i64 0],ty:=3}:=by rw [gz,List.map_set];rfl
  have z7:s2 R0 (n+p) p 0=L++D1:=by rw [<-Jj,akA _ hL,<-hS]
  rw [z6,z7]at ow;rw [Jj];simp -dsimp [vs,eF,kF,oH,vu,vt];repeat' first|omega|(exact V0 (by simp) ⟨⟨by omega,by omega⟩,by omega,by omega⟩ rfl rfl (by assumption))|simp -dsimp [E36,vs,vp,vq,qJ,qK,eF,kF,oH,u9,gz,v8,ho,Ak,jU,hr,jP,hy,z5,tf,Xl,wK,ow,ri,wp]|apply aI|apply nI|intro
  refine⟨p+1,ag rfl ?_,?_,by omega,by omega⟩
  ·simp [aj,aT]
  ·rw [z4];try simp -dsimp only [aG,List.cons_append,List.nil_append]
   exact(by(try simp -dsimp only [hpx]);refine ai ?_;simp -dsimp [aC,eF,kF,oH,vu,vt,u9]<;>exact rz)
 have Ar:¬ (p:Int)<n:=by omega
 have z8:p=n:=by omega
 subst z8;clear hp v8 hD;rw [<-z2];generalize arW:wJ p l=T0 at *;generalize p=n at *;simp -dsimp [Ar];repeat' first|omega|(exact V0 (by simp) ⟨⟨by omega,by omega⟩,by omega,by omega⟩ rfl rfl (by assumption))|simp -dsimp [E36,Ar,hn]|apply aI|apply nI|intro
 refine ay [116,117,19,118,119,120,121,122,20,123,124,125,126,127,21,128,129,130,131,132,133,134,135,136,137,138,139,140,141,142,143,144,145,146,147,22,23,148,149,150,151,152,153,154,155,156,157,158,159,160,161,162,163,164,165,166,167,115] (fun y:{y:Nat // y<=n}=>[(115,(true,.int .i64 y.1))]) (fun y=>hps [(14630,eF (L++lU T0 n y.1)),(3615,{base:=l.length,ah:=[]}),(8514,kF n),(8513,{base:=n+n,ah:=[]}),(3659,oH m n),(3611,vu m),(3603,vt m)] cg) (fun y=>n - y.1) ⟨0,by omega⟩ ?_ ?_ ?_
 ·simp [aj,aT]
 ·try simp -dsimp only [aG,List.cons_append,List.nil_append]
  exact(by(try simp -dsimp only [hpx]);refine ai ?_;simp -dsimp [aC,eF,kF,oH,vu,vt,lU]<;>exact rz)
 rintro⟨y,hy⟩;dsimp only;by_cases v0:y<n
 case neg=>
  have OX:¬ (y:Int)<n:=by omega
  have z9:y=n:=by omega
  rw [z9,<-z1];have za:Sq n (rV n l):=(yA v1 PU).sq;have hle:∀h:Hp,h 14630={base:=0,ah:=(L++rV n l).map gz}->h 8514={base:=0,ah:=[u9 0 n,u9 n n]}->h 3659={base:=0,ah:=[{z:=16,els:=[m.row++[.bw 8514 0 n,.bw 8514 1 n]],ty:=106,cl:=false}]}->ak 3 h (.bG 3659 0 1 0 0)=(True,.ip 16 [m.row++[mL L,mL (rV n l)]] 0 0):=fun h h1 h2 h3=>Vc h1 h2 h3 hL za;have zd:∀h:Hp,ak 3 h (.int .i64 0)=(True,.int .i64 0):=fun _=>rfl;simp -dsimp [OX,-ak];repeat' first|omega|(exact V0 (by simp) ⟨⟨by omega,by omega⟩,by omega,by omega⟩ rfl rfl (by assumption))|simp -dsimp [E36,OX,-ak,hle,zd,eF,kF,oH]|apply aI|apply nI|intro
 have Rf:(y:Int)<n:=by omega
 have wy:=wx y;have zo:lU T0 n (y+1)=oc (lU T0 n y) n y n:=rfl;simp -dsimp [Rf];repeat' first|omega|(exact V0 (by simp) ⟨⟨by omega,by omega⟩,by omega,by omega⟩ rfl rfl (by assumption))|simp -dsimp [E36,Rf,hn]|apply aI|apply nI|intro
 refine ay [121,122,20,123,124,125,126,127,21,128,129,130,131,132,133,134,135,136,137,138,139,140,141,142,143,144,145,146,147,22,23,148,149,150,151,152,153,154,155,156,157,158,159,160,161,162,163,164,165,166,120] (fun a:{a:Nat // a<=n}=>[(120,(true,.int .i64 a.1))]) (fun a=>hps [(14630,eF (L++oc (lU T0 n y) n y a.1)),(3615,{base:=l.length,ah:=[]}),(8514,kF n),(8513,{base:=n+n,ah:=[]}),(3659,oH m n),(3611,vu m),(3603,vt m)] cg) (fun a=>n - a.1) ⟨0,by omega⟩ ?_ ?_ ?_
 ·simp [aj,aT]
 ·try simp -dsimp only [aG,List.cons_append,List.nil_append]
  exact(by(try simp -dsimp only [hpx]);refine ai ?_;simp -dsimp [aC,eF,kF,oH,vu,vt,oc]<;>exact rz)
 rintro⟨a,ha⟩;dsimp only;by_cases v2:a<n
 case neg=>
  have Kn:¬ (a:Int)<n:=by omega
  have zp:a=n:=by omega
  rw [zp,<-zo];simp -dsimp [Kn];repeat' first|omega|(exact V0 (by simp) ⟨⟨by omega,by omega⟩,by omega,by omega⟩ rfl rfl (by assumption))|simp -dsimp [E36,Kn,wy]|apply aI|apply nI|intro
  refine⟨y+1,cq (aN rfl (br rfl (aN rfl bO))) ?_,bA.refl _,by omega,by omega⟩;simp [aj,aT]
 have v7:(a:Int)<n:=by omega
 have wa:=wx a;have rj:oc (lU T0 n y) n y (a+1)=ov (oc (lU T0 n y) n y a) y a n:=rfl;simp -dsimp [v7];repeat' first|omega|(exact V0 (by simp) ⟨⟨by omega,by omega⟩,by omega,by omega⟩ rfl rfl (by assumption))|simp -dsimp [E36,v7,hn]|apply aI|apply nI|intro
 refine ay [126,127,21,128,129,130,131,132,133,134,135,136,137,138,139,140,141,142,143,144,145,146,147,22,23,148,149,150,151,152,153,154,155,156,157,158,159,160,161,162,163,164,165,125] (fun b:{b:Nat // b<=n}=>[(125,(true,.int .i64 b.1))]) (fun b=>hps [(14630,eF (L++ov (oc (lU T0 n y) n y a) y a b.1)),(3615,{base:=l.length,ah:=[]}),(8514,kF n),(8513,{base:=n+n,ah:=[]}),(3659,oH m n),(3611,vu m),(3603,vt m)] cg) (fun b=>n - b.1) ⟨0,by omega⟩ ?_ ?_ ?_
 ·simp [aj,aT]
 ·try simp -dsimp only [aG,List.cons_append,List.nil_append]
  exact(by(try simp -dsimp only [hpx]);refine ai ?_;simp -dsimp [aC,eF,kF,oH,vu,vt,ov]<;>exact rz)
 rintro⟨b,hb⟩;dsimp only;by_cases ez:b<n
 case neg=>
  have Hw:¬ (b:Int)<n:=by omega
  have JN:b=n:=by omega
  rw [JN,<-rj];simp -dsimp [Hw];repeat' first|omega|(exact V0 (by simp) ⟨⟨by omega,by omega⟩,by omega,by omega⟩ rfl rfl (by assumption))|simp -dsimp [E36,Hw,wa]|apply aI|apply nI|intro
  refine⟨a+1,cq (aN rfl (br rfl (aN rfl bO))) ?_,bA.refl _,by omega,by omega⟩;simp [aj,aT]
 have sN:(b:Int)<n:=by omega
 have wb:=wx b;have hG:=Rg z0 PU v0 v2 hb;have yB:ov (oc (lU T0 n y) n y a) y a (b+1)=if 0<=g2 (ov (oc (lU T0 n y) n y a) y a b) a y/\0<=g2 (ov (oc (lU T0 n y) n y a) y a b) y b then sh (ov (oc (lU T0 n y) n y a) y a b) a b (g2 (ov (oc (lU T0 n y) n y a) y a b) a y+g2 (ov (oc (lU T0 n y) n y a) y a b) y b)else ov (oc (lU T0 n y) n y a) y a b:=rfl;generalize Rh:ov (oc (lU T0 n y) n y a) y a (b+1)=U1 at *;generalize ov (oc (lU T0 n y) n y a) y a b=U at *;have bx:=hG.co a v2;have bz:=hG.ro b ez;have bx0:=hG.lo a y v2 v0;have bz0:=hG.lo y b v0 ez;have zr:=hG.sq;obtain⟨R0,Jj⟩:∃R,L++U=R:=⟨_,rfl⟩
 have q0:BU n R0:=Jj ▸ BU.of hL zr;obtain⟨r,hr,wK,hv⟩:=q0.row (i:=n+a) (b:=y) (by omega) v0;obtain⟨r',hr',Hx,fJ⟩:=q0.row (i:=n+y) (b:=b) (by omega) ez;rw [<-Jj,akB _ hL]at hv fJ;generalize zs:g2 U a y=x1 at *;generalize zt:g2 U y b=x2 at *;have jP:=(List.getElem?_eq_some_iff.1 hr).2;have oR:=(List.getElem?_eq_some_iff.1 hv).2;have pe:=(List.getElem?_eq_some_iff.1 hr').2;have pg:=(List.getElem?_eq_some_iff.1 fJ).2;have tf:n+a<R0.length:=by rw [q0.1];omega
 have Hy:n+y<R0.length:=by rw [q0.1];omega
 have Xl:y<r.length:=by omega
 have Hz:b<r'.length:=by omega
 have ho:=tK n n v2;have Ak:=(List.getElem?_eq_some_iff.1 ho).2;have ho':=tK n n v0;have HA:=(List.getElem?_eq_some_iff.1 ho').2;have jU:=tL n n n;have wx:=wi (x1+x2);have akC:sh R0 (n+a) b (x1+x2)=L++sh U a b (x1+x2):=by rw [<-Jj,ae8 _ hL]
 rw [Jj];by_cases hc:0<=x1/\0<=x2
 ·rw [if_pos hc]at yB;rw [<-yB]at akC;have c1:(0<=x1)=True:=eq_true hc.1;have c2:(0<=x2)=True:=eq_true hc.2;simp -dsimp [sN,eF,kF,oH,vu,vt];repeat' first|omega|(exact V0 (by simp) ⟨⟨by omega,by omega⟩,by omega,by omega⟩ rfl rfl (by assumption))|simp -dsimp [E36,sN,vp,vq,qJ,qK,eF,kF,oH,u9,gz,ho,Ak,ho',HA,jU,hr,jP,hr',pe,hv,oR,fJ,pg,tf,Hy,Xl,Hz,wK,Hx,v2,v0,ez,v7,Rf,ri,wb,wx,c1,c2,Dd,zF,akC]|apply aI|apply nI|intro
  first
   | (refine⟨b+1,ag rfl ?_,?_,by omega,by omega⟩)
   | (refine⟨b+1,ag rfl ?_,⟨by omega,?_⟩,by omega⟩)
  ·simp [aj,aT]
  ·rw [Rh];try simp -dsimp only [aG,List.cons_append,List.nil_append]
   exact(by(try simp -dsimp only [hpx]);refine ai ?_;simp -dsimp [aC,eF,kF,oH,vu,vt,u9]<;>exact rz)
 ·rw [if_neg hc]at yB;have e5:R0.map gz=L.map gz++U1.map gz:=by rw [yB,<-Jj,List.map_append]
  by_cases h0:0<=x1
  ·have c1:(0<=x1)=True:=eq_true h0;have c2:(0<=x2)=False:=eq_false fun h=>hc ⟨h0,h⟩;simp -dsimp [sN,eF,kF,oH,vu,vt];repeat' first|omega|(exact V0 (by simp) ⟨⟨by omega,by omega⟩,by omega,by omega⟩ rfl rfl (by assumption))|simp -dsimp [E36,sN,vp,vq,qJ,qK,eF,kF,oH,u9,gz,ho,Ak,ho',HA,jU,hr,jP,hr',pe,hv,oR,fJ,pg,tf,Hy,Xl,Hz,wK,Hx,v2,v0,ez,v7,Rf,ri,wb,c1,c2]|apply aI|apply nI|intro
   first
    | (refine⟨b+1,ag rfl ?_,?_,by omega,by omega⟩)
    | (refine⟨b+1,ag rfl ?_,⟨by omega,?_⟩,by omega⟩)
   ·simp [aj,aT]
   ·rw [Rh,e5];try simp -dsimp only [aG,List.cons_append,List.nil_append]
    exact(by(try simp -dsimp only [hpx]);refine ai ?_;simp -dsimp [aC,eF,kF,oH,vu,vt,u9]<;>exact rz)
  ·have c1:(0<=x1)=False:=eq_false h0;simp -dsimp [sN,eF,kF,oH,vu,vt];repeat' first|omega|(exact V0 (by simp) ⟨⟨by omega,by omega⟩,by omega,by omega⟩ rfl rfl (by assumption))|simp -dsimp [E36,sN,vp,vq,qJ,qK,eF,kF,oH,u9,gz,ho,Ak,ho',HA,jU,hr,jP,hr',pe,hv,oR,fJ,pg,tf,Hy,Xl,Hz,wK,Hx,v2,v0,ez,v7,Rf,ri,wb,c1]|apply aI|apply nI|intro
   first
    | (refine⟨b+1,ag rfl ?_,?_,by omega,by omega⟩)
    | (refine⟨b+1,ag rfl ?_,⟨by omega,?_⟩,by omega⟩)
   ·simp [aj,aT]
   ·rw [Rh,e5];try simp -dsimp only [aG,List.cons_append,List.nil_append]
    exact(by(try simp -dsimp only [hpx]);refine ai ?_;simp -dsimp [aC,eF,kF,oH,vu,vt,u9]<;>exact rz)
theorem ank:FO 36 afb:=pf b36 (.cons AE (.cons aqw (.cons aox (.cons aiT (.cons azU .nil)))))
@[simp] def tiE(d:Met × List eN):List V:=[.agg d.1.row,.sl 3 (d.2.map eN.row)]
theorem aag(a b:Met × List eN)(h:tiE a=tiE b):a=b:=by obtain⟨a1,a2⟩:=a;obtain⟨b1,b2⟩:=b;simp only [tiE,List.cons.injEq,V.agg.injEq,V.sl.injEq,true_and,and_true]at h;rw [Met.aq _ _ h.1,aR eN.aq h.2]
theorem E6(m:Met)(l:List eN):aY tiE [.agg m.row,.sl 3 (l.map eN.row)]=(m,l):=aA aag (m,l)
noncomputable abbrev ME:aB:=bS tiE (fun d=>MQ d.1 d.2) fun d=>.dB [mL (rV d.1.n.toNat d.2),.int .i64 0]
noncomputable abbrev E14:=EV [(36,.pure afb)] [] 1400 21
theorem b14:af E14 [] Tryz.f14 ME:=pb <| by
 rintro⟨m,l⟩ hP;have hP:MQ m l:=hP;have ht:∃T,rV m.n.toNat l=T:=⟨_,rfl⟩
 obtain⟨T,hT⟩:=ht;simp -dsimp [Tryz.f14,E14];repeat' first|omega|simp -dsimp [E14,aaf,hP,vp,vq,qJ,qK,hT,mL]|apply aI|apply nI|intro
theorem anu:FO 14 ME:=pf b14 (.cons ank .nil)
@[simp] def lgE(d:List eN × Nat × Nat):List V:=[.sl 3 (d.1.map eN.row),.int .i64 d.2.1,.int .i64 d.2.2]
theorem aah(a b:List eN × Nat × Nat)(h:lgE a=lgE b):a=b:=by obtain⟨a1,a2,a3⟩:=a;obtain⟨b1,b2,b3⟩:=b;simp only [lgE,List.cons.injEq,V.sl.injEq,V.int.injEq,true_and,and_true]at h;rw [aR eN.aq h.1,Int.ofNat.inj h.2.1,Int.ofNat.inj h.2.2]
theorem Xj(l:List eN)(a b:Nat):aY lgE [.sl 3 (l.map eN.row),.int .i64 a,.int .i64 b]=(l,a,b):=aA aah (l,a,b)
noncomputable abbrev acm:aB:=bS lgE (fun d=>d.1.length<=20) fun d=>.int .i64 (kK d.1 d.2.1 d.2.2 d.1.length)
noncomputable abbrev axI:=EV [] [] 27800 55
theorem aAm:af axI [] Tryz.f278 acm:=pb <| by
 rintro⟨l,p,q⟩ hl;have hl:l.length<=20:=hl;simp -dsimp [Tryz.f278,axI];repeat' first|omega|simp -dsimp [axI, *]|apply aI|apply nI|intro
 refine ay [10,11,12,13,16,17,18,19,9,20,21,22,23,24,25,26,27,28,29,30,31,32,33,34,35,36,37,38,39,40,41,42,43,44,45,46,47,48,49,50,51,52,53,7,14,15,8] (fun k:{k:Nat // k<=l.length}=>[(8,(true,.int .i64 k.1)),(7,(true,.int .i64 (kK l p q k.1)))]) (fun k=>hps [(27809,{base:=k.1,ah:=[]})] cg) (fun k=>l.length - k.1) ⟨0,by omega⟩ ?_ ?_ ?_
 ·simp [aj,aT,kK]
 ·refine bA.forget (L:=[(27809,{base:=0,ah:=[]})]) rfl (by intro s;simp [hnext,hps]) (by simp [hps,YS])
 rintro⟨k,hk⟩;dsimp only;by_cases aH:k<l.length
 ·have v5:(k:Int)<l.length:=by omega
  have wk:=wx k;obtain⟨x,hx,hx'⟩:=gx aH;have lC:nX l k=x:=by simp [nX,List.getD,hx]
  have hS:kK l p q (k+1)=if ((x.a=p/\x.b=q)\/(x.a=q/\x.b=p))/\(kK l p q k<0\/x.t<kK l p q k)then x.t else kK l p q k:=by rw [kK,lC]
  generalize hN:kK l p q (k+1)=N at *;generalize kK l p q k=R at *;obtain⟨a,b,t⟩:=x;simp only at hS;rcases Classical.propComplete (a=(p:Int))with c1|c1<;>rcases Classical.propComplete (b=(q:Int))with c2|c2<;>rcases Classical.propComplete (a=(q:Int))with c3|c3<;>rcases Classical.propComplete (b=(p:Int))with c4|c4<;>rcases Classical.propComplete (R<0)with c5|c5<;>rcases Classical.propComplete (t<R)with c6|c6
  all_goals
   simp only [c1,c2,c3,c4,c5,c6,true_and,and_true,false_and,and_false,true_or,or_true,false_or,or_false,if_true,if_false,and_self,or_self]at hS;simp -dsimp [v5];repeat' first|omega|simp -dsimp [axI,v5,aH,hx,hx',eN.row,c1,c2,c3,c4,c5,c6,wk]|apply aI|apply nI|intro
   all_goals
    refine⟨k+1,ag rfl ?_,?_,by omega,by omega⟩
    ·simp [aj,aT,hN,hS]
    ·(try simp -dsimp only [hpx]);refine ai ?_;simp -dsimp [aC]<;>exact rz
 have v6:¬ (k:Int)<l.length:=by omega
 have va:k=l.length:=by omega
 subst va;simp -dsimp [v6];repeat' first|omega|simp -dsimp [axI,v6]|apply aI|apply nI|intro
theorem azE:FO 278 acm:=pf aAm .nil
end Go.Sx
end
end
