/- Fleet: the search, as the program's closure does it. No conditions. -/
import Derived.Test.YtegiclpanpmkdaaGreatDoorR63
import Derived.Test.YtegiclpanpmkdaaGreatDoorR41
set_option linter.all false
set_option maxRecDepth 100000
set_option maxHeartbeats 8000000
noncomputable section
namespace Go.Sx
open Go.Proofs
attribute [local simp] ri aa ints
attribute [local irreducible] bA
structure LkD where
 f:Fl
 p:List Sr
 now:Int
 q:List Sr
 r:List Sr
def E5(f:Fl)(p:List Sr)(now:Int):List V:=[.bG 4405 0 1 0 0,.ip 1 [[plI f p]] 0 0,.ip 1 [[.int .i64 now]] 0 0,.bG 4406 0 1 0 0]
def MJ(f:Fl)(r:List Sr):Site:={base:=0,ah:=[{z:=1,els:=[[plI f r]],ty:=95}]}
def u0(f:Fl)(p:List Sr)(now:Int):Site:={base:=0,ah:=[{z:=1,els:=[[.fn 97 (E5 f p now)]],ty:=182,cl:=false}]}
def lkL(d:LkD):List (Nat × Site):=[(4405,MJ d.f d.r),(4406,u0 d.f d.p d.now)]
theorem awZ(d:LkD):(lkL d).map (·.1)=[4405,4406]:=rfl
def lkE(d:LkD):List V:=plI d.f d.q::E5 d.f d.p d.now
theorem ayN(d d':LkD)(h:Hp)(he:lkE d=lkE d')(h1:Mt lkL [4405,4406] d h)(h2:Mt lkL [4405,4406] d' h):d=d':=by obtain⟨f,p,now,q,r⟩:=d;obtain⟨f',p',aAr,q',r'⟩:=d';have e1:(MJ f r).ah=(MJ f' r').ah:=congrArg Site.ah ((h1 4405 (by simp)).symm.trans (h2 4405 (by simp)));simp only [MJ,List.cons.injEq,dZ.mk.injEq,and_true,true_and]at e1;simp only [lkE,E5,List.cons.injEq,V.ip.injEq,V.int.injEq,and_true,true_and]at he;obtain⟨rfl,rfl⟩:=ar8 he.1;have e2:=(ar8 he.2.1).2;have e3:=(ar8 e1).2;subst e2 e3;rw [he.2.2]
def nA:Nat->Nat
 | 0=>0
 | M+1=>6+6 * (1000 * (1+144 * (1+nA M)))
structure LkP (M:Nat) (d:LkD):Prop where
 k:Cw d.f
 q:Good d.f true d.q
 r:Good d.f true d.r
 lt:d.f.jobs.length - d.q.length<M
noncomputable abbrev avu(M:Nat):bB:=Wu lkE (Mt lkL [4405,4406]) (LkP M) (fun _=>.dB [])
 (fun d h=>hps [(9707,{base:=hnext h 9707+nA M,ah:=[]}),(9708,{base:=hnext h 9708+nA M,ah:=[]}),(9711,{base:=hnext h 9711+nA M,ah:=[]}),(9714,{base:=hnext h 9714+nA M,ah:=[]}),(4405,MJ d.f (E3 d.f d.now M d.q d.r)),(4406,u0 d.f d.p d.now)] h)
theorem aw0{M:Nat}{f:Fl}{p:List Sr}{now:Int}{q r:List Sr}{h:Hp}(h1:h 4405=MJ f r)(h2:h 4406=u0 f p now) :
  (avu M).go [.ip 4 [plR f q] 0 0,.bG 4405 0 1 0 0,.ip 1 [[.ip 4 [plR f p] 0 0]] 0 0,.ip 1 [[.int .i64 now]] 0 0,.bG 4406 0 1 0 0] h=⟨LkP M ⟨f,p,now,q,r⟩,.dB [],
   hps [(9707,{base:=hnext h 9707+nA M,ah:=[]}),(9708,{base:=hnext h 9708+nA M,ah:=[]}),(9711,{base:=hnext h 9711+nA M,ah:=[]}),(9714,{base:=hnext h 9714+nA M,ah:=[]}),(4405,MJ f (E3 f now M q r)),(4406,u0 f p now)] h⟩:=by
 refine ze (enc:=lkE) ayN (d:=⟨f,p,now,q,r⟩) fun k hk=>?_;simp only [List.mem_cons,List.not_mem_nil,or_false]at hk;rcases hk with rfl|rfl
 ·exact h1
 ·exact h2
structure Lq where
 k:Nat
 a:Nat
 b:Nat
 c:Nat
 d:Nat
structure LqB (A B C D X:Nat) (p:Lq):Prop where
 a:p.a<=A+p.k * X
 b:p.b<=B+p.k * X
 c:p.c<=C+p.k * X
 d:p.d<=D+p.k * X
theorem LqB.next{A B C D X:Nat}{p:Lq}(h:LqB A B C D X p){a b c d:Nat}(ha:a<=p.a+X)(hb:b<=p.b+X)(hc:c<=p.c+X)(hd:d<=p.d+X):LqB A B C D X ⟨p.k+1,a,b,c,d⟩:=by obtain⟨h1,h2,h3,h4⟩:=h;have e:(p.k+1) * X=p.k * X+X:=Nat.succ_mul _ _;exact⟨by simp only [e];omega,by simp only [e];omega,by simp only [e];omega,by simp only [e];omega⟩
theorem LqB.last{A B C D X n:Nat}{p:Lq}(h:LqB A B C D X p)(hk:p.k<=n):(p.a<=A+n * X/\p.b<=B+n * X)/\p.c<=C+n * X/\p.d<=D+n * X:=by obtain⟨h1,h2,h3,h4⟩:=h;have e:=Nat.mul_le_mul_right X hk;omega
theorem aw1{f:Fl}{q:List Sr}(h0:q≠[]):asd (E1 f q)=.sl 8 ((E1 f q).map Fw.row):=ase (asJ h0)
theorem ayO{f:Fl}{q:List Sr}{j m:Nat}(h:ftB f q j m false=true):jR f j m=true:=by simp only [ftB,akI,Bool.and_eq_true]at h;exact h.1.1.1
noncomputable abbrev E97(M:Nat):Env:={P:=Tryz.prog,fn:=bf [(98,.pure Pm.ayr),(99,.pure Pm.ay9),(101,.pure atX),(102,.pure atY),(103,.pure atQ),(97,.heap (avu M))],own:=[],key:=9700,nt:=124,jQ:=[(6,[7,8,50007,50008]),(17,[11,50011]),(21,[14,50014])]}
theorem b97(M:Nat):ct (E97 M) [] Tryz.f97 (avu (M+1)):=by
 intro args h hc;obtain⟨⟨f,p,now,q,r⟩,rfl,hM,⟨hK,hq,hr,zs⟩,fV⟩:=jM hc;rw [fV];clear fV hc;simp only at hK hq hr zs;have hM:h=Ob lkL ⟨f,p,now,q,r⟩ h:=(Lw awZ).1 hM;dsimp only;generalize e7:hnext h 9707=s7;generalize e8:hnext h 9708=s8;generalize e11:hnext h 9711=s11;generalize e14:hnext h 9714=s14;have g7:(h 9707).base+(h 9707).ah.length<=s7:=by rw [<-e7];exact Nat.le_refl _
 have g8:(h 9708).base+(h 9708).ah.length<=s8:=by rw [<-e8];exact Nat.le_refl _
 have g11:(h 9711).base+(h 9711).ah.length<=s11:=by rw [<-e11];exact Nat.le_refl _
 have g14:(h 9714).base+(h 9714).ah.length<=s14:=by rw [<-e14];exact Nat.le_refl _
 clear e7 e8 e11 e14;have hf:=hK.ok;have vy:=hq.plb hf;have Yz:=hr.plb hf;have hC:=avK f q r;have yg:=hf.jobs;have yh:=hf.JJ;have hX:∀R,(if ltP f q r=true then q else r)=R->E3 f now (M+1) q r=if aAv f q f.jobs.length<V1 f R then R else lpJ (E3 f now M) f now q R f.jobs.length:=fun R hR=>by rw [E3,hR]
 obtain⟨R,hR,aye⟩:∃R,(if ltP f q r=true then q else r)=R/\((aAD f q r<0)=True/\R=q\/(aAD f q r<0)=False/\R=r):=by
  refine⟨_,rfl,?_⟩;by_cases c:aAD f q r<0
  ·left;rw [<-hC,decide_eq_true c];exact⟨eq_true c,rfl⟩
  ·right;rw [<-hC,decide_eq_false c];exact⟨eq_false c,rfl⟩
 rw [hX R hR];have z4:Good f true R:=by rcases aye with⟨_,e⟩|⟨_,e⟩<;>rw [e]<;>assumption
 clear hX hR hC;have yi:=z4.plb hf;have zt:Pm.ay8 ((f,q),r):=⟨vy,Yz⟩
 have zv:=Pm.ayu f q;have hfl:=ass f q;have zE:∀k,Pm.ayt (k,E1 f q):=fun k=>⟨by simp only [hfl];have:=vy.n;omega,trivial⟩
 rw [hM,Ob,aG];generalize h=h0 at *;clear hM;have vP:∀(s:Sr) (r':List Sr),wS f q s false=true->Good f true r'->Good f true (E3 f now M (q++[s]) r'):=fun s r' h1 h2=>aAy (hq.snoc (vw.2 (vw.1 h1).weak)) h2;obtain⟨N,hN,OT⟩:∃N:Nat,f.dU.length=N/\f.eH.ax=(N:Int):=⟨_,rfl,hf.dU.symm⟩
 obtain⟨J,hJ⟩:∃J,f.jobs.length=J:=⟨_,rfl⟩
 generalize z5:nA M=nM at *;have yj:nA (M+1)=6+6 * (1000 * (1+144 * (1+nM))):=by rw [nA,z5]
 generalize nA (M+1)=nM1 at *;rcases aye with⟨c,e⟩|⟨c,e⟩
 all_goals
  simp -dsimp [Tryz.f97,E97,lkE,E5,lkL,MJ,u0];repeat' first|omega|simp -dsimp [E97,E5,MJ,u0,Pm.awC,zt,c,aG]|apply aI|apply nI|intro
  refine ay [35,36,37,38,7,8,39,40,41,42,43,44,45,46,47,48,49,6,50,34] (fun k:{k:Nat // k<=f.jobs.length}=>[(34,(true,.int .i64 k.1)),(6,(true,.int .i64 (aAv f q k.1)))]) (fun k=>hps [(9707,{base:=s7+k.1,ah:=[]}),(9708,{base:=s8+k.1,ah:=[]}),(9711,{base:=s11,ah:=[]}),(9714,{base:=s14,ah:=[]}),(4405,MJ f (R)),(4406,u0 f p now)] h0) (fun k=>f.jobs.length - k.1) ⟨0,by omega⟩ ?_ ?_ ?_
  ·simp [aj,aT,aAv]
  ·exact(by(try simp -dsimp only [hpx]);refine bK ?_;simp -dsimp [aC,MJ,u0,E5,e,g7,g8,g11,g14]<;>exact rz)
  rintro⟨k,hk⟩;dsimp only;have yk:=avH hf q (k:=k) hk;have yl:=vy.v;by_cases aH:k<f.jobs.length
  ·have v3:(k:Int)<f.jobs.length:=(by omega);have wk:=wx k;obtain⟨jb,va,v6⟩:=gx aH;have vV:jb.row=[.int .i64 jb.a,.int .i64 jb.b,.int .i64 jb.dep,.int .i64 jb.val,.bool jb.AW]:=rfl;have z6:fP f k=jb:=(by simp [fP,List.getD,va]);have zK:=(hf.jb aH).2.2.2.2;rw [z6]at zK;have hS:aAv f q (k+1)=aAv f q k+if (q.any fun y=>decide (y.j=k))=true then 0 else (fP f k).val:=rfl;rw [z6]at hS;generalize vW:aAv f q (k+1)=H1 at *;generalize aAv f q k=H0 at *;have wH:=wi (H0+jb.val);have vb:=zv k;have vd:=zE k;by_cases z7:q=[]
   ·subst z7;rw [if_neg (by simp)]at hS;have hd:=Pm.awI k;rw [asv]at vd;simp -dsimp [v3,asv,aso];repeat' first|omega|simp -dsimp [E97,E5,MJ,u0,v3,aH,va,v6,vV,asv,aso,Pm.jqV,hd,vd,wH,wk]|apply aI|apply nI|intro
    refine⟨k+1,ag rfl ?_,?_,by omega,by omega⟩
    ·simp [aj,aT,vW,hS]
    ·exact(by(try simp -dsimp only [hpx]);refine bK ?_;simp -dsimp [aC,MJ,u0,E5]<;>exact rz)
   ·have hV:=aw1 (f:=f) z7;have hd:=Pm.awJ k (E1 f q);cases hA:(q.any fun y=>decide (y.j=(k:Int)))
    ·rw [hA]at hS vb;rw [if_neg (by simp)]at hS;simp -dsimp [v3,hV];repeat' first|omega|simp -dsimp [E97,E5,MJ,u0,v3,aH,va,v6,vV,hV,Pm.jqV,hd,vd,vb,wH,wk]|apply aI|apply nI|intro
     refine⟨k+1,ag rfl ?_,?_,by omega,by omega⟩
     ·simp [aj,aT,vW,hS]
     ·exact(by(try simp -dsimp only [hpx]);refine bK ?_;simp -dsimp [aC,MJ,u0,E5]<;>exact rz)
    ·rw [hA]at hS vb;rw [if_pos rfl,Int.add_zero]at hS;simp -dsimp [v3,hV];repeat' first|omega|simp -dsimp [E97,E5,MJ,u0,v3,aH,va,v6,vV,hV,Pm.jqV,hd,vd,vb,wH,wk]|apply aI|apply nI|intro
     refine⟨k+1,ag rfl ?_,?_,by omega,by omega⟩
     ·simp [aj,aT,vW,hS]
     ·exact(by(try simp -dsimp only [hpx]);refine bK ?_;simp -dsimp [aC,MJ,u0,E5]<;>exact rz)
  have vr:¬ (k:Int)<f.jobs.length:=by omega
  have zY:k=f.jobs.length:=by omega
  subst zY;rcases Classical.propComplete (aAv f q f.jobs.length<V1 f R)with c2|c2
  ·rw [if_pos (of_eq_true c2)];simp -dsimp [vr];repeat' first|omega|simp -dsimp [E97,E5,MJ,u0,vr,c2]|apply aI|apply nI|intro
   exact(by(try simp -dsimp only [hpx]);refine bK ?_;simp -dsimp [aC,MJ,u0,E5]<;>exact rz)
  rw [if_neg (of_eq_false c2)];simp -dsimp [vr];repeat' first|omega|simp -dsimp [E97,E5,MJ,u0,vr,c2]|apply aI|apply nI|intro
  refine ay [67,68,9,69,70,71,72,73,74,75,76,77,78,79,80,10,82,83,84,85,81,86,87,11,12,88,89,90,91,92,93,94,95,96,97,98,99,100,101,102,103,104,105,14,106,107,108,109,110,111,112,113,114,115,15,116,117,118,119,120,121,122,123,66] (fun x:{x:Lq // x.k<=f.jobs.length/\LqB (s7+f.jobs.length) (s8+f.jobs.length) s11 s14 (1000 * (1+144 * (1+nM))) x}=>[(66,(true,.int .i64 x.1.k))]) (fun x=>hps [(9707,{base:=x.1.a,ah:=[]}),(9708,{base:=x.1.b,ah:=[]}),(9711,{base:=x.1.c,ah:=[]}),(9714,{base:=x.1.d,ah:=[]}),(4405,MJ f (lpJ (E3 f now M) f now q R x.1.k)),(4406,u0 f p now)] h0) (fun x=>f.jobs.length - x.1.k) ⟨⟨0,s7+f.jobs.length,s8+f.jobs.length,s11,s14⟩,by simp,⟨by simp,by simp,by simp,by simp⟩⟩ ?_ ?_ ?_
  ·simp [aj,aT]
  ·exact(by(try simp -dsimp only [hpx]);refine bK ?_;simp -dsimp [aC,MJ,u0,E5,lpJ]<;>exact rz)
  rintro⟨⟨j,n7,n8,n11,n14⟩,z8,hB⟩;dsimp only at z8 ⊢;have y0:Good f true (lpJ (E3 f now M) f now q R j):=au9 vP z4 z8;by_cases vX:j<f.jobs.length
  case neg=>
   have z9:¬ (j:Int)<f.jobs.length:=(by omega);have AD:j=f.jobs.length:=(by omega);have hl:=hB.last (n:=6) (by simp only;omega);dsimp only at hl;subst AD;simp -dsimp [z9];repeat' first|omega|simp -dsimp [E97,E5,MJ,u0,z9]|apply aI|apply nI|intro
   exact(by(try simp -dsimp only [hpx]);refine bK ?_;simp -dsimp [aC,MJ,u0,E5]<;>exact rz)
  have za:(j:Int)<f.jobs.length:=by omega
  have wj:=wx j;simp -dsimp [za];repeat' first|omega|simp -dsimp [E97,E5,MJ,u0,za,OT]|apply aI|apply nI|intro
  refine ay [79,80,10,82,83,84,85,81,86,87,11,12,88,89,90,91,92,93,94,95,96,97,98,99,100,101,102,103,104,105,14,106,107,108,109,110,111,112,113,114,115,15,116,117,118,119,120,121,122,78] (fun x:{x:Lq // x.k<=N/\LqB n7 n8 n11 n14 (1+144 * (1+nM)) x}=>[(78,(true,.int .i64 x.1.k))]) (fun x=>hps [(9707,{base:=x.1.a,ah:=[]}),(9708,{base:=x.1.b,ah:=[]}),(9711,{base:=x.1.c,ah:=[]}),(9714,{base:=x.1.d,ah:=[]}),(4405,MJ f (lpM (E3 f now M) f now q j (lpJ (E3 f now M) f now q R j) x.1.k)),(4406,u0 f p now)] h0) (fun x=>N - x.1.k) ⟨⟨0,n7,n8,n11,n14⟩,by simp,⟨by simp,by simp,by simp,by simp⟩⟩ ?_ ?_ ?_
  ·simp [aj,aT]
  ·exact(by(try simp -dsimp only [hpx]);refine bK ?_;simp -dsimp [aC,MJ,u0,E5,lpM]<;>exact rz)
  rintro⟨⟨m,u7,u8,u11,u14⟩,y1,vs⟩;dsimp only at y1 ⊢;have y2:Good f true (lpM (E3 f now M) f now q j (lpJ (E3 f now M) f now q R j) m):=au8 vP vX y0 (by omega);by_cases jW:m<N
  case neg=>
   have zd:¬ (m:Int)<N:=(by omega);have y3:m=N:=(by omega);have hl:=vs.last (n:=1000) (by simp only;omega);dsimp only at hl;have y4:lpJ (E3 f now M) f now q R (j+1)=lpM (E3 f now M) f now q j (lpJ (E3 f now M) f now q R j) N:=(by rw [lpJ,hN]);subst y3;simp -dsimp [zd];repeat' first|omega|simp -dsimp [E97,E5,MJ,u0,zd,wj]|apply aI|apply nI|intro
   refine⟨⟨j+1,u7,u8,u11,u14⟩,?_,?_,⟨by simp only;omega,hB.next (by simp only;omega) (by simp only;omega) (by simp only;omega) (by simp only;omega)⟩,by simp only;omega⟩
   ·refine cq (aN rfl (br rfl (aN rfl bO))) ?_;simp [aj,aT]
   ·dsimp only;rw [y4];exact(by(try simp -dsimp only [hpx]);refine bK ?_;simp -dsimp [aC,MJ,u0,E5]<;>exact rz)
  have oh:(m:Int)<N:=by omega
  have wm:=wx m;have azv:m<f.dU.length:=by omega
  have z0:Xa (f,(j:Int),(m:Int)):=⟨hK,⟨by simp only;omega,by simp only;omega⟩,⟨by simp only;omega,by simp only;omega⟩⟩
  have z1:FtP ((f,q),(j:Int),(m:Int),false):=⟨z0,hq⟩
  have v0:lpM (E3 f now M) f now q j (lpJ (E3 f now M) f now q R j) (m+1)=if ftB f q j m false=true/\now<=(jJ f j m).lv then lpC (E3 f now M) f q j m (cwL f q j m) (lpM (E3 f now M) f now q j (lpJ (E3 f now M) f now q R j) m) (cwL f q j m).length else lpM (E3 f now M) f now q j (lpJ (E3 f now M) f now q R j) m:=rfl;have ym:=atz hf q j m;generalize ayP:lpM (E3 f now M) f now q j (lpJ (E3 f now M) f now q R j) (m+1)=Rm1 at *;generalize yn:lpM (E3 f now M) f now q j (lpJ (E3 f now M) f now q R j) m=Rm at *;cases v1:ftB f q j m false
  ·rw [v1,if_neg (by simp)]at v0;generalize hO:D5 f j m=O at *;obtain⟨o1,o2,o3,o4⟩:=O;simp -dsimp [oh];repeat' first|omega|simp -dsimp [E97,E5,MJ,u0,oh,asf,z1,v1,hO,Bk.row,wm]|apply aI|apply nI|intro
   refine⟨⟨m+1,u7,u8,u11+1,u14⟩,ag rfl ?_,?_,⟨by simp only;omega,vs.next (by simp only;omega) (by simp only;omega) (by simp only;omega) (by simp only;omega)⟩,by simp only;omega⟩
   ·simp [aj,aT]
   ·dsimp only;rw [ayP,v0];exact(by(try simp -dsimp only [hpx]);refine bK ?_;simp -dsimp [aC,MJ,u0,E5]<;>exact rz)
  have v9:=ayO v1;have azw:zZ f j m=true:=by simp only [jR,Bool.and_eq_true]at v9;exact v9.1.1.1
  have hO:=uJ azw;rw [v1]at v0;have zo:jJ f j m=jJ f j m:=rfl;generalize hV:jJ f j m=V at hO v0 zo;clear zo;obtain⟨b1,b2,b3,b4⟩:=V;simp only at v0;rcases Classical.propComplete (b1<now)with c3|c3
  ·have c3':=of_eq_true c3;rw [if_neg (by omega)]at v0;simp -dsimp [oh];repeat' first|omega|simp -dsimp [E97,E5,MJ,u0,oh,asf,z1,v1,hO,Bk.row,c3,wm]|apply aI|apply nI|intro
   refine⟨⟨m+1,u7,u8,u11+1,u14⟩,ag rfl ?_,?_,⟨by simp only;omega,vs.next (by simp only;omega) (by simp only;omega) (by simp only;omega) (by simp only;omega)⟩,by simp only;omega⟩
   ·simp [aj,aT]
   ·dsimp only;rw [ayP,v0];exact(by(try simp -dsimp only [hpx]);refine bK ?_;simp -dsimp [aC,MJ,u0,E5]<;>exact rz)
  have c3':=of_eq_false c3;rw [if_pos ⟨trivial,by omega⟩]at v0;have y5:CwP ((f,q),(j:Int),(m:Int),⟨b1,b2,b3,b4⟩):=⟨z0,hq,azw,hV.symm⟩
  have y6:∀k,k<=(cwL f q j m).length->Good f true (lpC (E3 f now M) f q j m (cwL f q j m) Rm k):=fun k hk=>au7 vP vX azv v1 y2 hk;have y7:∀(k:Nat) (x:Int × Int),(cwL f q j m)[k]?=some x->jx (Im f (E0 j m x))=true/\(wiB f q (E0 j m x)=true->Good f true (q++[E0 j m x])):=fun k x hx=>by
   have v5:x∈cwL f q j m:=List.mem_of_getElem? hx;refine⟨?_,fun hw=>?_⟩
   ·have e:Im f (E0 j m x)=Im f (E0 j m (0,0)):=rfl;rw [e];cases y8:jx (Im f (E0 j m (0,0)))
    ·unfold cwL at v5;rw [y8]at v5;simp at v5
    ·rfl
   ·have hs:=atb (f:=f) (q:=q) (c:=x) (any:=false) vX azv;rw [v1,List.contains_iff_mem.2 v5,hw]at hs;exact hq.snoc (vw.2 (vw.1 hs).weak)
  generalize hL:cwL f q j m=L at *;simp -dsimp [oh];repeat' first|omega|simp -dsimp [E97,E5,MJ,u0,oh,asf,z1,v1,hO,Bk.row,c3,ar7,y5,hL]|apply aI|apply nI|intro
  refine ay [103,104,105,14,106,107,108,109,110,111,112,113,114,115,15,116,117,118,119,120,121,102] (fun x:{x:Lq // x.k<=L.length/\LqB u7 u8 (u11+1) u14 (1+nM) x}=>[(102,(true,.int .i64 x.1.k))]) (fun x=>hps [(9707,{base:=x.1.a,ah:=[]}),(9708,{base:=x.1.b,ah:=[]}),(9711,{base:=x.1.c,ah:=[]}),(9714,{base:=x.1.d,ah:=[]}),(4405,MJ f (lpC (E3 f now M) f q j m L Rm x.1.k)),(4406,u0 f p now)] h0) (fun x=>L.length - x.1.k) ⟨⟨0,u7,u8,u11+1,u14⟩,by simp,⟨by simp,by simp,by simp,by simp⟩⟩ ?_ ?_ ?_
  ·simp [aj,aT]
  ·exact(by(try simp -dsimp only [hpx]);refine bK ?_;simp -dsimp [aC,MJ,u0,E5,lpC]<;>exact rz)
  rintro⟨⟨i,v7,v8,v11,v14⟩,tf,z2⟩;dsimp only at tf ⊢;by_cases z3:i<L.length
  case neg=>
   have zp:¬ (i:Int)<L.length:=(by omega);have y9:i=L.length:=(by omega);have hl:=z2.last (n:=144) (by simp only;omega);dsimp only at hl;subst y9;simp -dsimp [zp];repeat' first|omega|simp -dsimp [E97,E5,MJ,u0,zp,wm]|apply aI|apply nI|intro
   refine⟨⟨m+1,v7,v8,v11,v14⟩,?_,?_,⟨by simp only;omega,vs.next (by simp only;omega) (by simp only;omega) (by simp only;omega) (by simp only;omega)⟩,by simp only;omega⟩
   ·refine cq (aN rfl (br rfl (aN rfl bO))) ?_;simp [aj,aT]
   ·dsimp only;rw [ayP,v0];exact(by(try simp -dsimp only [hpx]);refine bK ?_;simp -dsimp [aC,MJ,u0,E5]<;>exact rz)
  have vx:(i:Int)<L.length:=by omega
  have w0i:=wx i;obtain⟨x,hx,hx'⟩:=gx z3;have O5:L.getD i default=x:=by simp [List.getD,hx]
  have v2:lpC (E3 f now M) f q j m L Rm (i+1)=if wiB f q (E0 j m (L.getD i default))=true then E3 f now M (q++[E0 j m (L.getD i default)]) (lpC (E3 f now M) f q j m L Rm i)else lpC (E3 f now M) f q j m L Rm i:=rfl;rw [O5]at v2;obtain⟨SG,v4⟩:=y7 i x hx;have yb:=y6 i tf;have H8:E0 j m x=⟨(j:Int),(m:Int),x.1,x.2⟩:=rfl;rw [H8]at v2 SG v4;obtain⟨x1,x2⟩:=x;simp only at v2 SG v4;have zr:WiP ((f,q),⟨(j:Int),(m:Int),x1,x2⟩,⟨b1,b2,b3,b4⟩):=⟨z0,hq,v9,hV.symm,SG⟩
  generalize azx:lpC (E3 f now M) f q j m L Rm (i+1)=Rc1 at *;generalize yr:lpC (E3 f now M) f q j m L Rm i=Rc at *;cases hw:wiB f q ⟨(j:Int),(m:Int),x1,x2⟩
  ·rw [hw,if_neg (by simp)]at v2;simp -dsimp [vx];repeat' first|omega|simp -dsimp [E97,E5,MJ,u0,vx,z3,hx,hx',Tk,Sr.row,Bk.row,as5,zr,hw,w0i]|apply aI|apply nI|intro
   refine⟨⟨i+1,v7,v8,v11,v14+1⟩,ag rfl ?_,?_,⟨by simp only;omega,z2.next (by simp only;omega) (by simp only;omega) (by simp only;omega) (by simp only;omega)⟩,by simp only;omega⟩
   ·simp [aj,aT]
   ·dsimp only;rw [azx,v2];exact(by(try simp -dsimp only [hpx]);refine bK ?_;simp -dsimp [aC,MJ,u0,E5]<;>exact rz)
  rw [hw,if_pos rfl]at v2;have v4:=v4 hw;have yc:LkP M ⟨f,p,now,q++[⟨(j:Int),(m:Int),x1,x2⟩],Rc⟩:=⟨hK,v4,yb,by have:=v4.atw;simp only [List.length_append,List.length_singleton]at this ⊢;omega⟩
  have ayQ:=fun h h1 h2=>(aw0 (M:=M) (f:=f) (p:=p) (now:=now) (q:=q++[⟨(j:Int),(m:Int),x1,x2⟩]) (r:=Rc) (h:=h) h1 h2).trans (by rw [eq_true yc]);rw [<-v2,z5]at ayQ;simp -dsimp only [MJ,u0,E5,plI]at ayQ;simp -dsimp [vx];repeat' first|omega|simp -dsimp [E97,E5,MJ,u0,vx,z3,hx,hx',Tk,Sr.row,Bk.row,as5,zr,hw,ayQ,aG,hnext,w0i]|apply aI|apply nI|intro
  refine⟨⟨i+1,v7+nM,v8+nM,v11+nM,v14+1+nM⟩,ag rfl ?_,?_,⟨by simp only;omega,z2.next (by simp only;omega) (by simp only;omega) (by simp only;omega) (by simp only;omega)⟩,by simp only;omega⟩
  ·simp [aj,aT]
  ·dsimp only;rw [azx];exact(by(try simp -dsimp only [hpx]);refine bK ?_;simp -dsimp [aC,MJ,u0,E5]<;>exact rz)
theorem auz:∀M,dM Tryz.prog 97 (.heap (avu M))
 | 0=>{call:=mU (fn:=Tryz.f97) (by kernel_rfl) (by kernel_rfl) rfl,iter:=fun S' hS=>(by cases hS),pure:=fun S' hS=>(by cases hS),heap:=fun S' hS=>(by cases hS;intro args h hc;obtain⟨_,_,_,hp,_⟩:=jM hc;exact absurd hp.lt (by omega))}
 | M+1=>aaz (E:=E97 M) rfl (.cons Pm.aoH (.cons Pm.azL (.cons ako (.cons aks (.cons aku (.cons (auz M) .nil)))))) (ok:=[]) (fn:=Tryz.f97) (by kernel_rfl) (by kernel_rfl) (by kernel_rfl) (by kernel_rfl) rfl (fun args h hc=>by obtain⟨_,rfl,_⟩:=jM hc;simp [lkE,E5]) (b97 M)
end Go.Sx
end
