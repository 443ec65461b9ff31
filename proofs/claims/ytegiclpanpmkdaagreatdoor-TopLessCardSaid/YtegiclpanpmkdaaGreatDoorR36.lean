/- Parts: the reference's step. No conditions. -/
import Derived.Test.YtegiclpanpmkdaaGreatDoorR35
set_option linter.all false
set_option maxRecDepth 100000
set_option maxHeartbeats 8000000
noncomputable section
namespace Go.Sx
open Go.Proofs
attribute [local simp] ri aa ints
attribute [local irreducible] bA
attribute [local simp] aG
structure RtW where
 r:aZ
 t:RS
 w:Wk
 deriving Inhabited
@[simp] def rwE(d:RtW):List V:=[.agg d.r.row,.agg d.t.row,.agg d.w.row]
theorem XJ(x y:RtW)(h:rwE x=rwE y):x=y:=by obtain⟨r,t,w⟩:=x;obtain⟨r',t',w'⟩:=y;simp only [rwE,List.cons.injEq,V.agg.injEq,true_and,and_true]at h;rw [aZ.aq _ _ h.1,RS.aq _ _ h.2.1,Wk.aq _ _ h.2.2]
theorem bu(t:RS)(h:Hp):HK.go [.agg [.sl 2 (t.used.map bn),.sl 2 (t.cV.map bn),.sl 1 (t.aX.map rb),kV t.since,kL t.done]] h=⟨t.Cp/\yD h/\Blank pL h,.agg [.bw 16507 0 t.used.length,.bw 16510 0 t.cV.length,.bw 16513 0 t.aX.length,oF 16531 t.since.length,oF 16542 t.done.length],Ob iG t (ec pL 1000000 h)⟩:=Ry t h
noncomputable abbrev KM:aB:=bS rwE (fun d=>d.t.Wf d.r) fun d=>.dB [.agg (d.t.after d.r d.w).row,.bool (d.t.ok d.r d.w)]
theorem aU(t:RS):t.row=[.sl 2 (t.used.map bn),.sl 2 (t.cV.map bn),.sl 1 (t.aX.map rb),kV t.since,kL t.done]:=rfl
noncomputable abbrev bI:=EV [(165,.heap HK),(164,.pure bF),(166,.pure xq),(167,.pure Db)] [] 10900 359
theorem anx:af bI [] Tryz.f109 KM:=pb <| by
 rintro⟨r,t,⟨wk,wa,wb,wc⟩⟩ va;simp only at va;obtain⟨v1,v2,v3,v4,v5,v6,v7,v8⟩:=cF va.val;have kM:=va.cp;have kX:∀S1 S2 S3 S4:Site,yD (hps [(10906,S1),(10905,S2),(10904,S3),(10903,S4)] cg):=by intro S1 S2 S3 S4 k hk;rcases ck hk with rfl|rfl|rfl|rfl|rfl|rfl|rfl<;>simp
 have iq:∀S1 S2 S3 S4:Site,Blank pL (hps [(10906,S1),(10905,S2),(10904,S3),(10903,S4)] cg):=by intro S1 S2 S3 S4 k hk;simp only [pL,List.mem_cons,List.not_mem_nil,or_false]at hk;rcases hk with rfl|rfl|rfl|rfl|rfl<;>simp
 have v0:∀k a b c,Wk.row ⟨k,a,b,c⟩=[.int .i64 k,.int .i64 a,.int .i64 b,.int .i64 c]:=fun _ _ _ _=>rfl;by_cases k1:wk=1
 ·subst k1;have ho:t.ok r ⟨1,wa,wb,wc⟩=(au wa 0 (cM r.ax 1) && (au wb 0 100 && (au wc 0 100 && (t.hi r).lF wa wb wc))):=by simp [RS.ok]
  have neg:∀a b c,t.ok r ⟨1,a,b,c⟩=false->t.after r ⟨1,a,b,c⟩=t:=fun a b c h1=>by simp [RS.after,h1]
  cases pa:au wa 0 (IntKind.wrap .i64 ((r.parts.length:Int) - 1))
  ·skip
   cases ez:au wa 0 (IntKind.wrap .i64 (r.ax - 1))
   ·have h1:t.ok r ⟨1,wa,wb,wc⟩=false:=(by rw [ho];simp only [cM,ez];rfl);have h2:=neg _ _ _ h1;simp only [h1,h2];simp -dsimp [Tryz.f109,bI,aZ.row,aU,v0,-ak,-av];repeat' first|omega|(exact aD _)|(exact aF _)|(exact aP _ _)|simp -dsimp [bI,-ak,-av,bu,kM,kX,iq,ec,bL,aU,ez,pa]|apply aI|apply nI|intro
   cases kJ:au wb 0 100
   ·have h1:t.ok r ⟨1,wa,wb,wc⟩=false:=(by rw [ho,kJ];simp);have h2:=neg _ _ _ h1;simp only [h1,h2];simp -dsimp [Tryz.f109,bI,aZ.row,aU,v0,-ak,-av];repeat' first|omega|(exact aD _)|(exact aF _)|(exact aP _ _)|simp -dsimp [bI,-ak,-av,bu,kM,kX,iq,ec,bL,aU,ez,kJ,pa]|apply aI|apply nI|intro
   cases Hl:au wc 0 100
   ·have h1:t.ok r ⟨1,wa,wb,wc⟩=false:=(by rw [ho,Hl];simp);have h2:=neg _ _ _ h1;simp only [h1,h2];simp -dsimp [Tryz.f109,bI,aZ.row,aU,v0,-ak,-av];repeat' first|omega|(exact aD _)|(exact aF _)|(exact aP _ _)|simp -dsimp [bI,-ak,-av,bu,kM,kX,iq,ec,bL,aU,ez,kJ,Hl,pa]|apply aI|apply nI|intro
   cases hfl:(t.hi r).lF wa wb wc
   ·have h1:t.ok r ⟨1,wa,wb,wc⟩=false:=(by rw [ho,hfl];simp);have h2:=neg _ _ _ h1;simp only [h1,h2];simp -dsimp [Tryz.f109,bI,aZ.row,aU,v0,-ak,-av];repeat' first|omega|(exact aD _)|(exact aF _)|(exact aP _ _)|simp -dsimp [bI,-ak,-av,bu,kM,kX,iq,ec,bL,aU,ez,kJ,Hl,gN,va,hfl,pa]|apply aI|apply nI|intro
   have h1:t.ok r ⟨1,wa,wb,wc⟩=true:=(by rw [ho,kJ,Hl,hfl];simp only [cM,ez];rfl);have h2:t.after r ⟨1,wa,wb,wc⟩=t.kE wa wb wc r.parts.length:=(by simp [RS.after,h1,RS.act]);simp only [h1,h2,RS.kE];simp -dsimp [Tryz.f109,bI,aZ.row,aU,v0,-ak,-av];repeat' first|omega|(exact aD _)|(exact aF _)|(exact aP _ _)|simp -dsimp [bI,-ak,-av,bu,kM,kX,iq,ec,bL,aU,ez,kJ,Hl,gN,va,hfl,pa]|apply aI|apply nI|intro
   refine ay [67,68,69,70,71,74,75,76,77,78,79,80,81,82,83,84,85,86,87,88,89,90,91,92,93,94,95,96,97,98,99,100,101,102,103,104,12,105,106,107,108,109,112,113,114,115,116,117,118,119,120,121,122,123,124,125,126,127,128,110,111,72,73,11] (fun k:Fin (r.parts.length+1)=>[(11,(true,.int .i64 (k.1:Nat)))])
    (fun k=>Ob iG {t with used:=t.gB wa wb wc k.1,since:=t.fK wa wb k.1} (hps [(10908,{base:=0,ah:=[{z:=5,els:=[[.bw 16507 0 t.used.length,.bw 16510 0 t.cV.length,.bw 16513 0 t.aX.length,oF 16531 t.since.length,oF 16542 t.done.length]],ty:=193,cl:=false}]}),(16501,{base:=1000000,ah:=[]}),(16502,{base:=1000000,ah:=[]}),(16503,{base:=1000000,ah:=[]}),(16530,{base:=1000000,ah:=[]}),(16541,{base:=1000000,ah:=[]}),(10906,{base:=0,ah:=[{z:=5,els:=[[.nil,.nil,.nil,.nil,.nil]],ty:=193}]}),(10905,{base:=0,ah:=[{z:=4,els:=[[.int .i64 1,.int .i64 wa,.int .i64 wb,.int .i64 wc]],ty:=86}]}),(10904,{base:=0,ah:=[{z:=5,els:=[[.sl 2 (t.used.map bn),.sl 2 (t.cV.map bn),.sl 1 (t.aX.map rb),kV t.since,kL t.done]],ty:=193}]}),(10903,{base:=0,ah:=[{z:=4,els:=[[.sl 3 (r.kinds.map Kd.row),.sl 4 (r.parts.map Pt.row),.int .i64 r.ax,.sl 2 (r.az.map Od.row)]],ty:=37}]})] cg)) (fun k=>r.parts.length - k.1) ⟨0,by omega⟩ ?_ ?_ ?_
   ·simp [aj,aT]
   ·exact bA.of_eq (by simp [RS.gB,RS.fK])
   rintro⟨k,hk⟩;simp only;have z2:=pM t wa wb wc k;have z3:=eA t wa wb k;by_cases aH:k<r.parts.length
   ·have vd:(k:Int)<r.parts.length:=(by omega);have z4:=wx k;have EM:k<t.cV.length:=(by rw [va.cV];exact aH);have zs:k<t.used.length:=(by rw [va.used];exact aH);obtain⟨w,hw,hw'⟩:=aM EM;have vX:t.cV.getD k (0,0)=w:=(by simp [List.getD,hw]);have hU:t.gB wa wb wc (k+1)=if w.1=wa then (t.gB wa wb wc k).set k (eZ ((t.gB wa wb wc k).getD k (0,0)).1 wb,eZ ((t.gB wa wb wc k).getD k (0,0)).2 wc)else t.gB wa wb wc k:=(by simp only [RS.gB,vX]);have hS:t.fK wa wb (k+1)=if w.1=wa then dO t.aX wb k (t.fK wa wb k) t.aX.length else t.fK wa wb k:=(by simp only [RS.fK,vX]);generalize t.gB wa wb wc k=U at *;generalize t.fK wa wb k=S at *;by_cases hm:w.1=wa
    case neg=>
     have hm':(w.1=wa)=False:=eq_false hm;rw [if_neg hm]at hU hS;simp -dsimp [vd];repeat' first|omega|(exact aD _)|(exact aF _)|(exact aP _ _)|simp -dsimp [bI,-ak,-av,vd,aH,hw,hw',EM,z4,bn,hm']|apply aI|apply nI|intro
     refine⟨⟨k+1,by omega⟩,ag rfl ?_,bA.of_eq (by simp only [hU,hS]),by simp only;omega⟩;simp [aj,aT]
    rw [if_pos hm]at hU hS;have z5:k<U.length:=(by omega);obtain⟨u,hu,WV⟩:=aM z5;have zt:U.getD k (0,0)=u:=(by simp [List.getD,hu]);rw [zt]at hU
    obtain⟨s',f1,O8,f1l,f2,f3,f3i,f3d,f4,f5,f6,f7⟩:∃s':Int × Int->List (List Int)->RS,(∀u sn,(s' u sn).used[k]?=some u)/\(∀u sn (h:k<(s' u sn).used.length),(s' u sn).used[k]=u)/\(∀u sn,(s' u sn).used.length=t.used.length)/\(∀u sn,(s' u sn).since=sn)/\(∀u sn,(s' u sn).cV=t.cV)/\(∀u sn,(s' u sn).aX=t.aX)/\(∀u sn,(s' u sn).done=t.done)/\
      (∀u sn x y h,bE (Ob iG (s' u sn) h) 16507 0 {z:=2,els:=((s' u sn).used.map bn).set k [.int .i64 x,.int .i64 y],ty:=90,fz:=false,cl:=true}=Ob iG (s' (x,y) sn) h)/\
      (∀u sn o row x h,sn[o]?=some row->bE (Ob iG (s' u sn) h) 16529 o {z:=1,els:=(row.map ri).set k [.int .i64 x],ty:=3,fz:=false,cl:=true}=Ob iG (s' u (sn.set o (row.set k x))) h)/\
      ({t with used:=U,since:=S}:RS)=s' u S/\(∀q sn,({t with used:=U.set k q,since:=sn}:RS)=s' q sn):=by
     refine⟨fun u sn=>{t with used:=U.set k u,since:=sn},fun u sn=>by simp [z5],fun u sn h=>by simp,fun u sn=>by simp [z2],fun _ _=>rfl,fun _ _=>rfl,fun _ _=>rfl,fun _ _=>rfl,fun u sn x y h=>?_,fun u sn o row x h hr=>?_,?_,fun _ _=>rfl⟩
     ·have:=RD (s:={t with used:=U.set k u,since:=sn}) (h:=h) (j:=k) x y;simp only [List.set_set]at this;exact this
     ·exact ah0 (s:={t with used:=U.set k u,since:=sn}) (h:=h) (i:=o) (j:=k) hr x
     ·simp only [iz hu]
    rw [f6];clear f6;simp -dsimp [vd];repeat' first|omega|(exact aD _)|(exact aF _)|(exact aP _ _)|simp -dsimp [bI,-ak,-av,vd,aH,hw,hw',EM,zs,bn,hm,f1,O8,f1l,f2,f3,f3i,f3d,f4]|apply aI|apply nI|intro
    refine ay [105,106,107,108,109,112,113,114,115,116,117,118,119,120,121,122,123,124,125,126,127,128,110,111,12] (fun j:Fin (r.az.length+1)=>[(12,(true,.int .i64 (j.1:Nat)))]) (fun j=>Ob iG (s' (eZ u.1 wb,eZ u.2 wc) (dO t.aX wb k S j.1)) (hps [(10908,{base:=0,ah:=[{z:=5,els:=[[.bw 16507 0 t.used.length,.bw 16510 0 t.cV.length,.bw 16513 0 t.aX.length,oF 16531 t.since.length,oF 16542 t.done.length]],ty:=193,cl:=false}]}),(16501,{base:=1000000,ah:=[]}),(16502,{base:=1000000,ah:=[]}),(16503,{base:=1000000,ah:=[]}),(16530,{base:=1000000,ah:=[]}),(16541,{base:=1000000,ah:=[]}),(10906,{base:=0,ah:=[{z:=5,els:=[[.nil,.nil,.nil,.nil,.nil]],ty:=193}]}),(10905,{base:=0,ah:=[{z:=4,els:=[[.int .i64 1,.int .i64 wa,.int .i64 wb,.int .i64 wc]],ty:=86}]}),(10904,{base:=0,ah:=[{z:=5,els:=[[.sl 2 (t.used.map bn),.sl 2 (t.cV.map bn),.sl 1 (t.aX.map rb),kV t.since,kL t.done]],ty:=193}]}),(10903,{base:=0,ah:=[{z:=4,els:=[[.sl 3 (r.kinds.map Kd.row),.sl 4 (r.parts.map Pt.row),.int .i64 r.ax,.sl 2 (r.az.map Od.row)]],ty:=37}]})] cg)) (fun j=>r.az.length - j.1) ⟨0,by omega⟩ ?_ ?_ ?_
    ·simp [aj,aT]
    ·exact bA.of_eq (by simp [dO,eZ])
    rintro⟨j,hj⟩;simp only;by_cases vP:j<r.az.length
    ·have vV:(j:Int)<r.az.length:=(by omega);have z6:=wx j;have MN:j<t.aX.length:=(by rw [va.aX];exact vP);obtain⟨b,hb,hb'⟩:=aM MN;have EV:t.aX.getD j false=b:=(by simp [List.getD,hb]);have hA:dO t.aX wb k S (j+1)=if b=true then (dO t.aX wb k S j).set j (((dO t.aX wb k S j).getD j []).set k (eZ (((dO t.aX wb k S j).getD j []).getD k 0) wb))else dO t.aX wb k S j:=(by simp only [dO,EV]);have hQ:=(iH t.aX wb k S j).trans z3;generalize dO t.aX wb k S j=Q at *;have z7:Q.length=t.since.length:=gh hQ;have zv:=tv hQ va.kA;have z0:j<Q.length:=(by rw [z7,va.since];exact vP);obtain⟨row,vW,SI⟩:=aM z0;have z8:row.length=r.parts.length:=zv row (SI ▸ List.getElem_mem z0);have z9:k<row.length:=(by rw [z8];exact aH);obtain⟨v,hv,fJ⟩:=aM z9;have zE:Q.getD j []=row:=(by simp [List.getD,vW]);have zK:row.getD k 0=v:=(by simp [List.getD,hv]);rw [zE,zK]at hA;cases b
     ·rw [if_neg (by simp)]at hA;simp -dsimp [vV];repeat' first|omega|(exact aD _)|(exact aF _)|(exact aP _ _)|simp -dsimp [bI,-ak,-av,vV,vP,MN,hb,hb',z6,f1,O8,f1l,f2,f3,f3i,f3d,rb]|apply aI|apply nI|intro
      refine⟨⟨j+1,by omega⟩,ag rfl ?_,bA.of_eq (by simp only [hA]),by simp only;omega⟩;simp [aj,aT]
     ·rw [if_pos rfl]at hA;have vy:=ei (k:=16531) (n:=t.since.length) (by omega);have z1:=gb (rows:=qy Q) (ty:=43) (by simp [qy];omega);have vr:(qy Q)[j]?=some [.bw 16529 j row.length]:=(by simp [qy,vW]);have Io:∀h:j<(qy Q).length,(qy Q)[j]=[.bw 16529 j row.length]:=fun h=>by rw [List.getElem?_eq_getElem h]at vr;exact Option.some.inj vr
      have Ip:(qy Q).length=t.since.length:=(by simp [qy,z7]);have zY:j<t.since.length:=(by omega);have f5':=fun u x h=>f5 u Q j row x h vW;simp -dsimp [vV];repeat' first|omega|(exact aD _)|(exact aF _)|(exact aP _ _)|simp -dsimp [bI,-ak,-av,vV,vP,MN,hb,hb',z6,f1,O8,f1l,f2,f3,f3i,f3d,rb,vy,z1,vr,Io,Ip,zY,z0,vW,SI,z9,z8,aH,vd,hv,fJ,O1,ri,f5']|apply aI|apply nI|intro
      refine⟨⟨j+1,by omega⟩,ag rfl ?_,bA.of_eq (by simp only [hA,eZ,vy]),by simp only;omega⟩;simp [aj,aT]
    ·have AD:j=r.az.length:=(by omega);have zd:¬ (j:Int)<r.az.length:=(by omega);have y0:r.az.length=t.aX.length:=(by rw [va.aX]);subst AD;simp -dsimp [zd];repeat' first|omega|(exact aD _)|(exact aF _)|(exact aP _ _)|simp -dsimp [bI,-ak,-av,zd,z4]|apply aI|apply nI|intro
     refine⟨⟨k+1,by omega⟩,cq (aN rfl (br rfl (aN rfl bO))) ?_,bA.of_eq (by simp only [hU,hS,y0,f7]),by simp only;omega⟩;simp [aj,aT]
   have vs:¬ (k:Int)<r.parts.length:=(by omega);have y1:k=r.parts.length:=(by omega);subst y1;have adk:=gh z3;simp -dsimp [vs,-ak,-av];repeat' first|omega|(exact aD _)|(exact aF _)|(exact aP _ _)|simp -dsimp [bI,-ak,-av,vs,z2,adk,aU,bL]|apply aI|apply nI|intro
  ·obtain⟨ni,y3,v9⟩:=aW (m:=r.parts.length) (by omega) pa;subst y3;have lV:ni<t.cV.length:=(by rw [va.cV];exact v9);obtain⟨wp,hp,hp'⟩:=aM lV;cases ez:au ni 0 (IntKind.wrap .i64 (r.ax - 1))
   ·have h1:t.ok r ⟨1,ni,wb,wc⟩=false:=(by rw [ho];simp only [cM,ez];rfl);have h2:=neg _ _ _ h1;simp only [h1,h2];simp -dsimp [Tryz.f109,bI,aZ.row,aU,v0,-ak,-av];repeat' first|omega|(exact aD _)|(exact aF _)|(exact aP _ _)|simp -dsimp [bI,-ak,-av,bu,kM,kX,iq,ec,bL,aU,ez,pa,v9,lV,hp,hp',bn]|apply aI|apply nI|intro
   cases kJ:au wb 0 100
   ·have h1:t.ok r ⟨1,ni,wb,wc⟩=false:=(by rw [ho,kJ];simp);have h2:=neg _ _ _ h1;simp only [h1,h2];simp -dsimp [Tryz.f109,bI,aZ.row,aU,v0,-ak,-av];repeat' first|omega|(exact aD _)|(exact aF _)|(exact aP _ _)|simp -dsimp [bI,-ak,-av,bu,kM,kX,iq,ec,bL,aU,ez,kJ,pa,v9,lV,hp,hp',bn]|apply aI|apply nI|intro
   cases Hl:au wc 0 100
   ·have h1:t.ok r ⟨1,ni,wb,wc⟩=false:=(by rw [ho,Hl];simp);have h2:=neg _ _ _ h1;simp only [h1,h2];simp -dsimp [Tryz.f109,bI,aZ.row,aU,v0,-ak,-av];repeat' first|omega|(exact aD _)|(exact aF _)|(exact aP _ _)|simp -dsimp [bI,-ak,-av,bu,kM,kX,iq,ec,bL,aU,ez,kJ,Hl,pa,v9,lV,hp,hp',bn]|apply aI|apply nI|intro
   cases hfl:(t.hi r).lF ni wb wc
   ·have h1:t.ok r ⟨1,ni,wb,wc⟩=false:=(by rw [ho,hfl];simp);have h2:=neg _ _ _ h1;simp only [h1,h2];simp -dsimp [Tryz.f109,bI,aZ.row,aU,v0,-ak,-av];repeat' first|omega|(exact aD _)|(exact aF _)|(exact aP _ _)|simp -dsimp [bI,-ak,-av,bu,kM,kX,iq,ec,bL,aU,ez,kJ,Hl,gN,va,hfl,pa,v9,lV,hp,hp',bn]|apply aI|apply nI|intro
   have h1:t.ok r ⟨1,ni,wb,wc⟩=true:=(by rw [ho,kJ,Hl,hfl];simp only [cM,ez];rfl);have h2:t.after r ⟨1,ni,wb,wc⟩=t.kE ni wb wc r.parts.length:=(by simp [RS.after,h1,RS.act]);simp only [h1,h2,RS.kE];simp -dsimp [Tryz.f109,bI,aZ.row,aU,v0,-ak,-av];repeat' first|omega|(exact aD _)|(exact aF _)|(exact aP _ _)|simp -dsimp [bI,-ak,-av,bu,kM,kX,iq,ec,bL,aU,ez,kJ,Hl,gN,va,hfl,pa,v9,lV,hp,hp',bn]|apply aI|apply nI|intro
   refine ay [67,68,69,70,71,74,75,76,77,78,79,80,81,82,83,84,85,86,87,88,89,90,91,92,93,94,95,96,97,98,99,100,101,102,103,104,12,105,106,107,108,109,112,113,114,115,116,117,118,119,120,121,122,123,124,125,126,127,128,110,111,72,73,11] (fun k:Fin (r.parts.length+1)=>[(11,(true,.int .i64 (k.1:Nat)))])
    (fun k=>Ob iG {t with used:=t.gB ni wb wc k.1,since:=t.fK ni wb k.1} (hps [(10908,{base:=0,ah:=[{z:=5,els:=[[.bw 16507 0 t.used.length,.bw 16510 0 t.cV.length,.bw 16513 0 t.aX.length,oF 16531 t.since.length,oF 16542 t.done.length]],ty:=193,cl:=false}]}),(16501,{base:=1000000,ah:=[]}),(16502,{base:=1000000,ah:=[]}),(16503,{base:=1000000,ah:=[]}),(16530,{base:=1000000,ah:=[]}),(16541,{base:=1000000,ah:=[]}),(10906,{base:=0,ah:=[{z:=5,els:=[[.nil,.nil,.nil,.nil,.nil]],ty:=193}]}),(10905,{base:=0,ah:=[{z:=4,els:=[[.int .i64 1,.int .i64 ni,.int .i64 wb,.int .i64 wc]],ty:=86}]}),(10904,{base:=0,ah:=[{z:=5,els:=[[.sl 2 (t.used.map bn),.sl 2 (t.cV.map bn),.sl 1 (t.aX.map rb),kV t.since,kL t.done]],ty:=193}]}),(10903,{base:=0,ah:=[{z:=4,els:=[[.sl 3 (r.kinds.map Kd.row),.sl 4 (r.parts.map Pt.row),.int .i64 r.ax,.sl 2 (r.az.map Od.row)]],ty:=37}]})] cg)) (fun k=>r.parts.length - k.1) ⟨0,by omega⟩ ?_ ?_ ?_
   ·simp [aj,aT]
   ·exact bA.of_eq (by simp [RS.gB,RS.fK])
   rintro⟨k,hk⟩;simp only;have z2:=pM t ni wb wc k;have z3:=eA t ni wb k;by_cases aH:k<r.parts.length
   ·have vd:(k:Int)<r.parts.length:=(by omega);have z4:=wx k;have EM:k<t.cV.length:=(by rw [va.cV];exact aH);have zs:k<t.used.length:=(by rw [va.used];exact aH);obtain⟨w,hw,hw'⟩:=aM EM;have vX:t.cV.getD k (0,0)=w:=(by simp [List.getD,hw]);have hU:t.gB ni wb wc (k+1)=if w.1=ni then (t.gB ni wb wc k).set k (eZ ((t.gB ni wb wc k).getD k (0,0)).1 wb,eZ ((t.gB ni wb wc k).getD k (0,0)).2 wc)else t.gB ni wb wc k:=(by simp only [RS.gB,vX]);have hS:t.fK ni wb (k+1)=if w.1=ni then dO t.aX wb k (t.fK ni wb k) t.aX.length else t.fK ni wb k:=(by simp only [RS.fK,vX]);generalize t.gB ni wb wc k=U at *;generalize t.fK ni wb k=S at *;by_cases hm:w.1=ni
    case neg=>
     have hm':(w.1=ni)=False:=eq_false hm;rw [if_neg hm]at hU hS;simp -dsimp [vd];repeat' first|omega|(exact aD _)|(exact aF _)|(exact aP _ _)|simp -dsimp [bI,-ak,-av,vd,aH,hw,hw',EM,z4,bn,hm']|apply aI|apply nI|intro
     refine⟨⟨k+1,by omega⟩,ag rfl ?_,bA.of_eq (by simp only [hU,hS]),by simp only;omega⟩;simp [aj,aT]
    rw [if_pos hm]at hU hS;have z5:k<U.length:=(by omega);obtain⟨u,hu,WV⟩:=aM z5;have zt:U.getD k (0,0)=u:=(by simp [List.getD,hu]);rw [zt]at hU
    obtain⟨s',f1,O8,f1l,f2,f3,f3i,f3d,f4,f5,f6,f7⟩:∃s':Int × Int->List (List Int)->RS,(∀u sn,(s' u sn).used[k]?=some u)/\(∀u sn (h:k<(s' u sn).used.length),(s' u sn).used[k]=u)/\(∀u sn,(s' u sn).used.length=t.used.length)/\(∀u sn,(s' u sn).since=sn)/\(∀u sn,(s' u sn).cV=t.cV)/\(∀u sn,(s' u sn).aX=t.aX)/\(∀u sn,(s' u sn).done=t.done)/\
      (∀u sn x y h,bE (Ob iG (s' u sn) h) 16507 0 {z:=2,els:=((s' u sn).used.map bn).set k [.int .i64 x,.int .i64 y],ty:=90,fz:=false,cl:=true}=Ob iG (s' (x,y) sn) h)/\
      (∀u sn o row x h,sn[o]?=some row->bE (Ob iG (s' u sn) h) 16529 o {z:=1,els:=(row.map ri).set k [.int .i64 x],ty:=3,fz:=false,cl:=true}=Ob iG (s' u (sn.set o (row.set k x))) h)/\
      ({t with used:=U,since:=S}:RS)=s' u S/\(∀q sn,({t with used:=U.set k q,since:=sn}:RS)=s' q sn):=by
     refine⟨fun u sn=>{t with used:=U.set k u,since:=sn},fun u sn=>by simp [z5],fun u sn h=>by simp,fun u sn=>by simp [z2],fun _ _=>rfl,fun _ _=>rfl,fun _ _=>rfl,fun _ _=>rfl,fun u sn x y h=>?_,fun u sn o row x h hr=>?_,?_,fun _ _=>rfl⟩
     ·have:=RD (s:={t with used:=U.set k u,since:=sn}) (h:=h) (j:=k) x y;simp only [List.set_set]at this;exact this
     ·exact ah0 (s:={t with used:=U.set k u,since:=sn}) (h:=h) (i:=o) (j:=k) hr x
     ·simp only [iz hu]
    rw [f6];clear f6;simp -dsimp [vd];repeat' first|omega|(exact aD _)|(exact aF _)|(exact aP _ _)|simp -dsimp [bI,-ak,-av,vd,aH,hw,hw',EM,zs,bn,hm,f1,O8,f1l,f2,f3,f3i,f3d,f4]|apply aI|apply nI|intro
    refine ay [105,106,107,108,109,112,113,114,115,116,117,118,119,120,121,122,123,124,125,126,127,128,110,111,12] (fun j:Fin (r.az.length+1)=>[(12,(true,.int .i64 (j.1:Nat)))]) (fun j=>Ob iG (s' (eZ u.1 wb,eZ u.2 wc) (dO t.aX wb k S j.1)) (hps [(10908,{base:=0,ah:=[{z:=5,els:=[[.bw 16507 0 t.used.length,.bw 16510 0 t.cV.length,.bw 16513 0 t.aX.length,oF 16531 t.since.length,oF 16542 t.done.length]],ty:=193,cl:=false}]}),(16501,{base:=1000000,ah:=[]}),(16502,{base:=1000000,ah:=[]}),(16503,{base:=1000000,ah:=[]}),(16530,{base:=1000000,ah:=[]}),(16541,{base:=1000000,ah:=[]}),(10906,{base:=0,ah:=[{z:=5,els:=[[.nil,.nil,.nil,.nil,.nil]],ty:=193}]}),(10905,{base:=0,ah:=[{z:=4,els:=[[.int .i64 1,.int .i64 ni,.int .i64 wb,.int .i64 wc]],ty:=86}]}),(10904,{base:=0,ah:=[{z:=5,els:=[[.sl 2 (t.used.map bn),.sl 2 (t.cV.map bn),.sl 1 (t.aX.map rb),kV t.since,kL t.done]],ty:=193}]}),(10903,{base:=0,ah:=[{z:=4,els:=[[.sl 3 (r.kinds.map Kd.row),.sl 4 (r.parts.map Pt.row),.int .i64 r.ax,.sl 2 (r.az.map Od.row)]],ty:=37}]})] cg)) (fun j=>r.az.length - j.1) ⟨0,by omega⟩ ?_ ?_ ?_
    ·simp [aj,aT]
    ·exact bA.of_eq (by simp [dO,eZ])
    rintro⟨j,hj⟩;simp only;by_cases vP:j<r.az.length
    ·have vV:(j:Int)<r.az.length:=(by omega);have z6:=wx j;have MN:j<t.aX.length:=(by rw [va.aX];exact vP);obtain⟨b,hb,hb'⟩:=aM MN;have EV:t.aX.getD j false=b:=(by simp [List.getD,hb]);have hA:dO t.aX wb k S (j+1)=if b=true then (dO t.aX wb k S j).set j (((dO t.aX wb k S j).getD j []).set k (eZ (((dO t.aX wb k S j).getD j []).getD k 0) wb))else dO t.aX wb k S j:=(by simp only [dO,EV]);have hQ:=(iH t.aX wb k S j).trans z3;generalize dO t.aX wb k S j=Q at *;have z7:Q.length=t.since.length:=gh hQ;have zv:=tv hQ va.kA;have z0:j<Q.length:=(by rw [z7,va.since];exact vP);obtain⟨row,vW,SI⟩:=aM z0;have z8:row.length=r.parts.length:=zv row (SI ▸ List.getElem_mem z0);have z9:k<row.length:=(by rw [z8];exact aH);obtain⟨v,hv,fJ⟩:=aM z9;have zE:Q.getD j []=row:=(by simp [List.getD,vW]);have zK:row.getD k 0=v:=(by simp [List.getD,hv]);rw [zE,zK]at hA;cases b
     ·rw [if_neg (by simp)]at hA;simp -dsimp [vV];repeat' first|omega|(exact aD _)|(exact aF _)|(exact aP _ _)|simp -dsimp [bI,-ak,-av,vV,vP,MN,hb,hb',z6,f1,O8,f1l,f2,f3,f3i,f3d,rb]|apply aI|apply nI|intro
      refine⟨⟨j+1,by omega⟩,ag rfl ?_,bA.of_eq (by simp only [hA]),by simp only;omega⟩;simp [aj,aT]
     ·rw [if_pos rfl]at hA;have vy:=ei (k:=16531) (n:=t.since.length) (by omega);have z1:=gb (rows:=qy Q) (ty:=43) (by simp [qy];omega);have vr:(qy Q)[j]?=some [.bw 16529 j row.length]:=(by simp [qy,vW]);have Io:∀h:j<(qy Q).length,(qy Q)[j]=[.bw 16529 j row.length]:=fun h=>by rw [List.getElem?_eq_getElem h]at vr;exact Option.some.inj vr
      have Ip:(qy Q).length=t.since.length:=(by simp [qy,z7]);have zY:j<t.since.length:=(by omega);have f5':=fun u x h=>f5 u Q j row x h vW;simp -dsimp [vV];repeat' first|omega|(exact aD _)|(exact aF _)|(exact aP _ _)|simp -dsimp [bI,-ak,-av,vV,vP,MN,hb,hb',z6,f1,O8,f1l,f2,f3,f3i,f3d,rb,vy,z1,vr,Io,Ip,zY,z0,vW,SI,z9,z8,aH,vd,hv,fJ,O1,ri,f5']|apply aI|apply nI|intro
      refine⟨⟨j+1,by omega⟩,ag rfl ?_,bA.of_eq (by simp only [hA,eZ,vy]),by simp only;omega⟩;simp [aj,aT]
    ·have AD:j=r.az.length:=(by omega);have zd:¬ (j:Int)<r.az.length:=(by omega);have y0:r.az.length=t.aX.length:=(by rw [va.aX]);subst AD;simp -dsimp [zd];repeat' first|omega|(exact aD _)|(exact aF _)|(exact aP _ _)|simp -dsimp [bI,-ak,-av,zd,z4]|apply aI|apply nI|intro
     refine⟨⟨k+1,by omega⟩,cq (aN rfl (br rfl (aN rfl bO))) ?_,bA.of_eq (by simp only [hU,hS,y0,f7]),by simp only;omega⟩;simp [aj,aT]
   have vs:¬ (k:Int)<r.parts.length:=(by omega);have y1:k=r.parts.length:=(by omega);subst y1;have adk:=gh z3;simp -dsimp [vs,-ak,-av];repeat' first|omega|(exact aD _)|(exact aF _)|(exact aP _ _)|simp -dsimp [bI,-ak,-av,vs,z2,adk,aU,bL]|apply aI|apply nI|intro
 by_cases k2:wk=2
 ·subst k2;have ho:t.ok r ⟨2,wa,wb,wc⟩=((RS.fD r wa && (t.cV.getD wa.toNat (0,0)).1 == -1) && ((r.parts.getD wa.toNat default).known && (au wb 0 (cM r.ax 1) && (au wc 0 (cM (r.kinds.getD (r.parts.getD wa.toNat default).kind.toNat default).places 1) && decide ((t.hi r).at (r.parts.getD wa.toNat default).kind wb wc<0))))):=by simp [RS.ok,RS.stored]
  have neg:∀a b c,t.ok r ⟨2,a,b,c⟩=false->t.after r ⟨2,a,b,c⟩=t:=fun a b c h1=>by simp [RS.after,h1]
  cases pa:RS.fD r wa
  ·have h1:t.ok r ⟨2,wa,wb,wc⟩=false:=(by rw [ho,pa];rfl);have h2:=neg _ _ _ h1;simp only [h1,h2];simp only [RS.fD,cM]at pa;simp -dsimp [Tryz.f109,bI,aZ.row,aU,v0,-ak,-av];repeat' first|omega|(exact aD _)|(exact aF _)|(exact aP _ _)|simp -dsimp [bI,-ak,-av,bu,kM,kX,iq,ec,bL,aU,pa]|apply aI|apply nI|intro
  obtain⟨ni,rfl,v9⟩:=aW (m:=r.parts.length) (by omega) pa;have lV:ni<t.cV.length:=by rw [va.cV];exact v9
  obtain⟨wp,hp,hp'⟩:=aM lV;obtain⟨pt,vx,za⟩:=aM v9;have M7:r.parts.getD ni default=pt:=by simp [List.getD,vx]
  have vX:t.cV.getD ni (0,0)=wp:=by simp [List.getD,hp]
  have y7:=v7 pt (za ▸ List.getElem_mem v9);obtain⟨ki,vd⟩:∃ki:Nat,pt.kind=ki:=⟨pt.kind.toNat,by omega⟩
  have zp:ki<r.kinds.length:=by omega
  obtain⟨kd,kj,iA⟩:=aM zp;have y4:r.kinds.getD ki default=kd:=by simp [List.getD,kj]
  rw [pa,Int.toNat_natCast,M7,vX,vd,Int.toNat_natCast,y4]at ho;simp only [RS.fD,cM]at pa;by_cases vb:wp.1 = -1
  case neg=>
   have adl:(wp.1 == -1)=false:=(by simpa using vb);have h1:t.ok r ⟨2,ni,wb,wc⟩=false:=(by rw [ho];simp [vb]);have h2:=neg _ _ _ h1;simp only [h1,h2];simp -dsimp [Tryz.f109,bI,aZ.row,aU,v0,-ak,-av];repeat' first|omega|(exact aD _)|(exact aF _)|(exact aP _ _)|simp -dsimp [bI,-ak,-av,bu,kM,kX,iq,ec,bL,aU,pa,v9,lV,hp,hp',bn,vb,adl]|apply aI|apply nI|intro
  cases vs:pt.known
  ·have h1:t.ok r ⟨2,ni,wb,wc⟩=false:=(by rw [ho,vs];simp);have h2:=neg _ _ _ h1;simp only [h1,h2];simp -dsimp [Tryz.f109,bI,aZ.row,aU,v0,-ak,-av];repeat' first|omega|(exact aD _)|(exact aF _)|(exact aP _ _)|simp -dsimp [bI,-ak,-av,bu,kM,kX,iq,ec,bL,aU,pa,v9,lV,hp,hp',bn,vb,vx,za,Pt.row,vs]|apply aI|apply nI|intro
  cases hb:au wb 0 (IntKind.wrap .i64 (r.ax - 1))
  ·have h1:t.ok r ⟨2,ni,wb,wc⟩=false:=(by rw [ho];simp only [cM,hb];simp);have h2:=neg _ _ _ h1;simp only [h1,h2];simp -dsimp [Tryz.f109,bI,aZ.row,aU,v0,-ak,-av];repeat' first|omega|(exact aD _)|(exact aF _)|(exact aP _ _)|simp -dsimp [bI,-ak,-av,bu,kM,kX,iq,ec,bL,aU,pa,v9,lV,hp,hp',bn,vb,vx,za,Pt.row,vs,hb]|apply aI|apply nI|intro
  cases hc:au wc 0 (IntKind.wrap .i64 (kd.places - 1))
  ·have h1:t.ok r ⟨2,ni,wb,wc⟩=false:=(by rw [ho];simp only [cM,hc];simp);have h2:=neg _ _ _ h1;simp only [h1,h2];simp -dsimp [Tryz.f109,bI,aZ.row,aU,v0,-ak,-av];repeat' first|omega|(exact aD _)|(exact aF _)|(exact aP _ _)|simp -dsimp [bI,-ak,-av,bu,kM,kX,iq,ec,bL,aU,pa,v9,lV,hp,hp',bn,vb,vx,za,Pt.row,vs,hb,vd,zp,kj,iA,Kd.row,hc]|apply aI|apply nI|intro
  by_cases lC:(t.hi r).at ki wb wc<0
  case neg=>
   have adm:0<=(t.hi r).at ki wb wc:=(by omega);have h1:t.ok r ⟨2,ni,wb,wc⟩=false:=(by rw [ho,decide_eq_false lC];simp);have h2:=neg _ _ _ h1;simp only [h1,h2];simp -dsimp [Tryz.f109,bI,aZ.row,aU,v0,-ak,-av];repeat' first|omega|(exact aD _)|(exact aF _)|(exact aP _ _)|simp -dsimp [bI,-ak,-av,bu,kM,kX,iq,ec,bL,aU,pa,v9,lV,hp,hp',bn,vb,vx,za,Pt.row,vs,hb,vd,zp,kj,iA,Kd.row,hc,gN,va,adm]|apply aI|apply nI|intro
  have adm:¬ 0<=(t.hi r).at ki wb wc:=by omega
  have h1:t.ok r ⟨2,ni,wb,wc⟩=true:=by rw [ho,decide_eq_true lC];simp only [cM,vb,vs,hb,hc];rfl
  have h2:t.after r ⟨2,ni,wb,wc⟩={t with cV:=t.cV.set ni (wb,wc)}:=by simp [RS.after,h1,RS.act]
  simp only [h1,h2];have hw:=fun h=>RE (s:=t) (h:=h) (j:=ni) wb wc;simp -dsimp [Tryz.f109,bI,aZ.row,aU,v0,-ak,-av];repeat' first|omega|(exact aD _)|(exact aF _)|(exact aP _ _)|simp -dsimp [bI,-ak,-av,bu,kM,kX,iq,ec,bL,aU,pa,v9,lV,hp,hp',bn,vb,vx,za,Pt.row,vs,hb,vd,zp,kj,iA,Kd.row,hc,gN,va,adm,hw]|apply aI|apply nI|intro
 by_cases k3:wk=3
 ·subst k3;have ho:t.ok r ⟨3,wa,wb,wc⟩=(RS.fD r wa && (decide (0<=(t.cV.getD wa.toNat (0,0)).1) && (wb == 0 && wc == 0))):=by simp [RS.ok,Wk.alone]
  cases pa:RS.fD r wa
  ·have h1:t.ok r ⟨3,wa,wb,wc⟩=false:=(by rw [ho,pa];rfl);have h2:t.after r ⟨3,wa,wb,wc⟩=t:=(by simp [RS.after,h1]);simp only [h1,h2];simp only [RS.fD,cM]at pa;simp -dsimp [Tryz.f109,bI,aZ.row,aU,v0,-ak,-av];repeat' first|omega|(exact aD _)|(exact aF _)|(exact aP _ _)|simp -dsimp [bI,-ak,-av,bu,kM,kX,iq,ec,bL,aU,pa]|apply aI|apply nI|intro
  obtain⟨ni,rfl,v9⟩:=aW (m:=r.parts.length) (by omega) pa;have lV:ni<t.cV.length:=by rw [va.cV];exact v9
  obtain⟨p,hp,hp'⟩:=aM lV;have hg:t.cV.getD ni (0,0)=p:=by simp [List.getD,hp]
  rw [pa,Int.toNat_natCast,hg]at ho;simp only [RS.fD,cM]at pa;by_cases vb:p.1<0
  ·have h1:t.ok r ⟨3,ni,wb,wc⟩=false:=(by rw [ho];simp;omega);have h2:t.after r ⟨3,ni,wb,wc⟩=t:=(by simp [RS.after,h1]);simp only [h1,h2];simp -dsimp [Tryz.f109,bI,aZ.row,aU,v0,-ak,-av];repeat' first|omega|(exact aD _)|(exact aF _)|(exact aP _ _)|simp -dsimp [bI,-ak,-av,bu,kM,kX,iq,ec,bL,aU,pa,v9,lV,hp,hp',bn,vb]|apply aI|apply nI|intro
  by_cases hb:wb=0
  case neg=>
   have h1:t.ok r ⟨3,ni,wb,wc⟩=false:=(by rw [ho];simp [hb]);have h2:t.after r ⟨3,ni,wb,wc⟩=t:=(by simp [RS.after,h1]);simp only [h1,h2];simp -dsimp [Tryz.f109,bI,aZ.row,aU,v0,-ak,-av];repeat' first|omega|(exact aD _)|(exact aF _)|(exact aP _ _)|simp -dsimp [bI,-ak,-av,bu,kM,kX,iq,ec,bL,aU,pa,v9,lV,hp,hp',bn,vb,hb]|apply aI|apply nI|intro
  by_cases hc:wc=0
  case neg=>
   have h1:t.ok r ⟨3,ni,wb,wc⟩=false:=(by rw [ho];simp [hc]);have h2:t.after r ⟨3,ni,wb,wc⟩=t:=(by simp [RS.after,h1]);simp only [h1,h2];simp -dsimp [Tryz.f109,bI,aZ.row,aU,v0,-ak,-av];repeat' first|omega|(exact aD _)|(exact aF _)|(exact aP _ _)|simp -dsimp [bI,-ak,-av,bu,kM,kX,iq,ec,bL,aU,pa,v9,lV,hp,hp',bn,vb,hb,hc]|apply aI|apply nI|intro
  subst hb;subst hc;have h1:t.ok r ⟨3,ni,0,0⟩=true:=by rw [ho];simp;omega
  have h2:t.after r ⟨3,ni,0,0⟩={t with cV:=t.cV.set ni (-1,-1)}:=by simp [RS.after,h1,RS.act]
  simp only [h1,h2];have hw:=fun h=>RE (s:=t) (h:=h) (j:=ni) (-1) (-1);simp -dsimp [Tryz.f109,bI,aZ.row,aU,v0,-ak,-av];repeat' first|omega|(exact aD _)|(exact aF _)|(exact aP _ _)|simp -dsimp [bI,-ak,-av,bu,kM,kX,iq,ec,bL,aU,pa,v9,lV,hp,hp',bn,vb,hw]|apply aI|apply nI|intro
 by_cases k4:wk=4
 ·subst k4;have ho:t.ok r ⟨4,wa,wb,wc⟩=(RS.uU r wa && (!(t.aX.getD wa.toNat false) && (wb == 0 && wc == 0))):=by simp [RS.ok,Wk.alone]
  cases oa:RS.uU r wa
  ·have h1:t.ok r ⟨4,wa,wb,wc⟩=false:=(by rw [ho,oa];rfl);have h2:t.after r ⟨4,wa,wb,wc⟩=t:=(by simp [RS.after,h1]);simp only [h1,h2];simp only [RS.uU,cM]at oa;cases pa:au wa 0 (IntKind.wrap .i64 ((r.parts.length:Int) - 1))
   ·skip
    simp -dsimp [Tryz.f109,bI,aZ.row,aU,v0,-ak,-av];repeat' first|omega|(exact aD _)|(exact aF _)|(exact aP _ _)|simp -dsimp [bI,-ak,-av,bu,kM,kX,iq,ec,bL,aU,oa,pa]|apply aI|apply nI|intro
   ·obtain⟨ni,rfl,v9⟩:=aW (m:=r.parts.length) (by omega) pa;have lV:ni<t.cV.length:=(by rw [va.cV];exact v9);obtain⟨p,hp,hp'⟩:=aM lV;simp -dsimp [Tryz.f109,bI,aZ.row,aU,v0,-ak,-av];repeat' first|omega|(exact aD _)|(exact aF _)|(exact aP _ _)|simp -dsimp [bI,-ak,-av,bu,kM,kX,iq,ec,bL,aU,oa,pa,v9,lV,hp,hp',bn]|apply aI|apply nI|intro
  obtain⟨oi,rfl,jU⟩:=aW (m:=r.az.length) (by omega) oa;have qU:oi<t.aX.length:=by rw [va.aX];exact jU
  obtain⟨b1,ez,iC⟩:=aM qU;have hg:t.aX.getD oi false=b1:=by simp [List.getD,ez]
  rw [oa,Int.toNat_natCast,hg]at ho;simp only [RS.uU,cM]at oa;cases pa:au oi 0 (IntKind.wrap .i64 ((r.parts.length:Int) - 1))
  ·skip
   cases b1
   case true=>
    have h1:t.ok r ⟨4,oi,wb,wc⟩=false:=(by rw [ho];rfl);have h2:t.after r ⟨4,oi,wb,wc⟩=t:=(by simp [RS.after,h1]);simp only [h1,h2];simp -dsimp [Tryz.f109,bI,aZ.row,aU,v0,-ak,-av];repeat' first|omega|(exact aD _)|(exact aF _)|(exact aP _ _)|simp -dsimp [bI,-ak,-av,bu,kM,kX,iq,ec,bL,aU,oa,jU,qU,ez,iC,rb,pa]|apply aI|apply nI|intro
   by_cases hb:wb=0
   case neg=>
    have h1:t.ok r ⟨4,oi,wb,wc⟩=false:=(by rw [ho];simp [hb]);have h2:t.after r ⟨4,oi,wb,wc⟩=t:=(by simp [RS.after,h1]);simp only [h1,h2];simp -dsimp [Tryz.f109,bI,aZ.row,aU,v0,-ak,-av];repeat' first|omega|(exact aD _)|(exact aF _)|(exact aP _ _)|simp -dsimp [bI,-ak,-av,bu,kM,kX,iq,ec,bL,aU,oa,jU,qU,ez,iC,rb,hb,pa]|apply aI|apply nI|intro
   by_cases hc:wc=0
   case neg=>
    have h1:t.ok r ⟨4,oi,wb,wc⟩=false:=(by rw [ho];simp [hc]);have h2:t.after r ⟨4,oi,wb,wc⟩=t:=(by simp [RS.after,h1]);simp only [h1,h2];simp -dsimp [Tryz.f109,bI,aZ.row,aU,v0,-ak,-av];repeat' first|omega|(exact aD _)|(exact aF _)|(exact aP _ _)|simp -dsimp [bI,-ak,-av,bu,kM,kX,iq,ec,bL,aU,oa,jU,qU,ez,iC,rb,hb,hc,pa]|apply aI|apply nI|intro
   subst hb;subst hc;have h1:t.ok r ⟨4,oi,0,0⟩=true:=(by rw [ho];rfl);have h2:t.after r ⟨4,oi,0,0⟩={t with aX:=t.aX.set oi true}:=(by simp [RS.after,h1,RS.act]);simp only [h1,h2];have hw:=fun h=>abk (s:=t) (h:=h) (j:=oi) true;simp -dsimp [Tryz.f109,bI,aZ.row,aU,v0,-ak,-av];repeat' first|omega|(exact aD _)|(exact aF _)|(exact aP _ _)|simp -dsimp [bI,-ak,-av,bu,kM,kX,iq,ec,bL,aU,oa,jU,qU,ez,iC,rb,hw,pa]|apply aI|apply nI|intro
  ·obtain⟨ni,y8,v9⟩:=aW (n:=(oi:Int)) (m:=r.parts.length) (by omega) pa;have zo:oi<r.parts.length:=(by omega);have lV:oi<t.cV.length:=(by rw [va.cV];exact zo);obtain⟨p,hp,hp'⟩:=aM lV;cases b1
   case true=>
    have h1:t.ok r ⟨4,oi,wb,wc⟩=false:=(by rw [ho];rfl);have h2:t.after r ⟨4,oi,wb,wc⟩=t:=(by simp [RS.after,h1]);simp only [h1,h2];simp -dsimp [Tryz.f109,bI,aZ.row,aU,v0,-ak,-av];repeat' first|omega|(exact aD _)|(exact aF _)|(exact aP _ _)|simp -dsimp [bI,-ak,-av,bu,kM,kX,iq,ec,bL,aU,oa,jU,qU,ez,iC,rb,pa,zo,lV,hp,hp',bn]|apply aI|apply nI|intro
   by_cases hb:wb=0
   case neg=>
    have h1:t.ok r ⟨4,oi,wb,wc⟩=false:=(by rw [ho];simp [hb]);have h2:t.after r ⟨4,oi,wb,wc⟩=t:=(by simp [RS.after,h1]);simp only [h1,h2];simp -dsimp [Tryz.f109,bI,aZ.row,aU,v0,-ak,-av];repeat' first|omega|(exact aD _)|(exact aF _)|(exact aP _ _)|simp -dsimp [bI,-ak,-av,bu,kM,kX,iq,ec,bL,aU,oa,jU,qU,ez,iC,rb,hb,pa,zo,lV,hp,hp',bn]|apply aI|apply nI|intro
   by_cases hc:wc=0
   case neg=>
    have h1:t.ok r ⟨4,oi,wb,wc⟩=false:=(by rw [ho];simp [hc]);have h2:t.after r ⟨4,oi,wb,wc⟩=t:=(by simp [RS.after,h1]);simp only [h1,h2];simp -dsimp [Tryz.f109,bI,aZ.row,aU,v0,-ak,-av];repeat' first|omega|(exact aD _)|(exact aF _)|(exact aP _ _)|simp -dsimp [bI,-ak,-av,bu,kM,kX,iq,ec,bL,aU,oa,jU,qU,ez,iC,rb,hb,hc,pa,zo,lV,hp,hp',bn]|apply aI|apply nI|intro
   subst hb;subst hc;have h1:t.ok r ⟨4,oi,0,0⟩=true:=(by rw [ho];rfl);have h2:t.after r ⟨4,oi,0,0⟩={t with aX:=t.aX.set oi true}:=(by simp [RS.after,h1,RS.act]);simp only [h1,h2];have hw:=fun h=>abk (s:=t) (h:=h) (j:=oi) true;simp -dsimp [Tryz.f109,bI,aZ.row,aU,v0,-ak,-av];repeat' first|omega|(exact aD _)|(exact aF _)|(exact aP _ _)|simp -dsimp [bI,-ak,-av,bu,kM,kX,iq,ec,bL,aU,oa,jU,qU,ez,iC,rb,hw,pa,zo,lV,hp,hp',bn]|apply aI|apply nI|intro
 by_cases k5:wk=5
 ·subst k5;have ho:t.ok r ⟨5,wa,wb,wc⟩=(RS.fD r wa && (RS.uU r wb && (t.aX.getD wb.toNat false && ((r.az.getD wb.toNat default).kind == (r.parts.getD wa.toNat default).kind && (!((t.done.getD wb.toNat []).getD wa.toNat false) && wc == 0))))):=by simp [RS.ok]
  have neg:∀a b c,t.ok r ⟨5,a,b,c⟩=false->t.after r ⟨5,a,b,c⟩=t:=fun a b c h1=>by simp [RS.after,h1]
  cases pa:RS.fD r wa
  ·have h1:t.ok r ⟨5,wa,wb,wc⟩=false:=(by rw [ho,pa];rfl);have h2:=neg _ _ _ h1;simp only [h1,h2];simp only [RS.fD,cM]at pa;simp -dsimp [Tryz.f109,bI,aZ.row,aU,v0,-ak,-av];repeat' first|omega|(exact aD _)|(exact aF _)|(exact aP _ _)|simp -dsimp [bI,-ak,-av,bu,kM,kX,iq,ec,bL,aU,pa]|apply aI|apply nI|intro
  obtain⟨ni,rfl,v9⟩:=aW (m:=r.parts.length) (by omega) pa;have lV:ni<t.cV.length:=by rw [va.cV];exact v9
  obtain⟨wp,hp,hp'⟩:=aM lV;obtain⟨pt,vx,za⟩:=aM v9;have M7:r.parts.getD ni default=pt:=by simp [List.getD,vx]
  rw [pa,Int.toNat_natCast,M7]at ho;simp only [RS.fD,cM]at pa;cases oa:RS.uU r wb
  ·have h1:t.ok r ⟨5,ni,wb,wc⟩=false:=(by rw [ho,oa];rfl);have h2:=neg _ _ _ h1;simp only [h1,h2];simp only [RS.uU,cM]at oa;simp -dsimp [Tryz.f109,bI,aZ.row,aU,v0,-ak,-av];repeat' first|omega|(exact aD _)|(exact aF _)|(exact aP _ _)|simp -dsimp [bI,-ak,-av,bu,kM,kX,iq,ec,bL,aU,pa,v9,lV,hp,hp',bn,oa]|apply aI|apply nI|intro
  obtain⟨oi,rfl,jU⟩:=aW (m:=r.az.length) (by omega) oa;have qU:oi<t.aX.length:=by rw [va.aX];exact jU
  have nk:oi<t.done.length:=by rw [va.done];exact jU
  obtain⟨b1,ez,iC⟩:=aM qU;obtain⟨od,xS,Yj⟩:=aM jU;obtain⟨dr,Ab,Fo⟩:=aM nk;have zr:ni<dr.length:=by rw [va.oe dr (Fo ▸ List.getElem_mem nk)];exact v9
  obtain⟨b2,kJ,rN⟩:=aM zr;have hg:t.aX.getD oi false=b1:=by simp [List.getD,ez]
  have fV:r.az.getD oi default=od:=by simp [List.getD,xS]
  have y5:t.done.getD oi []=dr:=by simp [List.getD,Ab]
  have EV:dr.getD ni false=b2:=by simp [List.getD,kJ]
  rw [oa,Int.toNat_natCast,hg,fV,y5,EV]at ho;simp only [RS.uU,cM]at oa;cases b1
  ·have h1:t.ok r ⟨5,ni,oi,wc⟩=false:=(by rw [ho];rfl);have h2:=neg _ _ _ h1;simp only [h1,h2];simp -dsimp [Tryz.f109,bI,aZ.row,aU,v0,-ak,-av];repeat' first|omega|(exact aD _)|(exact aF _)|(exact aP _ _)|simp -dsimp [bI,-ak,-av,bu,kM,kX,iq,ec,bL,aU,pa,v9,lV,hp,hp',bn,oa,jU,qU,ez,iC,rb]|apply aI|apply nI|intro
  by_cases kj:od.kind=pt.kind
  case neg=>
   have iA:(od.kind == pt.kind)=false:=(by simpa using kj);have anz:(od.kind=pt.kind)=False:=eq_false kj;have anA:(od.kind != pt.kind)=true:=(by simp [bne,iA]);have h1:t.ok r ⟨5,ni,oi,wc⟩=false:=(by rw [ho,iA];rfl);have h2:=neg _ _ _ h1;simp only [h1,h2];simp -dsimp [Tryz.f109,bI,aZ.row,aU,v0,-ak,-av];repeat' first|omega|(exact aD _)|(exact aF _)|(exact aP _ _)|simp -dsimp [bI,-ak,-av,bu,kM,kX,iq,ec,bL,aU,pa,v9,lV,hp,hp',bn,oa,jU,qU,ez,iC,rb,xS,Yj,vx,za,Od.row,Pt.row,iA,anz,anA]|apply aI|apply nI|intro
  have vy:=ei (k:=16542) (n:=t.done.length) (by omega);have z1:=gb (rows:=vQ t.done) (ty:=155) (by simp [vQ];omega);have vr:(vQ t.done)[oi]?=some [.bw 16540 oi dr.length]:=by simp [vQ,Ab]
  have Io:∀h:oi<(vQ t.done).length,(vQ t.done)[oi]=[.bw 16540 oi dr.length]:=fun h=>by rw [List.getElem?_eq_getElem h]at vr;exact Option.some.inj vr
  have y2:(t.done.map GS)[oi]?=some {z:=1,els:=dr.map rb,ty:=4}:=by rw [List.getElem?_map,Ab];rfl
  have Ip:(vQ t.done).length=t.done.length:=by simp [vQ]
  cases b2
  case true=>
   have h1:t.ok r ⟨5,ni,oi,wc⟩=false:=(by rw [ho];simp);have h2:=neg _ _ _ h1;simp only [h1,h2];simp -dsimp [Tryz.f109,bI,aZ.row,aU,v0,-ak,-av];repeat' first|omega|(exact aD _)|(exact aF _)|(exact aP _ _)|simp -dsimp [bI,-ak,-av,bu,kM,kX,iq,ec,bL,aU,pa,v9,lV,hp,hp',bn,oa,jU,qU,ez,iC,rb,xS,Yj,vx,za,Od.row,Pt.row,kj,vy,z1,vr,Io,y2,Ip,nk,zr,kJ,rN,GS,Ab,Fo]|apply aI|apply nI|intro
  by_cases hc:wc=0
  case neg=>
   have h1:t.ok r ⟨5,ni,oi,wc⟩=false:=(by rw [ho];simp [hc]);have h2:=neg _ _ _ h1;simp only [h1,h2];simp -dsimp [Tryz.f109,bI,aZ.row,aU,v0,-ak,-av];repeat' first|omega|(exact aD _)|(exact aF _)|(exact aP _ _)|simp -dsimp [bI,-ak,-av,bu,kM,kX,iq,ec,bL,aU,pa,v9,lV,hp,hp',bn,oa,jU,qU,ez,iC,rb,xS,Yj,vx,za,Od.row,Pt.row,kj,vy,z1,vr,Io,y2,Ip,nk,zr,kJ,rN,GS,Ab,Fo,hc]|apply aI|apply nI|intro
  subst hc;have h1:t.ok r ⟨5,ni,oi,0⟩=true:=by rw [ho];simp [kj]
  have h2:t.after r ⟨5,ni,oi,0⟩={t with done:=t.done.set oi (dr.set ni true)}:=by simp [RS.after,h1,RS.act,List.getD,Ab]
  simp only [h1,h2];have hw:=fun h=>amM (s:=t) (h:=h) (i:=oi) (j:=ni) Ab true;have y6:∀h,av (Ob iG {t with done:=t.done.set oi (dr.set ni true)} h) (.bw 16542 0 t.done.length)=(True,kL (t.done.set oi (dr.set ni true))):=fun h=>by rw [<-vy];exact XA {t with done:=t.done.set oi (dr.set ni true)} h (by simp)
  simp -dsimp [Tryz.f109,bI,aZ.row,aU,v0,-ak,-av];repeat' first|omega|(exact aD _)|(exact aF _)|(exact aP _ _)|simp -dsimp [bI,-ak,-av,bu,kM,kX,iq,ec,bL,aU,pa,v9,lV,hp,hp',bn,oa,jU,qU,ez,iC,rb,xS,Yj,vx,za,Od.row,Pt.row,kj,vy,z1,vr,Io,y2,Ip,nk,zr,kJ,rN,GS,Ab,Fo,hw,y6]|apply aI|apply nI|intro
 by_cases k6:wk=6
 ·subst k6;have ho:t.ok r ⟨6,wa,wb,wc⟩=((RS.fD r wa && (t.cV.getD wa.toNat (0,0)).1 == -1) && (wb == 0 && wc == 0)):=by simp [RS.ok,Wk.alone,RS.stored]
  cases pa:RS.fD r wa
  ·have h1:t.ok r ⟨6,wa,wb,wc⟩=false:=(by rw [ho,pa];rfl);have h2:t.after r ⟨6,wa,wb,wc⟩=t:=(by simp [RS.after,h1]);simp only [h1,h2];simp only [RS.fD,cM]at pa;simp -dsimp [Tryz.f109,bI,aZ.row,aU,v0,-ak,-av];repeat' first|omega|(exact aD _)|(exact aF _)|(exact aP _ _)|simp -dsimp [bI,-ak,-av,bu,kM,kX,iq,ec,bL,aU,pa]|apply aI|apply nI|intro
  obtain⟨ni,rfl,v9⟩:=aW (m:=r.parts.length) (by omega) pa;have lV:ni<t.cV.length:=by rw [va.cV];exact v9
  obtain⟨p,hp,hp'⟩:=aM lV;have hg:t.cV.getD ni (0,0)=p:=by simp [List.getD,hp]
  rw [pa,Int.toNat_natCast,hg]at ho;simp only [RS.fD,cM]at pa;by_cases vb:p.1 = -1
  case neg=>
   have adl:(p.1 == -1)=false:=(by simpa using vb);have h1:t.ok r ⟨6,ni,wb,wc⟩=false:=(by rw [ho];simp [vb]);have h2:t.after r ⟨6,ni,wb,wc⟩=t:=(by simp [RS.after,h1]);simp only [h1,h2];simp -dsimp [Tryz.f109,bI,aZ.row,aU,v0,-ak,-av];repeat' first|omega|(exact aD _)|(exact aF _)|(exact aP _ _)|simp -dsimp [bI,-ak,-av,bu,kM,kX,iq,ec,bL,aU,pa,v9,lV,hp,hp',bn,vb,adl]|apply aI|apply nI|intro
  by_cases hb:wb=0
  case neg=>
   have h1:t.ok r ⟨6,ni,wb,wc⟩=false:=(by rw [ho];simp [hb]);have h2:t.after r ⟨6,ni,wb,wc⟩=t:=(by simp [RS.after,h1]);simp only [h1,h2];simp -dsimp [Tryz.f109,bI,aZ.row,aU,v0,-ak,-av];repeat' first|omega|(exact aD _)|(exact aF _)|(exact aP _ _)|simp -dsimp [bI,-ak,-av,bu,kM,kX,iq,ec,bL,aU,pa,v9,lV,hp,hp',bn,vb,hb]|apply aI|apply nI|intro
  by_cases hc:wc=0
  case neg=>
   have h1:t.ok r ⟨6,ni,wb,wc⟩=false:=(by rw [ho];simp [hc]);have h2:t.after r ⟨6,ni,wb,wc⟩=t:=(by simp [RS.after,h1]);simp only [h1,h2];simp -dsimp [Tryz.f109,bI,aZ.row,aU,v0,-ak,-av];repeat' first|omega|(exact aD _)|(exact aF _)|(exact aP _ _)|simp -dsimp [bI,-ak,-av,bu,kM,kX,iq,ec,bL,aU,pa,v9,lV,hp,hp',bn,vb,hb,hc]|apply aI|apply nI|intro
  subst hb;subst hc;have h1:t.ok r ⟨6,ni,0,0⟩=true:=by rw [ho];simp [vb]
  have h2:t.after r ⟨6,ni,0,0⟩={t with cV:=t.cV.set ni (-2,-2)}:=by simp [RS.after,h1,RS.act]
  simp only [h1,h2];have hw:=fun h=>RE (s:=t) (h:=h) (j:=ni) (-2) (-2);simp -dsimp [Tryz.f109,bI,aZ.row,aU,v0,-ak,-av];repeat' first|omega|(exact aD _)|(exact aF _)|(exact aP _ _)|simp -dsimp [bI,-ak,-av,bu,kM,kX,iq,ec,bL,aU,pa,v9,lV,hp,hp',bn,vb,hw]|apply aI|apply nI|intro
 have h1:t.ok r ⟨wk,wa,wb,wc⟩=false:=by simp [RS.ok,k1,k2,k3,k4,k5,k6]
 have h2:t.after r ⟨wk,wa,wb,wc⟩=t:=by simp [RS.after,h1]
 simp only [h1,h2];cases pa:au wa 0 (IntKind.wrap .i64 ((r.parts.length:Int) - 1))
 ·simp -dsimp [Tryz.f109,bI,aZ.row,aU,v0,-ak,-av];repeat' first|omega|(exact aD _)|(exact aF _)|(exact aP _ _)|simp -dsimp [bI,-ak,-av,bu,kM,kX,iq,ec,bL,k1,k2,k3,k4,k5,k6,pa,aU]|apply aI|apply nI|intro
 obtain⟨ni,rfl,v9⟩:=aW (m:=r.parts.length) (by omega) pa;have lV:ni<t.cV.length:=by rw [va.cV];exact v9
 obtain⟨p,hp,hp'⟩:=aM lV;simp -dsimp [Tryz.f109,bI,aZ.row,aU,v0,-ak,-av];repeat' first|omega|(exact aD _)|(exact aF _)|(exact aP _ _)|simp -dsimp [bI,-ak,-av,bu,kM,kX,iq,ec,bL,k1,k2,k3,k4,k5,k6,pa,v9,lV,hp,hp',bn,aU]|apply aI|apply nI|intro
theorem abl:FO 109 KM:=pf anx (.cons ajU (.cons ajS (.cons ak2 (.cons ak0 .nil))))
end Go.Sx
end
