/- A part of a proof; no conditions. -/
import Derived.Test.YtfhdpblkdgmnfaaGreatDoorP31
import Derived.Test.YtfhdpblkdgmnfaaGreatDoorP44
import Derived.Test.YtfhdpblkdgmnfaaGreatDoorP32
import Derived.Shelf.SlSortCmp.NoneTotal
import Derived.Test.YtfhdpblkdgmnfaaGreatDoorP42
import Derived.Test.YtfhdpblkdgmnfaaGreatDoorP54
set_option linter.unusedSimpArgs false
set_option linter.unusedVariables false
set_option linter.unusedSectionVars false
set_option maxRecDepth 100000
set_option maxHeartbeats 8000000
noncomputable section
section
namespace Go.Sx
open Go.Proofs
attribute [local irreducible] bA
theorem aiS {P:Program} {n:FuncId} {α:Type} [Inhabited α] {E:α→List V} {P1 P2:α→Prop} {R:α→V} (h1:dM P n (.pure (bS E P1 R))) (h2:dM P n (.pure (bS E P2 R))):dM P n (.pure (bS E (fun d=>P1 d∨P2 d) R)) where
 call:=h1.call
 heap:=fun _ h=>by cases h
 iter:=fun _ h=>by cases h
 pure:=fun S' hS=>by
  cases hS
  intro d hd
  rcases hd with hd|hd
  ·exact h1.pure _ rfl d hd
  ·exact h2.pure _ rfl d hd
def Yd:bB where
 go args h:=match args with
  | [.bw _ _ 0,.fn 86 []]=>⟨True,.dB [],h⟩
  | _=>⟨False,.top,h⟩
theorem ade:dM Tryz.prog 85 (.heap Yd):=by
 refine {call:=aiT.call,iter:=fun S' h=>(by cases h),pure:=fun S' hS=>(by cases hS),heap:=fun S' hS=>?_}
 cases hS
 intro args h hc w A X vals hI hsz hargs
 unfold Yd at hc ⊢
 simp only at hc ⊢
 split at hc
 case h_2=>exact hc.elim
 rename_i s i
 obtain⟨a,c,e0,_,_,_⟩:=(hargs 0 (.bw s i 0) rfl).gp
 obtain⟨us,e1,hs,_⟩:=(hargs 1 (.fn 86 []) rfl).nN
 have:us = #[]:=Array.eq_empty_of_size_eq_zero (by simpa using hs)
 subst this
 have hv:vals = #[.slice a 0 c,.func (.func 86) #[] #[]]:=by
  apply Array.ext
  ·simpa using hsz
  ·intro j h1 h2
   have hj:j=0∨j=1:=by simp at h2; omega
   rw [Array.getD_eq_getD_getElem?]at e0 e1
   rcases hj with rfl|rfl
   ·rw [Array.getElem?_eq_getElem h1]at e0; simpa using e0
   ·rw [Array.getElem?_eq_getElem h1]at e1; simpa using e1
 rw [hv]
 refine(AnyF.slices_SortFunc_none Tryz.Sy a c (.func (.func 86) #[] #[]) w).mono ?_
 rintro e w' ⟨rfl,rfl⟩
 exact⟨_,A,X,rfl,hI,.pure (.dB [] #[] rfl fun i c h=>by simp at h)⟩
namespace W0
noncomputable abbrev Sz:Env:={P:=Tryz.prog,fn:=bf [(77,.heap yY),(85,.heap Yd)],own:=[],key:=3500,nt:=42}
theorem b35:af Sz [] Tryz.f35 (bS wkE (fun d=>d.1=[]) fun d=>.int .i64 (yZ bH d.1 d.2.1 d.2.2)):=pb <| by
 rintro⟨l,x,y⟩ hl
 have hl:l=[]:=hl
 subst hl
 have hl:=nO []
 have e:yZ bH [] x y=0:=by
  have hp:=gZ.perm [] (by simp)
  rw [yZ,List.perm_nil.1 hp]; rfl
 simp -dsimp [Tryz.f35,Sz]
 repeat' (first|omega|simp -dsimp [Sz,ri,aa,ints,yY,Yd,e]|apply aI|refine oI fun _=>?_|apply nI)
 refine ay [20,21,22,9,23,24,25,26,27,28,29,30,10,11,31,32,33,34,35,36,37,38,6,39,7,40,19] (fun _:Unit=>[(19,(true,.int .i64 0)),(6,(true,.int .i64 0))]) (fun _=>hps [(7705,{base:=0,ah:=[{z:=3,els:=[],ty:=65}]})] cg) (fun _=>0) () ?_ ?_ ?_
 ·simp [aj,aT]
 ·(try simp -dsimp only [hpx]); refine ai ?_; simp -dsimp [aC,hl]<;>exact rz
 rintro⟨⟩
 try dsimp only
 simp -dsimp []
 repeat' (first|omega|simp -dsimp [Sz,ri,aa,ints,e]|apply aI|refine oI fun _=>?_|apply nI)
theorem Ye:dM Tryz.prog 35 (.pure (bS wkE (fun d=>d.1=[]) fun d=>.int .i64 (yZ bH d.1 d.2.1 d.2.2))):=pf b35 (.cons Yf (.cons ade .nil))
end W0
noncomputable abbrev aiU:aB:=bS wkE (fun d=>(d.1≠[]∧SA d.1)∨d.1=[]) fun d=>.int .i64 (yZ bH d.1 d.2.1 d.2.2)
theorem aiV:FO 35 aiU:=aiS Ye W0.Ye
theorem SB (r:Ro) (l:List Du) (b:Bool):aY ckE [.agg r.row,.sl 3 (l.map Du.row),.bool b]=(r,l,b):=aA KY (r,l,b)
theorem SC (r:Ro) (l:List Du) (n:Int):aY ofE [.agg r.row,.sl 3 (l.map Du.row),.int .i64 n]=(r,l,n):=aA KZ (r,l,n)
@[simp] def wdE (d:Ro × List Du × Int × Int × Int):List V:=[.agg d.1.row,.sl 3 (d.2.1.map Du.row),.int .i64 d.2.2.1,.int .i64 d.2.2.2.1,.int .i64 d.2.2.2.2]
theorem Yg (a b:Ro × List Du × Int × Int × Int) (h:wdE a=wdE b):a=b:=by
 obtain⟨a1,a2,a3,a4,a5⟩:=a; obtain⟨b1,b2,b3,b4,b5⟩:=b
 simp only [wdE,List.cons.injEq,V.agg.injEq,V.sl.injEq,V.int.injEq,true_and,and_true]at h
 rw [Ro.aq _ _ h.1,aR Du.aq h.2.1,h.2.2.1,h.2.2.2.1,h.2.2.2.2]
theorem Yh (r:Ro) (l:List Du) (n a b:Int):aY wdE [.agg r.row,.sl 3 (l.map Du.row),.int .i64 n,.int .i64 a,.int .i64 b]=(r,l,n,a,b):=aA Yg (r,l,n,a,b)
structure WdP (d:Ro × List Du × Int × Int × Int):Prop where
 iV:(fL d.1 d.2.1).2=0
 per:0≤d.2.2.1∧d.2.2.1<d.1.bM.length
 str:0≤d.2.2.2.1∧d.2.2.2.1<d.2.2.2.2∧d.2.2.2.2≤2000
noncomputable abbrev WdS:aB:=bS wdE WdP fun d=>.dB [.int .i64 (wk (own d.2.1 d.2.2.1) d.2.2.2.1 d.2.2.2.2),.int .i64 0]
noncomputable abbrev E14:Env:={P:=Tryz.prog,fn:=bf [(27,.pure ckS),(28,.pure bF),(32,.pure SD),(33,.pure ofS),(35,.pure aiU)],own:=[],key:=1400,nt:=38,jQ:=[(1,[5,50005])]}
theorem b14:af E14 [] Tryz.f14 WdS:=pb <| by
 rintro⟨r,l,n,a,b⟩ ⟨hc,hn,hab⟩
 simp only at hc hn hab
 obtain⟨hf,aiW,MS⟩:=dN.1 hc
 have hv:=xB hc
 have Ik:=hf.n
 have zY:MG (r,l):=⟨by simp only; omega,by simp only; omega⟩
 have h2:fQ bH r l true=0:=by unfold fQ; rw [mM gZ hc]; rfl
 have w1:=wi ((r.bM.length:Int) - 1)
 have g1:au n 0 ((r.bM.length:Int) - 1)=true:=by simp [au]; omega
 have g2:tH a b=true:=by rw [tG (by omega) (by omega)]; exact gQ.2 hab
 have hw:yZ bH (own l n) a b=wk (own l n) a b:=Il gZ (qC hv n) (by omega) (by omega) (by omega)
 have hB:SA (own l n):=⟨by have:=xC l n; omega,fun x hx=>by have:=qC hv n x hx; omega⟩
 have hP:(own l n≠[]∧SA (own l n))∨own l n=[]:=by
  by_cases e:own l n=[]
  ·exact .inr e
  ·exact .inl ⟨e,hB⟩
 have Aa:l.length≤1000000:=by omega
 generalize hO:own l n=O at *
 simp -dsimp [Tryz.f14,E14]
 repeat' (first|omega|simp -dsimp [E14,ri,aa,ints,SB,SC,xD,bX,zY,h2,w1,g1,g2,Aa,hO,hP,hw]|apply aI|refine oI fun _=>?_|apply nI)
theorem anu:FO 14 WdS:=pf b14 (.cons adf (.cons AE (.cons adg (.cons adh (.cons aiV .nil)))))
end Go.Sx
end
section
namespace Go.Sx
open Go.Proofs
attribute [local irreducible] bA
theorem K2 {r:Ro} {l:List Du} {n:Int} {c:Cl} (hz:(fL r l).2=0) (hc:jx c=true) (hn:0≤n∧n<r.bM.length) (hw:jZ r l n c=[]):SE r l n c=([],0):=by
 obtain⟨hf,_,_⟩:=dN.1 hz
 have RW:r9 c.a c.b=true∧(0≤c.gP∧c.gP≤7):=by simpa [jx]using hc
 have hs:=gQ.1 RW.1
 have h1:au n 0 ((r.bM.length:Int) - 1)=true:=by simp [au]; omega
 have h2:gR c=true:=by rw [gR,tG (by omega) (by omega),RW.1]; simp [RW.2]
 have h3:fQ bH r l true=0:=by unfold fQ; rw [mM gZ hz]; rfl
 unfold SE
 rw [h1,h2]
 rw [if_pos (by exact h3),C8 gZ hf (xB hz) hs,hw]
structure TrP (d:Fl × List Sr × Int):Prop where
 p:KD d.1
 l:d.2.1.length≤100000000000000
@[simp] def Ws (d:Fl × List Sr × Int):List V:=[.agg d.1.row,.sl 4 (d.2.1.map Sr.row),.int .i64 d.2.2]
theorem K3 (a b:Fl × List Sr × Int) (h:Ws a=Ws b):a=b:=by
 obtain⟨a1,a2,a3⟩:=a; obtain⟨b1,b2,b3⟩:=b
 simp only [Ws,List.cons.injEq,V.sl.injEq,V.int.injEq,V.agg.injEq,true_and,and_true]at h
 rw [Fl.aq _ _ h.1,aR Sr.aq h.2.1,h.2.2]
theorem SF (r:Ro) (l:List Du) (n a b k:Int) (w:Bool):aY Yi [.agg r.row,.sl 3 (l.map Du.row),.int .i64 n,.agg [.int .i64 a,.int .i64 b,.int .i64 k,.bool w]]=(r,l,n,⟨a,b,k,w⟩):=aA C9 (r,l,n,⟨a,b,k,w⟩)
noncomputable abbrev HN:aB:=bS Ws TrP fun _=>.bool true
noncomputable abbrev E3:Env:={P:=Tryz.prog,fn:=bf [(7,.pure lgS),(8,.pure X6),(9,.pure y9.adi),(10,.pure cpS),(11,.pure MH),(12,.pure adj),(13,.pure chS),(14,.pure WdS)],own:=[42,134,149,199,233],key:=300,nt:=256,jQ:=[(1,[3,50003]),(14,[15,50015])],cfz:=[(143,[434]),(158,[449])]}
theorem b3:af E3 [(13,([3,6,8,9,10,12,15,17,18,20],[[0,1,2,3,4,5,6,7,8,9,10,11,12,13,14,15,16,17,18,19,20,21,22,23]])),(14,([1,7,9,10],[[0,1,2,3,4,5,6,7,8,9,10,11,12,13,14,15,16]])),(15,([1,7,9,10],[[0,1,2,3,4,5,6,7,8,9,10,11,12,13,14,15,16]])),(19,([1],[[0,1,2,3,4,5,6,7,8,9,10]])),(27,([1,10],[[0,1,2,3,4,5,6,7,8,9,10,11,12,13,14,15,16,17]]))] Tryz.f3 HN:=pb <| by
 rintro⟨f,l,tk⟩ ⟨hP,hl⟩
 simp only at hP hl
 cases hL:R5 f
 case true=>
  simp -dsimp [Tryz.f3,E3]
  repeat' (first|omega|simp -dsimp [E3,ri,aa,ints,fC,hP,hL]|apply aI|refine oI fun _=>?_|apply nI)
 by_cases hF:l.length≤4
 case neg=>
  simp -dsimp [Tryz.f3,E3]
  repeat' (first|omega|simp -dsimp [E3,ri,aa,ints,fC,mR,hP,hL,hF]|apply aI|refine oI fun _=>?_|apply nI)
 have hk:=C6 hL
 have zY:CpP (f,l):=⟨hP,hk,by simp only; omega⟩
 by_cases hc:(O7 f l).2=0
 case neg=>
  simp -dsimp [Tryz.f3,E3]
  repeat' (first|omega|simp -dsimp [E3,ri,aa,ints,fC,mR,gO,hP,hL,hF,zY,hc]|apply aI|refine oI fun _=>?_|apply nI)
 obtain⟨hf,hG⟩:=Fe.1 hc
 have hK:=hk hf
 have hdl:=hf.dul
 obtain⟨hrf,_,_⟩:=dN.1 hf.du
 have Ik:=hrf.n
 have h00:j9 f []=f.wF:=by simp [j9]
 have hlen:=fun k=>qB f (l.take k)
 simp -dsimp [Tryz.f3,E3]
 repeat' (first|omega|simp -dsimp [E3,ri,aa,ints,fC,mR,gO,hP,hL,hF,zY,hc,hdl]|apply aI|refine oI fun _=>?_|apply nI)
 refine ay [46,47,48,49,53,54,55,56,57,58,59,60,61,62,63,64,52,65,66,67,68,11,12,13,14,69,70,71,72,73,74,75,76,77,78,79,80,81,82,83,84,85,86,87,88,89,90,91,92,93,94,95,96,97,98,99,100,101,102,103,104,105,106,107,108,6,109,110,111,112,113,114,115,116,117,118,119,120,121,122,123,124,125,126,127,128,129,130,15,132,133,134,135,136,137,138,139,140,141,142,143,131,144,145,16,17,147,148,149,150,151,152,153,154,155,156,157,158,146,159,160,18,19,161,162,163,164,165,166,167,168,169,170,171,172,173,174,175,176,177,178,179,180,181,182,183,184,185,186,187,188,189,190,191,192,193,194,195,9,50,51,10] (fun k:{k:Nat // k≤l.length}=>[(10,(true,.int .i64 k.1)),(9,(true,.bw 342 0 (j9 f (l.take k.1)).length))]) (fun k=>hps [(342,{base:=0,ah:=[{z:=3,els:=(j9 f (l.take k.1)).map Du.row,ty:=65}]}),(315,{base:=k.1,ah:=[]}),(434,{base:=k.1,ah:=[]}),(449,{base:=k.1,ah:=[]}),(303,fS f)] cg) (fun k=>l.length - k.1) ⟨0,by omega⟩ ?_ ?_ ?_
 ·simp [aj,aT,h00]
 ·simp only [List.take_zero,h00]; (try simp -dsimp only [hpx]); refine ai ?_; simp -dsimp [aC,fS]<;>exact rz
 rintro⟨k,td⟩
 dsimp only
 have hlk:=hlen k
 have hlt:(l.take k).length≤4:=by simp; omega
 by_cases aH:k<l.length
 ·have hki:(k:Int)<l.length:=by omega
  have wk:=wx k
  obtain⟨x,hx,hx'⟩:=gx aH
  have O5:l.getD k default=x:=by simp [List.getD,hx]
  have hN:=hG.nx aH
  rw [O5]at hN
  have hS:=hN.sr
  have hoa:DY f x.j.toNat x.m.toNat=true:=by
   rcases hN.opn with h|h
   ·cases h
   ·exact h
  have iq:BlP (f,x.j,x.m):=⟨hS.jm hK,hN.can,hoa⟩
  obtain⟨SG,hpc,hpk,hwc,hwk⟩:=hN.may
  have hz:(fL f.gv (j9 f (l.take k))).2=0:=(hG.take k).iV hf
  have xT:=yX f l hx
  have hd2:GV f x=[⟨x.c,(ew f x).lv,(ew f x).hm⟩,⟨x.k,(ew f x).lv,(ew f x).hm⟩]:=rfl
  have hca:Im f x=⟨(ew f x).lv,(ew f x).hm,f.lz.getD x.m.toNat 0,(fP f x.j.toNat).AW⟩:=rfl
  have hbk:jJ f x.j.toNat x.m.toNat=ew f x:=rfl
  have hj:=hS.j.1
  have hm:=hS.m.1
  obtain⟨xj,xm,xc,xk⟩:=x
  simp only at hj hm hpc hpk hwc hwk hd2 hca hbk iq
  obtain⟨xj,rfl⟩:=Int.eq_ofNat_of_zero_le hj.1
  obtain⟨xm,rfl⟩:=Int.eq_ofNat_of_zero_le hm.1
  simp only [Int.toNat_natCast]at hca hbk
  have hj1:xj<f.jobs.length:=by omega
  have jW:xm<f.lz.length:=by have:=hf.dU; have:=hf.lz; omega
  have hji:(xj:Int)<f.jobs.length:=by omega
  have oh:(xm:Int)<f.lz.length:=by omega
  have hjn:((f.jobs.length:Int)≤xj)=False:=eq_false (by omega)
  have hmn:((f.lz.length:Int)≤xm)=False:=eq_false (by omega)
  have hj0:((xj:Int)<0)=False:=eq_false (by omega)
  have hm0:((xm:Int)<0)=False:=eq_false (by omega)
  obtain⟨jb,hjb,hjb'⟩:=gx hj1
  obtain⟨cr,GY,SH⟩:=gx jW
  have hjw:jb.row=[.int .i64 jb.a,.int .i64 jb.b,.int .i64 jb.dep,.int .i64 jb.val,.bool jb.AW]:=rfl
  generalize hB:ew f ⟨(xj:Int),(xm:Int),xc,xk⟩=B at *
  obtain⟨b1,b2,b3,b4⟩:=B
  have hca:Im f ⟨(xj:Int),(xm:Int),xc,xk⟩=⟨b1,b3,cr,jb.AW⟩:=by rw [hca]; simp [fP,List.getD,hjb,GY]
  rw [hca]at SG hwc hwk
  have hO1:=K2 hz SG hpc hwc
  have hO2:=K2 hz SG hpk hwk
  simp only at hd2
  generalize hD1:j9 f (l.take (k+1))=D1 at *
  generalize j9 f (l.take k)=D0 at *
  have Aj:(D0.length+2) * 24≤140737488355328:=by omega
  have Da:D0.length * 24≤140737488355328:=by omega
  have hWy:∀n,WyP (f.gv,D0,n,⟨b1,b3,cr,jb.AW⟩):=fun n=>⟨by simp only; omega,by simp only; omega⟩
  simp -dsimp [hki,fS]
  repeat' (first|omega|simp -dsimp [E3,ri,aa,ints,hki,aH,hx,hx',Sr.row,dS,iq,hbk,hj0,hm0,hjn,hmn,hj1,jW,hji,oh,hjb,hjb',GY,SH,hjw,ri,bp,SF,hWy,hO1,hO2,Aj,Da,aS,cQ,wk]|apply aI|refine oI fun _=>?_|apply nI)
  refine⟨k+1,ag rfl ?_,?_,by omega,by omega⟩
  ·simp [aj,aT,hD1,xT,hd2]
  ·rw [hD1,xT,hd2]; (try simp -dsimp only [hpx]); refine ai ?_; simp -dsimp [aC,fS,Du.row]<;>exact rz
 have hkn:¬ (k:Int)<l.length:=by omega
 have hke:k=l.length:=by omega
 subst hke
 rw [List.take_length]at hlk ⊢
 have hz:=hG.iV hf
 have W5:=mM gZ hz
 have hCh:MG (f.gv,j9 f l):=⟨by simp only; omega,by simp only; omega⟩
 have aiX:=fun p=>Rt.most' hz p tk
 have anv:=hrf.win
 have htot:=hrf.tot
 generalize j9 f l=D at *
 have Da:D.length * 24≤140737488355328:=by omega
 generalize hW:IntKind.wrap .i64 (tk+f.gv.win)=W at *
 by_cases t1:tk<0
 ·simp -dsimp [hkn,fS]
  repeat' (first|omega|simp -dsimp [E3,ri,aa,ints,hkn,dw,hCh,W5,Da,aS,cQ,t1]|apply aI|refine oI fun _=>?_|apply nI)
 replace t1:(tk<0)=False:=eq_false t1
 by_cases t2:2000<W
 ·simp -dsimp [hkn,fS]
  repeat' (first|omega|simp -dsimp [E3,ri,aa,ints,hkn,dw,hCh,W5,Da,aS,cQ,t1,hW,t2]|apply aI|refine oI fun _=>?_|apply nI)
 by_cases t3:2000<tk
 ·replace t2:(2000<W)=False:=eq_false t2
  simp -dsimp [hkn,fS]
  repeat' (first|omega|simp -dsimp [E3,ri,aa,ints,hkn,dw,hCh,W5,Da,aS,cQ,t1,hW,t2,t3]|apply aI|refine oI fun _=>?_|apply nI)
 have t0:=of_eq_false t1
 have hW':W=tk+f.gv.win:=by rw [←hW]; exact aK (by omega) (by omega)
 have ht:=t2
 replace t2:(2000<W)=False:=eq_false t2
 replace t3:(2000<tk)=False:=eq_false t3
 simp -dsimp [hkn,fS]
 repeat' (first|omega|simp -dsimp [E3,ri,aa,ints,hkn,dw,hCh,W5,Da,aS,cQ,t1,hW,t2,t3]|apply aI|refine oI fun _=>?_|apply nI)
 refine ay [222,223,224,225,226,227,231,232,233,234,235,236,237,238,239,240,241,242,243,230,244,245,23,24,246,247,248,249,250,251,252,253,254,6,228,229,22] (fun p:{p:Nat // p≤f.gv.bM.length}=>[(22,(true,.int .i64 p.1))]) (fun p=>hps [(533,{base:=p.1,ah:=[]}),(499,{base:=1,ah:=[]}),(315,{base:=l.length,ah:=[]}),(434,{base:=l.length,ah:=[]}),(449,{base:=l.length,ah:=[]}),(342,{base:=0,ah:=[{z:=3,els:=D.map Du.row,ty:=65}]}),(303,fS f)] cg) (fun p=>f.gv.bM.length - p.1) ⟨0,by omega⟩ ?_ ?_ ?_
 ·simp [aj,aT]
 ·(try simp -dsimp only [hpx]); refine ai ?_; simp -dsimp [aC,fS]<;>exact rz
 rintro⟨p,hp⟩
 dsimp only
 by_cases hp1:p<f.gv.bM.length
 ·have hpi:(p:Int)<f.gv.bM.length:=by omega
  have wp:=wx p
  have hWd:WdP (f.gv,D,(p:Int),tk,W):=⟨hz,by simp only; omega,by simp only; omega⟩
  have hle:(f.gv.tot<wk (own D p) tk W)=False:=eq_false (by have:=aiX p; rw [hW']; omega)
  simp -dsimp [hpi,fS]
  repeat' (first|omega|simp -dsimp [E3,ri,aa,ints,hpi,Yh,hW,hWd,hle,Da,aS,cQ,wp]|apply aI|refine oI fun _=>?_|apply nI)
  refine⟨p+1,ag rfl ?_,?_,by omega,by omega⟩
  ·simp [aj,aT]
  ·(try simp -dsimp only [hpx]); refine ai ?_; simp -dsimp [aC,fS]<;>exact rz
 have Ar:¬ (p:Int)<f.gv.bM.length:=by omega
 simp -dsimp [Ar]
 repeat' (first|omega|simp -dsimp [E3,ri,aa,ints,Ar]|apply aI|refine oI fun _=>?_|apply nI)
theorem ok3:FO 3 HN:=pf b3 (.cons ok7 (.cons ok8 (.cons y9.ok5 (.cons aiO (.cons Xd (.cons anw (.cons W9 (.cons anu .nil))))))))
end Go.Sx
end
end
