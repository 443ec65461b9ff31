/- A part of a proof; no conditions. -/
import Derived.Test.YtegiclpanpmkdaaGreatDoorP40
set_option linter.all false
set_option maxRecDepth 100000
set_option maxHeartbeats 8000000
noncomputable section
section
namespace Go.Sx
open Go.Proofs
attribute [local simp] ri aa ints
attribute [local irreducible] bA
structure NxD where
 f:Fl
 l:List Sr
 x:Sr
 w:Bool
 deriving Inhabited
@[simp] def nxE (d:NxD):List V:=[.agg d.f.row,.sl 4 (d.l.map Sr.row),.agg d.x.row,.bool d.w]
theorem aan (a b:NxD) (h:nxE a=nxE b):a=b:=by obtain⟨a1,a2,a3,a4⟩:=a; obtain⟨b1,b2,b3,b4⟩:=b;simp only [nxE,List.cons.injEq,V.agg.injEq,V.sl.injEq,V.bool.injEq,true_and,and_true]at h;rw [Fl.aq _ _ h.1,aR Sr.aq h.2.1,Sr.aq _ _ h.2.2.1,h.2.2.2]
theorem L5 (f:Fl) (l:List Sr) (j m c k:Int) (w:Bool):aY nxE [.agg f.row,.sl 4 (l.map Sr.row),.agg [.int .i64 j,.int .i64 m,.int .i64 c,.int .i64 k],.bool w]=⟨f,l,⟨j,m,c,k⟩,w⟩:=aA aan ⟨f,l,⟨j,m,c,k⟩,w⟩
theorem BV (f:Fl) (l:List Sr) (j m c k:Int):aY yU [.agg f.row,.sl 4 (l.map Sr.row++[[.int .i64 j,.int .i64 m,.int .i64 c,.int .i64 k]])]=(f,l++[⟨j,m,c,k⟩]):=by
 have:=gO f (l++[⟨j,m,c,k⟩])
 rwa [List.map_append]at this
structure NxP (d:NxD):Prop where
 ok:Cw d.f
 good:Good d.f true d.l
 w:d.w=true
noncomputable abbrev afj:aB:=bS nxE NxP fun d=>.bool (wS d.f d.l d.x false)
theorem Good.dup {f:Fl} {any:Bool} {l:List Sr} (hk:Cw f) (h:Good f any l):DuP f l:=⟨hk,h.sr,by have:=(h.len hk.ok).1; omega⟩
theorem abD {f:Fl} (h:gu f):f.gv.bM.length<=12:=(dN.1 h.du).1.n
theorem aao {f:Fl} {l:List Sr} {s:Sr} (h:NK f l s=true):bQ s.c 0 (f.gv.bM.length - 1)=true/\bQ s.k 0 (f.gv.bM.length - 1)=true:=by unfold NK at h;rw [Bool.and_eq_true,List.contains_iff_mem]at h;obtain⟨h0,h1⟩:=h;unfold tF at h1;obtain⟨a,ha,h2⟩:=List.mem_flatMap.1 h1;obtain⟨b,hb,h3⟩:=List.mem_map.1 h2;have hb':=(List.mem_filter.1 hb).1;simp only [Prod.mk.injEq]at h3;simp only [List.mem_range]at ha hb';simp only [bQ,decide_eq_true_eq];omega
def clK (f:Fl) (s:Sr) (l:List Sr) (k:Nat):Prop:=∀y∈l.take k,Pf f s y=false
def WB (p:Int × Int) (l:List (Int × Int)) (k:Nat):Bool:=(l.take k).contains p
theorem Vh {p x:Int × Int} {l:List (Int × Int)} {k:Nat} (h:l[k]?=some x):WB p l (k+1)=(WB p l k || decide (x.1=p.1/\x.2=p.2)):=by
 unfold WB;rw [List.take_add_one,h,Option.toList_some,List.contains_append];congr 1;rw [Bool.eq_iff_iff];simp only [List.contains_iff_mem,List.mem_singleton,decide_eq_true_eq];constructor
 ·rintro rfl; exact⟨rfl,rfl⟩
 ·rintro⟨h1,h2⟩; exact(Prod.ext h1 h2).symm
def Jk (x:Sr):Site:={base:=0,ah:=[{z:=4,els:=[x.row],ty:=56,fz:=true}]}
def AL (x:Bk):Site:={base:=0,ah:=[{z:=4,els:=[x.row],ty:=205}]}
noncomputable abbrev E53:=EV [(50,.pure Pq),(116,.pure U7),(117,.pure U8),(118,.pure Ii),(119,.pure aaa),(121,.pure ac9),(120,.pure Vi),(49,.pure Vj),(122,.pure adb)] [] 5300 243 [(1,[4,6,50004,50006]),(28,[19,50019])]
theorem b53:af E53 [(10,([0,3,5,8,10,11],[[0,1,2,3,4,5,6,7,8,9,10,11,12,13,14,15,16,17]])),(25,([2],[[0,1,2,3,4,5]]))] Tryz.f53 afj:=pb <| by
 rintro⟨f,l,x,w⟩ ⟨hK,hG,hw⟩;simp only at hK hG hw;subst hw;have hf:=hK.ok;have hD:=hG.dup hK;have hlen:=hG.len hf;have H8:=hG.sr;have Ik:=abD hf;have hjl:=hf.jobs;have ry:f.dU.length<=1000000:=by
  have h1:=hf.dU;have h2:=(pS (by
   have:=hf.op;unfold jA at this;split at this
   ·assumption
   ·cases this)).m1
  omega
 have hN:wS f l x false=(Xc f x.j x.m && ((jR f x.j.toNat x.m.toNat && (false || DY f x.j.toNat x.m.toNat)) && !(l.any (Pf f x)) && decide ((ew f x).mD+fA f x.m l<=qP f x.m.toNat * f.hour)) && NK f l x && decide ((fL f.gv (j9 f (l++[x]))).2=0) && uZ f (l++[x])):=rfl;have hth:Xc f x.j x.m=(bQ x.j 0 (f.jobs.length - 1) && bQ x.m 0 (f.dU.length - 1)):=rfl;have aap:=aao (f:=f) (l:=l) (s:=x);have w1:=wi ((f.jobs.length:Int) - 1);have w2:=wi ((f.dU.length:Int) - 1);have w3:=wi ((f.gv.bM.length:Int) - 1);obtain⟨xj,xm,xc,xk⟩:=x;simp only at hN hth aap;cases c1:bQ xj 0 (f.jobs.length - 1)
 ·have hN:wS f l ⟨xj,xm,xc,xk⟩ false=false:=by rw [hN,hth,c1]; simp
  simp -dsimp [Tryz.f53,E53,Sr.row];repeat' (first|omega|simp -dsimp [E53,Sr.row,w1,c1,hN]|apply aI|apply nI|intro)
 cases c2:bQ xm 0 (f.dU.length - 1)
 ·have hN:wS f l ⟨xj,xm,xc,xk⟩ false=false:=by rw [hN,hth,c1,c2]; simp
  simp -dsimp [Tryz.f53,E53,Sr.row];repeat' (first|omega|simp -dsimp [E53,Sr.row,w1,w2,c1,c2,hN]|apply aI|apply nI|intro)
 cases c3:bQ xc 0 (f.gv.bM.length - 1)
 ·have hC:NK f l ⟨xj,xm,xc,xk⟩=false:=Bool.eq_false_iff.2 fun h=>by have:=(aap h).1; rw [c3]at this; cases this
  have hN:wS f l ⟨xj,xm,xc,xk⟩ false=false:=by rw [hN,hC]; simp
  simp -dsimp [Tryz.f53,E53,Sr.row];repeat' (first|omega|simp -dsimp [E53,Sr.row,w1,w2,w3,c1,c2,c3,hN]|apply aI|apply nI|intro)
 cases c4:bQ xk 0 (f.gv.bM.length - 1)
 ·have hC:NK f l ⟨xj,xm,xc,xk⟩=false:=Bool.eq_false_iff.2 fun h=>by have:=(aap h).2; rw [c4]at this; cases this
  have hN:wS f l ⟨xj,xm,xc,xk⟩ false=false:=by rw [hN,hC]; simp
  simp -dsimp [Tryz.f53,E53,Sr.row];repeat' (first|omega|simp -dsimp [E53,Sr.row,w1,w2,w3,c1,c2,c3,c4,hN]|apply aI|apply nI|intro)
 clear aap;have r1:0<=xj/\xj<f.jobs.length:=by simp [bQ]at c1; omega
 have r2:0<=xm/\xm<f.dU.length:=by simp [bQ]at c2; omega
 have hJ:Xa (f,xj,xm):=⟨hK,r1,r2⟩
 rw [hth,c1,c2]at hN;cases c5:jR f xj.toNat xm.toNat
 ·have hN:wS f l ⟨xj,xm,xc,xk⟩ false=false:=by rw [hN,c5]; simp
  simp -dsimp [Tryz.f53,E53,Sr.row];repeat' (first|omega|simp -dsimp [E53,Sr.row,w1,w2,w3,c1,c2,c3,c4,dS,hJ,c5,hN]|apply aI|apply nI|intro)
 have hJo:JoP (f,xj,xm):=⟨hJ,c5⟩
 rw [c5]at hN;cases c6:DY f xj.toNat xm.toNat
 ·have hN:wS f l ⟨xj,xm,xc,xk⟩ false=false:=by rw [hN,c6]; simp
  simp -dsimp [Tryz.f53,E53,Sr.row];repeat' (first|omega|simp -dsimp [E53,Sr.row,w1,w2,w3,c1,c2,c3,c4,dS,hJ,hJo,c5,c6,hN]|apply aI|apply nI|intro)
 rw [c6]at hN;obtain⟨hq,t1,t2,t3,t4⟩:=hf.ticks (j:=xj.toNat) (m:=xm.toNat) (by omega) (by omega) c5;have hO:=uJ hq;have oG:jJ f xj.toNat xm.toNat=ew f ⟨xj,xm,xc,xk⟩:=rfl;rw [oG]at hO t1 t3 t4;have hXS:yW f ⟨xj,xm,xc,xk⟩:=by simp only [jR,Bool.and_eq_true,decide_eq_true_eq]at c5;exact⟨⟨r1,by simp only; omega⟩,⟨r2,by simp only; omega⟩,hq,c5.1.1.2,c5.1.2,c5.2⟩
 have hbd:=hXS.bk hf;have hD2:DuP f (l++[⟨xj,xm,xc,xk⟩]):=⟨hK,fun y hy=>by
  rcases List.mem_append.1 hy with h|h
  ·exact H8 y h
  ·exact List.mem_singleton.1 h ▸ hXS,by simp; omega⟩
 have apL:=hG.iV hf;have htu:=hf.turn;have hho:=hf.hour;have hhr:=yf (f:=f) xm.toNat;have hai:=fun k=>xz hf xm (l:=l.take k) fun y hy=>H8 y (List.mem_of_mem_take hy);have cZ:=fun y=>show Pf f ⟨xj,xm,xc,xk⟩ y=(decide (y.j=xj) || decide (y.m=xm/\(ew f ⟨xj,xm,xc,xk⟩).lv<(ew f y).hm+f.turn) || decide ((ew f ⟨xj,xm,xc,xk⟩).lv<(ew f y).lv) || decide ((ew f ⟨xj,xm,xc,xk⟩).lv=(ew f y).lv/\xj<y.j))from rfl;have hca:Im f ⟨xj,xm,xc,xk⟩=⟨(ew f ⟨xj,xm,xc,xk⟩).lv,(ew f ⟨xj,xm,xc,xk⟩).hm,f.lz.getD xm.toNat 0,(fP f xj.toNat).AW⟩:=rfl;have hcb:NK f l ⟨xj,xm,xc,xk⟩=(jx (Im f ⟨xj,xm,xc,xk⟩) && (tF f.gv (j9 f l) (Im f ⟨xj,xm,xc,xk⟩)).contains (xc,xk)):=rfl;generalize hNv:wS f l ⟨xj,xm,xc,xk⟩ false=N at *;generalize hB:ew f ⟨xj,xm,xc,xk⟩=B at *;obtain⟨b1,b2,b3,b4⟩:=B;simp only at hO hbd hN cZ hca;simp -dsimp [Tryz.f53,E53,Sr.row];repeat' (first|omega|simp -dsimp [E53,Sr.row,Bk.row,w1,w2,w3,c1,c2,c3,c4,dS,hJ,hJo,c5,c6,hO,hq]|apply aI|apply nI|intro)
 refine ay [92,93,94,95,99,100,101,102,103,104,105,106,107,108,109,110,98,111,112,13,14,113,114,115,116,117,118,119,120,121,122,123,124,125,126,127,128,129,130,131,132,133,134,135,136,137,138,139,140,141,142,143,144,8,145,146,147,148,149,150,151,152,153,154,155,156,11,157,158,159,160,161,162,163,164,96,97,12] (fun k:{k:Nat // k<=l.length/\clK f ⟨xj,xm,xc,xk⟩ l k}=>[(12,(true,.int .i64 k.1)),(11,(true,.int .i64 (b4+fA f xm (l.take k.1))))]) (fun k=>hps [(5313,{base:=k.1,ah:=[]}),(5309,AL ⟨b1,b2,b3,b4⟩),(5304,fS f),(5306,Jk ⟨xj,xm,xc,xk⟩)] cg) (fun k=>l.length - k.1) ⟨0,by omega,by simp [clK]⟩ ?_ ?_ ?_
 ·simp [aj,aT,fA]
 ·(try simp -dsimp only [hpx]); refine ai ?_; simp -dsimp [aC,fS,Jk,AL,Sr.row,Bk.row]<;>exact rz
 rintro⟨k,hk,hall⟩;dsimp only;have hak:=hai k;have hlt:(l.take k).length<=30:=by simp; omega
 by_cases aH:k<l.length
 ·have hki:(k:Int)<l.length:=by omega
  have wk:=wx k;obtain⟨y,hy,hy'⟩:=gx aH;have hmem:y∈l:=hy' ▸ List.getElem_mem aH;have hYS:=H8 y hmem;have hYJ:=hYS.jm hK;have hYO:=hYS.bko;have hYq:=hYS.q;have hYb:=hYS.bk hf;have lC:=NL f xm l hy;have hcy:=cZ y;have l7:Pf f ⟨xj,xm,xc,xk⟩ y=true->N=false:=fun h=>by have:l.any (Pf f ⟨xj,xm,xc,xk⟩)=true:=List.any_eq_true.2 ⟨y,hmem,h⟩;rw [hN,this]; simp
  have sQ:Pf f ⟨xj,xm,xc,xk⟩ y=false->clK f ⟨xj,xm,xc,xk⟩ l (k+1):=fun h=>ug hy hall h;rw [hcy]at l7 sQ;obtain⟨yj,ym,yc,yk⟩:=y;generalize ew f ⟨yj,ym,yc,yk⟩=Y at *;obtain⟨y1,y2,y3,y4⟩:=Y;simp only at hYJ hYO hYq hYb lC l7 sQ;generalize yB:fA f xm (l.take (k+1))=A1 at *;generalize fA f xm (l.take k)=A0 at *;have v1:=wi (y3+f.turn);have v2:=wi (b4+A0+y4);by_cases d1:yj=xj
  ·have hN:=l7 (by simp [d1]);replace d1:(yj=xj)=True:=eq_true d1;simp -dsimp [hki,AL,fS,Jk];repeat' (first|omega|simp -dsimp [E53,hki,aH,hy,hy',AL,Sr.row,Bk.row,dS,hYJ,hYO,hYq,aS,cQ,d1,hNv,hN]|apply aI|apply nI|intro)
  replace d1:(yj=xj)=False:=eq_false d1;by_cases d2:b1<y1
  ·have hN:=l7 (by simp [d2]);simp -dsimp [hki,AL,fS,Jk];repeat' (first|omega|simp -dsimp [E53,hki,aH,hy,hy',AL,Sr.row,Bk.row,dS,hYJ,hYO,hYq,aS,cQ,d1,d2,hNv,hN]|apply aI|apply nI|intro)
  replace d2:(b1<y1)=False:=eq_false d2;by_cases d3:b1=y1/\xj<yj
  ·have hN:=l7 (by simp [d3]);obtain⟨d3,d4⟩:=d3;simp -dsimp [hki,AL,fS,Jk];repeat' (first|omega|simp -dsimp [E53,hki,aH,hy,hy',AL,Sr.row,Bk.row,dS,hYJ,hYO,hYq,aS,cQ,d1,d2,d3,d4,hNv,hN]|apply aI|apply nI|intro)
  have sQ:¬ (ym=xm/\b1<y3+f.turn)->clK f ⟨xj,xm,xc,xk⟩ l (k+1):=fun h=>sQ (by simp only [d1,d2,d3,h,decide_false,Bool.or_false]);have l7:ym=xm/\b1<y3+f.turn->N=false:=fun h=>l7 (by rw [decide_eq_true h]; simp);rcases Classical.propComplete (b1=y1)with d4|d4<;>rcases Classical.propComplete (xj<yj)with d5|d5<;>rcases Classical.propComplete (ym=xm)with d6|d6<;>rcases Classical.propComplete (b1<y3+f.turn)with d7|d7
  all_goals
   simp only [d4,d5,and_true,true_and,and_false,false_and,not_true,not_false_iff]at d3
  all_goals
   simp only [d6,d7,and_true,true_and,and_false,false_and,not_true,not_false_iff,true_implies,false_implies,and_self]at sQ l7;simp only [d6,if_true,if_false]at lC;simp -dsimp [hki,AL,fS,Jk];repeat' (first|omega|simp -dsimp [E53,hki,aH,hy,hy',AL,Sr.row,Bk.row,dS,hYJ,hYO,hYq,aS,cQ,d1,d2,d4,d5,d6,d7,v1,v2,wk,hNv,l7]|apply aI|apply nI|intro)
  all_goals
   refine⟨k+1,ag rfl ?_,?_,⟨by omega,sQ⟩,by omega⟩
   ·simp [aj,aT,yB,lC,Int.add_assoc]
   ·(try simp -dsimp only [hpx]); refine ai ?_; simp -dsimp [aC,fS,Jk,AL,Sr.row,Bk.row]<;>exact rz
 have hkn:¬ (k:Int)<l.length:=by omega
 have hke:k=l.length:=by omega
 subst hke;have apM:l.any (Pf f ⟨xj,xm,xc,xk⟩)=false:=List.any_eq_false.2 fun y hy=>by rw [hall y (by rw [List.take_length]; exact hy)]; simp
 rw [List.take_length]at hak ⊢;rw [apM]at hN;have s9:MaP (f,xm):=⟨hK,r2⟩
 generalize hHr:qP f xm.toNat=H at *;generalize hA:fA f xm l=A at *;have hmul : -100<=H * f.hour/\H * f.hour<=10000:=by
  constructor
  ·have:(-1:Int) * f.hour<=H * f.hour:=Int.mul_le_mul_of_nonneg_right (by omega) (by omega);omega
  ·have h1:H * f.hour<=100 * f.hour:=Int.mul_le_mul_of_nonneg_right (by omega) (by omega);omega
 have wm:=wi (H * f.hour);generalize hHf:H * f.hour=HH at *;by_cases c7:HH<b4+A
 ·have hN:N=false:=by rw [hN,decide_eq_false (by omega)]; simp
  simp -dsimp [hkn,AL,fS,Jk];repeat' (first|omega|simp -dsimp [E53,hkn,AL,Sr.row,Bk.row,zi,s9,hHr,hHf,wm,c7,hNv,hN]|apply aI|apply nI|intro)
 rw [decide_eq_true (by omega:b4+A<=HH)]at hN;replace c7:(HH<b4+A)=False:=eq_false c7;obtain⟨WC,rfl⟩:=Int.eq_ofNat_of_zero_le r1.1;obtain⟨Vk,rfl⟩:=Int.eq_ofNat_of_zero_le r2.1;simp only [Int.toNat_natCast]at hca hHr hbd hO hq;have hj1:WC<f.jobs.length:=by omega
 have jW:Vk<f.lz.length:=by have:=hf.dU; have:=hf.lz; omega
 have apN:(Vk:Int)<f.lz.length:=by omega
 obtain⟨jb,hjb,hjb'⟩:=gx hj1;obtain⟨cr,GY,SH⟩:=gx jW;have hca:Im f ⟨WC,Vk,xc,xk⟩=⟨b1,b3,cr,jb.AW⟩:=by rw [hca]; simp [fP,List.getD,hjb,GY]
 rw [hca]at hcb;have hP:∃P:List (Int × Int),P=if jx ⟨b1,b3,cr,jb.AW⟩=true then tF f.gv (j9 f l) ⟨b1,b3,cr,jb.AW⟩else []:=⟨_,rfl⟩
 obtain⟨P,hP⟩:=hP;have hcb:NK f l ⟨WC,Vk,xc,xk⟩=WB (xc,xk) P P.length:=by rw [hcb,hP,WB,List.take_length];cases jx ⟨b1,b3,cr,jb.AW⟩<;>simp
 have hPl:P.length<=1000:=by
  rw [hP]; split
  ·rw [<-zH];have h1:=uf f.gv (j9 f l) ⟨b1,b3,cr,jb.AW⟩ f.gv.bM.length;have:f.gv.bM.length * f.gv.bM.length<=12 * 12:=Nat.mul_le_mul Ik Ik;omega
  ·simp
 have hjw:jb.row=[.int .i64 jb.a,.int .i64 jb.b,.int .i64 jb.dep,.int .i64 jb.val,.bool jb.AW]:=rfl;rw [hcb]at hN;simp -dsimp [hkn,AL,fS,Jk];repeat' (first|omega|simp -dsimp [E53,hkn,AL,Sr.row,Bk.row,zi,s9,hHr,hHf,wm,c7,hjb,hjb',GY,SH,hj1,jW,apN,hjw,ri,gO,hD,Gj,apL,<-hP]|apply aI|apply nI|intro)
 refine ay [201,202,203,204,207,208,209,210,211,212,213,214,215,216,217,218,219,17,205,206,18] (fun k:{k:Nat // k<=P.length}=>[(18,(true,.int .i64 k.1)),(17,(true,.bool (WB (xc,xk) P k.1)))]) (fun _=>hps [(5313,{base:=l.length,ah:=[]}),(5309,AL ⟨b1,b2,b3,b4⟩),(5304,fS f),(5306,Jk ⟨WC,Vk,xc,xk⟩)] cg) (fun k=>P.length - k.1) ⟨0,by omega⟩ ?_ ?_ ?_
 ·simp [aj,aT,WB]
 ·(try simp -dsimp only [hpx]); refine ai ?_; simp -dsimp [aC,fS,Jk,AL,Sr.row,Bk.row]<;>exact rz
 rintro⟨k,hk⟩;dsimp only;by_cases aH:k<P.length
 ·have hki:(k:Int)<P.length:=by omega
  have wk:=wx k;obtain⟨y,hy,hy'⟩:=gx aH;have hs:=Vh (p:=(xc,xk)) hy;obtain⟨y1,y2⟩:=y;simp only at hs;generalize wO:WB (xc,xk) P (k+1)=I1 at *;cases hI:WB (xc,xk) P k<;>rw [hI]at hs<;>rcases Classical.propComplete (y1=xc)with d1|d1<;>rcases Classical.propComplete (y2=xk)with d2|d2
  all_goals
   simp only [d1,d2,and_self,and_true,true_and,and_false,false_and,decide_true,decide_false,Bool.or_true,Bool.or_false,Bool.true_or,Bool.false_or]at hs;simp -dsimp [hki,AL,fS,Jk];repeat' (first|omega|simp -dsimp [E53,hki,aH,hy,hy',Tk,Sr.row,d1,d2,aS,wk]|apply aI|apply nI|intro)
   all_goals
    refine⟨k+1,ag rfl ?_,bA.refl _,by omega,by omega⟩;simp [aj,aT,wO,hs,d1,d2]
 have hkn:¬ (k:Int)<P.length:=by omega
 have hke:k=P.length:=by omega
 subst hke;have Aa:(l.length+1) * 32<=140737488355328:=by omega
 cases c8:WB (xc,xk) P P.length<;>rw [c8]at hN
 ·have hN:N=false:=by rw [hN]; simp
  simp -dsimp [hkn,AL,fS,Jk];repeat' (first|omega|simp -dsimp [E53,hkn,Sr.row,aS,Aa,hNv,hN]|apply aI|apply nI|intro)
 have arX:(j9 f (l++[⟨WC,Vk,xc,xk⟩])).length<=1000:=by rw [qB]; have:=hf.dul; simp; omega
 have zY:MG (f.gv,j9 f (l++[⟨WC,Vk,xc,xk⟩])):=⟨by simp only; omega,by simp only; omega⟩
 by_cases c9:(fL f.gv (j9 f (l++[⟨WC,Vk,xc,xk⟩]))).2=0
 ·have hN:N=uZ f (l++[⟨WC,Vk,xc,xk⟩]):=by rw [hN,decide_eq_true c9]; simp
  cases c10:uZ f (l++[⟨WC,Vk,xc,xk⟩])
  all_goals
   rw [c10]at hN;simp -dsimp [hkn,AL,fS,Jk];repeat' (first|omega|simp -dsimp [E53,hkn,Sr.row,aS,Aa,BV,hD2,dw,zY,c9,c10,hNv,hN]|apply aI|apply nI|intro)
 ·have hN:N=false:=by rw [hN,decide_eq_false c9]; simp
  replace c9:((fL f.gv (j9 f (l++[⟨WC,Vk,xc,xk⟩]))).2=0)=False:=eq_false c9;simp -dsimp [hkn,AL,fS,Jk];repeat' (first|omega|simp -dsimp [E53,hkn,Sr.row,aS,Aa,BV,hD2,dw,zY,c9,hNv,hN]|apply aI|apply nI|intro)
theorem akH:FO 53 afj:=pf b53 (.cons ahH (.cons aiC (.cons aly (.cons alz (.cons aiR (.cons vO (.cons abz (.cons alf (.cons abA .nil)))))))))
end Go.Sx
end
section
namespace Go.Sx
open Go.Proofs
attribute [local simp] ri aa ints
attribute [local irreducible] bA
structure CpP (d:Fl × List Sr):Prop where
 p:KD d.1
 k:gu d.1->Cw d.1
 l:d.2.length<=100000000000000
def O7 (f:Fl) (l:List Sr):Int × Int:=if Nr f=0 then (if YV f l false<0 then (0,0)else (YV f l false,111))else (0,Nr f)
theorem Fe {f:Fl} {l:List Sr}:(O7 f l).2=0↔gu f/\Good f false l:=by
 unfold O7;by_cases h:Nr f=0
 ·rw [if_pos h];by_cases h2:YV f l false<0
  ·rw [if_pos h2];refine⟨fun _=>⟨tC.1 h,zI.1 ?_⟩,fun _=>rfl⟩;apply Classical.byContradiction;intro hne;obtain⟨k,_,e,_⟩:=ve (l:=List.range l.length) (p:=fun i=>!wS f (l.take i) (l.getD i default) false) hne;have e2:YV f l false=eB (List.range l.length) fun i=>!wS f (l.take i) (l.getD i default) false:=rfl;omega
  ·rw [if_neg h2];refine⟨fun h=>by simp at h,fun h3=>?_⟩;have:=zI.2 h3.2;omega
 ·rw [if_neg h];exact⟨fun h2=>absurd h2 h,fun h2=>absurd (tC.2 h2.1) h⟩
noncomputable abbrev cpS:aB:=bS yU CpP fun d=>.dB [.int .i64 (O7 d.1 d.2).1,.int .i64 (O7 d.1 d.2).2]
noncomputable abbrev sM:=EV [(20,.pure afl),(53,.pure afj)] [] 2200 30 [(1,[2,50002])]
theorem b22:af sM [] Tryz.f22 cpS:=pb <| by
 rintro⟨f,l⟩ ⟨hP,hk,hl⟩;simp only at hP hk hl;by_cases e1:Nr f=0
 case neg=>
  have hE:O7 f l=(0,Nr f):=if_neg e1;simp -dsimp [Tryz.f22,sM];repeat' (first|omega|simp -dsimp [sM,fC,hP,e1,hE]|apply aI|apply nI|intro)
 have hf:=tC.1 e1;have hK:=hk hf;have hE:O7 f l=if YV f l false<0 then (0,0)else (YV f l false,111):=if_pos e1;simp -dsimp [Tryz.f22,sM];repeat' (first|omega|simp -dsimp [sM,fC,hP,e1]|apply aI|apply nI|intro)
 refine ay [13,14,15,16,19,20,21,22,23,24,25,26,27,28,29,4,5,17,18,7] (fun k:{k:Nat // k<=l.length/\Good f false (l.take k)}=>[(7,(true,.int .i64 k.1))]) (fun _=>hps [(2202,fS f)] cg) (fun k=>l.length - k.1) ⟨0,by omega,by rw [List.take_zero]; exact Good.nil⟩ ?_ ?_ ?_
 ·simp [aj,aT]
 ·(try simp -dsimp only [hpx]); refine ai ?_; simp -dsimp [aC,fS]<;>exact rz
 rintro⟨k,hk,hall⟩;dsimp only;by_cases aH:k<l.length
 ·have hki:(k:Int)<l.length:=by omega
  have td:k<=l.length:=by omega
  have wk:=wx k;obtain⟨x,hx,hx'⟩:=gx aH;have O5:l.getD k default=x:=by simp [List.getD,hx]
  have l7:wS f (l.take k) x false=false->YV f l false=k:=fun h=>ad0 aH hall (by rw [O5]; exact h);have sQ:wS f (l.take k) x false=true->Good f false (l.take (k+1)):=fun h=>Good.more aH hall (by rw [O5]; exact h);have Ac:List.take k (l.map Sr.row)=(l.take k).map Sr.row:=by rw [List.map_take]
  generalize l.take k=lk at *;obtain⟨xj,xm,xc,xk⟩:=x;have W4:NxP ⟨f,lk,⟨xj,xm,xc,xk⟩,true⟩:=⟨hK,hall.weak,rfl⟩
  cases c:wS f lk ⟨xj,xm,xc,xk⟩ false
  ·have hb:=l7 c;have hE:O7 f l=((k:Int),111):=(by rw [hE,hb,if_neg (by omega)]);simp -dsimp [hki];repeat' (first|omega|simp -dsimp [sM,hki,aH,td,hx,hx',Ac,Sr.row,L5,W4,c,hE]|apply aI|apply nI|intro)
  ·have sQ:=sQ c;simp -dsimp [hki];repeat' (first|omega|simp -dsimp [sM,hki,aH,td,hx,hx',Ac,Sr.row,L5,W4,c,wk]|apply aI|apply nI|intro)
   refine⟨k+1,ag rfl ?_,bA.refl _,⟨by omega,sQ⟩,by omega⟩;simp [aj,aT]
 have hkn:¬ (k:Int)<l.length:=by omega
 have hke:k=l.length:=by omega
 subst hke;rw [List.take_length]at hall;have hb:=zI.2 hall;have hE:O7 f l=(0,0):=by rw [hE,hb,if_pos (by omega)]
 simp -dsimp [hkn];repeat' (first|omega|simp -dsimp [sM,hkn,hE]|apply aI|apply nI|intro)
theorem apQ:FO 22 cpS:=pf b22 (.cons auN (.cons akH .nil))
end Go.Sx
end
section
namespace Go.Sx
open Go.Proofs
attribute [local simp] ri aa ints
attribute [local irreducible] bA
def R5 (f:Fl):Bool:=(decide (3<f.jobs.length) && decide (f.jobs.length<=6)) || (decide (3<f.dU.length) && decide (f.dU.length<=4)) || (decide (4<f.gv.bM.length) && decide (f.gv.bM.length<=12)) || (decide (12<f.ko.length) && decide (f.ko.length<=200)) || (decide (6<f.wF.length) && decide (f.wF.length<=60)) || (decide (6<f.met.fs.length+f.met.ss.length) && decide (f.met.fs.length<=40) && decide (f.met.ss.length<=20)) || (decide (120<f.gF) && decide (f.gF<=2000))
theorem C6 {f:Fl} (h:R5 f=false) (hf:gu f):Cw f:=by have hm:=hf.met;simp only [Met.ok,Bool.and_eq_true,decide_eq_true_eq]at hm;simp only [R5,Bool.or_eq_false_iff,Bool.and_eq_false_iff,decide_eq_false_iff_not]at h;exact⟨hf,by omega,by omega⟩
noncomputable abbrev lgS:aB:=bS Hj KD fun f=>.bool (R5 f)
noncomputable abbrev E18:=EV [] [] 1800 99 [(1,[1,50001])]
theorem b18:af E18 [] Tryz.f18 lgS:=pb <| by
 rintro f ⟨s9,hnl,hop,hch,ry,cZ,hjl⟩;have h1:=s9.f;have h2:=s9.s;have w:=wi ((f.met.fs.length:Int)+f.met.ss.length);have hN:∀n:Nat,∀l:Nat,(((l:Nat):Int)<=(n:Int))=(l<=n):=fun n l=>by simp
 have e:R5 f=((decide ((3:Int)<f.jobs.length) && decide ((f.jobs.length:Int)<=6)) || (decide ((3:Int)<f.dU.length) && decide ((f.dU.length:Int)<=4)) || (decide ((4:Int)<f.gv.bM.length) && decide ((f.gv.bM.length:Int)<=12)) || (decide ((12:Int)<f.ko.length) && decide ((f.ko.length:Int)<=200)) || (decide ((6:Int)<f.wF.length) && decide ((f.wF.length:Int)<=60)) || (decide ((6:Int)<(f.met.fs.length:Int)+f.met.ss.length) && decide ((f.met.fs.length:Int)<=40) && decide ((f.met.ss.length:Int)<=20)) || (decide (120<f.gF) && decide (f.gF<=2000))):=by
  unfold R5;congr 1;congr 1
  ·congr 1
   ·congr 1
    ·congr 1
     ·congr 1
      ·congr 1<;>(rw [decide_eq_decide]; omega)
      ·congr 1<;>(rw [decide_eq_decide]; omega)
     ·congr 1<;>(rw [decide_eq_decide]; omega)
    ·congr 1<;>(rw [decide_eq_decide]; omega)
   ·congr 1<;>(rw [decide_eq_decide]; omega)
  ·congr 1
   ·congr 1<;>(rw [decide_eq_decide]; omega)
   ·rw [decide_eq_decide]; omega
 simp -dsimp [Tryz.f18,E18];repeat' (first|omega|simp -dsimp [E18,w,e]|apply aI|apply nI|intro)
theorem agV:FO 18 lgS:=pf b18 .nil
@[simp] def Vl (l:List Sr):List V:=[.sl 4 (l.map Sr.row)]
theorem Vm (a b:List Sr) (h:Vl a=Vl b):a=b:=by simp only [Vl,List.cons.injEq,V.sl.injEq,true_and,and_true]at h;exact aR Sr.aq h
theorem mR (l:List Sr):aY Vl [.sl 4 (l.map Sr.row)]=l:=aA Vm l
noncomputable abbrev X6:aB:=bS Vl (fun _=>True) fun l=>.bool (decide (l.length<=4))
noncomputable abbrev Iz:=EV [] [] 1900 6
theorem b19:af Iz [] Tryz.f19 X6:=pb <| by
 rintro l _;by_cases h:l.length<=4
 ·have hi:((l.length:Int)<=4)=True:=eq_true (by omega);simp -dsimp [Tryz.f19,Iz];repeat' (first|omega|simp -dsimp [Iz,hi,h]|apply aI|apply nI|intro)
 ·have hi:((l.length:Int)<=4)=False:=eq_false (by omega);simp -dsimp [Tryz.f19,Iz];repeat' (first|omega|simp -dsimp [Iz,hi,h]|apply aI|apply nI|intro)
theorem an2:FO 19 X6:=pf b19 .nil
end Go.Sx
end
end
