/- A part of a proof; no conditions. -/
import Derived.Test.YtegiclpanpmkdaaGreatDoorP47
import Derived.Test.YtegiclpanpmkdaaGreatDoorP51
import Derived.Test.YtegiclpanpmkdaaGreatDoorP50
set_option linter.all false
set_option maxRecDepth 100000
set_option maxHeartbeats 8000000
noncomputable section
section
namespace Go.Sx
open Go.Proofs
attribute [local simp] ri aa ints
attribute [local irreducible] bA
structure RpP (d:(Fl × List Sr) × Int):Prop where
 b:BpE d.1.1
 g:Good d.1.1 false d.1.2
 n:0<=d.2/\d.2<=d.1.1.gF
def au0 (f:Fl) (l:List Sr) (now:Int):List Sr:=U0 f now (W0 f l now l.length)
theorem axX {f:Fl} (hf:gu f) {l:List Sr} (hG:Good f false l) (now:Int):Top f now (W0 f l now l.length) (W0 f l now l.length) (au0 f l now):=by refine auW hf ?_;obtain⟨p,_,e,_⟩:=auX hG now;rw [e]; exact(hG.take p).weak
theorem avx {f:Fl} {l:List Sr} (hG:Good f false l) (now:Int):∀k,k<=l.length->Good f true (W0 f l now k)
 | 0,_=>by rw [au4]; exact Good.nil
 | k+1,hk=>by
  obtain⟨x,hx⟩:∃x,l[k]?=some x:=⟨_,List.getElem?_eq_getElem (by omega)⟩
  by_cases c:(ew f x).lv<now
  ·rw [(au6 hG hx c).2]; exact(hG.take _).weak
  ·rw [au5 hx (by omega)]; exact avx hG now k (by omega)
@[simp] def avf (d:(Fl × List Sr) × Int):List V:=[.agg d.1.1.row,.sl 4 (d.1.2.map Sr.row),.int .i64 d.2]
theorem awm (a b:(Fl × List Sr) × Int) (h:avf a=avf b):a=b:=by obtain⟨⟨a1,a2⟩,a3⟩:=a; obtain⟨⟨b1,b2⟩,b3⟩:=b;simp only [avf,List.cons.injEq,V.agg.injEq,V.sl.injEq,V.int.injEq,true_and,and_true]at h;rw [Fl.aq _ _ h.1,aR Sr.aq h.2.1,h.2.2]
theorem awk (f:Fl) (l:List Sr) (t:Int):aY avf [.agg f.row,.sl 4 (l.map Sr.row),.int .i64 t]=((f,l),t):=aA awm ((f,l),t)
noncomputable abbrev ayK:aB:=bS avf RpP fun d=>.dB [.sl 4 ((au0 d.1.1 d.1.2 d.2).map Sr.row),.int .i64 (j4 d.1.1 (au0 d.1.1 d.1.2 d.2)),.int .i64 0]
noncomputable abbrev E25:=EV [(37,.pure nfS),(42,.pure ax4),(56,.pure Pq),(43,.pure at4),(38,.pure ab5),(57,.pure ad1),(58,.pure atU),(44,.pure ax0),(45,.pure ax3)] [] 2500 76 [(1,[3,50003])]
theorem b25:af E25 [] Tryz.f25 ayK:=pb <| by
 rintro⟨⟨f,l⟩,now⟩ ⟨hB,hG,hn⟩;simp only at hB hG hn;have hK:=hB.k;have hf:=hK.ok;have hkG:=fun k h=>avx hG now k h;have hrg:bQ now 0 f.gF=true:=by simp [bQ]; omega
 have kW:W0 f l now 0=[]:=au4 f l now;have hA:au0 f l now=U0 f now (W0 f l now l.length):=rfl;have hl:=(avp (f:=f) (now:=now) (hkG l.length (Nat.le_refl _))).atw;rw [<-hA]at hl;have hj:=hf.jobs;have vP:(au0 f l now).length<=1000:=by omega
 have hlJ:=hG.atw;simp -dsimp [Tryz.f25,E25];repeat' (first|omega|simp -dsimp [E25,fC,atK,hK,hB,hrg]|apply aI|apply nI|intro)
 refine ay [36,37,38,13,39,40,41,42,43,44,45,6,7,8,47,48,49,50,51,52,46,53,54,14,15,55,56,57,58,59,60,61,62,63,11,64,65,66,35] (fun k:{k:Nat // k<=l.length}=>[(35,(true,.int .i64 k.1)),(11,(true,.ip 4 [plR f (W0 f l now k.1)] 0 0))]) (fun k=>hps [(2513,{base:=k.1,ah:=[]}),(2514,{base:=k.1,ah:=[]}),(2503,fS f)] cg) (fun k=>l.length - k.1) ⟨0,by omega⟩ ?_ ?_ ?_
 ·simp [aj,aT,kW]
 ·(try simp -dsimp only [hpx]); refine ai ?_; simp -dsimp [aC,fS]<;>exact rz
 rintro⟨k,hk⟩;dsimp only;by_cases aH:k<l.length
 case neg=>
  have hkn:¬ (k:Int)<l.length:=by omega
  have hke:k=l.length:=by omega
  subst hke;have hP:BsF ((f,W0 f l now l.length),now):=⟨hK,hkG _ (Nat.le_refl _)⟩
  simp -dsimp [hkn,fS];repeat' (first|omega|simp -dsimp [E25,hkn,av9,avv,hP,<-hA,vP,aS,cQ]|apply aI|apply nI|intro)
 have hki:(k:Int)<l.length:=by omega
 have wk:=wx k;obtain⟨x,hx,hx'⟩:=gx aH;have O5:l.getD k default=x:=by simp [List.getD,hx]
 have hN:=hG.nx aH;rw [O5]at hN;have hS:=hN.sr;have hJm:Xa (f,x.j,x.m):=hS.jm hK;have hth:Xc f x.j x.m=true:=hN.th;have hO:=uJ hS.q;have hbk:jJ f x.j.toNat x.m.toNat=ew f x:=rfl;have hq:=hS.q;rw [hbk]at hO;have ayl:now<=(ew f x).lv->W0 f l now (k+1)=W0 f l now k:=fun h=>au5 hx h;have aym:(ew f x).lv<now->W0 f l now (k+1)=W0 f l now k++[x]/\wS f (W0 f l now k) x true=true:=fun h=>by obtain⟨e1,e2⟩:=au6 hG hx h;refine⟨by rw [e1,e2,List.take_add_one,hx]; rfl,?_⟩;rw [e1]; exact vw.2 hN.weak
 have hGk:=hkG k hk;generalize hK1:W0 f l now (k+1)=K1 at *;generalize W0 f l now k=K0 at *;have hAd:AdP ((f,K0),x,true):=⟨hK,hGk⟩
 generalize ew f x=X at *;obtain⟨xj,xm,xc,xk⟩:=x;obtain⟨b1,b2,b3,b4⟩:=X;simp only at hth hO hJm hq ayl aym;rcases Classical.propComplete (now<=b1)with c|c
 ·have hs:=ayl (of_eq_true c);simp -dsimp [hki,fS];repeat' (first|omega|simp -dsimp [E25,hki,aH,hx,hx',Sr.row,Bk.row,nC,hK,hth,hJm,hO,hq,c,wk]|apply aI|apply nI|intro)
  refine⟨k+1,ag rfl ?_,?_,by omega,by omega⟩
  ·simp [aj,aT,hK1,hs]
  ·(try simp -dsimp only [hpx]); refine ai ?_; simp -dsimp [aC,fS]<;>exact rz
 ·have c':=of_eq_false c;obtain⟨hs,sQ⟩:=aym (by omega);simp -dsimp [hki,fS];repeat' (first|omega|simp -dsimp [E25,hki,aH,hx,hx',Sr.row,Bk.row,nC,asz,hK,hth,hJm,hO,hq,c,hAd,sQ,wk]|apply aI|apply nI|intro)
  refine⟨k+1,ag rfl ?_,?_,by omega,by omega⟩
  ·simp [aj,aT,hK1,hs]
  ·(try simp -dsimp only [hpx]); refine ai ?_; simp -dsimp [aC,fS]<;>exact rz
theorem amu:FO 25 ayK:=pf b25 (.cons anj (.cons auM (.cons Sl (.cons MB (.cons agW (.cons akx (.cons apP (.cons aum (.cons api .nil)))))))))
@[simp] def axD (d:List Sr):List V:=[.sl 4 (d.map Sr.row),.sl 4 (d.map Sr.row)]
theorem axE (a b:List Sr) (h:axD a=axD b):a=b:=by simp only [axD,List.cons.injEq,V.sl.injEq,true_and,and_true]at h;exact aR Sr.aq h.1
theorem awS (l:List Sr):aY axD [.sl 4 (l.map Sr.row),.sl 4 (l.map Sr.row)]=l:=aA axE l
noncomputable abbrev ayL:aB:=bS axD (fun d=>d.length<=1000) fun _=>.bool true
noncomputable abbrev NM:=EV [] [] 2600 26
theorem b26:af NM [] Tryz.f26 ayL:=pb <| by
 rintro l hl;have hl:l.length<=1000:=hl;simp -dsimp [Tryz.f26,NM];repeat' (first|omega|simp -dsimp [NM, *]|apply aI|apply nI|intro)
 refine ay [11,12,13,14,17,18,19,20,21,22,23,24,25,4,15,16,5] (fun k:{k:Nat // k<=l.length}=>[(5,(true,.int .i64 k.1))]) (fun _=>cg) (fun k=>l.length - k.1) ⟨0,by omega⟩ ?_ (bA.refl _) ?_
 ·simp [aj,aT]
 rintro⟨k,hk⟩;dsimp only;by_cases aH:k<l.length
 ·have hki:(k:Int)<l.length:=by omega
  have wk:=wx k;obtain⟨x,hx,hx'⟩:=gx aH;simp -dsimp [hki];repeat' (first|omega|simp -dsimp [NM,hki,aH,hx,hx',Sr.row,wk]|apply aI|apply nI|intro)
  refine⟨k+1,ag rfl ?_,bA.refl _,by omega,by omega⟩;simp [aj,aT]
 have hkn:¬ (k:Int)<l.length:=by omega
 simp -dsimp [hkn];repeat' (first|omega|simp -dsimp [NM,hkn]|apply aI|apply nI|intro)
theorem ag4:FO 26 ayL:=pf b26 .nil
end Go.Sx
end
section
namespace Go.Sx
open Go.Proofs
attribute [local simp] ri aa ints
attribute [local irreducible] bA
structure AwP (d:(Fl × List Sr) × Int):Prop where
 r:RiP (d.1.1,d.1.2)
noncomputable abbrev avB:aB:=bS avf AwP fun _=>.bool true
noncomputable abbrev E6:=EV [(10,.pure XM),(11,.pure C0),(17,.pure awo),(25,.pure ayK),(12,.pure awM),(26,.pure ayL),(15,.pure MH)] [] 600 213 [(1,[3,50003])]
theorem b6:af E6 [] Tryz.f6 avB:=pb <| by
 rintro⟨⟨f,l⟩,now⟩ ⟨XN⟩;have hP:=XN.p;have hl:=XN.l;simp only at hP hl XN;cases hR:AB f l
 case false=>
  simp -dsimp [Tryz.f6,E6];repeat' (first|omega|simp -dsimp [E6,gO,XN,hR]|apply aI|apply nI|intro)
 obtain⟨hlg,h4,hK,hG⟩:=RZ hR;have hf:=hK.ok;rcases Classical.propComplete (now<0)with n0|n0
 ·simp -dsimp [Tryz.f6,E6];repeat' (first|omega|simp -dsimp [E6,gO,XN,hR,n0]|apply aI|apply nI|intro)
 rcases Classical.propComplete (f.gF<now)with n1|n1
 ·simp -dsimp [Tryz.f6,E6];repeat' (first|omega|simp -dsimp [E6,gO,XN,hR,n0,n1]|apply aI|apply nI|intro)
 have n0':=of_eq_false n0;have n1':=of_eq_false n1;have hun:=hf.gF;have hBp:=awq hlg hK;have h00:au0 f l 0=U0 f 0 []:=by unfold au0; rw [awv hG]
 have Jj:RpP ((f,l),0):=⟨hBp,hG,by simp only; omega⟩
 have hRn:RpP ((f,l),now):=⟨hBp,hG,by simp only; omega⟩
 have hN:NpP (f,l):=⟨hK,by simp only; omega⟩
 have hE:=yg hf hG;have hT:=axX hf hG now;have hB:=auW hf (now:=0) (q:=[]) Good.nil;have hAG:=awg hG hT;have oQ:(j4 f (au0 f l now)<j4 f l)=False:=eq_false (by have:=aws hG hT; omega);have oR:(j4 f (U0 f 0 [])<j4 f (au0 f l now))=False:=eq_false (by have:=(au3 hB hAG).2; omega);have hAl:=hAG.atw;have iq:=(auZ hB).atw;have hj:=hf.jobs;have aAb:(U0 f 0 []).length<=1000:=by omega
 have hAn:=fun i x (h:(au0 f l now)[i]?=some x)=>ayo hG hT h;have hLn:=fun i x (h:l[i]?=some x)=>ayp hG hT h;have hAb:=fun k x (h:(au0 f l now)[k]?=some x)=>hAG.bl hK h;have hLb:=fun k x (h:l[k]?=some x)=>hG.bl hK h;simp -dsimp [Tryz.f6,E6];repeat' (first|omega|simp -dsimp [E6,gO,fC,awk,awS,XN,hR,n0,n1,hBp,Jj,hRn,h00,hN,hE,oQ,oR,aAb]|apply aI|apply nI|intro)
 generalize au0 f l now=A at *;refine ay [118,119,120,121,125,126,127,128,129,130,131,132,133,134,135,136,124,137,138,139,140,19,20,21,22,141,142,143,144,145,146,147,148,149,150,151,152,153,154,155,156,157,158,159,160,161,162,163,164,6,122,123,18] (fun k:{k:Nat // k<=A.length}=>[(18,(true,.int .i64 k.1))]) (fun _=>hps [(603,fS f)] cg) (fun k=>A.length - k.1) ⟨0,by omega⟩ ?_ ?_ ?_
 ·simp [aj,aT]
 ·(try simp -dsimp only [hpx]); refine ai ?_; simp -dsimp [aC,fS]<;>exact rz
 rintro⟨k,hk⟩;dsimp only;by_cases aH:k<A.length
 ·have hki:(k:Int)<A.length:=by omega
  have wk:=wx k;obtain⟨x,hx,hx'⟩:=gx aH;obtain⟨hBx,hbx⟩:=hAb k x hx;have hLx:=hAn k x hx;generalize ew f x=X at *;obtain⟨xj,xm,xc,xk⟩:=x;obtain⟨b1,b2,b3,b4⟩:=X;simp only at hBx hbx hLx;rcases Classical.propComplete (b1<now)with c|c
  ·have hy:=hLx (of_eq_true c);have hk2:k<l.length:=(List.getElem?_eq_some_iff.1 hy).1;have hy':l[k]=⟨xj,xm,xc,xk⟩:=(List.getElem?_eq_some_iff.1 hy).2;have iB:(k:Int)<l.length:=(by omega);have hge:((l.length:Int)<=k)=False:=eq_false (by omega);simp -dsimp [hki,fS];repeat' (first|omega|simp -dsimp [E6,hki,iB,aH,hk2,hx,hx',hy,hy',Sr.row,dS,hBx,hbx,c,hge,wk]|apply aI|apply nI|intro)
   refine⟨k+1,ag rfl ?_,?_,by omega,by omega⟩
   ·simp [aj,aT]
   ·(try simp -dsimp only [hpx]); refine ai ?_; simp -dsimp [aC,fS]<;>exact rz
  ·simp -dsimp [hki,fS];repeat' (first|omega|simp -dsimp [E6,hki,aH,hx,hx',Sr.row,dS,hBx,hbx,c,wk]|apply aI|apply nI|intro)
   refine⟨k+1,ag rfl ?_,?_,by omega,by omega⟩
   ·simp [aj,aT]
   ·(try simp -dsimp only [hpx]); refine ai ?_; simp -dsimp [aC,fS]<;>exact rz
 have hkn:¬ (k:Int)<A.length:=by omega
 simp -dsimp [hkn,fS];repeat' (first|omega|simp -dsimp [E6,hkn]|apply aI|apply nI|intro)
 refine ay [165,166,167,168,172,173,174,175,176,177,178,179,180,181,182,183,171,184,185,186,187,24,25,26,27,188,189,190,191,192,193,194,195,196,197,198,199,200,201,202,203,204,205,206,207,208,209,210,211,6,169,170,23] (fun k:{k:Nat // k<=l.length}=>[(23,(true,.int .i64 k.1))]) (fun _=>hps [(603,fS f)] cg) (fun k=>l.length - k.1) ⟨0,by omega⟩ ?_ ?_ ?_
 ·simp [aj,aT]
 ·(try simp -dsimp only [hpx]); refine ai ?_; simp -dsimp [aC,fS]<;>exact rz
 rintro⟨k,hk⟩;dsimp only;by_cases aH:k<l.length
 ·have hki:(k:Int)<l.length:=by omega
  have wk:=wx k;obtain⟨x,hx,hx'⟩:=gx aH;obtain⟨hBx,hbx⟩:=hLb k x hx;have hLx:=hLn k x hx;generalize ew f x=X at *;obtain⟨xj,xm,xc,xk⟩:=x;obtain⟨b1,b2,b3,b4⟩:=X;simp only at hBx hbx hLx;rcases Classical.propComplete (b1<now)with c|c
  ·have hy:=hLx (of_eq_true c);have hk2:k<A.length:=(List.getElem?_eq_some_iff.1 hy).1;have hy':A[k]=⟨xj,xm,xc,xk⟩:=(List.getElem?_eq_some_iff.1 hy).2;have iB:(k:Int)<A.length:=(by omega);have hge:((A.length:Int)<=k)=False:=eq_false (by omega);simp -dsimp [hki,fS];repeat' (first|omega|simp -dsimp [E6,hki,iB,aH,hk2,hx,hx',hy,hy',Sr.row,dS,hBx,hbx,c,hge,wk]|apply aI|apply nI|intro)
   refine⟨k+1,ag rfl ?_,?_,by omega,by omega⟩
   ·simp [aj,aT]
   ·(try simp -dsimp only [hpx]); refine ai ?_; simp -dsimp [aC,fS]<;>exact rz
  ·simp -dsimp [hki,fS];repeat' (first|omega|simp -dsimp [E6,hki,aH,hx,hx',Sr.row,dS,hBx,hbx,c,wk]|apply aI|apply nI|intro)
   refine⟨k+1,ag rfl ?_,?_,by omega,by omega⟩
   ·simp [aj,aT]
   ·(try simp -dsimp only [hpx]); refine ai ?_; simp -dsimp [aC,fS]<;>exact rz
 have hkn:¬ (k:Int)<l.length:=by omega
 simp -dsimp [hkn,fS];repeat' (first|omega|simp -dsimp [E6,hkn]|apply aI|apply nI|intro)
theorem ok6:FO 6 avB:=pf b6 (.cons aiO (.cons Xd (.cons ag2 (.cons amu (.cons anw (.cons ag4 (.cons aiF .nil)))))))
end Go.Sx
end
end
