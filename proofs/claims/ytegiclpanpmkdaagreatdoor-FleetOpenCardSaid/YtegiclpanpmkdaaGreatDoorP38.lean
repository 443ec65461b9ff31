/- A part of a proof; no conditions. -/
import Derived.Test.YtegiclpanpmkdaaGreatDoorP25
import Derived.Test.YtegiclpanpmkdaaGreatDoorP32
import Derived.Test.YtegiclpanpmkdaaGreatDoorP37
set_option linter.all false
set_option maxRecDepth 100000
set_option maxHeartbeats 8000000
noncomputable section
section
namespace Go.Sx
open Go.Proofs
attribute [local simp] ri aa ints
attribute [local irreducible] bA
structure KD (f:Fl):Prop where
 met:qQ f.met
 Ah:f.Ah.length<=100000000000000
 op:RL.oW ⟨f.eH,f.ko⟩
 ch:MG (f.gv,f.wF)
 dU:f.dU.length<=100000000000000
 lz:f.lz.length<=100000000000000
 jobs:f.jobs.length<=100000000000000
def okB (f:Fl) (k:Nat):Prop:=(∀x∈f.dU.take k,bey (f.met.n - 1) x=false)/\∀x∈f.lz.take k,bey 7 x=false
def okJ (f:Fl) (k:Nat):Prop:=∀x∈f.jobs.take k,Jb.bad f.met.n f.gF x=false
theorem ug {α:Type} {p:α->Bool} {l:List α} {k:Nat} {x:α} (hx:l[k]?=some x) (h:∀y∈l.take k,p y=false) (h2:p x=false):∀y∈l.take (k+1),p y=false:=by
 intro y hy;rw [List.take_add_one,hx]at hy;rcases List.mem_append.1 hy with hy|hy
 ·exact h y hy
 ·have:y=x:=by simpa using hy
  rw [this]; exact h2
noncomputable abbrev E50:=EV [] [] 5000 15
theorem b50:af E50 [] Tryz.f50 Pq:=pb <| by rintro⟨n,lo,hi⟩ _;simp -dsimp [Tryz.f50,E50,bQ];repeat' (first|omega|simp -dsimp [E50,bQ]|apply aI|apply nI|intro)
theorem ahH:FO 50 Pq:=pf b50 .nil
noncomputable abbrev afl:aB:=bS Hj KD fun f=>.int .i64 (Nr f)
noncomputable abbrev E20:=EV [(46,.pure mmS),(47,.pure Xm),(48,.pure mc),(49,.pure Vj),(50,.pure Pq)] [] 2000 178 [(1,[1,50001])]
theorem b20:af E20 [] Tryz.f20 afl:=pb <| by
 rintro f ⟨s9,hnl,hop,hch,ry,cZ,hjl⟩;have hE:Nr f=if uz f.met f.mn≠0 then uz f.met f.mn else if pq f.met f.Ah≠0 then pq f.met f.Ah else if jA f.eH f.ko≠0 then jA f.eH f.ko else if (fL f.gv f.wF).2≠0 then (fL f.gv f.wF).2 else if flB f=true then 0 else 110:=rfl;by_cases e1:uz f.met f.mn=0
 case neg=>
  rw [if_pos e1]at hE;simp -dsimp [Tryz.f20,E20];repeat' (first|omega|simp -dsimp [E20,fF,s9,e1,hE]|apply aI|apply nI|intro)
 rw [if_neg (by simp [e1])]at hE;by_cases e2:pq f.met f.Ah=0
 case neg=>
  rw [if_pos e2]at hE;simp -dsimp [Tryz.f20,E20];repeat' (first|omega|simp -dsimp [E20,fF,eC,s9,hnl,e1,e2,hE]|apply aI|apply nI|intro)
 rw [if_neg (by simp [e2])]at hE;by_cases e3:jA f.eH f.ko=0
 case neg=>
  rw [if_pos e3]at hE;simp -dsimp [Tryz.f20,E20];repeat' (first|omega|simp -dsimp [E20,fF,eC,gr,s9,hnl,hop,e1,e2,e3,hE]|apply aI|apply nI|intro)
 rw [if_neg (by simp [e3])]at hE;by_cases e4:(fL f.gv f.wF).2=0
 case neg=>
  rw [if_pos e4]at hE;simp -dsimp [Tryz.f20,E20];repeat' (first|omega|simp -dsimp [E20,fF,eC,gr,dw,s9,hnl,hop,hch,e1,e2,e3,e4,hE]|apply aI|apply nI|intro)
 rw [if_neg (by simp [e4])]at hE;have hmo:=(uj.1 e1).1;have hmn:=yd hmo;have wn:=wi (f.met.n - 1);have hno:flB f=false->Nr f=110:=fun h=>by rw [h]at hE; exact hE
 have hyes:flB f=true->Nr f=0:=fun h=>by rw [if_pos h]at hE; exact hE
 have We:flB f=((decide ((f.dU.length:Int)=f.eH.ax) && decide ((f.lz.length:Int)=f.eH.ax) && !(f.dU.any (bey (f.met.n - 1))) && !(f.lz.any (bey 7))) &&
 (bQ f.turn 0 100 && bQ f.hour 1 100 && bQ f.rU 0 f.eH.ax && bQ f.gF 1 2000 && decide (f.jobs.length<=6)) && !(f.jobs.any (Jb.bad f.met.n f.gF))):=rfl
 clear hE;rcases Classical.propComplete ((f.dU.length:Int)=f.eH.ax)with c1|c1
 case inr=>
  have hE:=hno (by rw [We]; simp [c1]);simp -dsimp [Tryz.f20,E20];repeat' (first|omega|simp -dsimp [E20,fF,eC,gr,dw,s9,hnl,hop,hch,e1,e2,e3,e4,c1,hE]|apply aI|apply nI|intro)
 rcases Classical.propComplete ((f.lz.length:Int)=f.eH.ax)with c2|c2
 case inr=>
  have hE:=hno (by rw [We]; simp [c2]);simp -dsimp [Tryz.f20,E20];repeat' (first|omega|simp -dsimp [E20,fF,eC,gr,dw,s9,hnl,hop,hch,e1,e2,e3,e4,c1,c2,hE]|apply aI|apply nI|intro)
 have Kv:(f.dU.length:Int)=f.eH.ax:=of_eq_true c1;have HC:(f.lz.length:Int)=f.eH.ax:=of_eq_true c2;cases g1:bQ f.turn 0 100
 ·have hE:=hno (by rw [We]; simp [g1]);simp -dsimp [Tryz.f20,E20];repeat' (first|omega|simp -dsimp [E20,fF,eC,gr,dw,s9,hnl,hop,hch,e1,e2,e3,e4,c1,c2,g1,hE]|apply aI|apply nI|intro)
 cases g2:bQ f.hour 1 100
 ·have hE:=hno (by rw [We]; simp [g2]);simp -dsimp [Tryz.f20,E20];repeat' (first|omega|simp -dsimp [E20,fF,eC,gr,dw,s9,hnl,hop,hch,e1,e2,e3,e4,c1,c2,g1,g2,hE]|apply aI|apply nI|intro)
 cases g3:bQ f.rU 0 f.dU.length
 ·have hE:=hno (by rw [We,<-Kv,g3]; simp);simp -dsimp [Tryz.f20,E20];repeat' (first|omega|simp -dsimp [E20,fF,eC,gr,dw,s9,hnl,hop,hch,e1,e2,e3,e4,c1,c2,g1,g2,g3,hE]|apply aI|apply nI|intro)
 cases g4:bQ f.gF 1 2000
 ·have hE:=hno (by rw [We]; simp [g4]);simp -dsimp [Tryz.f20,E20];repeat' (first|omega|simp -dsimp [E20,fF,eC,gr,dw,s9,hnl,hop,hch,e1,e2,e3,e4,c1,c2,g1,g2,g3,g4,hE]|apply aI|apply nI|intro)
 rcases Classical.propComplete ((6:Int)<f.jobs.length)with c3|c3
 ·have c3':=of_eq_true c3;have hE:=hno (by rw [We,decide_eq_false (by omega:¬ f.jobs.length<=6)]; simp);simp -dsimp [Tryz.f20,E20];repeat' (first|omega|simp -dsimp [E20,fF,eC,gr,dw,s9,hnl,hop,hch,e1,e2,e3,e4,c1,c2,c3,g1,g2,g3,g4,hE]|apply aI|apply nI|intro)
 have c3':=of_eq_false c3;simp -dsimp [Tryz.f20,E20];repeat' (first|omega|simp -dsimp [E20,fF,eC,gr,dw,s9,hnl,hop,hch,e1,e2,e3,e4,c1,c2,c3,g1,g2,g3,g4]|apply aI|apply nI|intro)
 refine ay [99,100,101,102,103,106,107,108,109,110,111,112,113,114,115,116,117,118,119,120,121,122,123,124,125,2,104,105,9] (fun k:{k:Nat // k<=f.dU.length/\okB f k}=>[(9,(true,.int .i64 k.1))]) (fun _=>hps [(2001,fS f)] cg) (fun k=>f.dU.length - k.1) ⟨0,by omega,by simp [okB]⟩ ?_ ?_ ?_
 ·simp [aj,aT]
 ·(try simp -dsimp only [hpx]); refine ai ?_; simp -dsimp [aC,fS]<;>exact rz
 rintro⟨k,hk,hall⟩;dsimp only;by_cases aH:k<f.dU.length
 ·have hki:(k:Int)<f.dU.length:=by omega
  have hk2:k<f.lz.length:=by omega
  have iB:(k:Int)<f.lz.length:=by omega
  have wk:=wx k;obtain⟨x,hx,hx'⟩:=gx aH;obtain⟨y,hy,hy'⟩:=gx hk2;cases d1:bQ x 0 (f.met.n - 1)
  ·have hE:=hno (by have:f.dU.any (bey (f.met.n - 1))=true:=List.any_eq_true.2 ⟨x,hx' ▸ List.getElem_mem aH,by simp [bey,d1]⟩;rw [We,this]; simp)
   simp -dsimp [hki];repeat' (first|omega|simp -dsimp [E20,hki,aH,iB,hk2,hx,hx',hy,hy',ri,wn,d1,hE]|apply aI|apply nI|intro)
  cases d2:bQ y 0 7
  ·have hE:=hno (by have:f.lz.any (bey 7)=true:=List.any_eq_true.2 ⟨y,hy' ▸ List.getElem_mem hk2,by simp [bey,d2]⟩;rw [We,this]; simp)
   simp -dsimp [hki];repeat' (first|omega|simp -dsimp [E20,hki,aH,iB,hk2,hx,hx',hy,hy',ri,wn,d1,d2,hE]|apply aI|apply nI|intro)
  have sQ:okB f (k+1):=⟨ug hx hall.1 (by simp [bey,d1]),ug hy hall.2 (by simp [bey,d2])⟩
  simp -dsimp [hki];repeat' (first|omega|simp -dsimp [E20,hki,aH,iB,hk2,hx,hx',hy,hy',ri,wn,d1,d2,wk]|apply aI|apply nI|intro)
  refine⟨k+1,ag rfl ?_,bA.refl _,⟨by omega,sQ⟩,by omega⟩;simp [aj,aT]
 have hkn:¬ (k:Int)<f.dU.length:=by omega
 have hke:k=f.dU.length:=by omega
 have hkc:k=f.lz.length:=by omega
 obtain⟨ha1,ha2⟩:=hall;have ez:f.dU.any (bey (f.met.n - 1))=false:=List.any_eq_false.2 fun x hx=>by rw [ha1 x (by rw [hke,List.take_length]; exact hx)]; simp
 have kJ:f.lz.any (bey 7)=false:=List.any_eq_false.2 fun x hx=>by rw [ha2 x (by rw [hkc,List.take_length]; exact hx)]; simp
 clear ha1 ha2;simp -dsimp [hkn];repeat' (first|omega|simp -dsimp [E20,hkn]|apply aI|apply nI|intro)
 refine ay [126,127,128,129,130,133,134,135,136,137,11,138,139,140,141,142,143,144,145,146,147,148,149,150,151,152,153,154,155,156,157,158,159,160,161,162,163,164,165,166,167,168,169,170,171,172,173,174,175,176,177,2,131,132,10] (fun k:{k:Nat // k<=f.jobs.length/\okJ f k}=>[(10,(true,.int .i64 k.1))]) (fun k=>hps [(2011,{base:=k.1,ah:=[]}),(2001,fS f)] cg) (fun k=>f.jobs.length - k.1) ⟨0,by omega,by simp [okJ]⟩ ?_ ?_ ?_
 ·simp [aj,aT]
 ·(try simp -dsimp only [hpx]); refine ai ?_; simp -dsimp [aC,fS]<;>exact rz
 rintro⟨k,hk,hall⟩;dsimp only;by_cases aH:k<f.jobs.length
 ·have hki:(k:Int)<f.jobs.length:=by omega
  have wk:=wx k;obtain⟨x,hx,hx'⟩:=gx aH;have hun:1<=f.gF/\f.gF<=2000:=by simpa [bQ]using g4
  have wu:=wi (f.gF - 1);have l7:Jb.bad f.met.n f.gF x=true->Nr f=110:=fun h=>hno (by have:f.jobs.any (Jb.bad f.met.n f.gF)=true:=List.any_eq_true.2 ⟨x,hx' ▸ List.getElem_mem aH,h⟩;rw [We,this]; simp)
  have sQ:Jb.bad f.met.n f.gF x=false->okJ f (k+1):=fun h=>ug hx hall h;have hbd:Jb.bad f.met.n f.gF x=!(bQ x.a 0 (f.met.n - 1) && bQ x.b 0 (f.met.n - 1) && decide (x.a≠x.b) && bQ x.dep 0 (f.gF - 1) && bQ x.val 0 1000000):=rfl;rw [hbd]at l7 sQ;obtain⟨a,b,d,v,w⟩:=x;simp only at l7 sQ;rcases Classical.propComplete (a=b)with c|c<;>cases d1:bQ a 0 (f.met.n - 1)<;>cases d2:bQ b 0 (f.met.n - 1)<;>cases d3:bQ d 0 (f.gF - 1)<;>cases d4:bQ v 0 1000000
  all_goals
   simp only [d1,d2,d3,d4,c,ne_eq,not_true,not_false_iff,decide_true,decide_false,Bool.and_true,Bool.and_false,Bool.true_and,Bool.false_and,Bool.not_true,Bool.not_false,true_implies,reduceCtorEq,false_implies]at l7 sQ;simp -dsimp [hki];repeat' (first|omega|simp -dsimp [E20,hki,aH,hx,hx',Jb.row,wn,wu,d1,d2,d3,d4,c,wk,l7]|apply aI|apply nI|intro)
  all_goals
   refine⟨k+1,ag rfl ?_,?_,⟨by omega,sQ⟩,by omega⟩
   ·simp [aj,aT]
   ·(try simp -dsimp only [hpx]); refine ai ?_; simp -dsimp [aC,fS]<;>exact rz
 have hkn:¬ (k:Int)<f.jobs.length:=by omega
 have hke:k=f.jobs.length:=by omega
 have Hl:f.jobs.any (Jb.bad f.met.n f.gF)=false:=List.any_eq_false.2 fun x hx=>by rw [hall x (by rw [hke,List.take_length]; exact hx)]; simp
 have hE:=hyes (by rw [We,ez,kJ,Hl,g1,g2,g4,<-Kv,g3,decide_eq_true (by omega:f.jobs.length<=6),HC,<-Kv]; simp);simp -dsimp [hkn];repeat' (first|omega|simp -dsimp [E20,hkn,hE]|apply aI|apply nI|intro)
theorem auN:FO 20 afl:=pf b20 (.cons apg (.cons aeY (.cons apj (.cons alf (.cons ahH .nil)))))
end Go.Sx
end
section
namespace Go.Sx
open Go.Proofs
attribute [local simp] ri aa ints
attribute [local irreducible] bA
structure Cw (f:Fl):Prop where
 ok:gu f
 fw:f.met.fs.length<20
 sw:f.met.ss.length<20
structure Xa (d:Fl × Int × Int):Prop where
 ok:Cw d.1
 j:0<=d.2.1/\d.2.1<d.1.jobs.length
 m:0<=d.2.2/\d.2.2<d.1.dU.length
def D5 (f:Fl) (j m:Nat):Bk:=if zZ f j m=true then jJ f j m else ⟨0,0,0,0⟩
theorem uJ {f:Fl} {j m:Nat} (h:zZ f j m=true):D5 f j m=jJ f j m:=if_pos h
theorem PW {r:aZ} {l:List Wk} (h:jA r l=0):RL.oW ⟨r,l⟩:=by
 have hv:r.valid=true/\l.length<=200:=by
  unfold jA at h;split at h
  ·rename_i h1; refine⟨h1,?_⟩;split at h
   ·assumption
   ·cases h
  ·cases h
 have hs:=pS hv.1;exact⟨by have:=hs.kinds; simp only; omega,by have:=hs.parts; simp only; omega,by have:=hs.az; simp only; omega,by simp only; omega⟩
theorem gu.agZ {f:Fl} (h:gu f):MQ f.met f.Ah:=⟨h.met,h.Ah⟩
noncomputable abbrev Ii:aB:=bS El Xa fun d=>.dB [.agg (D5 d.1 d.2.1.toNat d.2.2.toNat).row,.bool (zZ d.1 d.2.1.toNat d.2.2.toNat)]
noncomputable abbrev agh:=EV [(176,.pure ME)] [] 11800 111 [(1,[3,50003])]
theorem aqP:af agh [(1,([1,3,4,6,8,9],[[0,1,2,3,4,5,6,7,8,9,10,11,12]]))] Tryz.f118 Ii:=pb <| by
 rintro⟨f,j,m⟩ ⟨⟨hf,_,_⟩,hj,hm⟩;simp only at hf hj hm;obtain⟨j,rfl⟩:=Int.eq_ofNat_of_zero_le hj.1;obtain⟨m,rfl⟩:=Int.eq_ofNat_of_zero_le hm.1;have hj1:j<f.jobs.length:=by omega
 have jW:m<f.dU.length:=by omega
 have hji:(j:Int)<f.jobs.length:=hj.2;have oh:(m:Int)<f.dU.length:=hm.2;have W4:=hf.agZ;obtain⟨x,hx,hx'⟩:=gx hj1;have Rl:fP f j=x:=by simp [fP,List.getD,hx]
 obtain⟨b,hb,hb'⟩:=gx jW;have hba:sv f m=b:=by simp [sv,List.getD,hb]
 have hjb:=hf.jb hj1;have oG:=hf.bs jW;have h3:=hf.t3 hj1 jW;have h0:=hf.t0 hj1 jW;have hn:=yd hf.met;have TJ:=hf.tim.sq;have htu:=hf.turn;have hun:=hf.gF;have hQ:zZ f j m=(decide (0<=pX f j m) && decide (0<=oA f j) && decide (0<=pY f j m)):=rfl;have hV:jJ f j m=⟨(fP f j).dep - (if sv f m=(fP f j).a then 0 else f.turn+pX f j m),(fP f j).dep+oA f j,(fP f j).dep+oA f j+(if sv f m=(fP f j).b then 0 else f.turn+pY f j m),pX f j m+oA f j+pY f j m⟩:=rfl;have hX:pX f j m=g2 (zX f) (sv f m).toNat (fP f j).a.toNat:=rfl;have hY:oA f j=g2 (zX f) (fP f j).a.toNat (fP f j).b.toNat:=rfl;have hZ:pY f j m=g2 (zX f) (fP f j).b.toNat (sv f m).toNat:=rfl;have hO:D5 f j m=if zZ f j m=true then jJ f j m else ⟨0,0,0,0⟩:=rfl;have OU:rV f.met.n.toNat f.Ah=zX f:=rfl;rw [Rl]at hjb h0 hV hX hY hZ;rw [hba]at oG h0 hV hX hZ;obtain⟨xa,xc,xd,xv,xw⟩:=x;simp only at hjb h0 hV hX hY hZ;obtain⟨p,rfl⟩:=Int.eq_ofNat_of_zero_le oG.1;obtain⟨a,rfl⟩:=Int.eq_ofNat_of_zero_le hjb.1.1;obtain⟨c,rfl⟩:=Int.eq_ofNat_of_zero_le hjb.2.1.1;simp only [Int.toNat_natCast]at hX hY hZ;have hp:p<f.met.n.toNat:=by omega
 have ha:a<f.met.n.toNat:=by omega
 have hc:c<f.met.n.toNat:=by omega
 have HJ:=TJ.1;obtain⟨r1,kR,oy,oQ⟩:=jd TJ hp ha;obtain⟨r2,jP,vP,oR⟩:=jd TJ ha hc;obtain⟨r3,TK,hl3,JC⟩:=jd TJ hc hp;rw [<-hX]at oQ;rw [<-hY]at oR;rw [<-hZ]at JC;have Dg:=(List.getElem?_eq_some_iff.1 kR).2;have pe:=(List.getElem?_eq_some_iff.1 jP).2;have Dh:=(List.getElem?_eq_some_iff.1 TK).2;have Di:=(List.getElem?_eq_some_iff.1 oQ).2;have pg:=(List.getElem?_eq_some_iff.1 oR).2;have Dj:=(List.getElem?_eq_some_iff.1 JC).2;clear hX hY hZ;generalize pX f j m=X at *;generalize oA f j=Y at *;generalize pY f j m=Z at *;generalize YX:zZ f j m=Q at *;generalize jJ f j m=B at *;generalize YY:D5 f j m=O at *;generalize zX f=T at *;have q1:p<T.length:=by omega
 have q2:a<T.length:=by omega
 have q3:c<T.length:=by omega
 have q4:a<r1.length:=by omega
 have q5:c<r2.length:=by omega
 have q6:p<r3.length:=by omega
 have YZ:(p:Int)<T.length:=by omega
 have Y3:(a:Int)<T.length:=by omega
 have Y4:(c:Int)<T.length:=by omega
 have Y5:(a:Int)<r1.length:=by omega
 have Y6:(c:Int)<r2.length:=by omega
 have Y7:(p:Int)<r3.length:=by omega
 by_cases c1:X<0
 ·have hQ:Q=false:=by rw [hQ,decide_eq_false (by omega:¬ 0<=X)]; rfl
  rw [hQ]at hO;have hO:O=⟨0,0,0,0⟩:=hO;simp -dsimp [Tryz.f118,agh];repeat' (first|omega|simp -dsimp [agh,hx,hx',hb,hb',hj1,jW,hji,oh,eC,W4,OU,mL,Jb.row,Bk.row,aS,kR,Dg,jP,pe,TK,Dh,oQ,Di,oR,pg,JC,Dj,q1,q2,q3,q4,q5,q6,YZ,Y3,Y4,Y5,Y6,Y7,ri,c1,YX,YY,hQ,hO]|apply aI|apply nI|intro)
 by_cases c2:Y<0
 ·have hQ:Q=false:=by rw [hQ,decide_eq_false (by omega:¬ 0<=Y)]; simp
  rw [hQ]at hO;have hO:O=⟨0,0,0,0⟩:=hO;replace c1:(X<0)=False:=eq_false c1;simp -dsimp [Tryz.f118,agh];repeat' (first|omega|simp -dsimp [agh,hx,hx',hb,hb',hj1,jW,hji,oh,eC,W4,OU,mL,Jb.row,Bk.row,aS,kR,Dg,jP,pe,TK,Dh,oQ,Di,oR,pg,JC,Dj,q1,q2,q3,q4,q5,q6,YZ,Y3,Y4,Y5,Y6,Y7,ri,c1,c2,YX,YY,hQ,hO]|apply aI|apply nI|intro)
 by_cases c3:Z<0
 ·have hQ:Q=false:=by rw [hQ,decide_eq_false (by omega:¬ 0<=Z)]; simp
  rw [hQ]at hO;have hO:O=⟨0,0,0,0⟩:=hO;replace c1:(X<0)=False:=eq_false c1;replace c2:(Y<0)=False:=eq_false c2;simp -dsimp [Tryz.f118,agh];repeat' (first|omega|simp -dsimp [agh,hx,hx',hb,hb',hj1,jW,hji,oh,eC,W4,OU,mL,Jb.row,Bk.row,aS,kR,Dg,jP,pe,TK,Dh,oQ,Di,oR,pg,JC,Dj,q1,q2,q3,q4,q5,q6,YZ,Y3,Y4,Y5,Y6,Y7,ri,c1,c2,c3,YX,YY,hQ,hO]|apply aI|apply nI|intro)
 have hQ:Q=true:=by rw [hQ,decide_eq_true (by omega:0<=X),decide_eq_true (by omega:0<=Y),decide_eq_true (by omega:0<=Z)]; rfl
 have w1:=wi (xd - X);have w2:=wi (xd+Y);have w3:=wi (xd+Y+Z);have w4:=wi (X+Y);have w5:=wi (X+Y+Z);have w6:=wi (xd - X - f.turn);have w7:=wi (xd+Y+Z+f.turn);have hO:O=⟨if p=a then xd - X else xd - X - f.turn,xd+Y,if p=c then xd+Y+Z else xd+Y+Z+f.turn,X+Y+Z⟩:=by
  rw [hO,if_pos hQ,hV];simp only [Bk.mk.injEq,true_and,and_true];constructor
  ·by_cases e:p=a
   ·subst e; simp; omega
   ·rw [if_neg (by omega),if_neg e]; omega
  ·by_cases e:p=c
   ·subst e; simp; omega
   ·rw [if_neg (by omega),if_neg e]; omega
 replace c1:(X<0)=False:=eq_false c1;replace c2:(Y<0)=False:=eq_false c2;replace c3:(Z<0)=False:=eq_false c3;have hne:∀x y:Nat,(((x:Int) != y)=true/\(x=y)=False)\/(((x:Int) != y)=false/\(x=y)=True):=fun x y=>by
  by_cases e:x=y
  ·exact .inr ⟨by simp [e],eq_true e⟩
  ·exact .inl ⟨by simp; omega,eq_false e⟩
 rcases hne p a with⟨c4,d4⟩|⟨c4,d4⟩<;>rcases hne p c with⟨c5,d5⟩|⟨c5,d5⟩
 all_goals
  simp only [d4,d5,if_true,if_false]at hO;simp -dsimp [Tryz.f118,agh];repeat' (first|omega|simp -dsimp [agh,hx,hx',hb,hb',hj1,jW,hji,oh,eC,W4,OU,mL,Jb.row,Bk.row,aS,kR,Dg,jP,pe,TK,Dh,oQ,Di,oR,pg,JC,Dj,q1,q2,q3,q4,q5,q6,YZ,Y3,Y4,Y5,Y6,Y7,ri,c1,c2,c3,c4,c5,d4,d5,w1,w2,w3,w4,w5,w6,w7,YX,YY,hQ,hO]|apply aI|apply nI|intro)
theorem alz:FO 118 Ii:=pf aqP (.cons ahZ .nil)
structure MaP (d:Fl × Int):Prop where
 ok:Cw d.1
 m:0<=d.2/\d.2<d.1.dU.length
noncomputable abbrev aaa:aB:=bS TE MaP fun d=>.int .i64 (qP d.1 d.2.toNat)
noncomputable abbrev Sn:=EV [(177,.pure rS)] [] 11900 19 [(1,[2,50002])]
theorem ans:af Sn [] Tryz.f119 aaa:=pb <| by
 rintro⟨f,m⟩ ⟨⟨hf,_,_⟩,hm⟩;simp only at hf hm;obtain⟨m,rfl⟩:=Int.eq_ofNat_of_zero_le hm.1;have hfn:RLM.oW ⟨f.eH,f.ko,m,0⟩:=PW hf.op;have hH:qP f m=if dR f.eH f.ko m 0=0 then de f.eH f.ko m 0 else -1:=rfl;rcases Classical.propComplete (dR f.eH f.ko m 0=0)with c|c
 all_goals
  simp only [c,if_true,if_false]at hH;simp -dsimp [Tryz.f119,Sn];repeat' (first|omega|simp -dsimp [Sn,ta,hfn,c,hH]|apply aI|apply nI|intro)
theorem aiR:FO 119 aaa:=pf ans (.cons abi .nil)
noncomputable abbrev U7:aB:=bS El Xa fun d=>.bool (jR d.1 d.2.1.toNat d.2.2.toNat)
noncomputable abbrev Au:=EV [(118,.pure Ii),(119,.pure aaa)] [] 11600 35 [(1,[3,50003])]
theorem am2:af Au [] Tryz.f116 U7:=pb <| by
 rintro⟨f,j,m⟩ hJ;have hJ:Xa (f,j,m):=hJ;have hM:MaP (f,m):=⟨hJ.ok,hJ.m⟩
 have hC:jR f j.toNat m.toNat=(zZ f j.toNat m.toNat && decide (0<=(jJ f j.toNat m.toNat).lv) && decide ((jJ f j.toNat m.toNat).hm<f.gF) && decide (0<=qP f m.toNat)):=rfl;have hO:zZ f j.toNat m.toNat=true->D5 f j.toNat m.toNat=jJ f j.toNat m.toNat:=uJ;cases hQ:zZ f j.toNat m.toNat
 ·rw [hQ]at hC;have hC:jR f j.toNat m.toNat=false:=hC;simp -dsimp [Tryz.f116,Au,Bk.row];repeat' (first|omega|simp -dsimp [Au,Bk.row,dS,hJ,hQ,hC]|apply aI|apply nI|intro)
 have hO:=hO hQ;rw [hQ]at hC;generalize jJ f j.toNat m.toNat=B at *;obtain⟨b1,b2,b3,b4⟩:=B;simp only at hC;rcases Classical.propComplete (0<=b1)with c1|c1<;>rcases Classical.propComplete (b3<f.gF)with c2|c2<;>rcases Classical.propComplete (0<=qP f m.toNat)with c3|c3
 all_goals
  simp only [c1,c2,c3,decide_true,decide_false,Bool.and_true,Bool.and_false,Bool.true_and,Bool.false_and]at hC;simp -dsimp [Tryz.f116,Au,Bk.row];repeat' (first|omega|simp -dsimp [Au,Bk.row,dS,zi,hJ,hM,hQ,hO,hC,c1,c2,c3]|apply aI|apply nI|intro)
theorem aiC:FO 116 U7:=pf am2 (.cons alz (.cons aiR .nil))
structure JoP (d:Fl × Int × Int):Prop where
 jm:Xa d
 can:jR d.1 d.2.1.toNat d.2.2.toNat=true
noncomputable abbrev U8:aB:=bS El JoP fun d=>.bool (DY d.1 d.2.1.toNat d.2.2.toNat)
theorem Cw.op {f:Fl} (h:Cw f) {p t:Int} (hp:0<=p/\p<f.met.n) (ht:0<=t/\t<=2000):OpP (f.met,f.mn,p,t):=by refine⟨⟨h.ok.met,h.fw,h.sw,ht⟩,h.ok.mn,?_⟩;simp only [atB,bQ,Bool.and_eq_true,decide_eq_true_eq]; omega
theorem gu.ticks {f:Fl} (hf:gu f) {j m:Nat} (hj:j<f.jobs.length) (hm:m<f.dU.length) (h:jR f j m=true):zZ f j m=true/\(0<=(jJ f j m).lv/\(jJ f j m).lv<=2000)/\(0<=(fP f j).dep/\(fP f j).dep<=2000)/\(0<=(jJ f j m).ar/\(jJ f j m).ar<=2000)/\0<=(jJ f j m).hm/\(jJ f j m).hm<=2000:=by simp only [jR,Bool.and_eq_true,decide_eq_true_eq]at h;have h1:=hf.bk hj hm h.1.1.1;have h2:=hf.gF;exact⟨h.1.1.1,by omega,by omega,by omega,by omega⟩
noncomputable abbrev agf:=EV [(118,.pure Ii),(175,.pure OpS)] [] 11700 92 [(1,[3,50003])]
theorem aqO:af agf [(2,([1,3,4,6,8,9],[[0,1,2,3,4,5,6,7,8,9,10,11,12]]))] Tryz.f117 U8:=pb <| by
 rintro⟨f,j,m⟩ ⟨hJ,hcan⟩;simp only at hcan;have hK:=hJ.ok;have hf:=hK.ok;have hj:=hJ.j;have hm:=hJ.m;simp only at hK hf hj hm;obtain⟨j,rfl⟩:=Int.eq_ofNat_of_zero_le hj.1;obtain⟨m,rfl⟩:=Int.eq_ofNat_of_zero_le hm.1;simp only [Int.toNat_natCast]at hcan;have hj1:j<f.jobs.length:=by omega
 have jW:m<f.dU.length:=by omega
 have hji:(j:Int)<f.jobs.length:=hj.2;have oh:(m:Int)<f.dU.length:=hm.2;obtain⟨x,hx,hx'⟩:=gx hj1;have Rl:fP f j=x:=by simp [fP,List.getD,hx]
 obtain⟨b,hb,hb'⟩:=gx jW;have hba:sv f m=b:=by simp [sv,List.getD,hb]
 have hjb:=hf.jb hj1;have oG:=hf.bs jW;obtain⟨hq,t1,t2,t3,t4⟩:=hf.ticks hj1 jW hcan;have hA:DY f j m=(wT f (sv f m) (jJ f j m).lv && wT f (fP f j).a (fP f j).dep && wT f (fP f j).b (jJ f j m).ar && wT f (sv f m) (jJ f j m).hm):=rfl;have hO:=uJ hq;rw [Rl]at hjb t2 hA;rw [hba]at oG hA;obtain⟨xa,xc,xd,xv,xw⟩:=x;generalize jJ f j m=B at *;obtain⟨b1,b2,b3,b4⟩:=B;simp only at hjb t1 t2 t3 t4 hA;have o1:=hK.op oG t1;have o2:=hK.op hjb.1 t2;have o3:=hK.op hjb.2.1 t3;have o4:=hK.op oG t4;have hF:∀p t,EI f.met f.mn p t=wT f p t:=fun _ _=>rfl;cases c1:wT f b b1<;>cases c2:wT f xa xd<;>cases c3:wT f xc b2<;>cases c4:wT f b b3
 all_goals
  simp only [c1,c2,c3,c4,Bool.and_true,Bool.and_false,Bool.true_and,Bool.false_and,Bool.and_self]at hA;simp -dsimp [Tryz.f117,agf,Bk.row];repeat' (first|omega|simp -dsimp [agf,hx,hx',hb,hb',hj1,jW,hji,oh,Jb.row,Bk.row,dS,ye,hJ,hq,hO,o1,o2,o3,o4,hF,c1,c2,c3,c4,aS,hA]|apply aI|apply nI|intro)
theorem aly:FO 117 U8:=pf aqO (.cons alz (.cons KO .nil))
end Go.Sx
end
section
namespace Go.Sx
open Go.Proofs
attribute [local simp] ri aa ints
def Ai (f:Fl) (m:Nat):Int:=if dR f.eH f.ko m 0=0 then de f.eH f.ko m 0 * f.hour else -1
def rR (f:Fl) (k:Nat):List Int:=(List.range k).map fun m=>Ai f m
def Cv (l:List Int):V:=if l=[]then .nil else .sl 1 (l.map ri)
def qs (f:Fl):List V:=f.row++[mL (zX f),Cv (rR f f.eH.ax.toNat)]
theorem nB (f:Fl) (k:Nat):(rR f k).length=k:=by simp [rR]
theorem PX (f:Fl) (k:Nat):rR f (k+1)=rR f k++[Ai f k]:=by simp [rR,List.range_succ]
theorem ad3 {f:Fl} (hf:gu f) (m:Nat):(Ai f m<0)=(qP f m<0)/\-1<=Ai f m/\Ai f m<=10000/\(0<=qP f m->Ai f m=qP f m * f.hour):=by
 have hh:=hf.hour;have hb:=yf (f:=f) m;unfold Ai qP at *;split
 ·rename_i h;rw [if_pos h]at hb;have h0:0<=de f.eH f.ko m 0:=by have:=(uI h).2.2.2;omega
  have h1:0<=de f.eH f.ko m 0 * f.hour:=Int.mul_nonneg h0 (by omega);have h2:de f.eH f.ko m 0 * f.hour<=100 * 100:=Int.mul_le_mul hb.2 (by omega) (by omega) (by omega);refine⟨?_,by omega,by omega,fun _=>rfl⟩;rw [eq_false (by omega:¬ de f.eH f.ko m 0 * f.hour<0),eq_false (by omega:¬ de f.eH f.ko m 0<0)]
 ·exact⟨rfl,by omega,by omega,fun h=>by omega⟩
@[simp] theorem apy (f:Fl):(qs f).length=41:=rfl
@[simp] theorem apz (f:Fl):(qs f).take 14=f.met.row:=rfl
@[simp] theorem arq (f:Fl):(qs f).take 39=f.row:=rfl
@[simp] theorem ars (f:Fl):((qs f).drop 14).take 5=f.mn.row:=rfl
@[simp] theorem apA (f:Fl):((qs f).drop 25).take 6=f.gv.row:=rfl
@[simp] theorem arV (f:Fl):(qs f)[0]?=some (.int .i64 f.met.n):=rfl
@[simp] theorem art (f:Fl):(qs f)[22]?=some (.int .i64 f.eH.ax):=rfl
@[simp] theorem aru (f:Fl):(qs f)[31]?=some (.sl 3 (f.wF.map Du.row)):=rfl
@[simp] theorem arv (f:Fl):(qs f)[32]?=some (.sl 1 (f.dU.map ri)):=rfl
@[simp] theorem arw (f:Fl):(qs f)[33]?=some (.sl 1 (f.lz.map ri)):=rfl
@[simp] theorem arx (f:Fl):(qs f)[34]?=some (.int .i64 f.turn):=rfl
@[simp] theorem ary (f:Fl):(qs f)[35]?=some (.int .i64 f.hour):=rfl
@[simp] theorem arz (f:Fl):(qs f)[36]?=some (.int .i64 f.rU):=rfl
@[simp] theorem arA (f:Fl):(qs f)[37]?=some (.int .i64 f.gF):=rfl
@[simp] theorem arB (f:Fl):(qs f)[38]?=some (.sl 5 (f.jobs.map Jb.row)):=rfl
@[simp] theorem ajK (f:Fl):(qs f)[39]?=some (mL (zX f)):=rfl
@[simp] theorem ajL (f:Fl):(qs f)[40]?=some (Cv (rR f f.eH.ax.toNat)):=rfl
@[simp] def flI (f:Fl):V:=.ip 41 [qs f] 0 0
theorem xA (a b:Fl) (h:flI a=flI b):a=b:=by simp only [flI,V.ip.injEq,List.cons.injEq,true_and,and_true]at h;exact Fl.aq _ _ (List.append_inj h rfl).1
@[simp] def fpE (d:Fl × Int × Int):List V:=[flI d.1,.int .i64 d.2.1,.int .i64 d.2.2]
theorem aab (a b:Fl × Int × Int) (h:fpE a=fpE b):a=b:=by obtain⟨a1,a2,a3⟩:=a; obtain⟨b1,b2,b3⟩:=b;simp only [fpE,List.cons.injEq,V.int.injEq,true_and,and_true]at h;rw [xA _ _ h.1,h.2.1,h.2.2]
theorem nC (f:Fl) (n m:Int):aY fpE [.ip 41 [qs f] 0 0,.int .i64 n,.int .i64 m]=(f,n,m):=aA aab (f,n,m)
@[simp] def TL (d:Fl × Int × Int × Bool):List V:=[flI d.1,.int .i64 d.2.1,.int .i64 d.2.2.1,.bool d.2.2.2]
theorem U9 (a b:Fl × Int × Int × Bool) (h:TL a=TL b):a=b:=by obtain⟨a1,a2,a3,a4⟩:=a; obtain⟨b1,b2,b3,b4⟩:=b;simp only [TL,List.cons.injEq,V.int.injEq,V.bool.injEq,true_and,and_true]at h;rw [xA _ _ h.1,h.2.1,h.2.2.1,h.2.2.2]
theorem Em (f:Fl) (n m:Int) (w:Bool):aY TL [.ip 41 [qs f] 0 0,.int .i64 n,.int .i64 m,.bool w]=(f,n,m,w):=aA U9 (f,n,m,w)
theorem gu.Np {f:Fl} (h:gu f):f.eH.ax.toNat=f.dU.length:=by have:=h.dU; omega
theorem gu.JJ {f:Fl} (h:gu f):f.dU.length<=1000:=by
 have:=h.dU;have h2:=(pS (by
  have:=h.op;unfold jA at this;split at this
  ·assumption
  ·cases this)).m1
 omega
end Go.Sx
end
end
