/- FleetOpen: the law. No conditions. -/
import Derived.Test.YtegiclpanpmkdaaGreatDoorP47
import Derived.Test.YtegiclpanpmkdaaGreatDoorP50
import Derived.Test.YtegiclpanpmkdaaGreatDoorP51
import Derived.Test.YtegiclpanpmkdaaGreatDoorP56
import Derived.Test.YtegiclpanpmkdaaGreatDoorP43
set_option linter.all false
set_option maxRecDepth 100000
set_option maxHeartbeats 8000000
noncomputable section
namespace Go.Sx
open Go.Proofs
attribute [local simp] ri aa ints
attribute [local irreducible] bA
abbrev wkF (f:Fl):Fl:=auV f f.met.fs wkM
theorem ay6 {f:Fl} (hK:Cw f):Cw (wkF f):=⟨hK.ok.auV hK.ok.met axM,hK.fw,hK.sw⟩
noncomputable abbrev avg:aB:=bS yU RiP fun _=>.bool true
noncomputable abbrev E4:=EV [(10,.pure XM),(11,.pure C0),(14,.pure ME),(15,.pure MH),(16,.pure OpS),(13,.pure axN),(17,.pure awo)] [] 400 297 [(1,[2,50002]),(11,[12,50012]),(24,[24,50024])]
theorem b4:af E4 [(10,([1,4,6,7,8,10,13,15,16,17],[[0,1,2,3,4,5,6,7,8,9,10,11,12,13,14,15,16,17,18,19,20]]))] Tryz.f4 avg:=pb <| by
 rintro⟨f,l⟩ XN;have hP:=XN.p;have hl:=XN.l;simp only at hP hl;cases hR:AB f l
 case false=>
  simp -dsimp [Tryz.f4,E4];repeat' (first|omega|simp -dsimp [E4,gO,XN,hR]|apply aI|apply nI|intro)
 obtain⟨hlg,h4,hK,hG⟩:=RZ hR;have hf:=hK.ok;have W4:=hf.agZ;have TJ:=hf.tim.sq;have hn:=yd hf.met;have OU:rV f.met.n.toNat f.Ah=zX f:=rfl;have HJ:=TJ.1;have hTn:((zX f).length:Int)=f.met.n:=by omega
 have hBp:=awq hlg hK;have hKw:=ay6 hK;have hBw:BpE (wkF f):=⟨hKw,hBp.j,hBp.n⟩
 have hGw:Good (wkF f) false l:=hG.awr hf;have hEw:=yg hKw.ok hGw;have hNw:NpP (wkF f,l):=⟨hKw,by simp only; omega⟩
 have hge:(j4 f (U0 f 0 [])<=j4 (wkF f) (U0 (wkF f) 0 []))=True:=eq_true (by
  have hB:=auW hf (now:=0) (q:=[]) Good.nil;have hB2:=auW hKw.ok (now:=0) (q:=[]) Good.nil;have:=(au3 hB2 ((auZ hB).awr hf)).2
  rwa [avl]at this)
 have hWr:f.met.row++V.int .i64 300::V.int .i64 0::V.int .i64 0::V.bool true::V.bool true::List.drop 19 f.row=(wkF f).row:=rfl;generalize wkF f=g at *;have hLb:=fun k x (h:l[k]?=some x)=>hG.bl hK h;simp -dsimp [Tryz.f4,E4];repeat' (first|omega|simp -dsimp [E4,gO,eC,XN,hR,W4,OU,hTn,PK,mL]|apply aI|apply nI|intro)
 generalize hTe:zX f=T at *;refine ay [55,56,57,58,62,63,64,65,66,67,68,69,70,71,72,73,61,74,75,76,77,8,9,10,11,78,79,80,81,82,83,84,85,86,87,88,89,90,91,92,93,94,95,12,13,96,97,98,99,100,101,102,103,104,105,106,107,108,109,110,111,112,113,114,115,116,117,118,119,120,121,122,123,124,125,126,127,128,129,130,131,132,4,133,134,135,136,137,138,139,140,141,142,143,144,145,146,147,148,149,150,151,152,153,154,155,156,157,14,15,16,158,159,160,161,162,163,164,165,166,167,168,169,170,171,172,173,174,175,176,177,178,179,180,181,182,184,185,186,187,188,189,190,183,191,192,17,194,195,196,197,198,199,200,201,202,193,203,204,18,19,206,207,208,209,210,211,212,213,214,215,216,205,217,218,20,21,220,221,222,223,224,225,226,219,227,228,22,23,229,230,231,232,233,234,235,236,237,238,239,240,241,242,243,244,245,246,247,248,249,250,251,252,253,254,255,256,257,258,59,60,7] (fun i:{i:Nat // i<=l.length}=>[(7,(true,.int .i64 i.1))]) (fun i=>hps [(412,{base:=i.1,ah:=[]}),(402,fS f)] cg) (fun i=>l.length - i.1) ⟨0,by omega⟩ ?_ ?_ ?_
 ·simp [aj,aT]
 ·(try simp -dsimp only [hpx]); refine ai ?_; simp -dsimp [aC,fS]<;>exact rz
 rintro⟨i,hi⟩;dsimp only;by_cases hi1:i<l.length
 case neg=>
  have hin:¬ (i:Int)<l.length:=by omega
  simp -dsimp [hin,fS];repeat' (first|omega|simp -dsimp [E4,hin,hWr,gO,fC,hEw,hNw,hBp,hBw,hge]|apply aI|refine oI fun _=>?_|apply nI)
  exact List.all_eq_true.1 (alF g)
 have hii:(i:Int)<l.length:=by omega
 have w0i:=wx i;obtain⟨x,hx,hx'⟩:=gx hi1;obtain⟨iq,hbk⟩:=hLb i x hx;have hJm:=iq.jm;have hj:=hJm.j;have hm:=hJm.m;have hcan:=iq.can;have hoa:=iq.oa;obtain⟨xj,xm,xc,xk⟩:=x;simp only at iq hbk hj hm hcan hoa;obtain⟨j,rfl⟩:=Int.eq_ofNat_of_zero_le hj.1;obtain⟨m,rfl⟩:=Int.eq_ofNat_of_zero_le hm.1;simp only [Int.toNat_natCast]at hbk hcan hoa;have hj1:j<f.jobs.length:=by omega
 have jW:m<f.dU.length:=by omega
 have hji:(j:Int)<f.jobs.length:=hj.2;have oh:(m:Int)<f.dU.length:=hm.2;obtain⟨x,hx2,azI⟩:=gx hj1;have Rl:fP f j=x:=by simp [fP,List.getD,hx2]
 obtain⟨b,hb,hb'⟩:=gx jW;have hba:sv f m=b:=by simp [sv,List.getD,hb]
 have hjb:=hf.jb hj1;have oG:=hf.bs jW;have h3:=hf.t3 hj1 jW;have h0:=hf.t0 hj1 jW;obtain⟨hq,k1,k2,k3,k4⟩:=hf.ticks hj1 jW hcan;have hQ:zZ f j m=(decide (0<=pX f j m) && decide (0<=oA f j) && decide (0<=pY f j m)):=rfl;have hV:jJ f j m=⟨(fP f j).dep - (if sv f m=(fP f j).a then 0 else f.turn+pX f j m),(fP f j).dep+oA f j,(fP f j).dep+oA f j+(if sv f m=(fP f j).b then 0 else f.turn+pY f j m),pX f j m+oA f j+pY f j m⟩:=rfl;have hX:pX f j m=g2 (zX f) (sv f m).toNat (fP f j).a.toNat:=rfl;have hY:oA f j=g2 (zX f) (fP f j).a.toNat (fP f j).b.toNat:=rfl;have hZ:pY f j m=g2 (zX f) (fP f j).b.toNat (sv f m).toNat:=rfl;simp only [DY,wT,Bool.and_eq_true]at hoa;obtain⟨⟨⟨o1,o2⟩,o3⟩,o4⟩:=hoa;have p1:=fun t h=>hK.op (p:=sv f m) (t:=t) oG h;have p2:=fun t h=>hK.op (p:=(fP f j).a) (t:=t) hjb.1 h;have p3:=fun t h=>hK.op (p:=(fP f j).b) (t:=t) hjb.2.1 h;have q1:=p1 _ k1;have q2:=p2 _ k2;have q3:=p3 _ k3;have q4:=p1 _ k4;clear p1 p2 p3 hLb;rw [hq]at hQ;have hQ:=hQ.symm;rw [Bool.and_eq_true,Bool.and_eq_true,decide_eq_true_eq,decide_eq_true_eq,decide_eq_true_eq]at hQ;rw [hTe]at hX hY hZ;have htu:=hf.turn;generalize pX f j m=X at *;generalize oA f j=Y at *;generalize pY f j m=Z at *;have rj:(jJ f j m).lv<=(fP f j).dep - X:=by
  rw [hV]; simp only;split
  ·rename_i e; have:=h0.1 e; omega
  ·omega
 have hB3:(fP f j).dep+Y+Z<=(jJ f j m).hm:=by
  rw [hV]; simp only;split
  ·rename_i e; have:=h0.2 e; omega
  ·omega
 have hB2:(jJ f j m).ar=(fP f j).dep+Y:=by rw [hV]
 have hB4:(jJ f j m).mD=X+Y+Z:=by rw [hV]
 rw [hB2]at o3 q3;clear hV;generalize hBk:jJ f j m=B at *;rw [Rl]at hjb k2 hX hY hZ o2 o3 q2 q3 rj hB2 hB3 h0;rw [hba]at oG hX hZ o1 o4 q1 q4;obtain⟨xa,xcc,xd,xv,xw⟩:=x;obtain⟨b1,b2,b3,b4⟩:=B;simp only at hjb hX hY hZ o1 o2 o3 o4 q1 q2 q3 q4 k1 k2 k3 k4 rj hB2 hB3 hB4;obtain⟨p,rfl⟩:=Int.eq_ofNat_of_zero_le oG.1;obtain⟨a,rfl⟩:=Int.eq_ofNat_of_zero_le hjb.1.1;obtain⟨c,rfl⟩:=Int.eq_ofNat_of_zero_le hjb.2.1.1;simp only [Int.toNat_natCast]at hX hY hZ;have hp:p<f.met.n.toNat:=by omega
 have ha:a<f.met.n.toNat:=by omega
 have hc:c<f.met.n.toNat:=by omega
 obtain⟨r1,kR,oy,oQ⟩:=jd TJ hp ha;obtain⟨r2,jP,vP,oR⟩:=jd TJ ha hc;obtain⟨r3,TK,hl3,JC⟩:=jd TJ hc hp;rw [<-hX]at oQ;rw [<-hY]at oR;rw [<-hZ]at JC;have Dg:=(List.getElem?_eq_some_iff.1 kR).2;have pe:=(List.getElem?_eq_some_iff.1 jP).2;have Dh:=(List.getElem?_eq_some_iff.1 TK).2;have Di:=(List.getElem?_eq_some_iff.1 oQ).2;have pg:=(List.getElem?_eq_some_iff.1 oR).2;have Dj:=(List.getElem?_eq_some_iff.1 JC).2;clear hX hY hZ;have e1:p<T.length:=by omega
 have e2:a<T.length:=by omega
 have e3:c<T.length:=by omega
 have e4:a<r1.length:=by omega
 have e5:c<r2.length:=by omega
 have e6:p<r3.length:=by omega
 have e1i:(p:Int)<T.length:=by omega
 have e2i:(a:Int)<T.length:=by omega
 have e3i:(c:Int)<T.length:=by omega
 have e4i:(a:Int)<r1.length:=by omega
 have e5i:(c:Int)<r2.length:=by omega
 have e6i:(p:Int)<r3.length:=by omega
 have n1:(r1.length:Int)=f.met.n:=by omega
 have n2:(r2.length:Int)=f.met.n:=by omega
 have n3:(r3.length:Int)=f.met.n:=by omega
 have w1:=wi (X+Y);have w2:=wi (X+Y+Z);have w3:=wi (xd - X);have w4:=wi (xd+Y);have w5:=wi (xd+Y+Z);have g1:(xd - X<b1)=False:=eq_false (by omega);have g2:(b3<xd+Y+Z)=False:=eq_false (by omega);subst hB4;simp -dsimp [hii,fS];repeat' (first|omega|simp -dsimp [E4,hii,hi1,hx,hx',Sr.row,Jb.row,dS,ye,iq,hBk,hj1,jW,hji,oh,hx2,azI,hb,hb',ri,e1,e2,e3,e4,e5,e6,e1i,e2i,e3i,e4i,e5i,e6i,n1,n2,n3,kR,jP,TK,Dg,pe,Dh,oQ,oR,JC,Di,pg,Dj,w1,w2,w3,w4,w5,g1,g2,o1,o2,o3,o4,q1,q2,q3,q4,aS,cQ,w0i]|apply aI|apply nI|intro)
 refine⟨i+1,ag rfl ?_,?_,by omega,by omega⟩
 ·simp [aj,aT]
 ·(try simp -dsimp only [hpx]); refine ai ?_; simp -dsimp [aC,fS]<;>exact rz
theorem ok4:FO 4 avg:=pf b4 (.cons aiO (.cons Xd (.cons anu (.cons aiF (.cons aiG (.cons W9 (.cons ag2 .nil)))))))
end Go.Sx
end
