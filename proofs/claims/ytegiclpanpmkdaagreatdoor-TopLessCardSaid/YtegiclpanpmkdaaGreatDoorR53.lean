/- A part of a proof; no conditions. -/
import Derived.Test.YtegiclpanpmkdaaGreatDoorR52
set_option linter.all false
set_option maxRecDepth 100000
set_option maxHeartbeats 8000000
noncomputable section
section
namespace Go.Sx.y9
open Go.Proofs Go.Sx
attribute [local simp] ri aa ints
attribute [local irreducible] bA
attribute [local simp] aG
theorem we{x y A B:Int}(h1:0<=x)(h2:x<=A)(h3:0<=y)(h4:y<=B):0<=x * y/\x * y<=A * B:=
 ⟨Int.mul_nonneg h1 h3,Int.mul_le_mul h2 h4 h3 (by omega)⟩
structure Va (v:Int × Int):Prop where
 n1 : -1000000000000000<=v.1
 n2:v.1<=1000000000000000
 w1:0<v.2
 w2:v.2<=100000000
def wW(v w:Int × Int):Int:=if v.1 / v.2 - w.1 / w.2=0 then (v.1 - v.1 / v.2 * v.2) * w.2 - (w.1 - w.1 / w.2 * w.2) * v.2 else v.1 / v.2 - w.1 / w.2
theorem abB{v:Int × Int}(h:Va v) : -1000000000000000<=v.1 / v.2/\v.1 / v.2<=1000000000000000/\0<=v.1 - v.1 / v.2 * v.2/\v.1 - v.1 / v.2 * v.2<v.2:=by
 obtain⟨h1,h2,h3,h4⟩:=h;have e1:=Int.ediv_mul_le v.1 (show v.2≠0 by omega);have e2:=Int.lt_ediv_add_one_mul_self v.1 h3;rw [Int.add_mul,Int.one_mul]at e2;refine⟨?_,?_,by omega,by omega⟩
 ·rw [Int.le_ediv_iff_mul_le h3];have:=Int.mul_le_mul_of_nonpos_left (a:=-1000000000000000) (b:=v.2) (c:=1) (by omega) (by omega);omega
 ·by_cases h0:0<=v.1
  ·have:=Int.ediv_le_self v.2 h0;omega
  ·have:v.1 / v.2<=0:=by have:=Int.ediv_le_ediv h3 (show v.1<=0 by omega);simpa using this
   omega
@[simp] def vvE(d:(Int × Int) × (Int × Int)):List V:=[.agg [.int .i64 d.1.1,.int .i64 d.1.2],.agg [.int .i64 d.2.1,.int .i64 d.2.2]]
theorem Z3(a b:(Int × Int) × (Int × Int))(h:vvE a=vvE b):a=b:=by obtain⟨⟨a1,a2⟩,a3,a4⟩:=a;obtain⟨⟨b1,b2⟩,b3,b4⟩:=b;simp only [vvE,List.cons.injEq,V.agg.injEq,V.int.injEq,true_and,and_true]at h;rw [h.1.1,h.1.2,h.2.1,h.2.2]
theorem xJ(a b c d:Int):aY vvE [.agg [.int .i64 a,.int .i64 b],.agg [.int .i64 c,.int .i64 d]]=((a,b),(c,d)):=aA Z3 ((a,b),(c,d))
noncomputable abbrev aeQ:aB:=bS vvE (fun d=>Va d.1/\Va d.2) fun d=>.int .i64 (wW d.1 d.2)
theorem Va.fl{v:Int × Int}(h:Va v):KD v:=⟨⟨by have:=h.n1;omega,by have:=h.n2;omega⟩,h.w1⟩
noncomputable abbrev HT:=EV [(126,.pure UH),(153,.pure orS)] [] 18600 43
theorem am1:af HT [] Tryz.f186 aeQ:=pb <| by rintro⟨⟨n,d⟩,⟨m,e⟩⟩ ⟨hv,hw⟩;simp only at hv hw;have f1:=hv.fl;have f2:=hw.fl;obtain⟨a1,a2,a3,a4⟩:=abB hv;obtain⟨b1,b2,b3,b4⟩:=abB hw;have hc:wW (n,d) (m,e)=if n / d - m / e=0 then (n - n / d * d) * e - (m - m / e * e) * d else n / d - m / e:=rfl;obtain⟨v1,v2,v3,v4⟩:=hv;obtain⟨w1,w2,w3,w4⟩:=hw;simp only at *;generalize hq:n / d=q at *;generalize hp:m / e=p at *;obtain⟨c1,c2⟩:=we a3 (show n - q * d<=100000000 by omega) (show 0<=e by omega) w4;obtain⟨d1,d2⟩:=we b3 (show m - p * e<=100000000 by omega) (show 0<=d by omega) v4;have g0:=wi (q - p);have g1:=wi (q * d);have g2:=wi (p * e);generalize hx:q * d=x at *;generalize hy:p * e=y at *;have g3:=wi (n - x);have g4:=wi (m - y);have g5:=wi ((n - x) * e);have g6:=wi ((m - y) * d);generalize hs:(n - x) * e=s at *;generalize ht:(m - y) * d=t at *;have g7:=wi (s - t);simp -dsimp [Tryz.f186,HT];repeat' first|omega|simp -dsimp [HT,f1,f2,qG,Z2,hq,hp,hx,hy,g0,g1,g2,g3,g4,hs,ht,g5,g6,g7,hc]|apply aI|apply nI|intro
theorem aiB:FO 186 aeQ:=pf am1 (.cons aj5 (.cons aiu .nil))
structure AtD where
 t:Tb
 x:Int
 y:Int
 deriving Inhabited
@[simp] def My(d:AtD):List V:=[.agg (eO d.t),.int .i64 d.x,.int .i64 d.y]
theorem wY(a b:AtD)(h:My a=My b):a=b:=by obtain⟨a1,a2,a3⟩:=a;obtain⟨b1,b2,b3⟩:=b;simp only [My,List.cons.injEq,V.agg.injEq,V.int.injEq,true_and,and_true]at h;rw [mZ _ _ h.1,h.2.1,h.2.2]
theorem Cm(t:Tb)(x y:Int):aY My [.agg [.sl 1 (t.xs.map ri),.sl 1 (t.ys.map ri),.sl 1 (t.vs.map rwI)],.int .i64 x,.int .i64 y]=⟨t,x,y⟩:=aA wY ⟨t,x,y⟩
def wa(a b:Int):Int:=IntKind.wrap .i64 (a+b)
def ws(a b:Int):Int:=IntKind.wrap .i64 (a - b)
def wm(a b:Int):Int:=IntKind.wrap .i64 (a * b)
def O9(X0 X1 Y0 Y1 p q r s x y:Int):Int × Int:=
 (wa (wa (wa (wm (wm (ws X1 x) (ws Y1 y)) p) (wm (wm (ws x X0) (ws Y1 y)) q)) (wm (wm (ws X1 x) (ws y Y0)) r)) (wm (wm (ws x X0) (ws y Y0)) s),wm (wa (ws X1 x) (ws x X0)) (wa (ws Y1 y) (ws y Y0)))
def N5(t:Tb)(x y:Int):Int × Int:=
 O9 (t.xs.getD (dD t.xs x) 0) (t.xs.getD (dD t.xs x+1) 0) (t.ys.getD (dD t.ys y) 0) (t.ys.getD (dD t.ys y+1) 0)
  (t.v (dD t.xs x) (dD t.ys y)) (t.v (dD t.xs x+1) (dD t.ys y)) (t.v (dD t.xs x) (dD t.ys y+1)) (t.v (dD t.xs x+1) (dD t.ys y+1)) x y
noncomputable abbrev atS:aB:=bS My (fun d=>vY d.t=true) fun d=>.agg [.int .i64 (N5 d.t d.x d.y).1,.int .i64 (N5 d.t d.x d.y).2]
theorem kZ{t:Tb}(h:vY t=true):xH t.xs=true/\xH t.ys=true/\t.vs.length=t.xs.length/\∀r∈t.vs,r.length=t.ys.length/\∀n∈r,-1000000<=n/\n<=1000000:=by
 simp only [vY,Bool.and_eq_true,decide_eq_true_eq,Bool.not_eq_true',List.any_eq_false]at h;obtain⟨h1,h2,h3,h4⟩:=h;refine⟨h1,h2,h3,fun r hr=>?_⟩;have:=h4 r hr;simp only [jG,Bool.or_eq_true,Bool.not_eq_true',decide_eq_false_iff_not,not_or,Decidable.not_not,List.any_eq_true,not_exists,not_and]at this;refine⟨this.1,fun n hn=>?_⟩;have h5:=this.2 n hn;have h6:au n (-1000000) 1000000=true:=by simpa [oB]using h5
 simpa [au]using h6
theorem zu{t:Tb}(h:vY t=true){i k:Nat}(hi:i<t.xs.length)(hk:k<t.ys.length):∃r,t.vs[i]?=some r/\∃n,r[k]?=some n/\t.v i k=n:=by obtain⟨_,_,h3,h4⟩:=kZ h;obtain⟨r,hr,hr'⟩:=aM (show i<t.vs.length by omega);have vb:=(h4 r (by rw [<-hr'];exact List.getElem_mem _)).1;obtain⟨n,hn,hn'⟩:=aM (show k<r.length by omega);exact⟨r,hr,n,hn,by simp [Tb.v,List.getD,hr,hn]⟩
noncomputable abbrev aBM:=EV [(281,.pure aeq)] [] 24500 113
theorem aCa:af aBM [] Tryz.f245 atS:=pb <| by
 rintro⟨t,x,y⟩ ht;have ht:vY t=true:=ht;obtain⟨Dy,UA,vd,_⟩:=kZ ht;have lx:=jN Dy;have ly:=jN UA;have hi:=Dx lx.1 x;have hk:=Dx ly.1 y
 have hV:N5 t x y=O9 (t.xs.getD (dD t.xs x) 0) (t.xs.getD (dD t.xs x+1) 0) (t.ys.getD (dD t.ys y) 0) (t.ys.getD (dD t.ys y+1) 0)
  (t.v (dD t.xs x) (dD t.ys y)) (t.v (dD t.xs x+1) (dD t.ys y)) (t.v (dD t.xs x) (dD t.ys y+1)) (t.v (dD t.xs x+1) (dD t.ys y+1)) x y:=rfl
 have v6:=nT t.xs x;have v7:=nT t.ys y;generalize v8:dD t.xs x=i at *;generalize v9:dD t.ys y=k at *;have Ww:i<t.xs.length:=by omega
 have kW:k<t.ys.length:=by omega
 have apr:i<t.vs.length:=by omega
 have aps:i+1<t.vs.length:=by omega
 have w0i:=wi ((i:Int)+1);have wk:=wi ((k:Int)+1);obtain⟨X0,a1,a1'⟩:=aM Ww;obtain⟨X1,a2,a2'⟩:=aM hi;obtain⟨Y0,a3,a3'⟩:=aM kW;obtain⟨Y1,a4,a4'⟩:=aM hk;obtain⟨r0,b1,p,c1,d1⟩:=zu ht Ww kW;obtain⟨r1,b2,q,c2,d2⟩:=zu ht hi kW;obtain⟨r0',b3,r,c3,d3⟩:=zu ht Ww hk;obtain⟨r1',b4,s,c4,d4⟩:=zu ht hi hk;have:r0'=r0:=by rw [b1]at b3;exact(Option.some.inj b3).symm
 subst this;have:r1'=r1:=by rw [b2]at b4;exact(Option.some.inj b4).symm
 subst this;have b1':t.vs[i]=r0':=(List.getElem?_eq_some_iff.1 b1).2;have b2':t.vs[i+1]=r1':=(List.getElem?_eq_some_iff.1 b2).2;have q1:=(List.getElem?_eq_some_iff.1 c1).1;have q2:=(List.getElem?_eq_some_iff.1 c2).1;have q3:=(List.getElem?_eq_some_iff.1 c3).1;have q4:=(List.getElem?_eq_some_iff.1 c4).1;have Kv:r0'[k]=p:=(List.getElem?_eq_some_iff.1 c1).2;have HC:r1'[k]=q:=(List.getElem?_eq_some_iff.1 c2).2;have c3':r0'[k+1]=r:=(List.getElem?_eq_some_iff.1 c3).2;have c4':r1'[k+1]=s:=(List.getElem?_eq_some_iff.1 c4).2;rw [show t.xs.getD i 0=X0 by simp [List.getD,a1],show t.xs.getD (i+1) 0=X1 by simp [List.getD,a2],show t.ys.getD k 0=Y0 by simp [List.getD,a3],show t.ys.getD (k+1) 0=Y1 by simp [List.getD,a4],d1,d2,d3,d4]at hV;simp -dsimp [Tryz.f245,aBM,eO];repeat' first|omega|simp -dsimp [aBM,Dy,UA,v6,v7,v8,v9,w0i,wk,Ww,kW,hi,hk,apr,aps,a1,a2,a3,a4,a1',a2',a3',a4',b1,b2,b1',b2',c1,c2,c3,c4,Kv,HC,c3',c4',q1,q2,q3,q4,rwI,hV,O9,wa,ws,wm]|apply aI|apply nI|intro
theorem ahN:FO 245 atS:=pf aCa (.cons aBW .nil)
def rB(l:List Int)(s:Sp)(k:Nat):List Int:=s.lo::(l.take k).filter fun x=>decide (s.lo<x/\x<s.hi)
theorem UR{l:List Int}{s:Sp}{k:Nat}{x:Int}(h:l[k]?=some x):rB l s (k+1)=rB l s k++if s.lo<x/\x<s.hi then [x]else []:=by unfold rB;rw [List.take_add_one,h,List.filter_append];simp [List.filter_cons]
theorem DF(l:List Int)(s:Sp)(k:Nat):(rB l s k).length<=k+1:=by have:=List.length_filter_le (fun x=>decide (s.lo<x/\x<s.hi)) (l.take k);rw [List.length_take]at this;simp only [rB,List.length_cons];omega
theorem LS(l:List Int)(s:Sp):stops l s=rB l s l.length++if s.lo<s.hi then [s.hi]else []:=by simp [stops,rB]
theorem BL(l:List Int)(s:Sp):(stops l s).length<=l.length+2:=by rw [LS,List.length_append];have:=DF l s l.length;split<;>simp<;>omega
noncomputable abbrev ZN:aB:=bS lsE (fun d=>d.1.length<=1000000) fun d=>ints (stops d.1 d.2)
noncomputable abbrev adB:=EV [] [10] 24400 43
theorem anO:af adB [] Tryz.f244 ZN:=pb <| by
 rintro⟨l,s⟩ hl;have hl:l.length<=1000000:=hl;simp -dsimp [Tryz.f244,adB,Sp.row];repeat' first|omega|simp -dsimp [adB,hl,Sp.row]|apply aI|apply nI|intro
 refine ay [14,15,16,7,17,18,19,20,21,22,23,24,25,26,27,28,29,30,5,31,13] (fun k:{k:Nat // k<=l.length}=>[(13,(true,.int .i64 k.1)),(5,(true,.bw 24410 0 (rB l s k.1).length))])
  (fun k=>hps [(24410,{base:=0,ah:=[{z:=1,els:=(rB l s k.1).map ri,ty:=3}]}),(24403,{base:=0,ah:=[{z:=2,els:=[[.int .i64 s.lo,.int .i64 s.hi]],ty:=23}]})] cg) (fun k=>l.length - k.1) ⟨0,by omega⟩ ?_ ?_ ?_
 ·simp [aj,aT,rB]
 ·(try simp -dsimp only [hpx]);refine ai ?_;simp -dsimp [aC,rB,ri]<;>exact rz
 rintro⟨k,hk⟩;dsimp only;by_cases aH:k<l.length
 ·have v0:((k:Int)<l.length)=True:=eq_true (by omega);have wk:=wx k;obtain⟨x,hx,hx'⟩:=aM aH;have hT:=UR (s:=s) hx;have HJ:=DF l s k;have arT:(rB l s k).map ri≠[]:=by simp [rB]
  generalize rB l s k=T at *;have yC:(T.length+1) * 8<=140737488355328:=by omega
  by_cases h1:s.lo<x
  ·by_cases h2:x<s.hi
   ·rw [if_pos ⟨h1,h2⟩]at hT;simp -dsimp [v0];repeat' first|omega|simp -dsimp [adB,v0,aH,hx,hx',wk,h1,h2,yC]|apply aI|apply nI|intro
    refine⟨k+1,ag rfl ?_,(by(try simp -dsimp only [hpx]);refine ai ?_;simp -dsimp [aC,hT,ri]<;>exact rz),by omega,by omega⟩;simp [aj,aT,hT]
   ·rw [if_neg (fun h=>h2 h.2),List.append_nil]at hT;have CN:(x<s.hi)=False:=eq_false h2;simp -dsimp [v0];repeat' first|omega|simp -dsimp [adB,v0,aH,hx,hx',wk,h1,CN,yC]|apply aI|apply nI|intro
    refine⟨k+1,ag rfl ?_,(by(try simp -dsimp only [hpx]);refine ai ?_;simp -dsimp [aC,hT,ri]<;>exact rz),by omega,by omega⟩;simp [aj,aT,hT]
  ·rw [if_neg (fun h=>h1 h.1),List.append_nil]at hT;have pI:(s.lo<x)=False:=eq_false h1;simp -dsimp [v0];repeat' first|omega|simp -dsimp [adB,v0,aH,hx,hx',wk,pI,yC]|apply aI|apply nI|intro
   refine⟨k+1,ag rfl ?_,(by(try simp -dsimp only [hpx]);refine ai ?_;simp -dsimp [aC,hT,ri]<;>exact rz),by omega,by omega⟩;simp [aj,aT,hT]
 have v5:((k:Int)<l.length)=False:=eq_false (by omega);have va:k=l.length:=by omega
 subst va;have hA:=LS l s;have HJ:=DF l s l.length;generalize rB l s l.length=T at *;have yC:(T.length+1) * 8<=140737488355328:=by omega
 by_cases h:s.lo<s.hi
 ·rw [if_pos h]at hA;simp -dsimp [v5];repeat' first|omega|simp -dsimp [adB,v5,h,yC,hA,ri]|apply aI|apply nI|intro
 ·rw [if_neg h,List.append_nil]at hA;have h':(s.lo<s.hi)=False:=eq_false h;simp -dsimp [v5];repeat' first|omega|simp -dsimp [adB,v5,h',hA]|apply aI|apply nI|intro
theorem ahM:FO 244 ZN:=pf anO .nil
structure G1 where
 t:Tb
 a:Sp
 b:Sp
 deriving Inhabited
@[simp] def Wy(d:G1):List V:=[.agg (eO d.t),.agg d.a.row,.agg d.b.row]
theorem LN(a b:G1)(h:Wy a=Wy b):a=b:=by obtain⟨a1,a2,a3⟩:=a;obtain⟨b1,b2,b3⟩:=b;simp only [Wy,List.cons.injEq,V.agg.injEq,and_true]at h;rw [mZ _ _ h.1,Sp.aq _ _ h.2.1,Sp.aq _ _ h.2.2]
theorem DC(t:Tb)(a b:Sp):aY Wy [.agg [.sl 1 (t.xs.map ri),.sl 1 (t.ys.map ri),.sl 1 (t.vs.map rwI)],.agg [.int .i64 a.lo,.int .i64 a.hi],.agg [.int .i64 b.lo,.int .i64 b.hi]]=⟨t,a,b⟩:=aA LN ⟨t,a,b⟩
theorem tZ(a b:Sp):aY Ys [.sl 2 [[.int .i64 a.lo,.int .i64 a.hi],[.int .i64 b.lo,.int .i64 b.hi]]]=[a,b]:=aA xF [a,b]
def iR(d:G1):Int:=if vY d.t=true then (if [d.a,d.b].any wQ=true then 10 else if (FM d.t.xs d.a && FM d.t.ys d.b)=true then 0 else 1)else 11
noncomputable abbrev aeX:aB:=bS Wy (fun d=>TbP d.t) fun d=>.int .i64 (iR d)
noncomputable abbrev aev:=EV [(182,.pure ctS),(183,.pure SZ),(184,.pure aem)] [] 12400 33
theorem aoT:af aev [] Tryz.f124 aeX:=pb <| by
 rintro⟨t,a,b⟩ hP;have hP:TbP t:=hP;cases h1:vY t
 ·have hz:iR ⟨t,a,b⟩=11:=by simp [iR,h1]
  simp -dsimp [Tryz.f124,aev,eO,Sp.row];repeat' first|omega|simp -dsimp [aev,hP,tT,h1,hz,Sp.row]|apply aI|apply nI|intro
 obtain⟨Dy,UA,_⟩:=kZ h1;have lx:=jN Dy;have ly:=jN UA;have lx0:0<t.xs.length:=by omega
 have ly0:0<t.ys.length:=by omega
 have lx1:t.xs.length<=1000000:=by omega
 have ly1:t.ys.length<=1000000:=by omega
 cases h2:[a,b].any wQ
 case true=>
  have hz:iR ⟨t,a,b⟩=10:=by simp [iR,h1,h2]
  simp -dsimp [Tryz.f124,aev,eO,Sp.row];repeat' first|omega|simp -dsimp [aev,hP,tT,h1,h2,tZ,hz,Sp.row]|apply aI|apply nI|intro
 cases h3:FM t.xs a
 ·have hz:iR ⟨t,a,b⟩=1:=by simp only [iR,h1,h2,h3];rfl
  simp -dsimp [Tryz.f124,aev,eO,Sp.row];repeat' first|omega|simp -dsimp [aev,hP,tT,h1,h2,h3,tZ,tU,lx0,lx1,hz,Sp.row]|apply aI|apply nI|intro
 cases h4:FM t.ys b
 ·have hz:iR ⟨t,a,b⟩=1:=by simp only [iR,h1,h2,h3,h4];rfl
  simp -dsimp [Tryz.f124,aev,eO,Sp.row];repeat' first|omega|simp -dsimp [aev,hP,tT,h1,h2,h3,h4,tZ,tU,lx0,lx1,ly0,ly1,hz,Sp.row]|apply aI|apply nI|intro
 ·have hz:iR ⟨t,a,b⟩=0:=by simp only [iR,h1,h2,h3,h4];rfl
  simp -dsimp [Tryz.f124,aev,eO,Sp.row];repeat' first|omega|simp -dsimp [aev,hP,tT,h1,h2,h3,h4,tZ,tU,lx0,lx1,ly0,ly1,hz,Sp.row]|apply aI|apply nI|intro
theorem Um:FO 124 aeX:=pf aoT (.cons ahU (.cons alh (.cons ale .nil)))
end Go.Sx.y9
end
end
