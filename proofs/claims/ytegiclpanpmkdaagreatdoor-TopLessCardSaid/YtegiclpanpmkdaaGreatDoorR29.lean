/- A part of a proof; no conditions. -/
import Derived.Test.YtegiclpanpmkdaaGreatDoorR26
import Derived.Test.YtegiclpanpmkdaaGreatDoorR21
import Derived.Shelf.SlSortCmp.WholeK
import Derived.Test.YtegiclpanpmkdaaGreatDoorR08
set_option linter.all false
set_option maxRecDepth 100000
set_option maxHeartbeats 8000000
noncomputable section
section
namespace Go.Proofs
open Go.Shelf
def Tryz.IE:Go.Shelf.Ren:=⟨fun|6=>288|15=>193|14=>299|28=>258|29=>259|20=>302|21=>303|22=>304|23=>305|24=>306|25=>307|26=>308|27=>309|46=>311|47=>284|48=>285|49=>312|50=>313|57=>314|n=>n,fun|22=>42|24=>200|25=>366|3=>3|39=>285|0=>0|53=>332|55=>334|4=>4|46=>325|45=>324|50=>329|5=>5|9=>9|66=>359|70=>363|76=>373|77=>239|n=>n,fun|n=>n⟩
theorem Tryz.Sy:Go.Proofs.SlLaysF0.n6 Tryz.prog Tryz.IE:={
 mixed:=by kernel_rfl
 f6:=⟨Tryz.f288.name,by decide,Tryz.func288.trans (congrArg some (by kernel_rfl))⟩
 f14:=⟨Tryz.f299.name,by decide,Tryz.func299.trans (congrArg some (by kernel_rfl))⟩
 f15:=Tryz.func193.trans (congrArg some (by kernel_rfl))
 f20:=⟨Tryz.f302.name,by decide,Tryz.func302.trans (congrArg some (by kernel_rfl))⟩
 f21:=⟨Tryz.f303.name,by decide,Tryz.func303.trans (congrArg some (by kernel_rfl))⟩
 f22:=⟨Tryz.f304.name,by decide,Tryz.func304.trans (congrArg some (by kernel_rfl))⟩
 f23:=⟨Tryz.f305.name,by decide,Tryz.func305.trans (congrArg some (by kernel_rfl))⟩
 f24:=⟨Tryz.f306.name,by decide,Tryz.func306.trans (congrArg some (by kernel_rfl))⟩
 f25:=⟨Tryz.f307.name,by decide,Tryz.func307.trans (congrArg some (by kernel_rfl))⟩
 f26:=⟨Tryz.f308.name,by decide,Tryz.func308.trans (congrArg some (by kernel_rfl))⟩
 f27:=⟨Tryz.f309.name,by decide,Tryz.func309.trans (congrArg some (by kernel_rfl))⟩
 f28:=Tryz.func258.trans (congrArg some (by kernel_rfl))
 f29:=Tryz.func259.trans (congrArg some (by kernel_rfl))
 f46:=⟨Tryz.f311.name,by decide,Tryz.func311.trans (congrArg some (by kernel_rfl))⟩
 f47:=Tryz.func284.trans (congrArg some (by kernel_rfl))
 f48:=Tryz.func285.trans (congrArg some (by kernel_rfl))
 f49:=⟨Tryz.f312.name,by decide,Tryz.func312.trans (congrArg some (by kernel_rfl))⟩
 f50:=⟨Tryz.f313.name,by decide,Tryz.func313.trans (congrArg some (by kernel_rfl))⟩
 f57:=⟨Tryz.f314.name,by decide,Tryz.func314.trans (congrArg some (by kernel_rfl))⟩
 t0:=Tryz.underlying0
 a0:=Tryz.isAgg0
 z0:=Tryz.sizeOf0
 v0:=Tryz.zeroValue0
 t3:=Tryz.underlying3
 a3:=Tryz.isAgg3
 z3:=Tryz.sizeOf3
 v3:=Tryz.zeroValue3
 t4:=Tryz.underlying4
 a4:=Tryz.isAgg4
 z4:=Tryz.sizeOf4
 v4:=Tryz.zeroValue4
 t5:=Tryz.underlying5
 a5:=Tryz.isAgg5
 z5:=Tryz.sizeOf5
 v5:=Tryz.zeroValue5
 t9:=Tryz.underlying9
 a9:=Tryz.isAgg9
 z9:=Tryz.sizeOf9
 v9:=Tryz.zeroValue9
 t22:=Tryz.underlying42
 a22:=Tryz.isAgg42
 z22:=Tryz.sizeOf42
 v22:=Tryz.zeroValue42
 t25:=Tryz.underlying366
 a25:=Tryz.isAgg366
 z25:=Tryz.sizeOf366
 v25:=Tryz.zeroValue366
 t39:=Tryz.underlying285
 a39:=Tryz.isAgg285
 z39:=Tryz.sizeOf285
 v39:=Tryz.zeroValue285
 t45:=Tryz.underlying324
 a45:=Tryz.isAgg324
 z45:=Tryz.sizeOf324
 v45:=Tryz.zeroValue324
 t46:=Tryz.underlying325
 a46:=Tryz.isAgg325
 z46:=Tryz.sizeOf325
 v46:=Tryz.zeroValue325
 t50:=Tryz.underlying329
 a50:=Tryz.isAgg329
 z50:=Tryz.sizeOf329
 v50:=Tryz.zeroValue329
 t53:=Tryz.underlying332
 a53:=Tryz.isAgg332
 z53:=Tryz.sizeOf332
 v53:=Tryz.zeroValue332
 t55:=Tryz.underlying334
 a55:=Tryz.isAgg334
 z55:=Tryz.sizeOf334
 v55:=Tryz.zeroValue334
 t66:=Tryz.underlying359
 a66:=Tryz.isAgg359
 z66:=Tryz.sizeOf359
 v66:=Tryz.zeroValue359
 t70:=Tryz.underlying363
 a70:=Tryz.isAgg363
 z70:=Tryz.sizeOf363
 v70:=Tryz.zeroValue363
 t76:=Tryz.underlying373
 a76:=Tryz.isAgg373
 z76:=Tryz.sizeOf373
 v76:=Tryz.zeroValue373
 t77:=Tryz.underlying239
 a77:=Tryz.isAgg239
 z77:=Tryz.sizeOf239
 v77:=Tryz.zeroValue239}
end Go.Proofs
namespace Go.Sx
open Go.Proofs Go.Shelf Go.RowKit Go.Lib Go.Sort
abbrev TW:Type:={d:Du // 0<=d.a/\d.a<=9223372036854775807}
instance:Inhabited TW:=⟨⟨⟨0,0,1⟩,by decide⟩⟩
def Lr(x:TW):List Int:=[x.1.p,x.1.a,x.1.b]
theorem Ls(x y:TW)(h:Lr x=Lr y):x=y:=by obtain⟨⟨a,b,c⟩,hx⟩:=x;obtain⟨⟨a',b',c'⟩,hy⟩:=y;simp only [Lr,List.cons.injEq,and_true]at h;obtain⟨rfl,rfl,rfl⟩:=h;rfl
set_option maxHeartbeats 1000000 in
theorem IG(a b c d e f:Int)(W:World):Calls Tryz.prog 289 #[.agg #[.int .i64 a,.int .i64 b,.int .i64 c],.agg #[.int .i64 d,.int .i64 e,.int .i64 f]] W fun ex w'=>ex=.returned (.int .i64 (IntKind.wrap .i64 (b - e)))/\∃q os',w'=grow (W.drewN q) os':=by
 go_enter Tryz.func289,Tryz.ntmps289
 go_wp2
 go_ret
 have hw:∀n,wrap64 n=IntKind.wrap .i64 n:=fun n=>by unfold wrap64 IntKind.wrap;simp [IntKind.bits,IntKind.signed];split<;>omega
 rw [<-hw];exact⟨by simp,0,_,by rw [alloc_eq_grow,alloc_eq_grow,grow_grow];rfl⟩
def duC(x y:TW):Int:=x.1.a - y.1.a
theorem Dn(x y:TW):ltOf duC x y=decide (x.1.a<y.1.a):=by
 unfold ltOf duC;by_cases h:x.1.a<y.1.a
 ·simp [h];omega
 ·simp [h];omega
theorem Lt:SWO (ltOf duC) where
 irrefl x:=by rw [Dn];simp
 trans x y z h1 h2:=by rw [Dn]at *;simp at *;omega
 ntrans x y z h1 h2:=by rw [Dn]at *;simp at *;omega
theorem NP(blk off size:Nat)(w:World):CmpLays Tryz.prog 289 #[] (pU Lr) 3 duC blk off size w:=fun _ _ _ _ x y=>by have:=IG x.1.p x.1.a x.1.b y.1.p y.1.a y.1.b (sortWorldK (pU Lr) 3 w blk off ‹Nat› ‹Array TW› ‹Array Obj›);rw [show IntKind.wrap .i64 (x.1.a - y.1.a)=x.1.a - y.1.a by have:=x.2;have:=y.2;exact aK (by omega) (by omega)]at this;exact this
noncomputable def pZ(d:Array TW):Array TW:=pdq (ltOf duC) d 0 d.size (Lib.bitLen d.size) true true
theorem nQ(d:Array TW):PermIn 0 d.size d (pZ d)/\SortedIn (ltOf duC) 0 d.size (pZ d):=
 pdq_sorts (ltOf duC) Lt d 0 d.size (Lib.bitLen d.size) true true (Nat.zero_le _) (Nat.le_refl _) (Or.inl rfl)
noncomputable abbrev tR:bB:=pV Lr 3 200 pZ [.fn 289 []]
theorem azt:dM Tryz.prog 288 (.heap tR):=Lb Lr (exv:=[.func (.func 289) #[] #[]]) (fun args w=>mU (fn:=Tryz.f288) (by kernel_rfl) (by kernel_rfl) rfl args w) (fun _=>rfl) (by decide) Ls (fun d=>(nQ d).1.1)
 (fun w A X u hl hu=>by
  match u,hl with
  | [v],_=>
   obtain⟨us,e,hs,_⟩:=(hu 0 (.fn 289 []) rfl).nN;have:us = #[]:=Array.eq_empty_of_size_eq_zero (by simpa using hs);subst this;simp at e;rw [e])
 (fun blk off cap d w hH z7 h1 za=>AnyQ.slices_SortFunc_eq Tryz.Sy 3 Tryz.isAgg200 Tryz.sizeOf200 (pU Lr) (fun _=>rfl) (fun x v hv=>by simp [pU,Lr]at hv;rcases hv with rfl|rfl|rfl<;>rfl) duC Lt 289 #[] blk off cap d w (enters_of Tryz.func289 (by kernel_rfl) rfl) (NP blk off d.size w) hH z7 za)
noncomputable def mw(l:List Du):List TW:=l.filterMap fun d=>if h:0<=d.a/\d.a<=9223372036854775807 then some ⟨d,h⟩else none
theorem vj:∀{l:List Du},(∀d∈l,0<=d.a/\d.a<=9223372036854775807)->(mw l).map (·.1)=l
 | [],_=>rfl
 | d::l,h=>by have hd:=h d (by simp);have ih:=vj (l:=l) fun x hx=>h x (by simp [hx]);unfold mw at ih ⊢;rw [List.filterMap_cons,dif_pos hd];simp only [List.map_cons,ih]
noncomputable def bH(l:List Du):List Du:=(pZ (mw l).toArray).toList.map (·.1)
theorem II(d:List TW):(pZ d.toArray).toList.Perm d:=by
 have h:=(nQ d.toArray).1;have e1:((pZ d.toArray).extract 0 d.toArray.size).toList=(pZ d.toArray).toList:=by rw [<-h.1,Array.extract_size]
 have e2:(d.toArray.extract 0 d.toArray.size).toList=d:=by rw [Array.extract_size]
 have:=h.2.2;rw [e1,e2]at this;exact this
theorem gZ:abu bH where
 perm l h:=by have:=(II (mw l)).map (·.1);rw [vj h]at this;exact this
 sort l h:=by
  have hs:=(nQ (mw l).toArray).2;have hl:(pZ (mw l).toArray).size=(mw l).toArray.size:=(nQ (mw l).toArray).1.1;unfold bH;rw [List.pairwise_map,List.pairwise_iff_getElem];intro i j hi hj zd;have hi':i<(pZ (mw l).toArray).size:=by simpa using hi
  have hj':j<(pZ (mw l).toArray).size:=by simpa using hj
  have:=hs i j (Nat.zero_le _) zd (by omega);rw [Dn,getElem!_pos _ i hi',getElem!_pos _ j hj']at this;simp only [decide_eq_false_iff_not,Int.not_lt]at this;simpa using this
theorem TX{l:List Du}(h:∀d∈l,0<=d.a/\d.a<=9223372036854775807):(bH l).length=l.length:=(gZ.perm l h).length_eq
theorem NQ{h:Hp}{s i n:Nat}{l:List Du}{cl:Bool}(hl:∀d∈l,0<=d.a/\d.a<=9223372036854775807)(hB:aL h s i=some {z:=3,els:=l.map Du.row,ty:=200,cl:=cl})(hn:n=l.length)(h1:1<=n)(h2:n<4611686018427387904) :
  tR.go [.bw s i n,.fn 289 []] h=⟨True,.dB [],bE h s i {z:=3,els:=(bH l).map Du.row,ty:=200,cl:=cl}⟩:=by
 have hd:l.map Du.row=(mw l).map (aAs Lr):=by
  conv=>lhs;rw [<-vj hl]
  rw [List.map_map];rfl
 have zo:(l.map Du.row).map (Wv Lr)=mw l:=by rw [hd,List.map_map];have:(Wv Lr ∘ aAs Lr)=id:=funext fun x=>S5 Ls x;rw [this,List.map_id]
 have he:(pZ (mw l).toArray).toList.map (aAs Lr)=(bH l).map Du.row:=by rw [bH,List.map_map];rfl
 simp only [tR,pV,hB,zo,he];congr 1;exact eq_true ⟨trivial,trivial,trivial,trivial,by rw [List.length_map];exact hn,h1,h2,mw l,hd⟩
end Go.Sx
end
section
namespace Go.Sx
open Go.Proofs
attribute [local irreducible] bA
def Dp(to:Int)(l:List Du)(x:Int):Nat->Int × Int
 | 0=>(x,0)
 | k+1=>if max (cz l k).a (Dp to l x k).1<min (cz l k).b to then (min (cz l k).b to,wr ((Dp to l x k).2+wr (min (cz l k).b to - max (cz l k).a (Dp to l x k).1)))else Dp to l x k
theorem TY(to:Int)(l:List Du)(x:Int):∀k,k<=l.length->Dq to (l.drop k) (Dp to l x k).1 (Dp to l x k).2=Dq to l x 0
 | 0,_=>rfl
 | k+1,hk=>by
  have ih:=TY to l x k (by omega);rw [List.drop_eq_getElem_cons (show k<l.length by omega),Dq]at ih;have e:l[k]'(by omega)=cz l k:=by simp [cz,List.getD,show k<l.length by omega]
  rw [e]at ih;rw [<-ih,Dp];split<;>rfl
theorem Zi(to:Int)(l:List Du)(x:Int):(Dp to l x l.length).2=Dq to l x 0:=by have:=TY to l x l.length (Nat.le_refl _);rw [List.drop_length]at this;exact this
@[simp] def wkE(d:List Du × Int × Int):List V:=[.sl 3 (d.1.map Du.row),.int .i64 d.2.1,.int .i64 d.2.2]
theorem Zj(a b:List Du × Int × Int)(h:wkE a=wkE b):a=b:=by obtain⟨a1,a2,a3⟩:=a;obtain⟨b1,b2,b3⟩:=b;simp only [wkE,List.cons.injEq,V.sl.injEq,V.int.injEq,true_and,and_true]at h;rw [aR Du.aq h.1,h.2.1,h.2.2]
theorem xD(l:List Du)(x y:Int):aY wkE [.sl 3 (l.map Du.row),.int .i64 x,.int .i64 y]=(l,x,y):=aA Zj (l,x,y)
structure SA (l:List Du):Prop where
 n:l.length<=1000000
 b:∀d∈l,0<=d.a/\d.a<=9223372036854775807
noncomputable abbrev wkS:aB:=bS wkE (fun d=>d.1≠[]/\SA d.1) fun d=>.int .i64 (yZ bH d.1 d.2.1 d.2.2)
noncomputable abbrev ajW:=EV [(159,.heap yY),(288,.heap tR)] [] 26900 42
theorem aoJ:af ajW [] Tryz.f269 wkS:=pb <| by
 rintro⟨l,x,y⟩ ⟨v6,hl,hb⟩;simp only at v6 hl hb;have zE:0<l.length:=List.length_pos_iff.2 v6;have fV:tR.go [.bw 15905 0 l.length,.fn 289 []] (hps [(15905,{base:=0,ah:=[{z:=3,els:=l.map Du.row,ty:=200}]})] cg)=⟨True,.dB [],hps [(15905,{base:=0,ah:=[{z:=3,els:=(bH l).map Du.row,ty:=200}]})] cg⟩:=by rw [NQ (l:=l) (cl:=true) hb rfl rfl (by omega) (by omega)];simp
 have Ei:=TX hb;have hw:yZ bH l x y=(Dp y (bH l) x (bH l).length).2:=(Zi _ _ _).symm;simp -dsimp [Tryz.f269,ajW,nO];repeat' first|omega|simp -dsimp [ajW,ri,aa,ints,nO,hl,fV,v6]|apply aI|refine oI fun _=>?_|apply nI
 generalize bH l=L at *;refine ay [20,21,22,9,23,24,25,26,27,28,29,30,10,11,31,32,33,34,35,36,37,38,6,39,7,40,19] (fun k:{k:Nat // k<=L.length}=>[(19,(true,.int .i64 k.1)),(7,(true,.int .i64 (Dp y L x k.1).1)),(6,(true,.int .i64 (Dp y L x k.1).2))]) (fun k=>hps [(26909,{base:=k.1,ah:=[]}),(15905,{base:=0,ah:=[{z:=3,els:=L.map Du.row,ty:=200}]})] cg) (fun k=>L.length - k.1) ⟨0,by omega⟩ ?_ ?_ ?_
 ·simp [aj,aT,Dp]
 ·(try simp -dsimp only [hpx]);refine ai ?_;simp -dsimp [aC]<;>exact rz
 rintro⟨k,hk⟩;dsimp only;by_cases aH:k<L.length
 ·have v1:(k:Int)<l.length:=by omega
  have wk:=wx k;obtain⟨d,hd⟩:∃d,L[k]?=some d:=⟨_,List.getElem?_eq_getElem aH⟩
  have hd':L[k]=d:=p6 hd aH;have vx:cz L k=d:=by simp [cz,List.getD,hd]
  have hS:Dp y L x (k+1)=if max d.a (Dp y L x k).1<min d.b y then (min d.b y,wr ((Dp y L x k).2+wr (min d.b y - max d.a (Dp y L x k).1)))else Dp y L x k:=by rw [Dp,vx]
  generalize Dp y L x k=S at *;obtain⟨s1,s2⟩:=S;dsimp only at hS ⊢;have hM:(if d.a<s1 then s1 else d.a)=max d.a s1:=by omega
  have hN:(if y<d.b then y else d.b)=min d.b y:=by omega
  generalize max d.a s1=M at *;generalize min d.b y=N at *;by_cases vr:M<N
  ·rw [if_pos vr]at hS;simp -dsimp [v1];repeat' first|omega|simp -dsimp [ajW,ri,aa,ints,v1,aH,hd,hd',Ei,wk,Du.row,hM,hN,vr]|apply aI|refine oI fun _=>?_|apply nI
   refine⟨k+1,ag rfl ?_,?_,by omega,by omega⟩
   ·simp [aj,aT,hS,wk]
   ·(try simp -dsimp only [hpx]);refine ai ?_;simp -dsimp [aC]<;>exact rz
  ·rw [if_neg vr]at hS;simp -dsimp [v1];repeat' first|omega|simp -dsimp [ajW,ri,aa,ints,v1,aH,hd,hd',Ei,wk,Du.row,hM,hN,vr]|apply aI|refine oI fun _=>?_|apply nI
   refine⟨k+1,ag rfl ?_,?_,by omega,by omega⟩
   ·simp [aj,aT,hS,wk]
   ·(try simp -dsimp only [hpx]);refine ai ?_;simp -dsimp [aC]<;>exact rz
 ·have va:¬ (k:Int)<l.length:=by omega
  have zp:k=L.length:=by omega
  subst zp;simp -dsimp [va];repeat' first|omega|simp -dsimp [ajW,ri,aa,ints,va,hw]|apply aI|refine oI fun _=>?_|apply nI
theorem ajX:FO 269 wkS:=pf aoJ (.cons auf (.cons azt .nil))
@[simp] def toE(d:Ro × List Du × List Du):List V:=[.agg (bX d.1 d.2.1),.sl 3 (d.2.2.map Du.row)]
theorem Zk(a b:Ro × List Du × List Du)(h:toE a=toE b):a=b:=by obtain⟨a1,a2,a3⟩:=a;obtain⟨b1,b2,b3⟩:=b;simp only [toE,List.cons.injEq,V.agg.injEq,V.sl.injEq,true_and,and_true]at h;obtain⟨h1,h2⟩:=h;obtain⟨rfl,rfl⟩:=jF h1;rw [aR Du.aq h2]
theorem Lu(r:Ro)(o l:List Du):aY toE [.agg [.sl 3 (r.bM.map Pn.row),.int .i64 r.lY,.int .i64 r.fN,.int .i64 r.win,.int .i64 r.tot,.int .i64 r.iW,.sl 3 (o.map Du.row)],.sl 3 (l.map Du.row)]=(r,o,l):=aA Zk (r,o,l)
noncomputable abbrev aea:aB:=bS toE (fun d=>SA d.2.2) fun d=>.bool (Dr bH d.2.2 d.1.win d.1.tot)
noncomputable def Zl(r:Ro)(l:List Du)(d:Du):Bool:=decide (yZ bH l d.a (wr (d.a+r.win))<=r.tot) && decide (yZ bH l (wr (d.b - r.win)) d.b<=r.tot)
noncomputable abbrev Tw:=EV [(269,.pure wkS)] [] 21900 44
theorem aof:af Tw [] Tryz.f219 aea:=pb <| by
 rintro⟨r,o,l⟩ hB;have hB:SA l:=hB;have hl:=hB.n;have hT:Dr bH l r.win r.tot=l.all (Zl r l):=rfl;simp -dsimp [Tryz.f219,Tw,bX];refine ay [10,11,12,6,13,14,15,16,17,18,19,20,21,22,23,24,25,26,27,28,29,30,31,32,33,34,35,36,37,38,39,40,41,42,4,43,9] (fun k:{k:Nat // k<=l.length/\∀j (h:j<l.length),j<k->Zl r l l[j]=true}=>[(9,(true,.int .i64 k.1))]) (fun k=>hps [(21906,{base:=k.1,ah:=[]}),(21902,{base:=0,ah:=[{z:=7,els:=[bX r o],ty:=244}]})] cg) (fun k=>l.length - k.1) ⟨0,by omega,fun _ _ h=>by omega⟩ ?_ ?_ ?_
 ·simp [aj,aT]
 ·(try simp -dsimp only [hpx]);refine ai ?_;simp -dsimp [aC,bX]<;>exact rz
 rintro⟨k,hk,v2⟩;dsimp only;by_cases aH:k<l.length
 ·have v1:(k:Int)<l.length:=by omega
  have wk:=wx k;have v6:l≠[]:=by intro e;rw [e]at aH;simp at aH
  obtain⟨d,hd⟩:∃d,l[k]?=some d:=⟨_,List.getElem?_eq_getElem aH⟩
  have hd':l[k]=d:=p6 hd aH;have vs:Zl r l d=(decide (yZ bH l d.a (wr (d.a+r.win))<=r.tot) && decide (yZ bH l (wr (d.b - r.win)) d.b<=r.tot)):=rfl;cases hw:Zl r l d
  ·have z1:Dr bH l r.win r.tot=false:=by rw [hT,List.all_eq_false];exact⟨d,List.mem_of_getElem? hd,by rw [hw];simp⟩
   rw [hw]at vs;by_cases h1:yZ bH l d.a (wr (d.a+r.win))<=r.tot
   ·have h2:¬ yZ bH l (wr (d.b - r.win)) d.b<=r.tot:=(by simpa [h1]using vs);have pI:¬ r.tot<yZ bH l d.a (IntKind.wrap .i64 (d.a+r.win)):=(by exact Int.not_lt.2 h1);have CN:r.tot<yZ bH l (IntKind.wrap .i64 (d.b - r.win)) d.b:=(by exact Int.not_le.1 h2);simp -dsimp [v1];repeat' first|omega|simp -dsimp [Tw,ri,aa,ints,v1,aH,hd,hd',hl,wk,hB,v6,Du.row,bX,xD,pI,CN,z1]|apply aI|refine oI fun _=>?_|apply nI
   ·have pI:r.tot<yZ bH l d.a (IntKind.wrap .i64 (d.a+r.win)):=(by exact Int.not_le.1 h1);simp -dsimp [v1];repeat' first|omega|simp -dsimp [Tw,ri,aa,ints,v1,aH,hd,hd',hl,wk,hB,v6,Du.row,bX,xD,pI,z1]|apply aI|refine oI fun _=>?_|apply nI
  ·rw [hw]at vs;have aeb:=vs.symm;simp only [Bool.and_eq_true,decide_eq_true_eq]at aeb;have pI:¬ r.tot<yZ bH l d.a (IntKind.wrap .i64 (d.a+r.win)):=(by exact Int.not_lt.2 aeb.1);have CN:¬ r.tot<yZ bH l (IntKind.wrap .i64 (d.b - r.win)) d.b:=(by exact Int.not_lt.2 aeb.2);simp -dsimp [v1];repeat' first|omega|simp -dsimp [Tw,ri,aa,ints,v1,aH,hd,hd',hl,wk,hB,v6,Du.row,bX,xD,pI,CN]|apply aI|refine oI fun _=>?_|apply nI
   refine⟨k+1,ag rfl ?_,?_,⟨by omega,fun j h hj=>?_⟩,by omega⟩
   ·simp [aj,aT,wk]
   ·(try simp -dsimp only [hpx]);refine ai ?_;simp -dsimp [aC,bX]<;>exact rz
   ·by_cases zr:j=k
    ·subst zr;rw [hd'];exact hw
    ·exact v2 j h (by omega)
 ·have va:¬ (k:Int)<l.length:=by omega
  have z8:Dr bH l r.win r.tot=true:=by rw [hT,List.all_eq_true];intro d hd;obtain⟨j,hj,rfl⟩:=List.getElem_of_mem hd;exact v2 j hj (by omega)
  simp -dsimp [va];repeat' first|omega|simp -dsimp [Tw,ri,aa,ints,va,z8]|apply aI|refine oI fun _=>?_|apply nI
theorem ajt:FO 219 aea:=pf aof (.cons ajX .nil)
@[simp] def reE(d:Ro × List Du × Du):List V:=[.agg (bX d.1 d.2.1),.agg d.2.2.row]
theorem Zm(a b:Ro × List Du × Du)(h:reE a=reE b):a=b:=by obtain⟨a1,a2,a3⟩:=a;obtain⟨b1,b2,b3⟩:=b;simp only [reE,List.cons.injEq,V.agg.injEq,true_and,and_true]at h;obtain⟨h1,h2⟩:=h;obtain⟨rfl,rfl⟩:=jF h1;rw [Du.aq _ _ h2]
theorem ir(r:Ro)(o:List Du)(x:Du):aY reE [.agg [.sl 3 (r.bM.map Pn.row),.int .i64 r.lY,.int .i64 r.fN,.int .i64 r.win,.int .i64 r.tot,.int .i64 r.iW,.sl 3 (o.map Du.row)],.agg [.int .i64 x.p,.int .i64 x.a,.int .i64 x.b]]=(r,o,x):=aA Zm (r,o,x)
noncomputable abbrev aec:aB:=bS reE (fun d=>d.2.1.length<=1000000) fun d=>.bool (IJ d.1 d.2.1 d.2.2)
noncomputable abbrev Pv:=EV [(216,.pure Lv)] [] 22000 17
theorem amj:af Pv [] Tryz.f220 aec:=pb <| by
 rintro⟨r,o,x⟩ hl;have hl:o.length<=1000000:=hl;have hR:IJ r o x=(decide (x.a<=r.iW) || o.any (zk r x)):=rfl;have hC:((kN.iW r o x).t)=zk r x:=rfl;by_cases h:x.a<=r.iW
 ·simp -dsimp [Tryz.f220,Pv,bX,Du.row,h];repeat' first|omega|simp -dsimp [Pv,ri,aa,ints,h,hl,hR]|apply aI|refine oI fun _=>?_|apply nI
 ·simp -dsimp [Tryz.f220,Pv,bX,Du.row,h];repeat' first|omega|simp -dsimp [Pv,ri,aa,ints,h,hl,hR,FI,kN.v,bX,Du.row,hC]|apply aI|refine oI fun _=>?_|apply nI
theorem agS:FO 220 aec:=pf amj (.cons aiI .nil)
def D8(l:List Int):List (Nat × Site):=
 [(15104,{base:=0,ah:=[{z:=1,els:=[[if l=[]then .nil else .bw 21509 0 l.length]],ty:=43,cl:=l.isEmpty}]}),(21509,{base:=0,ah:=if l=[]then []else [{z:=1,els:=l.map ri,ty:=3}]})]
theorem p7(l:List Int):(D8 l).map (·.1)=[15104,21509]:=rfl
theorem Zn(l l':List Int)(h:∀k∈[15104,21509],hps (D8 l) cg k=hps (D8 l') cg k):l=l':=by have h1:=congrArg Site.ah (h 21509 (by simp));simp [D8]at h1;by_cases e:l=[]<;>by_cases e':l'=[]<;>simp [e,e']at h1 ⊢;exact ee h1
def puE(d:List Int × Int × Bool):List V:=[.int .i64 d.2.1,.bool d.2.2,.bG 15104 0 1 0 0]
theorem aed(d d':List Int × Int × Bool)(h:Hp)(e:puE d=puE d')(h1:Mt D8 [15104,21509] d.1 h)(h2:Mt D8 [15104,21509] d'.1 h):d=d':=by obtain⟨l,n,b⟩:=d;obtain⟨l',n',b'⟩:=d';have:=Zn l l' fun k hk=>(h1 k hk).symm.trans (h2 k hk);simp [puE]at e;rw [this,e.1,e.2]
noncomputable abbrev FJ:bB:=Wu puE (fun d h=>Mt D8 [15104,21509] d.1 h) (fun d=>d.1.length<=100) (fun _=>.dB []) (fun d h=>Ob D8 (if d.2.2=true then d.1++[d.2.1]else d.1) h)
def wU(l:List Int)(n:Int)(b:Bool):List Int:=if b=true then l++[n]else l
theorem aee(l:List Int)(n:Int)(b:Bool)(h:Hp):FJ.go [.int .i64 n,.bool b,.bG 15104 0 1 0 0] (Ob D8 l h)=⟨l.length<=100,.dB [],Ob D8 (wU l n b) h⟩:=by have:=ze (pre:=fun d:List Int × Int × Bool=>d.1.length<=100) (res:=fun _=>V.dB []) (post:=fun d h=>Ob D8 (if d.2.2=true then d.1++[d.2.1]else d.1) h) aed (d:=(l,n,b)) (h:=Ob D8 l h) (IK p7);rw [AV p7]at this;exact this
noncomputable abbrev acX:=EV [] [] 21500 10
theorem anb:ct acX [] Tryz.f215 FJ:=by
 intro args h hc;obtain⟨⟨l,n,b⟩,rfl,hM,hl,fV⟩:=jM hc;rw [fV];clear fV hc;have hM:h=Ob D8 l h:=(Lw p7).1 hM;have hl:l.length<=100:=hl;dsimp only;rw [hM];generalize h=g at *;clear hM;rw [AV p7];cases b
 ·simp -dsimp [Tryz.f215,acX,puE];repeat' first|omega|simp -dsimp [acX,ri,aa,ints,bU]|apply aI|refine oI fun _=>?_|apply nI
 ·by_cases vy:l=[]
  ·subst vy;simp -dsimp [Tryz.f215,acX,puE,Ob,D8];repeat' first|omega|simp -dsimp [acX,ri,aa,ints, *]|apply aI|refine oI fun _=>?_|apply nI
   exact(by(try simp -dsimp only [hpx]);refine bK ?_;simp -dsimp [aC,ri]<;>exact rz)
  ·simp -dsimp [Tryz.f215,acX,puE,Ob,D8,vy];repeat' first|omega|simp -dsimp [acX,ri,aa,ints,vy,hl]|apply aI|refine oI fun _=>?_|apply nI
   exact(by(try simp -dsimp only [hpx]);refine bK ?_;simp -dsimp [aC,ri]<;>exact rz)
theorem aiK:dM Tryz.prog 215 (.heap FJ):=yE anb .nil (fun args h hc=>by obtain⟨d,rfl,_⟩:=jM hc;simp [puE])
def Zo(l:List Int):Site:={base:=0,ah:=[{z:=1,els:=[[if l=[]then .nil else .bw 21509 0 l.length]],ty:=43,cl:=l.isEmpty}]}
def Zp(l:List Int):Site:={base:=0,ah:=if l=[]then []else [{z:=1,els:=l.map ri,ty:=3}]}
theorem Ds(l:List Int)(n:Int)(b:Bool)(h:Hp)(h1:h 15104=Zo l)(h2:h 21509=Zp l):FJ.go [.int .i64 n,.bool b,.bG 15104 0 1 0 0] h=⟨l.length<=100,.dB [],Ob D8 (wU l n b) h⟩:=by
 have hh:h=Ob D8 l h:=(Lw p7).1 fun k hk=>by
  simp only [List.mem_cons,List.not_mem_nil,or_false]at hk;rcases hk with rfl|rfl
  ·exact h1
  ·exact h2
 have:=aee l n b h;rw [<-hh]at this;exact this
theorem IL(l:List Int)(L:List (Nat × Site)):Ob D8 l (hps L cg)=hps ((15104,Zo l)::(21509,Zp l)::L) cg:=rfl
theorem abv(n:Int)(b:Bool)(A B:Site):FJ.go [.int .i64 n,.bool b,.bG 15104 0 1 0 0] (hps [(15104,{base:=0,ah:=[{z:=1,els:=[[V.nil]],ty:=43}]}),(15103,A),(15102,B)] cg)=⟨True,.dB [],hps [(15104,Zo (wU [] n b)),(21509,Zp (wU [] n b)),(15103,A),(15102,B)] cg⟩:=by
 rw [Ds [] n b _ rfl rfl,IL];congr 1
 ·simp
 ·funext k;by_cases h1:k=15104
  ·simp [h1]
  ·by_cases h2:k=21509
   ·simp [h2]
   ·simp [h1,h2]
theorem abw(l:List Int)(n:Int)(b:Bool)(L:List (Nat × Site)):FJ.go [.int .i64 n,.bool b,.bG 15104 0 1 0 0] (hps ((15104,Zo l)::(21509,Zp l)::L) cg)=⟨l.length<=100,.dB [],hps ((15104,Zo (wU l n b))::(21509,Zp (wU l n b))::L) cg⟩:=by
 rw [Ds l n b _ rfl rfl,IL];congr 1;funext k;by_cases h1:k=15104
 ·simp [h1]
 ·by_cases h2:k=21509
  ·simp [h2]
  ·simp [h1,h2]
theorem abx(l:List Int)(n:Int)(b:Bool)(X A B A' B':Site):FJ.go [.int .i64 n,.bool b,.bG 15104 0 1 0 0] (hps [(15905,X),(15103,A'),(15102,B'),(15104,Zo l),(21509,Zp l),(15103,A),(15102,B)] cg)=⟨l.length<=100,.dB [],hps [(15104,Zo (wU l n b)),(21509,Zp (wU l n b)),(15905,X),(15103,A'),(15102,B')] cg⟩:=by
 rw [Ds l n b _ rfl rfl,IL];congr 1;funext k;by_cases h1:k=15104
 ·simp [h1]
 ·by_cases h2:k=21509
  ·simp [h2]
  ·by_cases h3:k=15103
   ·simp [h3]
   ·by_cases h4:k=15102
    ·simp [h4]
    ·simp [h1,h2,h3,h4]
noncomputable abbrev YE:aB:=bS reE (fun d=>SA (d.2.1++[d.2.2])) fun d=>ints (tO bH d.1 d.2.1 d.2.2)
noncomputable abbrev uY:=EV [(216,.pure Lv),(219,.pure aea),(220,.pure aec),(159,.heap yY),(215,.heap FJ)] [] 15100 42 [(4,[2,50002,3,50003])]
theorem anp:af uY [(4,([1,3,5],[[0,1,2,3,4,5,6,7,8,9,10]]))] Tryz.f151 YE:=pb <| by
 rintro⟨r,o,x⟩ hB;have hB:SA (o++[x]):=hB;have hl:o.length<=1000000:=by have:=hB.n;simp at this;omega
 have vP:List.map Du.row o++[[V.int .i64 x.p,V.int .i64 x.a,V.int .i64 x.b]]=List.map Du.row (o++[x]):=by rw [List.map_append];rfl
 have hK:tO bH r o x=(if (o.any (kN.fN r o x).t)=true then [3]else [])++(if r.lY<wr (x.b - x.a)then [4]else [])++(if Dr bH (o++[x]) r.win r.tot=true then []else [5])++(if IJ r o x=true then []else [6]):=rfl;have vV:(o++[x]).length=o.length+1:=by simp
 generalize o++[x]=ox at vP hK hB vV;generalize h3:o.any (kN.fN r o x).t=c3 at hK;generalize h5:Dr bH ox r.win r.tot=c5 at hK;generalize h6:IJ r o x=c6 at hK;generalize h4:decide (r.lY<wr (x.b - x.a))=c4;have zs:(if r.lY<wr (x.b - x.a)then [(4:Int)]else [])=if c4=true then [4]else []:=by
  by_cases h:r.lY<wr (x.b - x.a)
  ·rw [if_pos h,if_pos (by rw [<-h4];simpa using h)]
  ·rw [if_neg h,if_neg (by rw [<-h4];simpa using h)]
 rw [zs]at hK;have h4':decide (r.lY<IntKind.wrap .i64 (x.b - x.a))=c4:=h4;have l1:(wU [] 3 c3).length<=100:=by cases c3<;>simp [wU]
 have l2:(wU (wU [] 3 c3) 4 c4).length<=100:=by cases c3<;>cases c4<;>simp [wU]
 have l3:(wU (wU (wU [] 3 c3) 4 c4) 5 (!c5)).length<=100:=by cases c3<;>cases c4<;>cases c5<;>simp [wU]
 have hK':tO bH r o x=wU (wU (wU (wU [] 3 c3) 4 c4) 5 (!c5)) 6 (!c6):=by rw [hK];cases c3<;>cases c4<;>cases c5<;>cases c6<;>rfl
 clear hK;generalize hP:wU (wU (wU (wU [] 3 c3) 4 c4) 5 (!c5)) 6 (!c6)=P at hK';simp -dsimp [Tryz.f151,uY,aS,abv,abw,abx,nO,Lu,ir,zl,kN.v,h3,h4',h5,h6,l1,l2,l3,hP,hl,vP,vV,hB,bX,Du.row];repeat' first|omega|simp -dsimp [uY,ri,aa,ints,aS,abv,abw,abx,nO,Lu,ir,zl,kN.v,h3,h4',h5,h6,l1,l2,l3,hP,hl,vP,vV,hB,bX,Du.row]|apply aI|refine oI fun _=>?_|apply nI
 all_goals
  clear hP;by_cases z2:P=[]
  ·subst z2;repeat' first|omega|simp -dsimp [uY,ri,aa,ints,Zo,Zp,hK']|apply aI|refine oI fun _=>?_|apply nI
  ·repeat' first|omega|simp -dsimp [uY,ri,aa,ints,Zo,Zp,z2,hK']|apply aI|refine oI fun _=>?_|apply nI
theorem ait:FO 151 YE:=pf anp (.cons aiI (.cons ajt (.cons agS (.cons auf (.cons aiK .nil)))))
@[simp] def chE(d:Ro × List Du):List V:=[.agg d.1.row,.sl 3 (d.2.map Du.row)]
theorem Lp(a b:Ro × List Du)(h:chE a=chE b):a=b:=by obtain⟨a1,a2⟩:=a;obtain⟨b1,b2⟩:=b;simp only [chE,List.cons.injEq,V.agg.injEq,V.sl.injEq,true_and,and_true]at h;rw [Ro.aq _ _ h.1,aR Du.aq h.2]
theorem De(r:Ro)(l:List Du):aY chE [.agg [.sl 3 (r.bM.map Pn.row),.int .i64 r.lY,.int .i64 r.fN,.int .i64 r.win,.int .i64 r.tot,.int .i64 r.iW],.sl 3 (l.map Du.row)]=(r,l):=aA Lp (r,l)
structure MG (d:Ro × List Du):Prop where
 p:d.1.bM.length<=100000000000000
 n:d.2.length<=100000000000000
noncomputable abbrev chS:aB:=bS chE MG fun d=>.dB [.int .i64 (gT bH d.1 d.2).1,.int .i64 (gT bH d.1 d.2).2]
theorem aef{r:Ro}{l:List Du}(h:r.ok=false):gT bH r l=(0,100):=by simp [gT,h]
theorem TZ{r:Ro}{l:List Du}(h:r.ok=true)(h2:60<l.length):gT bH r l=(0,2):=by simp [gT,h,h2]
theorem nS{r:Ro}{l:List Du}(h:r.ok=true)(h2:¬ 60<l.length){k:Nat}(hk:k<l.length)(hp:kG bH r l k=false)(v2:∀j,j<k->kG bH r l j=true):gT bH r l=((k:Int),101):=by
 have:ar6 bH r l=k:=cW _ _ (by simpa using hk) (by simp [hp]) fun j _ hj=>by simp [v2 j hj]
 simp [gT,h,h2,this]
theorem aeg{r:Ro}{l:List Du}(h:r.ok=true)(h2:¬ 60<l.length)(v2:∀j,j<l.length->kG bH r l j=true):gT bH r l=(0,0):=by
 have:ar6 bH r l = -1:=bP _ _ fun j hj=>by simp at hj ⊢;exact v2 j hj
 simp [gT,h,h2,this]
theorem T1(r:Ro)(l:List Du)(i:Nat)(d:Du)(hd:cz l i=d):kG bH r l i=(au d.p 0 (r.bM.length - 1) && tH d.a d.b && (decide (i=0) || decide ((cz l (i - 1)).a<=d.a)) && (tO bH r (own (l.take i) d.p) d).isEmpty):=by subst hd;rfl
theorem NR{r:Ro}{l:List Du}{i:Nat}(h:kG bH r l i=true):0<=(cz l i).a/\(cz l i).a<=9223372036854775807:=by unfold kG at h;simp only [Bool.and_eq_true]at h;exact tN h.1.1.2
theorem zh{r:Ro}{l:List Du}{k:Nat}(hk:k<=l.length)(h:∀j,j<k->kG bH r l j=true):∀d∈l.take k,0<=d.a/\d.a<=9223372036854775807:=by
 intro d hd;obtain⟨j,hj,rfl⟩:=List.getElem_of_mem hd;have z6:j<k/\j<l.length:=by rw [List.length_take]at hj;omega
 have:=NR (h j z6.1);have e:cz l j=(l.take k)[j]:=by simp [cz,List.getD,z6.2]
 rw [<-e];exact this
noncomputable abbrev E87:=EV [(148,.pure bF),(147,.pure NS),(149,.pure SD),(150,.pure ofS),(151,.pure YE)] [] 8700 70
theorem b87:af E87 [] Tryz.f87 chS:=pb <| by
 rintro⟨r,l⟩ ⟨hp,hl⟩;simp only at hp hl;cases hok:r.ok
 ·have hz:=aef (l:=l) hok;simp -dsimp [Tryz.f87,E87,Ro.row,bp,iw,hp,hok];repeat' first|omega|simp -dsimp [E87,ri,aa,ints,Ro.row,bp,iw,hp,hok,hz]|apply aI|refine oI fun _=>?_|apply nI
 by_cases Dt:60<l.length
 ·have IM:(60:Int)<l.length:=by omega
  have hz:=TZ (l:=l) hok Dt;simp -dsimp [Tryz.f87,E87,Ro.row,bp,iw,hp,hok];repeat' first|omega|simp -dsimp [E87,ri,aa,ints,Ro.row,bp,iw,hp,hok,hz,IM]|apply aI|refine oI fun _=>?_|apply nI
 have IM:¬ (60:Int)<l.length:=by omega
 have v7:IntKind.wrap .i64 ((r.bM.length:Int) - 1)=r.bM.length - 1:=aK (by omega) (by omega);simp -dsimp [Tryz.f87,E87,Ro.row,bp,iw,hp,hok];repeat' first|omega|simp -dsimp [E87,ri,aa,ints,Ro.row,bp,iw,hp,hok,IM]|apply aI|refine oI fun _=>?_|apply nI
 refine ay [20,21,22,23,8,7,24,25,26,27,28,29,30,31,32,33,34,35,36,37,38,39,40,41,42,43,44,45,46,47,48,49,50,51,52,53,54,55,56,57,58,59,60,61,62,63,64,65,66,67,68,4,5,69,19] (fun k:{k:Nat // k<=l.length/\∀j,j<k->kG bH r l j=true}=>[(19,(true,.int .i64 k.1))]) (fun k=>hps [(8708,{base:=k.1,ah:=[]}),(8702,{base:=0,ah:=[{z:=6,els:=[r.row],ty:=41}]})] cg) (fun k=>l.length - k.1) ⟨0,by omega,fun _ h=>by omega⟩ ?_ ?_ ?_
 ·simp [aj,aT]
 ·(try simp -dsimp only [hpx]);refine ai ?_;simp -dsimp [aC,Ro.row,bp]<;>exact rz
 rintro⟨k,hk,v2⟩;dsimp only;by_cases aH:k<l.length
 ·have v1:(k:Int)<l.length:=by omega
  have wk:=wx k;obtain⟨d,hd⟩:∃d,l[k]?=some d:=⟨_,List.getElem?_eq_getElem aH⟩
  have hd':l[k]=d:=p6 hd aH;have vx:cz l k=d:=by simp [cz,List.getD,hd]
  have hD:=T1 r l k d vx;have aoA:=zh (by omega) v2;have v8:(l.take k).length<=1000000:=by simp;omega
  have Aj:∀n,∀x∈own (l.take k) n,0<=x.a/\x.a<=9223372036854775807:=fun n x hx=>aoA x (nP.1 hx).1;have P7:(own (l.take k) d.p).length<=k:=by have:=xC (l.take k) d.p;simp at this;omega
  have Ac:List.take k (l.map Du.row)=(l.take k).map Du.row:=by rw [List.map_take]
  generalize l.take k=lk at *;have ajQ:∀x∈own lk d.p,0<=x.a/\x.a<=9223372036854775807:=Aj d.p;by_cases kW:k=0
  ·subst kW;have v6:(l=[])=False:=eq_false (by rintro rfl;simp at aH);have w1:IntKind.wrap .i64 1=1:=aK (by omega) (by omega);cases c1:au d.p 0 (r.bM.length - 1)
   ·have hz:=nS hok Dt aH (by rw [hD,c1];rfl) v2;simp -dsimp [v1];repeat' first|omega|simp -dsimp [E87,ri,aa,ints,v6,w1,v1,aH,hd,hd',hl,wk,v7,Ac,v8,iu,ir,Du.row,Ro.row,bp,bX,c1,hz]|apply aI|refine oI fun _=>?_|apply nI
   cases c2:tH d.a d.b
   ·have hz:=nS hok Dt aH (by rw [hD,c1,c2];rfl) v2;simp -dsimp [v1];repeat' first|omega|simp -dsimp [E87,ri,aa,ints,v6,w1,v1,aH,hd,hd',hl,wk,v7,Ac,v8,iu,ir,Du.row,Ro.row,bp,bX,c1,c2,hz]|apply aI|refine oI fun _=>?_|apply nI
   have vW:=tN c2;have YF:SA (own lk d.p++[d]):=⟨by simp;omega,fun x hx=>by
    rcases List.mem_append.1 hx with h|h
    ·exact ajQ x h
    ·exact List.mem_singleton.1 h ▸ vW⟩
   generalize hB:tO bH r (own lk d.p) d=B at hD;cases B with
   | nil=>
    simp -dsimp [v1];repeat' first|omega|simp -dsimp [E87,ri,aa,ints,v6,w1,v1,aH,hd,hd',hl,wk,v7,Ac,v8,iu,ir,Du.row,Ro.row,bp,bX,c1,c2,hB,YF]|apply aI|refine oI fun _=>?_|apply nI
    refine⟨0+1,ag rfl ?_,?_,⟨by omega,fun i hi=>?_⟩,by omega⟩
    ·simp [aj,aT,w1]
    ·(try simp -dsimp only [hpx]);refine ai ?_;simp -dsimp [aC,Ro.row,bp]<;>exact rz
    ·by_cases vX:i=0
     ·subst vX;rw [hD,c1,c2];simp
     ·exact v2 i (by omega)
   | cons b bs=>
    have hz:=nS hok Dt aH (by rw [hD];simp) v2;simp -dsimp [v1];repeat' first|omega|simp -dsimp [E87,ri,aa,ints,v6,w1,v1,aH,hd,hd',hl,wk,v7,Ac,v8,iu,ir,Du.row,Ro.row,bp,bX,c1,c2,hB,YF,hz]|apply aI|refine oI fun _=>?_|apply nI
  ·obtain⟨j,rfl⟩:∃j,k=j+1:=⟨k - 1,by omega⟩
   have vb:j<l.length:=(by omega);obtain⟨e,he⟩:∃e,l[j]?=some e:=⟨_,List.getElem?_eq_getElem vb⟩
   have he':l[j]=e:=p6 he vb;have zt:cz l (j+1 - 1)=e:=(by simp [cz,List.getD,he]);have wj:IntKind.wrap .i64 (((j+1:Nat):Int) - 1)=(j:Nat):=(by rw [aK (by omega) (by omega)];omega);have T3:IntKind.wrap .i64 (j:Int)=(j:Nat):=aK (by omega) (by omega);have vd:(j:Int)<l.length:=(by omega);have wk2:=wi ((j:Int)+1+1);have Cx:(decide (j+1=0) || decide ((cz l (j+1 - 1)).a<=d.a))=decide (e.a<=d.a):=(by rw [zt];simp);cases c1:au d.p 0 (r.bM.length - 1)
   ·have hz:=nS hok Dt aH (by rw [hD,c1];rfl) v2;simp -dsimp [v1];repeat' first|omega|simp -dsimp [E87,ri,aa,ints,wk2,v1,aH,hd,hd',hl,wk,v7,Ac,v8,iu,ir,Du.row,Ro.row,bp,bX,wj,T3,vd,vb,he,he',c1,hz]|apply aI|refine oI fun _=>?_|apply nI
   cases c2:tH d.a d.b
   ·have hz:=nS hok Dt aH (by rw [hD,c1,c2];rfl) v2;simp -dsimp [v1];repeat' first|omega|simp -dsimp [E87,ri,aa,ints,wk2,v1,aH,hd,hd',hl,wk,v7,Ac,v8,iu,ir,Du.row,Ro.row,bp,bX,wj,T3,vd,vb,he,he',c1,c2,hz]|apply aI|refine oI fun _=>?_|apply nI
   by_cases c3:d.a<e.a
   ·have hz:=nS hok Dt aH (by rw [hD,c1,c2,Cx,decide_eq_false (by omega:¬ e.a<=d.a)];simp) v2;simp -dsimp [v1];repeat' first|omega|simp -dsimp [E87,ri,aa,ints,wk2,v1,aH,hd,hd',hl,wk,v7,Ac,v8,iu,ir,Du.row,Ro.row,bp,bX,wj,T3,vd,vb,he,he',c1,c2,c3,hz]|apply aI|refine oI fun _=>?_|apply nI
   have zv:decide (e.a<=d.a)=true:=decide_eq_true (by omega);have vW:=tN c2;have YF:SA (own lk d.p++[d]):=⟨by simp;omega,fun x hx=>by
    rcases List.mem_append.1 hx with h|h
    ·exact ajQ x h
    ·exact List.mem_singleton.1 h ▸ vW⟩
   generalize hB:tO bH r (own lk d.p) d=B at hD;cases B with
   | nil=>
    simp -dsimp [v1];repeat' first|omega|simp -dsimp [E87,ri,aa,ints,wk2,v1,aH,hd,hd',hl,wk,v7,Ac,v8,iu,ir,Du.row,Ro.row,bp,bX,wj,T3,vd,vb,he,he',c1,c2,c3,hB,YF]|apply aI|refine oI fun _=>?_|apply nI
    refine⟨(j+1)+1,ag rfl ?_,?_,⟨by omega,fun i hi=>?_⟩,by omega⟩
    ·simp [aj,aT,wk2]
    ·(try simp -dsimp only [hpx]);refine ai ?_;simp -dsimp [aC,Ro.row,bp]<;>exact rz
    ·by_cases vX:i=(j+1)
     ·subst vX;rw [hD,c1,c2,Cx,zv];simp
     ·exact v2 i (by omega)
   | cons b bs=>
    have hz:=nS hok Dt aH (by rw [hD];simp) v2;simp -dsimp [v1];repeat' first|omega|simp -dsimp [E87,ri,aa,ints,wk2,v1,aH,hd,hd',hl,wk,v7,Ac,v8,iu,ir,Du.row,Ro.row,bp,bX,wj,T3,vd,vb,he,he',c1,c2,c3,hB,YF,hz]|apply aI|refine oI fun _=>?_|apply nI
 ·have va:¬ (k:Int)<l.length:=by omega
  have hz:=aeg hok Dt fun j hj=>v2 j (by omega);simp -dsimp [va];repeat' first|omega|simp -dsimp [E87,ri,aa,ints,va,hz]|apply aI|refine oI fun _=>?_|apply nI
theorem anf:FO 87 chS:=pf b87 (.cons abt (.cons aju (.cons ais (.cons aip (.cons ait .nil)))))
end Go.Sx
end
end
