/- A part of a proof; no conditions. -/
import Derived.Test.YtegiclpanpmkdaaGreatDoorR08
import Derived.Test.YtegiclpanpmkdaaGreatDoorR10
set_option linter.all false
set_option maxRecDepth 100000
set_option maxHeartbeats 8000000
noncomputable section
section
namespace Go.Sx
structure Tb where
 xs:List Int
 ys:List Int
 vs:List (List Int)
deriving Inhabited
def T4(l:List Int):Prop:=∀i,i+1<l.length->l.getD i 0<l.getD (i+1) 0
theorem T5{l:List Int}(h:T4 l){i k:Nat}(v7:i<k)(hk:k<l.length):l.getD i 0<l.getD k 0:=by
 induction k with
 | zero=>omega
 | succ k ih=>
  have h1:=h k (by omega);by_cases e:i=k
  ·subst e;exact h1
  ·have:=ih (by omega) (by omega);omega
theorem T6{l:List Int}(h:T4 l){i k:Nat}(v7:i<=k)(hk:k<l.length):l.getD i 0<=l.getD k 0:=by
 by_cases e:i=k
 ·subst e;exact Int.le_refl _
 ·exact Int.le_of_lt (T5 h (by omega) hk)
def Lx(l:List Int)(i:Nat)(x:Int):Prop:=i+1<l.length/\l.getD i 0<=x/\x<=l.getD (i+1) 0
theorem mY{l:List Int}(h:T4 l){i k:Nat}{x:Int}(hi:Lx l i x)(hk:Lx l k x)(v7:i<k):k=i+1/\x=l.getD k 0:=by
 obtain⟨a1,a2,a3⟩:=hi;obtain⟨b1,b2,b3⟩:=hk;have h1:=T6 h (show i+1<=k by omega) (by omega);have h2:l.getD (i+1) 0=l.getD k 0:=by omega
 by_cases e:k=i+1
 ·subst e;exact⟨rfl,by omega⟩
 ·have:=T5 h (show i+1<k by omega) (by omega);omega
def Tb.v(t:Tb)(i k:Nat):Int:=(t.vs.getD i []).getD k 0
def Tb.num(t:Tb)(i k:Nat)(x y:Int):Int:=
 (t.xs.getD (i+1) 0 - x) * (t.ys.getD (k+1) 0 - y) * t.v i k+(x - t.xs.getD i 0) * (t.ys.getD (k+1) 0 - y) * t.v (i+1) k
  + (t.xs.getD (i+1) 0 - x) * (y - t.ys.getD k 0) * t.v i (k+1)+(x - t.xs.getD i 0) * (y - t.ys.getD k 0) * t.v (i+1) (k+1)
def Tb.den(t:Tb)(i k:Nat):Int:=(t.xs.getD (i+1) 0 - t.xs.getD i 0) * (t.ys.getD (k+1) 0 - t.ys.getD k 0)
theorem Lz{l:List Int}(h:T4 l){i:Nat}{x:Int}(hi:Lx l i x):0<l.getD (i+1) 0 - l.getD i 0:=by have:=h i hi.1;omega
theorem Tb.den_pos{t:Tb}(hx:T4 t.xs)(hy:T4 t.ys){i k:Nat}{x y:Int}(hi:Lx t.xs i x)(hk:Lx t.ys k y):0<t.den i k:=
 Int.mul_pos (Lz hx hi) (Lz hy hk)
theorem Tb.T7{t:Tb}(hx:T4 t.xs){i k:Nat}{x y:Int}(hi:Lx t.xs i x)(hi':Lx t.xs (i+1) x):t.num i k x y * t.den (i+1) k=t.num (i+1) k x y * t.den i k:=by have e:=(mY hx hi hi' (by omega)).2;subst e;unfold Tb.num Tb.den;generalize t.xs.getD (i+1+1) 0=X2;generalize t.xs.getD (i+1) 0=X1;generalize t.xs.getD i 0=X0;generalize t.ys.getD (k+1) 0=Y1;generalize t.ys.getD k 0=Y0;grind
theorem Tb.T8{t:Tb}(hy:T4 t.ys){i k:Nat}{x y:Int}(hi:Lx t.ys k y)(hi':Lx t.ys (k+1) y):t.num i k x y * t.den i (k+1)=t.num i (k+1) x y * t.den i k:=by have e:=(mY hy hi hi' (by omega)).2;subst e;unfold Tb.num Tb.den;generalize t.ys.getD (k+1+1) 0=Y2;generalize t.ys.getD (k+1) 0=Y1;generalize t.ys.getD k 0=Y0;generalize t.xs.getD (i+1) 0=X1;generalize t.xs.getD i 0=X0;grind
theorem Tb.same{t:Tb}(hx:T4 t.xs)(hy:T4 t.ys){i k i' k':Nat}{x y:Int}(hi:Lx t.xs i x)(hk:Lx t.ys k y)(hi':Lx t.xs i' x)(hk':Lx t.ys k' y) :
  t.num i k x y * t.den i' k'=t.num i' k' x y * t.den i k:=by
 have sx:∀k,t.num i k x y * t.den i' k=t.num i' k x y * t.den i k:=by
  intro k;rcases Nat.lt_trichotomy i i' with h|h|h
  ·obtain⟨rfl,_⟩:=mY hx hi hi' h;exact Tb.T7 hx hi hi'
  ·subst h;rfl
  ·obtain⟨rfl,_⟩:=mY hx hi' hi h;exact(Tb.T7 hx hi' hi).symm
 have sy:t.num i' k x y * t.den i' k'=t.num i' k' x y * t.den i' k:=by
  rcases Nat.lt_trichotomy k k' with h|h|h
  ·obtain⟨rfl,_⟩:=mY hy hk hk' h;exact Tb.T8 hy hk hk'
  ·subst h;rfl
  ·obtain⟨rfl,_⟩:=mY hy hk' hk h;exact(Tb.T8 hy hk' hk).symm
 have p1:=Tb.den_pos hx hy hi' hk;have e1:=sx k;have hc:t.den i' k * (t.num i k x y * t.den i' k')=t.den i' k * (t.num i' k' x y * t.den i k):=by
  have a1:t.den i' k * (t.num i k x y * t.den i' k')=(t.num i k x y * t.den i' k) * t.den i' k':=by grind
  have a2:t.den i' k * (t.num i' k' x y * t.den i k)=(t.num i' k' x y * t.den i' k) * t.den i k:=by grind
  rw [a1,a2,e1,<-sy];grind
 exact Int.eq_of_mul_eq_mul_left (by omega) hc
def stops(l:List Int)(a:Sp):List Int:=a.lo::(l.filter fun x=>decide (a.lo<x/\x<a.hi))++if a.lo<a.hi then [a.hi]else []
def ajR(l:List Int)(a:Sp):Prop:=l.getD 0 0<=a.lo/\a.hi<=l.getD (l.length - 1) 0
theorem NT{l:List Int}{a:Sp}{x:Int}(v8:a.lo<=a.hi):x∈stops l a↔x=a.lo\/x=a.hi\/(x∈l/\a.lo<x/\x<a.hi):=by
 unfold stops;by_cases h:a.lo<a.hi
 ·simp [h];constructor
  ·rintro(h|h|h)
   ·exact .inl h
   ·exact .inr (.inr h)
   ·exact .inr (.inl h)
  ·rintro(h|h|h)
   ·exact .inl h
   ·exact .inr (.inr h)
   ·exact .inr (.inl h)
 ·simp [h];constructor
  ·rintro(h|h)
   ·exact .inl h
   ·exact .inr (.inr h)
  ·rintro(h|h|h)
   ·exact .inl h
   ·exact .inl (by omega)
   ·exact .inr h
theorem FL{l:List Int}{a:Sp}{x:Int}(v8:a.lo<=a.hi)(h:x∈stops l a):a.lo<=x/\x<=a.hi:=by rcases(NT v8).1 h with h|h|⟨_,h⟩<;>omega
end Go.Sx
end
section
namespace Go.Sx.y9
open Go.Proofs Go.Sx
attribute [local simp] ri aa ints
attribute [local irreducible] bA
attribute [local simp] aG
theorem aM{α:Type}{l:List α}{k:Nat}(h:k<l.length):∃a,l[k]?=some a/\l[k]=a:=⟨_,List.getElem?_eq_getElem h,rfl⟩
theorem zm(a b:Int)(h:ri a=ri b):a=b:=by simpa [ri]using h
theorem jk(a b:List Int)(h:ints a=ints b):a=b:=by simp only [ints,V.sl.injEq,true_and]at h;exact aR zm h
def rwI(l:List Int):List V:=[ints l]
theorem LA(a b:List Int)(h:rwI a=rwI b):a=b:=jk _ _ (by simpa [rwI]using h)
def eO(t:Tb):List V:=[ints t.xs,ints t.ys,.sl 1 (t.vs.map rwI)]
theorem mZ(a b:Tb)(h:eO a=eO b):a=b:=by obtain⟨a1,a2,a3⟩:=a;obtain⟨b1,b2,b3⟩:=b;simp only [eO,List.cons.injEq,V.sl.injEq,true_and,and_true]at h;rw [jk _ _ h.1,jk _ _ h.2.1,aR LA h.2.2]
@[simp] def i1E(d:Int):List V:=[.int .i64 d]
theorem Zq(a b:Int)(h:i1E a=i1E b):a=b:=by simpa using h
theorem qF(n:Int):aY i1E [.int .i64 n]=n:=aA Zq n
def oB(n:Int):Bool:=!au n (-1000000) 1000000
noncomputable abbrev T9:aB:=bS i1E (fun _=>True) fun n=>.bool (oB n)
noncomputable abbrev afw:=EV [(236,.pure bF)] [] 23500 6
theorem ap6:af afw [] Tryz.f235 T9:=pb <| by rintro n _;simp -dsimp [Tryz.f235,afw];repeat' first|omega|simp -dsimp [afw,oB]|apply aI|apply nI|intro
theorem akS:FO 235 T9:=pf ap6 (.cons akR .nil)
@[simp] def BC(d:List Int):List V:=[.sl 1 (d.map ri),.fn 235 []]
theorem NU(a b:List Int)(h:BC a=BC b):a=b:=by simp only [BC,List.cons.injEq,V.sl.injEq,true_and,and_true]at h;exact aR zm h
theorem vk(l:List Int):aY BC [.sl 1 (l.map ri),.fn 235 []]=l:=aA NU l
noncomputable abbrev IQ:aB:=bS BC (fun d=>d.length<=1000000) fun d=>.int .i64 (eB d oB)
noncomputable abbrev IU:aB:=bS BC (fun d=>d.length<=1000000) fun d=>.bool (d.any oB)
noncomputable abbrev SL:=EV [(235,.pure T9)] [] 13000 19
theorem anE:af SL [] Tryz.f130 IQ:=pb <| by
 rintro l hl;have hl:l.length<=1000000:=hl;simp -dsimp [Tryz.f130,SL];refine ay [9,10,5,11,12,13,14,15,16,17,4,18,8] (fun k:{k:Nat // k<=l.length/\∀j (h:j<l.length),j<k->oB l[j]=false}=>[(8,(true,.int .i64 k.1))]) (fun _=>cg) (fun k=>l.length - k.1) ⟨0,by omega,fun _ _ h=>by omega⟩ ?_ (bA.refl _) ?_
 ·simp [aj,aT]
 rintro⟨k,hk,v1⟩;by_cases aH:k<l.length
 ·have v0:(k:Int)<l.length:=by omega
  have wk:=wx k;cases hw:oB l[k]
  ·simp -dsimp [v0];repeat' first|omega|simp -dsimp [SL,v0,aH,hl,hw,wk,qF]|apply aI|apply nI|intro
   refine⟨k+1,ag rfl ?_,bA.refl _,⟨by omega,fun j h hj=>?_⟩,by omega⟩
   ·simp [aj,aT]
   ·by_cases v5:j=k
    ·subst v5;exact hw
    ·exact v1 j h (by omega)
  ·have hz:=cW l oB aH hw v1;simp -dsimp [v0];repeat' first|omega|simp -dsimp [SL,v0,aH,hl,hw,wk,hz,qF]|apply aI|apply nI|intro
 ·have v2:¬ (k:Int)<l.length:=by omega
  have hz:=bP l oB (fun j h=>v1 j h (by omega));simp -dsimp [v2];repeat' first|omega|simp -dsimp [SL,v2,hz]|apply aI|apply nI|intro
theorem ahS:FO 130 IQ:=pf anE (.cons akS .nil)
noncomputable abbrev E68:=EV [(130,.pure IQ)] [] 6800 9
theorem b68:af E68 [] Tryz.f68 IU:=pb <| by rintro l hl;have hl:l.length<=1000000:=hl;have hz:=cO l oB;simp -dsimp [Tryz.f68,E68];repeat' first|omega|simp -dsimp [E68,hl,vk,hz]|apply aI|apply nI|intro
theorem ams:FO 68 IU:=pf b68 (.cons ahS .nil)
@[simp] def inE(d:List Int):List V:=[ints d]
theorem Zr(a b:List Int)(h:inE a=inE b):a=b:=jk _ _ (by simpa using h)
theorem tS(l:List Int):aY inE [.sl 1 (l.map ri)]=l:=aA Zr l
def zn(l:List Int)(i:Nat):Bool:=!oB (l.getD i 0) && (decide (i=0) || au (l.getD i 0 - l.getD (i - 1) 0) 1 10000)
def xH(l:List Int):Bool:=au l.length 2 12 && (List.range l.length).all (zn l)
theorem xI{l:List Int}{k:Nat}{x y:Int}(gx:l.getD k 0=x)(gy:l.getD (k - 1) 0=y):zn l k=(!oB x && (decide (k=0) || au (x - y) 1 10000)):=by subst gx gy;rfl
theorem Ub{l:List Int}{k:Nat}(hk:k<l.length)(h:zn l k=false):xH l=false:=by rw [xH,Bool.and_eq_false_iff];right;rw [List.all_eq_false];exact⟨k,by simpa using hk,by simp [h]⟩
theorem aei{l:List Int}(h1:au l.length 2 12=true)(h:∀j,j<l.length->zn l j=true):xH l=true:=by rw [xH,h1,Bool.true_and,List.all_eq_true];intro j hj;exact h j (by simpa using hj)
noncomputable abbrev axS:aB:=bS inE (fun l=>l.length<=9223372036854775807) fun l=>.bool (xH l)
noncomputable abbrev aet:=EV [(236,.pure bF)] [] 23800 35
theorem aoR:af aet [] Tryz.f238 axS:=pb <| by
 rintro l hl;have hl:l.length<=9223372036854775807:=hl;cases h1:au l.length 2 12
 ·have hz:xH l=false:=by simp [xH,h1]
  simp -dsimp [Tryz.f238,aet];repeat' first|omega|simp -dsimp [aet,hl,h1,hz]|apply aI|apply nI|intro
 have vx:2<=(l.length:Int)/\(l.length:Int)<=12:=by simpa [au]using h1
 simp -dsimp [Tryz.f238,aet];repeat' first|omega|simp -dsimp [aet,hl,h1]|apply aI|apply nI|intro
 refine ay [12,13,14,15,3,4,16,17,18,19,20,21,22,23,24,25,26,27,28,29,30,31,32,33,2,34,11] (fun k:{k:Nat // k<=l.length/\∀j,j<k->zn l j=true}=>[(11,(true,.int .i64 k.1))]) (fun _=>cg) (fun k=>l.length - k.1) ⟨0,by omega,fun _ h=>by omega⟩ ?_ (bA.refl _) ?_
 ·simp [aj,aT]
 rintro⟨k,hk,v1⟩;dsimp only;by_cases aH:k<l.length
 ·have v0:((k:Int)<l.length)=True:=eq_true (by omega);have wk:=wx k;obtain⟨x,hx,hx'⟩:=aM aH;have gx:l.getD k 0=x:=by simp [List.getD,hx]
  cases hf:au x (-1000000) 1000000
  ·have hz:=Ub aH (by rw [xI gx rfl];simp [oB,hf]);simp -dsimp [v0];repeat' first|omega|simp -dsimp [aet,v0,aH,hx,hx',hf,hz]|apply aI|apply nI|intro
  ·have vy : -1000000<=x/\x<=1000000:=(by simpa [au]using hf);by_cases kW:k=0
   ·have ha:zn l k=true:=(by rw [xI gx rfl];simp [oB,hf,kW]);have Zs:((0:Int)<k)=False:=eq_false (by omega);have Zt:(0<k)=False:=eq_false (by omega);simp -dsimp [v0];repeat' first|omega|simp -dsimp [aet,v0,aH,hx,hx',hf,Zs,Zt,wk]|apply aI|apply nI|intro
    refine⟨k+1,ag rfl ?_,bA.refl _,⟨by omega,fun j hj=>?_⟩,by omega⟩
    ·simp [aj,aT]
    ·have:j=k:=(by omega);subst this;exact ha
   ·have Zs:((0:Int)<k)=True:=eq_true (by omega);have Zt:(0<k)=True:=eq_true (by omega);have wkm:IntKind.wrap .i64 ((k:Int) - 1)=(k - 1:Nat):=(by rw [aK (by omega) (by omega)];omega);have v6:k - 1<l.length:=(by omega);obtain⟨y,hy,hy'⟩:=aM v6;have gy:l.getD (k - 1) 0=y:=(by simp [List.getD,hy]);have vP : -1000000<=y/\y<=1000000:=by have:=v1 (k - 1) (by omega);simp only [zn,gy,oB,Bool.and_eq_true,Bool.not_not]at this;simpa [au]using this.1
    have wxy:=wi (x - y);cases hd:au (x - y) 1 10000
    ·have hz:=Ub aH (by rw [xI gx gy];simp [hd,kW]);simp -dsimp [v0];repeat' first|omega|simp -dsimp [aet,v0,aH,hx,hx',hf,Zs,Zt,wkm,v6,hy,hy',wxy,hd,hz]|apply aI|apply nI|intro
    ·have ha:zn l k=true:=(by rw [xI gx gy];simp [hd,oB,hf]);simp -dsimp [v0];repeat' first|omega|simp -dsimp [aet,v0,aH,hx,hx',hf,Zs,Zt,wkm,v6,hy,hy',wxy,hd,wk]|apply aI|apply nI|intro
     refine⟨k+1,ag rfl ?_,bA.refl _,⟨by omega,fun j hj=>?_⟩,by omega⟩
     ·simp [aj,aT]
     ·by_cases e:j=k
      ·subst e;exact ha
      ·exact v1 j (by omega)
 have v2:((k:Int)<l.length)=False:=eq_false (by omega);have hz:=aei h1 fun j hj=>v1 j (by omega);simp -dsimp [v2];repeat' first|omega|simp -dsimp [aet,v2,hz]|apply aI|apply nI|intro
theorem aj1:FO 238 axS:=pf aoR (.cons akR .nil)
structure TrD where
 t:Tb
 r:List Int
 deriving Inhabited
def vl(t:Tb):V:=.ip 3 [eO t] 0 0
def Uc:V:=.ip 1 [[.fn 235 []]] 0 0
@[simp] def Ws(d:TrD):List V:=[ints d.r,vl d.t,Uc]
theorem K3(a b:TrD)(h:Ws a=Ws b):a=b:=by obtain⟨a1,a2⟩:=a;obtain⟨b1,b2⟩:=b;simp only [Ws,List.cons.injEq,vl,V.ip.injEq,true_and,and_true]at h;rw [mZ _ _ h.2,jk _ _ h.1]
theorem LD(t:Tb)(r:List Int):aY Ws [.sl 1 (r.map ri),.ip 3 [[.sl 1 (t.xs.map ri),.sl 1 (t.ys.map ri),.sl 1 (t.vs.map rwI)]] 0 0,.ip 1 [[.fn 235 []]] 0 0]=⟨t,r⟩:=aA K3 ⟨t,r⟩
def jG(t:Tb)(r:List Int):Bool:=!decide (r.length=t.ys.length) || r.any oB
noncomputable abbrev trS:aB:=bS Ws (fun d=>d.t.ys.length<=1000000) fun d=>.bool (jG d.t d.r)
noncomputable abbrev Vd:=EV [(68,.pure IU),(235,.pure T9)] [] 23700 16
theorem apD:af Vd [] Tryz.f237 trS:=pb <| by
 rintro⟨t,r⟩ hl;have hl:t.ys.length<=1000000:=hl;by_cases h:r.length=t.ys.length
 ·have hi:(r.length:Int)=t.ys.length:=by omega
  simp -dsimp [Tryz.f237,Vd,vl,eO,Uc];repeat' first|omega|simp -dsimp [Vd,hl,h,hi,eO,vk,jG]|apply aI|apply nI|intro
 ·have hi:((r.length:Int)=t.ys.length)=False:=eq_false (by omega);simp -dsimp [Tryz.f237,Vd,vl,eO,Uc];repeat' first|omega|simp -dsimp [Vd,hl,h,hi,eO,vk,jG]|apply aI|apply nI|intro
theorem ahF:FO 237 trS:=pf apD (.cons ams (.cons akS .nil))
structure TvD where
 t:Tb
 l:List (List Int)
 deriving Inhabited
@[simp] def tvE(d:TvD):List V:=[.sl 1 (d.l.map rwI),.fn 237 [vl d.t,Uc]]
theorem Zu(a b:TvD)(h:tvE a=tvE b):a=b:=by obtain⟨a1,a2⟩:=a;obtain⟨b1,b2⟩:=b;simp only [tvE,List.cons.injEq,vl,V.fn.injEq,V.ip.injEq,V.sl.injEq,true_and,and_true]at h;rw [mZ _ _ h.2,aR LA h.1]
theorem Dv(t:Tb)(l:List (List Int)):aY tvE [.sl 1 (l.map rwI),.fn 237 [.ip 3 [[.sl 1 (t.xs.map ri),.sl 1 (t.ys.map ri),.sl 1 (t.vs.map rwI)]] 0 0,.ip 1 [[.fn 235 []]] 0 0]]=⟨t,l⟩:=aA Zu ⟨t,l⟩
structure TvP (d:TvD):Prop where
 y:d.t.ys.length<=1000000
 n:d.l.length<=1000000
noncomputable abbrev aej:aB:=bS tvE TvP fun d=>.int .i64 (eB d.l (jG d.t))
noncomputable abbrev aek:aB:=bS tvE TvP fun d=>.bool (d.l.any (jG d.t))
noncomputable abbrev aBq:=EV [(237,.pure trS)] [] 27900 19
theorem aB6:af aBq [] Tryz.f279 aej:=pb <| by
 rintro⟨t,l⟩ ⟨hy,hl⟩;simp only at hy hl;simp -dsimp [Tryz.f279,aBq,vl,Uc,eO];refine ay [9,10,5,11,12,13,14,15,16,17,4,18,8] (fun k:{k:Nat // k<=l.length/\∀j (h:j<l.length),j<k->jG t l[j]=false}=>[(8,(true,.int .i64 k.1))]) (fun _=>cg) (fun k=>l.length - k.1) ⟨0,by omega,fun _ _ h=>by omega⟩ ?_ (bA.refl _) ?_
 ·simp [aj,aT]
 rintro⟨k,hk,v1⟩;by_cases aH:k<l.length
 ·have v0:(k:Int)<l.length:=by omega
  have wk:=wx k;obtain⟨r,hg,hg'⟩:=aM aH;cases hw:jG t r
  ·simp -dsimp [v0];repeat' first|omega|simp -dsimp [aBq,v0,aH,hl,hy,hw,wk,hg,hg',LD,rwI,vl,eO,Uc]|apply aI|apply nI|intro
   refine⟨k+1,ag rfl ?_,bA.refl _,⟨by omega,fun j h hj=>?_⟩,by omega⟩
   ·simp [aj,aT]
   ·by_cases v5:j=k
    ·subst v5;rw [hg'];exact hw
    ·exact v1 j h (by omega)
  ·have hz:=cW l (jG t) aH (by rw [hg'];exact hw) v1;simp -dsimp [v0];repeat' first|omega|simp -dsimp [aBq,v0,aH,hl,hy,hw,wk,hz,hg,hg',LD,rwI,vl,eO,Uc]|apply aI|apply nI|intro
 ·have v2:¬ (k:Int)<l.length:=by omega
  have hz:=bP l (jG t) (fun j h=>v1 j h (by omega));simp -dsimp [v2];repeat' first|omega|simp -dsimp [aBq,v2,hz]|apply aI|apply nI|intro
theorem aBS:FO 279 aej:=pf aB6 (.cons ahF .nil)
noncomputable abbrev ady:=EV [(279,.pure aej)] [] 23900 9
theorem anM:af ady [] Tryz.f239 aek:=pb <| by rintro⟨t,l⟩ hP;have hz:=cO l (jG t);have hd:=Dv t l;simp -dsimp [Tryz.f239,ady,vl,Uc,eO];repeat' first|omega|simp -dsimp [ady,hP,hd,hz,vl,Uc,eO]|apply aI|apply nI|intro
theorem ahK:FO 239 aek:=pf anM (.cons aBS .nil)
@[simp] def tbE(t:Tb):List V:=[.agg (eO t)]
theorem Zv(a b:Tb)(h:tbE a=tbE b):a=b:=mZ _ _ (by simpa using h)
theorem tT(t:Tb):aY tbE [.agg [.sl 1 (t.xs.map ri),.sl 1 (t.ys.map ri),.sl 1 (t.vs.map rwI)]]=t:=aA Zv t
def vY(t:Tb):Bool:=xH t.xs && (xH t.ys && (decide (t.vs.length=t.xs.length) && !t.vs.any (jG t)))
structure TbP (t:Tb):Prop where
 x:t.xs.length<=1000000000000000000
 y:t.ys.length<=1000000000000000000
 v:t.vs.length<=1000000000000000000
noncomputable abbrev ctS:aB:=bS tbE TbP fun t=>.int .i64 (if vY t=true then 0 else 11)
theorem jN{l:List Int}(h:xH l=true):2<=l.length/\l.length<=12:=by
 simp only [xH,Bool.and_eq_true]at h;have:2<=(l.length:Int)/\(l.length:Int)<=12:=by simpa [au]using h.1
 omega
noncomputable abbrev An:=EV [(235,.pure T9),(237,.pure trS),(238,.pure axS),(239,.pure aek)] [] 18200 31
theorem amG:af An [] Tryz.f182 ctS:=pb <| by
 rintro t ⟨bx,by',bv⟩;have bx':t.xs.length<=9223372036854775807:=by omega
 have Ug:t.ys.length<=9223372036854775807:=by omega
 cases h1:xH t.xs
 ·have hz:vY t=false:=by simp [vY,h1]
  simp -dsimp [Tryz.f182,An,eO];repeat' first|omega|simp -dsimp [An,bx',Ug,h1,tS,hz]|apply aI|apply nI|intro
 cases h2:xH t.ys
 ·have hz:vY t=false:=by simp [vY,h1,h2]
  simp -dsimp [Tryz.f182,An,eO];repeat' first|omega|simp -dsimp [An,bx',Ug,h1,h2,tS,hz]|apply aI|apply nI|intro
 by_cases h3:t.vs.length=t.xs.length
 case neg=>
  have h3':((t.vs.length:Int)=t.xs.length)=False:=eq_false (by omega);have hz:vY t=false:=by simp [vY,h1,h2,h3]
  simp -dsimp [Tryz.f182,An,eO];repeat' first|omega|simp -dsimp [An,bx',Ug,h1,h2,h3,h3',tS,hz]|apply aI|apply nI|intro
 have h3':((t.vs.length:Int)=t.xs.length)=True:=eq_true (by omega);have l1:=jN h1;have l2:=jN h2;have hP:TvP ⟨t,t.vs⟩:=⟨by simp only;omega,by simp only;omega⟩
 cases h4:t.vs.any (jG t)
 ·have hz:vY t=true:=by simp [vY,h1,h2,h3,h4]
  simp -dsimp [Tryz.f182,An,eO];repeat' first|omega|simp -dsimp [An,bx',Ug,h1,h2,h3,h3',h4,hP,Dv,tS,vl,Uc,eO,hz]|apply aI|apply nI|intro
 ·have hz:vY t=false:=by simp [vY,h1,h2,h3,h4]
  simp -dsimp [Tryz.f182,An,eO];repeat' first|omega|simp -dsimp [An,bx',Ug,h1,h2,h3,h3',h4,hP,Dv,tS,vl,Uc,eO,hz]|apply aI|apply nI|intro
theorem ahU:FO 182 ctS:=pf amG (.cons akS (.cons ahF (.cons aj1 (.cons ahK .nil))))
@[simp] def lsE(d:List Int × Sp):List V:=[ints d.1,.agg d.2.row]
theorem Zw(a b:List Int × Sp)(h:lsE a=lsE b):a=b:=by obtain⟨a1,a2⟩:=a;obtain⟨b1,b2⟩:=b;simp only [lsE,List.cons.injEq,V.agg.injEq,and_true]at h;rw [jk _ _ h.1,Sp.aq _ _ h.2]
theorem tU(l:List Int)(s:Sp):aY lsE [.sl 1 (l.map ri),.agg [.int .i64 s.lo,.int .i64 s.hi]]=(l,s):=aA Zw (l,s)
def FM(l:List Int)(s:Sp):Bool:=decide (l.getD 0 0<=s.lo) && decide (s.hi<=l.getD (l.length - 1) 0)
noncomputable abbrev aem:aB:=bS lsE (fun d=>0<d.1.length/\d.1.length<=1000000) fun d=>.bool (FM d.1 d.2)
noncomputable abbrev afV:=EV [] [] 18400 22
theorem aqn:af afV [] Tryz.f184 aem:=pb <| by
 rintro⟨l,s⟩ ⟨h0,hl⟩;simp only at h0 hl;obtain⟨x,hx,hx'⟩:=aM h0;have hm:l.length - 1<l.length:=by omega
 obtain⟨y,hy,hy'⟩:=aM hm;have gx:l.getD 0 0=x:=by simp [List.getD,hx]
 have gy:l.getD (l.length - 1) 0=y:=by simp [List.getD,hy]
 have wl:IntKind.wrap .i64 ((l.length:Int) - 1)=(l.length - 1:Nat):=by rw [aK (by omega) (by omega)];omega
 have hz:FM l s=(decide (x<=s.lo) && decide (s.hi<=y)):=by rw [FM,gx,gy]
 by_cases h1:x<=s.lo
 ·simp -dsimp [Tryz.f184,afV,Sp.row];repeat' first|omega|simp -dsimp [afV,h0,hl,hx,hx',hm,hy,hy',wl,hz,h1,Sp.row]|apply aI|apply nI|intro
 ·simp -dsimp [Tryz.f184,afV,Sp.row];repeat' first|omega|simp -dsimp [afV,h0,hl,hx,hx',hm,hy,hy',wl,hz,h1,Sp.row]|apply aI|apply nI|intro
theorem ale:FO 184 aem:=pf aqn .nil
@[simp] def i2E(d:Int × Int):List V:=[.int .i64 d.1,.int .i64 d.2]
theorem Zx(a b:Int × Int)(h:i2E a=i2E b):a=b:=by simp only [i2E,List.cons.injEq,V.int.injEq,true_and,and_true]at h;exact Prod.ext h.1 h.2
theorem qG(a b:Int):aY i2E [.int .i64 a,.int .i64 b]=(a,b):=aA Zx (a,b)
noncomputable abbrev NV:aB:=bS i1E (fun _=>True) fun _=>.bool false
noncomputable abbrev aen:aB:=bS i2E (fun _=>True) fun d=>.bool (decide (d.1<d.2))
noncomputable abbrev Uu:=EV [] [] 19000 6
theorem ao8:af Uu [] Tryz.f190 NV:=pb <| by rintro n _;simp -dsimp [Tryz.f190,Uu]
theorem akh:FO 190 NV:=pf ao8 .nil
noncomputable abbrev aBT:=EV [] [] 30100 6
theorem aB7:af aBT [] Tryz.f301 NV:=pb <| by rintro n _;simp -dsimp [Tryz.f301,aBT]
theorem aBU:FO 301 NV:=pf aB7 .nil
noncomputable abbrev afo:=EV [(190,.pure NV)] [] 25500 17
theorem apU:af afo [] Tryz.f255 aen:=pb <| by rintro⟨a,b⟩ _;simp -dsimp [Tryz.f255,afo];repeat' first|omega|simp -dsimp [afo,qF]|apply aI|apply nI|intro
theorem abF:FO 255 aen:=pf apU (.cons akh .nil)
theorem hsh(n:Nat)(hn:n<4611686018427387904):tB .u64 (n:Int) 1=(n / 2:Nat):=by have e:min (1:Int).toNat IntKind.u64.bits=1:=rfl;rw [tB,e,Int.fdiv_eq_ediv_of_nonneg _ (by decide)];omega
@[simp] def Pa(d:List Int × Int):List V:=[ints d.1,.int .i64 d.2]
theorem Dw(a b:List Int × Int)(h:Pa a=Pa b):a=b:=by obtain⟨a1,a2⟩:=a;obtain⟨b1,b2⟩:=b;simp only [Pa,List.cons.injEq,V.int.injEq,true_and,and_true]at h;rw [jk _ _ h.1,h.2]
theorem nT(l:List Int)(x:Int):aY Pa [.sl 1 (l.map ri),.int .i64 x]=(l,x):=aA Dw (l,x)
def Ui(l:List Int)(x:Int):Nat:=l.findIdx fun y=>decide (x<=y)
theorem aep{l:List Int}{x:Int}{i:Nat}(hi:i<=l.length)(lo:∀t,t<i->l.getD t 0<x)(hl:∀t,i<=t->t<l.length->x<=l.getD t 0):Ui l x=i:=by
 unfold Ui;by_cases h:i<l.length
 ·rw [List.findIdx_eq h];refine⟨?_,fun j hj=>?_⟩
  ·have:=hl i (Nat.le_refl _) h;simpa [List.getD,h]using this
  ·have:=lo j hj;have vb:j<l.length:=(by omega);simp only [List.getD,List.getElem?_eq_getElem vb,Option.getD_some]at this;simp;omega
 ·have:i=l.length:=by omega
  subst this;rw [List.findIdx_eq_length];intro y hy;obtain⟨j,hj,rfl⟩:=List.getElem_of_mem hy;have:=lo j hj;simp only [List.getD,List.getElem?_eq_getElem hj,Option.getD_some]at this;simp;omega
def bsF(l:List Int)(x:Int):Bool:=decide (Ui l x<l.length/\l.getD (Ui l x) 0=x)
structure BsP (d:List Int × Int):Prop where
 n:d.1.length<=1000000
 s:∀i j,i<=j->j<d.1.length->d.1.getD i 0<=d.1.getD j 0
noncomputable abbrev bsS:aB:=bS Pa BsP fun d=>.dB [.int .i64 (Ui d.1 d.2:Nat),.bool (bsF d.1 d.2)]
structure BsI (l:List Int) (x:Int) where
 i:Nat
 j:Nat
 ij:i<=j
 jl:j<=l.length
 lo:∀t,t<i->l.getD t 0<x
 hi:∀t,j<=t->t<l.length->x<=l.getD t 0
noncomputable abbrev aAV:=EV [(255,.pure aen),(301,.pure NV)] [] 29600 54
theorem aB8:af aAV [] Tryz.f296 bsS:=pb <| by
 rintro⟨l,x⟩ ⟨hl,hs⟩;simp only at hl hs;simp -dsimp [Tryz.f296,aAV];repeat' first|omega|simp -dsimp [aAV,hl]|apply aI|apply nI|intro
 refine ay [13,14,15,16,17,18,19,20,21,9,22,23,24,25,26,27,28,29,7,30,8] (fun s:BsI l x=>[(7,(true,.int .i64 (s.i:Nat))),(8,(true,.int .i64 (s.j:Nat)))]) (fun _=>cg) (fun s=>s.j - s.i) ⟨0,l.length,by omega,by omega,fun _ h=>by omega,fun _ h1 h2=>by omega⟩ ?_ (bA.refl _) ?_
 ·simp [aj,aT]
 rintro⟨i,j,ij,jl,lo,hi⟩;simp only;by_cases vV:i<j
 ·have zo:((i:Int)<j)=True:=eq_true (by omega);have e1:=wi ((i:Int)+j);have e2:IntKind.wrap .u64 ((i:Int)+j)=(i:Int)+j:=by simp [IntKind.wrap,IntKind.bits,IntKind.signed];omega
  obtain⟨h,hh⟩:∃h,(i+j) / 2=h:=⟨_,rfl⟩
  have e3:tB .u64 ((i:Int)+j) 1=(h:Int):=by rw [show(i:Int)+j=((i+j:Nat):Int) by omega,hsh (i+j) (by omega),hh]
  have e4:IntKind.wrap .i64 (h:Int)=h:=aK (by omega) (by omega);have e5:=wi ((h:Int)+1);have hM:IntKind.wrap .i64 (tB .u64 (IntKind.wrap .u64 ((i:Int)+j)) 1)=(h:Int):=by rw [e2,e3,e4]
  have v3:h<l.length:=by omega
  obtain⟨y,hy,hy'⟩:=aM v3;have gy:l.getD h 0=y:=by simp [List.getD,hy]
  by_cases v9:y<x
  ·simp -dsimp [zo];repeat' first|omega|simp -dsimp [aAV,zo,e1,hM,e5,v3,hy,hy',qG,v9]|apply aI|apply nI|intro
   refine⟨⟨h+1,j,by omega,jl,fun t ht=>?_,hi⟩,ag rfl ?_,bA.refl _,by simp only;omega⟩
   ·have:=hs t h (by omega) v3;omega
   ·simp [aj,aT]
  ·have aoM:(y<x)=False:=eq_false v9;simp -dsimp [zo];repeat' first|omega|simp -dsimp [aAV,zo,e1,hM,e5,v3,hy,hy',qG,aoM]|apply aI|apply nI|intro
   refine⟨⟨i,h,by omega,by omega,lo,fun t ht vd=>?_⟩,ag rfl ?_,bA.refl _,by simp only;omega⟩
   ·have:=hs h t ht vd;omega
   ·simp [aj,aT]
 ·have vr:i=j:=by omega
  subst vr;have hn:=aep jl lo hi;have zo:((i:Int)<i)=False:=eq_false (by omega);by_cases tf:i<l.length
  ·have Zy:((i:Int)<l.length)=True:=eq_true (by omega);obtain⟨y,hy,hy'⟩:=aM tf;have hf:bsF l x=decide (y=x):=(by simp [bsF,hn,tf,List.getD,hy,hy']);by_cases v4:y=x
   ·have hf':bsF l x=true:=(by rw [hf];simp [v4]);simp -dsimp [zo];repeat' first|omega|simp -dsimp [aAV,zo,Zy,tf,hy,hy',v4,hn,hf',qF]|apply aI|apply nI|intro
   ·have aoN:(y=x)=False:=eq_false v4;have hf':bsF l x=false:=(by rw [hf];simp [v4]);simp -dsimp [zo];repeat' first|omega|simp -dsimp [aAV,zo,Zy,tf,hy,hy',aoN,hn,hf',qF]|apply aI|apply nI|intro
  ·have Zy:((i:Int)<l.length)=False:=eq_false (by omega);have hf':bsF l x=false:=(by simp [bsF,hn,tf]);simp -dsimp [zo];repeat' first|omega|simp -dsimp [aAV,zo,Zy,tf,hn,hf',qF]|apply aI|apply nI|intro
theorem aBV:FO 296 bsS:=pf aB8 (.cons abF (.cons aBU .nil))
def dD(l:List Int)(x:Int):Nat:=Ui ((l.drop 1).take (l.length - 2)) x
theorem Zz{l:List Int}(h:xH l=true):T4 l:=by
 intro i hi;simp only [xH,Bool.and_eq_true,List.all_eq_true]at h;have:=h.2 (i+1) (by simpa using hi);simp only [zn,Bool.and_eq_true,Bool.or_eq_true,decide_eq_true_eq,Nat.add_sub_cancel]at this;rcases this.2 with h1|h1
 ·omega
 ·have:1<=l.getD (i+1) 0 - l.getD i 0/\l.getD (i+1) 0 - l.getD i 0<=10000:=by simpa [au]using h1
  omega
theorem nU{l:List Int}{i:Nat}(hi:i<l.length - 2):((l.drop 1).take (l.length - 2)).getD i 0=l.getD (i+1) 0:=by simp only [List.getD];rw [List.getElem?_take_of_lt hi,List.getElem?_drop,Nat.add_comm 1 i]
theorem qH{l:List Int}(h:2<=l.length):((l.drop 1).take (l.length - 2)).length=l.length - 2:=by simp;omega
theorem Uj(l:List Int)(x:Int):Ui l x<=l.length:=List.findIdx_le_length
theorem Dx{l:List Int}(h:2<=l.length)(x:Int):dD l x+1<l.length:=by have:=Uj ((l.drop 1).take (l.length - 2)) x;rw [qH h]at this;unfold dD;omega
noncomputable abbrev aeq:aB:=bS Pa (fun d=>xH d.1=true) fun d=>.int .i64 (dD d.1 d.2:Nat)
noncomputable abbrev aBL:=EV [(296,.pure bsS)] [] 28100 18
theorem aB9:af aBL [] Tryz.f281 aeq:=pb <| by
 rintro⟨l,x⟩ Dy;have Dy:xH l=true:=Dy;have hl:=jN Dy;have aoP:=Zz Dy;have wl:IntKind.wrap .i64 ((l.length:Int) - 1)=(l.length - 1:Nat):=by rw [aK (by omega) (by omega)];omega
 have hP:BsP ((l.drop 1).take (l.length - 2),x):=⟨by simp only;rw [qH hl.1];omega,fun i j vW hj=>by simp only at hj ⊢;rw [qH hl.1]at hj;rw [nU (by omega),nU (by omega)];exact T6 aoP (by omega) (by omega)⟩
 have hd:=nT ((l.drop 1).take (l.length - 2)) x;have hm:List.take (l.length - 1 - 1) (l.map ri).tail=((l.drop 1).take (l.length - 2)).map ri:=by rw [show(l.map ri).tail=(l.drop 1).map ri by simp,<-List.map_take,show l.length - 1 - 1=l.length - 2 by omega]
 have hc:dD l x=Ui ((l.drop 1).take (l.length - 2)) x:=rfl;generalize (l.drop 1).take (l.length - 2)=T at *;simp -dsimp [Tryz.f281,aBL];repeat' first|omega|simp -dsimp [aBL,hl,wl,hP,hd,hm,hc]|apply aI|apply nI|intro
theorem aBW:FO 281 aeq:=pf aB9 (.cons aBV .nil)
theorem zA(m w:Int)(hw:0<w):(if m.tmod w<0 then m.tdiv w - 1 else m.tdiv w)=m / w:=by
 rcases Int.le_total 0 m with h|h
 ·rw [Int.tdiv_eq_ediv_of_nonneg h,Int.tmod_eq_emod_of_nonneg h,if_neg (by have:=Int.emod_nonneg m (Int.ne_of_gt hw);omega)]
 ·obtain⟨k,rfl⟩:∃k,m = -k:=⟨-m,by omega⟩
  have hk:0<=k:=by omega
  rw [Int.neg_tmod,Int.neg_tdiv,Int.tdiv_eq_ediv_of_nonneg hk,Int.tmod_eq_emod_of_nonneg hk];have e:=Int.mul_ediv_add_emod k w;have e2:=Int.emod_nonneg k (Int.ne_of_gt hw);have e3:=Int.emod_lt_of_pos k hw;generalize k / w=q at *;generalize k % w=t at *;split
  ·rename_i h0;symm;rw [Int.ediv_eq_iff_of_pos hw];rw [Int.sub_mul,Int.neg_mul,Int.mul_comm q w];omega
  ·symm;rw [Int.ediv_eq_iff_of_pos hw];rw [Int.neg_mul,Int.mul_comm q w];omega
structure Bd (m:Int):Prop where
 lo : -1000000000000000000<=m
 hi:m<=1000000000000000000
theorem LQ{m w:Int}(hw:0<w)(hm:Bd m):Bd (m / w):=by
 obtain⟨h1,h2⟩:=hm;rcases Int.le_total 0 m with h|h
 ·have h1:=Int.ediv_nonneg h (Int.le_of_lt hw);have h2:=Int.ediv_le_self w h;exact⟨by omega,by omega⟩
 ·have h1:m / w<=0:=by have:=Int.ediv_le_ediv hw h;simpa using this
  have h2:m<=m / w:=by rw [Int.le_ediv_iff_mul_le hw];have:=Int.mul_le_mul_of_nonpos_left (a:=m) (b:=w) (c:=1) h (by omega);omega
  exact⟨by omega,by omega⟩
structure KD (d:Int × Int):Prop where
 n:Bd d.1
 w:0<d.2
noncomputable abbrev UH:aB:=bS i2E KD fun d=>.int .i64 (d.1 / d.2)
noncomputable abbrev ae3:aB:=bS i2E KD fun d=>.int .i64 (-(-d.1 / d.2))
noncomputable abbrev aey:=EV [] [] 12600 16
theorem aoV:af aey [] Tryz.f126 UH:=pb <| by
 rintro⟨m,w⟩ ⟨hm,hw⟩;simp only at hm hw;have hf:=zA m w hw;have hb:=LQ hw hm;obtain⟨b1,b2⟩:=hb;have va:(w=0)=False:=eq_false (by omega);generalize hq:m / w=q at *;generalize ht:m.tdiv w=t at *;generalize hu:m.tmod w=u at *;by_cases h0:u<0
 ·rw [if_pos h0]at hf;have w1:IntKind.wrap .i64 t=t:=aK (by omega) (by omega);have w2:IntKind.wrap .i64 (t - 1)=q:=by rw [aK (by omega) (by omega)];exact hf
  simp -dsimp [Tryz.f126,aey];repeat' first|omega|simp -dsimp [aey,va,ht,hu,hq,w1,w2,h0]|apply aI|apply nI|intro
 ·rw [if_neg h0]at hf;have w1:IntKind.wrap .i64 t=t:=aK (by omega) (by omega);have h0':(u<0)=False:=eq_false h0;subst hf;simp -dsimp [Tryz.f126,aey];repeat' first|omega|simp -dsimp [aey,va,ht,hu,hq,w1,h0']|apply aI|apply nI|intro
theorem aj5:FO 126 UH:=pf aoV .nil
noncomputable abbrev RQ:=EV [(126,.pure UH)] [] 18700 10
theorem am0:af RQ [] Tryz.f187 ae3:=pb <| by
 rintro⟨m,w⟩ ⟨⟨h1,h2⟩,hw⟩;simp only at h1 h2 hw;have w1:=wi (-m);have hP:KD (-m,w):=⟨⟨by simp only;omega,by simp only;omega⟩,hw⟩
 obtain⟨b1,b2⟩:=LQ hw hP.n;simp only at b1 b2;generalize hq : -m / w=q at *;have w2:=wi (-q);simp -dsimp [Tryz.f187,RQ];repeat' first|omega|simp -dsimp [RQ,w1,hP,hq,w2,qG]|apply aI|apply nI|intro
theorem aiA:FO 187 ae3:=pf am0 (.cons aj5 .nil)
@[simp] def vaE(d:Int × Int):List V:=[.agg [.int .i64 d.1,.int .i64 d.2]]
theorem Z0(a b:Int × Int)(h:vaE a=vaE b):a=b:=by simp only [vaE,List.cons.injEq,V.agg.injEq,V.int.injEq,true_and,and_true]at h;exact Prod.ext h.1 h.2
theorem ZS(a b:Int):aY vaE [.agg [.int .i64 a,.int .i64 b]]=(a,b):=aA Z0 (a,b)
noncomputable abbrev upS:aB:=bS vaE KD fun d=>.int .i64 (-(-d.1 / d.2))
noncomputable abbrev aeD:=EV [(187,.pure ae3)] [] 12700 8
theorem ao6:af aeD [] Tryz.f127 upS:=pb <| by rintro⟨m,w⟩ hP;simp -dsimp [Tryz.f127,aeD];repeat' first|omega|simp -dsimp [aeD,hP,qG]|apply aI|apply nI|intro
theorem akf:FO 127 upS:=pf ao6 (.cons aiA .nil)
@[simp] def twE(d:Int × Int):List V:=[.sl 1 [[.int .i64 d.1],[.int .i64 d.2]]]
theorem Z1(a b:Int × Int)(h:twE a=twE b):a=b:=by simp only [twE,List.cons.injEq,V.sl.injEq,V.int.injEq,true_and,and_true]at h;exact Prod.ext h.1 h.2
theorem Z2(a b:Int):aY twE [.sl 1 [[.int .i64 a],[.int .i64 b]]]=(a,b):=aA Z1 (a,b)
noncomputable abbrev orS:aB:=bS twE (fun _=>True) fun d=>.int .i64 (if d.1=0 then d.2 else d.1)
structure OrI (a b:Int) where
 k:Nat
 le:k<=2
 h1:1<=k->a=0
 h2:2<=k->b=0
noncomputable abbrev ac8:=EV [] [] 15300 18
theorem ano:af ac8 [] Tryz.f153 orS:=pb <| by
 rintro⟨a,b⟩ _;have w1:IntKind.wrap .i64 1=1:=aK (by omega) (by omega);have w2:IntKind.wrap .i64 (1+1)=2:=aK (by omega) (by omega);have w3:IntKind.wrap .i64 2=2:=aK (by omega) (by omega);simp -dsimp [Tryz.f153,ac8];refine ay [9,10,11,5,12,13,14,15,2,16,8] (fun s:OrI a b=>[(8,(true,.int .i64 (s.k:Nat)))]) (fun _=>cg) (fun s=>2 - s.k) ⟨0,by omega,fun h=>absurd h (by omega),fun h=>absurd h (by omega)⟩ ?_ (bA.refl _) ?_
 ·simp [aj,aT]
 rintro⟨k,le,h1,h2⟩;simp only;rcases(by omega:k=0\/k=1\/k=2)with rfl|rfl|rfl
 ·by_cases h:a=0
  ·subst h;simp -dsimp [];repeat' first|omega|simp -dsimp [ac8,w1]|apply aI|apply nI|intro
   refine⟨⟨1,by omega,fun _=>rfl,fun h=>absurd h (by omega)⟩,ag rfl ?_,bA.refl _,by simp⟩;simp [aj,aT]
  ·have h':(a=0)=False:=eq_false h;simp -dsimp [];repeat' first|omega|simp -dsimp [ac8,w1,h']|apply aI|apply nI|intro
 ·have ha:=h1 (by omega);subst ha;by_cases h:b=0
  ·subst h;simp -dsimp [];repeat' first|omega|simp -dsimp [ac8,w1,w2,w3]|apply aI|apply nI|intro
   refine⟨⟨2,by omega,fun _=>rfl,fun _=>rfl⟩,ag rfl ?_,bA.refl _,by simp⟩;simp [aj,aT]
  ·have h':(b=0)=False:=eq_false h;simp -dsimp [];repeat' first|omega|simp -dsimp [ac8,w1,h']|apply aI|apply nI|intro
 ·have ha:=h1 (by omega);have hb:=h2 (by omega);subst ha hb;simp -dsimp [];repeat' first|omega|simp -dsimp [ac8, *]|apply aI|apply nI|intro
theorem aiu:FO 153 orS:=pf ano .nil
end Go.Sx.y9
end
end
