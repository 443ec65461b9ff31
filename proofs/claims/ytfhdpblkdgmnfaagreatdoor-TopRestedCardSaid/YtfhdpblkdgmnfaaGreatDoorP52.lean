/- A part of a proof; no conditions. -/
import Derived.Test.YtfhdpblkdgmnfaaGreatDoorP08
import Derived.Test.YtfhdpblkdgmnfaaGreatDoorP10
set_option linter.unusedSimpArgs false
set_option linter.unusedVariables false
set_option linter.unusedSectionVars false
set_option maxRecDepth 100000
set_option maxHeartbeats 8000000
noncomputable section
section
namespace Go.Sx
structure Tb where
 xs:List Int
 ys:List Int
 vs:List (List Int)
deriving Inhabited
def T4 (l:List Int):Prop:=∀i,i+1<l.length→l.getD i 0<l.getD (i+1) 0
theorem T5 {l:List Int} (h:T4 l) {i k:Nat} (hik:i<k) (hk:k<l.length):l.getD i 0<l.getD k 0:=by
 induction k with
 | zero=>omega
 | succ k ih=>
  have h1:=h k (by omega)
  by_cases e:i=k
  ·subst e; exact h1
  ·have:=ih (by omega) (by omega); omega
theorem T6 {l:List Int} (h:T4 l) {i k:Nat} (hik:i≤k) (hk:k<l.length):l.getD i 0≤l.getD k 0:=by
 by_cases e:i=k
 ·subst e; exact Int.le_refl _
 ·exact Int.le_of_lt (T5 h (by omega) hk)
def Lx (l:List Int) (i:Nat) (x:Int):Prop:=i+1<l.length∧l.getD i 0≤x∧x≤l.getD (i+1) 0
theorem mY {l:List Int} (h:T4 l) {i k:Nat} {x:Int} (hi:Lx l i x) (hk:Lx l k x) (hik:i<k):k=i+1∧x=l.getD k 0:=by
 obtain⟨a1,a2,a3⟩:=hi; obtain⟨b1,b2,b3⟩:=hk
 have h1:=T6 h (show i+1≤k by omega) (by omega)
 have h2:l.getD (i+1) 0=l.getD k 0:=by omega
 by_cases e:k=i+1
 ·subst e; exact⟨rfl,by omega⟩
 ·have:=T5 h (show i+1<k by omega) (by omega); omega
def Tb.v (t:Tb) (i k:Nat):Int:=(t.vs.getD i []).getD k 0
def Tb.num (t:Tb) (i k:Nat) (x y:Int):Int:=
 (t.xs.getD (i+1) 0 - x) * (t.ys.getD (k+1) 0 - y) * t.v i k+(x - t.xs.getD i 0) * (t.ys.getD (k+1) 0 - y) * t.v (i+1) k
  + (t.xs.getD (i+1) 0 - x) * (y - t.ys.getD k 0) * t.v i (k+1)+(x - t.xs.getD i 0) * (y - t.ys.getD k 0) * t.v (i+1) (k+1)
def Tb.den (t:Tb) (i k:Nat):Int:=(t.xs.getD (i+1) 0 - t.xs.getD i 0) * (t.ys.getD (k+1) 0 - t.ys.getD k 0)
theorem Lz {l:List Int} (h:T4 l) {i:Nat} {x:Int} (hi:Lx l i x):0<l.getD (i+1) 0 - l.getD i 0:=by
 have:=h i hi.1; omega
theorem Tb.den_pos {t:Tb} (hx:T4 t.xs) (hy:T4 t.ys) {i k:Nat} {x y:Int} (hi:Lx t.xs i x) (hk:Lx t.ys k y):0<t.den i k:=
 Int.mul_pos (Lz hx hi) (Lz hy hk)
theorem Tb.T7 {t:Tb} (hx:T4 t.xs) {i k:Nat} {x y:Int} (hi:Lx t.xs i x) (hi':Lx t.xs (i+1) x):t.num i k x y * t.den (i+1) k=t.num (i+1) k x y * t.den i k:=by
 have e:=(mY hx hi hi' (by omega)).2
 subst e
 unfold Tb.num Tb.den
 generalize t.xs.getD (i+1+1) 0=X2
 generalize t.xs.getD (i+1) 0=X1
 generalize t.xs.getD i 0=X0
 generalize t.ys.getD (k+1) 0=Y1
 generalize t.ys.getD k 0=Y0
 grind
theorem Tb.T8 {t:Tb} (hy:T4 t.ys) {i k:Nat} {x y:Int} (hi:Lx t.ys k y) (hi':Lx t.ys (k+1) y):t.num i k x y * t.den i (k+1)=t.num i (k+1) x y * t.den i k:=by
 have e:=(mY hy hi hi' (by omega)).2
 subst e
 unfold Tb.num Tb.den
 generalize t.ys.getD (k+1+1) 0=Y2
 generalize t.ys.getD (k+1) 0=Y1
 generalize t.ys.getD k 0=Y0
 generalize t.xs.getD (i+1) 0=X1
 generalize t.xs.getD i 0=X0
 grind
theorem Tb.same {t:Tb} (hx:T4 t.xs) (hy:T4 t.ys) {i k i' k':Nat} {x y:Int} (hi:Lx t.xs i x) (hk:Lx t.ys k y) (hi':Lx t.xs i' x) (hk':Lx t.ys k' y) :
  t.num i k x y * t.den i' k'=t.num i' k' x y * t.den i k:=by
 have sx:∀k,t.num i k x y * t.den i' k=t.num i' k x y * t.den i k:=by
  intro k
  rcases Nat.lt_trichotomy i i' with h|h|h
  ·obtain⟨rfl,_⟩:=mY hx hi hi' h
   exact Tb.T7 hx hi hi'
  ·subst h; rfl
  ·obtain⟨rfl,_⟩:=mY hx hi' hi h
   exact(Tb.T7 hx hi' hi).symm
 have sy:t.num i' k x y * t.den i' k'=t.num i' k' x y * t.den i' k:=by
  rcases Nat.lt_trichotomy k k' with h|h|h
  ·obtain⟨rfl,_⟩:=mY hy hk hk' h
   exact Tb.T8 hy hk hk'
  ·subst h; rfl
  ·obtain⟨rfl,_⟩:=mY hy hk' hk h
   exact(Tb.T8 hy hk' hk).symm
 have p1:=Tb.den_pos hx hy hi' hk
 have e1:=sx k
 have hc:t.den i' k * (t.num i k x y * t.den i' k')=t.den i' k * (t.num i' k' x y * t.den i k):=by
  have a1:t.den i' k * (t.num i k x y * t.den i' k')=(t.num i k x y * t.den i' k) * t.den i' k':=by grind
  have a2:t.den i' k * (t.num i' k' x y * t.den i k)=(t.num i' k' x y * t.den i' k) * t.den i k:=by grind
  rw [a1,a2,e1,←sy]; grind
 exact Int.eq_of_mul_eq_mul_left (by omega) hc
def stops (l:List Int) (a:Sp):List Int:=a.lo::(l.filter fun x=>decide (a.lo<x∧x<a.hi))++if a.lo<a.hi then [a.hi]else []
def ajR (l:List Int) (a:Sp):Prop:=l.getD 0 0≤a.lo∧a.hi≤l.getD (l.length - 1) 0
theorem NT {l:List Int} {a:Sp} {x:Int} (hlh:a.lo≤a.hi):x∈stops l a↔x=a.lo∨x=a.hi∨(x∈l∧a.lo<x∧x<a.hi):=by
 unfold stops
 by_cases h:a.lo<a.hi
 ·simp [h]; constructor
  ·rintro(h|h|h)
   ·exact .inl h
   ·exact .inr (.inr h)
   ·exact .inr (.inl h)
  ·rintro(h|h|h)
   ·exact .inl h
   ·exact .inr (.inr h)
   ·exact .inr (.inl h)
 ·simp [h]; constructor
  ·rintro(h|h)
   ·exact .inl h
   ·exact .inr (.inr h)
  ·rintro(h|h|h)
   ·exact .inl h
   ·exact .inl (by omega)
   ·exact .inr h
theorem FL {l:List Int} {a:Sp} {x:Int} (hlh:a.lo≤a.hi) (h:x∈stops l a):a.lo≤x∧x≤a.hi:=by
 rcases(NT hlh).1 h with h|h|⟨_,h⟩<;>omega
end Go.Sx
end
section
namespace Go.Sx.y9
open Go.Proofs Go.Sx
attribute [local irreducible] bA
attribute [local simp] aG
theorem aM {α:Type} {l:List α} {k:Nat} (h:k<l.length):∃a,l[k]?=some a∧l[k]=a:=⟨_,List.getElem?_eq_getElem h,rfl⟩
theorem zm (a b:Int) (h:ri a=ri b):a=b:=by simpa [ri]using h
theorem jk (a b:List Int) (h:ints a=ints b):a=b:=by
 simp only [ints,V.sl.injEq,true_and]at h
 exact aR zm h
def rwI (l:List Int):List V:=[ints l]
theorem LA (a b:List Int) (h:rwI a=rwI b):a=b:=jk _ _ (by simpa [rwI]using h)
def eO (t:Tb):List V:=[ints t.xs,ints t.ys,.sl 1 (t.vs.map rwI)]
theorem mZ (a b:Tb) (h:eO a=eO b):a=b:=by
 obtain⟨a1,a2,a3⟩:=a; obtain⟨b1,b2,b3⟩:=b
 simp only [eO,List.cons.injEq,V.sl.injEq,true_and,and_true]at h
 rw [jk _ _ h.1,jk _ _ h.2.1,aR LA h.2.2]
@[simp] def i1E (d:Int):List V:=[.int .i64 d]
theorem Zq (a b:Int) (h:i1E a=i1E b):a=b:=by simpa using h
theorem qF (n:Int):aY i1E [.int .i64 n]=n:=aA Zq n
def oB (n:Int):Bool:=!au n (-1000000) 1000000
noncomputable abbrev T9:aB:=bS i1E (fun _=>True) fun n=>.bool (oB n)
noncomputable abbrev aeh:Env:={P:=Tryz.prog,fn:=bf [(162,.pure bF)],own:=[],key:=16100,nt:=6}
theorem aoC:af aeh [] Tryz.f161 T9:=pb <| by
 rintro n _
 simp -dsimp [Tryz.f161,aeh]
 repeat' (first|omega|simp -dsimp [aeh,ri,aa,ints,oB]|apply aI|refine oI fun _=>?_|apply nI)
theorem Ua:FO 161 T9:=pf aoC (.cons LB .nil)
@[simp] def BC (d:List Int):List V:=[.sl 1 (d.map ri),.fn 161 []]
theorem NU (a b:List Int) (h:BC a=BC b):a=b:=by
 simp only [BC,List.cons.injEq,V.sl.injEq,true_and,and_true]at h
 exact aR zm h
theorem vk (l:List Int):aY BC [.sl 1 (l.map ri),.fn 161 []]=l:=aA NU l
noncomputable abbrev IQ:aB:=bS BC (fun d=>d.length≤1000000) fun d=>.int .i64 (eB d oB)
noncomputable abbrev IU:aB:=bS BC (fun d=>d.length≤1000000) fun d=>.bool (d.any oB)
noncomputable abbrev lu:Env:={P:=Tryz.prog,fn:=bf [(161,.pure T9)],own:=[],key:=13300,nt:=19}
theorem He:af lu [] Tryz.f133 IQ:=pb <| by
 rintro l hl
 have hl:l.length≤1000000:=hl
 simp -dsimp [Tryz.f133,lu]
 refine ay [9,10,5,11,12,13,14,15,16,17,4,18,8] (fun k:{k:Nat // k≤l.length∧∀j (h:j<l.length),j<k→oB l[j]=false}=>[(8,(true,.int .i64 k.1))]) (fun _=>cg) (fun k=>l.length - k.1) ⟨0,by omega,fun _ _ h=>by omega⟩ ?_ (bA.refl _) ?_
 ·simp [aj,aT]
 rintro⟨k,hk,hall⟩
 by_cases aH:k<l.length
 ·have hki:(k:Int)<l.length:=by omega
  have wk:=wx k
  cases hw:oB l[k]
  ·simp -dsimp [hki]
   repeat' (first|omega|simp -dsimp [lu,ri,aa,ints,hki,aH,hl,hw,wk,qF]|apply aI|refine oI fun _=>?_|apply nI)
   refine⟨k+1,ag rfl ?_,bA.refl _,⟨by omega,fun j h hj=>?_⟩,by omega⟩
   ·simp [aj,aT]
   ·by_cases hjk:j=k
    ·subst hjk; exact hw
    ·exact hall j h (by omega)
  ·have hz:=cW l oB aH hw hall
   simp -dsimp [hki]
   repeat' (first|omega|simp -dsimp [lu,ri,aa,ints,hki,aH,hl,hw,wk,hz,qF]|apply aI|refine oI fun _=>?_|apply nI)
 ·have hkn:¬ (k:Int)<l.length:=by omega
  have hz:=bP l oB (fun j h=>hall j h (by omega))
  simp -dsimp [hkn]
  repeat' (first|omega|simp -dsimp [lu,ri,aa,ints,hkn,hz]|apply aI|refine oI fun _=>?_|apply nI)
theorem ya:FO 133 IQ:=pf He (.cons Ua .nil)
noncomputable abbrev Hf:Env:={P:=Tryz.prog,fn:=bf [(133,.pure IQ)],own:=[],key:=6600,nt:=9}
theorem b66:af Hf [] Tryz.f66 IU:=pb <| by
 rintro l hl
 have hl:l.length≤1000000:=hl
 have hz:=cO l oB
 simp -dsimp [Tryz.f66,Hf]
 repeat' (first|omega|simp -dsimp [Hf,ri,aa,ints,hl,vk,hz]|apply aI|refine oI fun _=>?_|apply nI)
theorem Hg:FO 66 IU:=pf b66 (.cons ya .nil)
@[simp] def inE (d:List Int):List V:=[ints d]
theorem Zr (a b:List Int) (h:inE a=inE b):a=b:=jk _ _ (by simpa using h)
theorem tS (l:List Int):aY inE [.sl 1 (l.map ri)]=l:=aA Zr l
def zn (l:List Int) (i:Nat):Bool:=!oB (l.getD i 0) && (decide (i=0) || au (l.getD i 0 - l.getD (i - 1) 0) 1 10000)
def xH (l:List Int):Bool:=au l.length 2 12 && (List.range l.length).all (zn l)
theorem xI {l:List Int} {k:Nat} {x y:Int} (gx:l.getD k 0=x) (gy:l.getD (k - 1) 0=y):zn l k=(!oB x && (decide (k=0) || au (x - y) 1 10000)):=by subst gx gy; rfl
theorem Ub {l:List Int} {k:Nat} (hk:k<l.length) (h:zn l k=false):xH l=false:=by
 rw [xH,Bool.and_eq_false_iff]
 right
 rw [List.all_eq_false]
 exact⟨k,by simpa using hk,by simp [h]⟩
theorem aei {l:List Int} (h1:au l.length 2 12=true) (h:∀j,j<l.length→zn l j=true):xH l=true:=by
 rw [xH,h1,Bool.true_and,List.all_eq_true]
 intro j hj
 exact h j (by simpa using hj)
noncomputable abbrev axS:aB:=bS inE (fun l=>l.length≤9223372036854775807) fun l=>.bool (xH l)
noncomputable abbrev AH:Env:={P:=Tryz.prog,fn:=bf [(162,.pure bF)],own:=[],key:=16400,nt:=35}
theorem aoD:af AH [] Tryz.f164 axS:=pb <| by
 rintro l hl
 have hl:l.length≤9223372036854775807:=hl
 cases h1:au l.length 2 12
 ·have hz:xH l=false:=by simp [xH,h1]
  simp -dsimp [Tryz.f164,AH]
  repeat' (first|omega|simp -dsimp [AH,ri,aa,ints,hl,h1,hz]|apply aI|refine oI fun _=>?_|apply nI)
 have h12:2≤(l.length:Int)∧(l.length:Int)≤12:=by simpa [au]using h1
 simp -dsimp [Tryz.f164,AH]
 repeat' (first|omega|simp -dsimp [AH,ri,aa,ints,hl,h1]|apply aI|refine oI fun _=>?_|apply nI)
 refine ay [12,13,14,15,3,4,16,17,18,19,20,21,22,23,24,25,26,27,28,29,30,31,32,33,2,34,11] (fun k:{k:Nat // k≤l.length∧∀j,j<k→zn l j=true}=>[(11,(true,.int .i64 k.1))]) (fun _=>cg) (fun k=>l.length - k.1) ⟨0,by omega,fun _ h=>by omega⟩ ?_ (bA.refl _) ?_
 ·simp [aj,aT]
 rintro⟨k,hk,hall⟩
 dsimp only
 by_cases aH:k<l.length
 ·have hki:((k:Int)<l.length)=True:=eq_true (by omega)
  have wk:=wx k
  obtain⟨x,hx,hx'⟩:=aM aH
  have gx:l.getD k 0=x:=by simp [List.getD,hx]
  cases hf:au x (-1000000) 1000000
  ·have hz:=Ub aH (by rw [xI gx rfl]; simp [oB,hf])
   simp -dsimp [hki]
   repeat' (first|omega|simp -dsimp [AH,ri,aa,ints,hki,aH,hx,hx',hf,hz]|apply aI|refine oI fun _=>?_|apply nI)
  ·have hfx : -1000000≤x∧x≤1000000:=by simpa [au]using hf
   by_cases kW:k=0
   ·have ha:zn l k=true:=by rw [xI gx rfl]; simp [oB,hf,kW]
    have Zs:((0:Int)<k)=False:=eq_false (by omega)
    have Zt:(0<k)=False:=eq_false (by omega)
    simp -dsimp [hki]
    repeat' (first|omega|simp -dsimp [AH,ri,aa,ints,hki,aH,hx,hx',hf,Zs,Zt,wk]|apply aI|refine oI fun _=>?_|apply nI)
    refine⟨k+1,ag rfl ?_,bA.refl _,⟨by omega,fun j hj=>?_⟩,by omega⟩
    ·simp [aj,aT]
    ·have:j=k:=by omega
     subst this; exact ha
   ·have Zs:((0:Int)<k)=True:=eq_true (by omega)
    have Zt:(0<k)=True:=eq_true (by omega)
    have wkm:IntKind.wrap .i64 ((k:Int) - 1)=(k - 1:Nat):=by rw [aK (by omega) (by omega)]; omega
    have hkm:k - 1<l.length:=by omega
    obtain⟨y,hy,hy'⟩:=aM hkm
    have gy:l.getD (k - 1) 0=y:=by simp [List.getD,hy]
    have hyr : -1000000≤y∧y≤1000000:=by
     have:=hall (k - 1) (by omega)
     simp only [zn,gy,oB,Bool.and_eq_true,Bool.not_not]at this
     simpa [au]using this.1
    have wxy:=wi (x - y)
    cases hd:au (x - y) 1 10000
    ·have hz:=Ub aH (by rw [xI gx gy]; simp [hd,kW])
     simp -dsimp [hki]
     repeat' (first|omega|simp -dsimp [AH,ri,aa,ints,hki,aH,hx,hx',hf,Zs,Zt,wkm,hkm,hy,hy',wxy,hd,hz]|apply aI|refine oI fun _=>?_|apply nI)
    ·have ha:zn l k=true:=by rw [xI gx gy]; simp [hd,oB,hf]
     simp -dsimp [hki]
     repeat' (first|omega|simp -dsimp [AH,ri,aa,ints,hki,aH,hx,hx',hf,Zs,Zt,wkm,hkm,hy,hy',wxy,hd,wk]|apply aI|refine oI fun _=>?_|apply nI)
     refine⟨k+1,ag rfl ?_,bA.refl _,⟨by omega,fun j hj=>?_⟩,by omega⟩
     ·simp [aj,aT]
     ·by_cases e:j=k
      ·subst e; exact ha
      ·exact hall j (by omega)
 have hkn:((k:Int)<l.length)=False:=eq_false (by omega)
 have hz:=aei h1 fun j hj=>hall j (by omega)
 simp -dsimp [hkn]
 repeat' (first|omega|simp -dsimp [AH,ri,aa,ints,hkn,hz]|apply aI|refine oI fun _=>?_|apply nI)
theorem ajS:FO 164 axS:=pf aoD (.cons LB .nil)
structure TrD where
 t:Tb
 r:List Int
 deriving Inhabited
def vl (t:Tb):V:=.ip 3 [eO t] 0 0
def Uc:V:=.ip 1 [[.fn 161 []]] 0 0
@[simp] def Ws (d:TrD):List V:=[ints d.r,vl d.t,Uc]
theorem K3 (a b:TrD) (h:Ws a=Ws b):a=b:=by
 obtain⟨a1,a2⟩:=a; obtain⟨b1,b2⟩:=b
 simp only [Ws,List.cons.injEq,vl,V.ip.injEq,true_and,and_true]at h
 rw [mZ _ _ h.2,jk _ _ h.1]
theorem LD (t:Tb) (r:List Int):aY Ws [.sl 1 (r.map ri),.ip 3 [[.sl 1 (t.xs.map ri),.sl 1 (t.ys.map ri),.sl 1 (t.vs.map rwI)]] 0 0,.ip 1 [[.fn 161 []]] 0 0]=⟨t,r⟩:=aA K3 ⟨t,r⟩
def jG (t:Tb) (r:List Int):Bool:=!decide (r.length=t.ys.length) || r.any oB
noncomputable abbrev trS:aB:=bS Ws (fun d=>d.t.ys.length≤1000000) fun d=>.bool (jG d.t d.r)
noncomputable abbrev Ud:Env:={P:=Tryz.prog,fn:=bf [(66,.pure IU),(161,.pure T9)],own:=[],key:=16300,nt:=16}
theorem aoE:af Ud [] Tryz.f163 trS:=pb <| by
 rintro⟨t,r⟩ hl
 have hl:t.ys.length≤1000000:=hl
 by_cases h:r.length=t.ys.length
 ·have hi:(r.length:Int)=t.ys.length:=by omega
  simp -dsimp [Tryz.f163,Ud,vl,eO,Uc]
  repeat' (first|omega|simp -dsimp [Ud,ri,aa,ints,hl,h,hi,eO,vk,jG]|apply aI|refine oI fun _=>?_|apply nI)
 ·have hi:((r.length:Int)=t.ys.length)=False:=eq_false (by omega)
  simp -dsimp [Tryz.f163,Ud,vl,eO,Uc]
  repeat' (first|omega|simp -dsimp [Ud,ri,aa,ints,hl,h,hi,eO,vk,jG]|apply aI|refine oI fun _=>?_|apply nI)
theorem aby:FO 163 trS:=pf aoE (.cons Hg (.cons Ua .nil))
end Go.Sx.y9
end
section
namespace Go.Sx.y9
open Go.Proofs Go.Sx
attribute [local irreducible] bA
attribute [local simp] aG
structure TvD where
 t:Tb
 l:List (List Int)
 deriving Inhabited
@[simp] def tvE (d:TvD):List V:=[.sl 1 (d.l.map rwI),.fn 163 [vl d.t,Uc]]
theorem Zu (a b:TvD) (h:tvE a=tvE b):a=b:=by
 obtain⟨a1,a2⟩:=a; obtain⟨b1,b2⟩:=b
 simp only [tvE,List.cons.injEq,vl,V.fn.injEq,V.ip.injEq,V.sl.injEq,true_and,and_true]at h
 rw [mZ _ _ h.2,aR LA h.1]
theorem Dv (t:Tb) (l:List (List Int)):aY tvE [.sl 1 (l.map rwI),.fn 163 [.ip 3 [[.sl 1 (t.xs.map ri),.sl 1 (t.ys.map ri),.sl 1 (t.vs.map rwI)]] 0 0,.ip 1 [[.fn 161 []]] 0 0]]=⟨t,l⟩:=aA Zu ⟨t,l⟩
structure TvP (d:TvD):Prop where
 y:d.t.ys.length≤1000000
 n:d.l.length≤1000000
noncomputable abbrev aej:aB:=bS tvE TvP fun d=>.int .i64 (eB d.l (jG d.t))
noncomputable abbrev aek:aB:=bS tvE TvP fun d=>.bool (d.l.any (jG d.t))
noncomputable abbrev Ue:Env:={P:=Tryz.prog,fn:=bf [(163,.pure trS)],own:=[],key:=22600,nt:=19}
theorem aoF:af Ue [] Tryz.f226 aej:=pb <| by
 rintro⟨t,l⟩ ⟨hy,hl⟩
 simp only at hy hl
 simp -dsimp [Tryz.f226,Ue,vl,Uc,eO]
 refine ay [9,10,5,11,12,13,14,15,16,17,4,18,8] (fun k:{k:Nat // k≤l.length∧∀j (h:j<l.length),j<k→jG t l[j]=false}=>[(8,(true,.int .i64 k.1))]) (fun _=>cg) (fun k=>l.length - k.1) ⟨0,by omega,fun _ _ h=>by omega⟩ ?_ (bA.refl _) ?_
 ·simp [aj,aT]
 rintro⟨k,hk,hall⟩
 by_cases aH:k<l.length
 ·have hki:(k:Int)<l.length:=by omega
  have wk:=wx k
  obtain⟨r,hg,hg'⟩:=aM aH
  cases hw:jG t r
  ·simp -dsimp [hki]
   repeat' (first|omega|simp -dsimp [Ue,ri,aa,ints,hki,aH,hl,hy,hw,wk,hg,hg',LD,rwI,vl,eO,Uc]|apply aI|refine oI fun _=>?_|apply nI)
   refine⟨k+1,ag rfl ?_,bA.refl _,⟨by omega,fun j h hj=>?_⟩,by omega⟩
   ·simp [aj,aT]
   ·by_cases hjk:j=k
    ·subst hjk; rw [hg']; exact hw
    ·exact hall j h (by omega)
  ·have hz:=cW l (jG t) aH (by rw [hg']; exact hw) hall
   simp -dsimp [hki]
   repeat' (first|omega|simp -dsimp [Ue,ri,aa,ints,hki,aH,hl,hy,hw,wk,hz,hg,hg',LD,rwI,vl,eO,Uc]|apply aI|refine oI fun _=>?_|apply nI)
 ·have hkn:¬ (k:Int)<l.length:=by omega
  have hz:=bP l (jG t) (fun j h=>hall j h (by omega))
  simp -dsimp [hkn]
  repeat' (first|omega|simp -dsimp [Ue,ri,aa,ints,hkn,hz]|apply aI|refine oI fun _=>?_|apply nI)
theorem ajT:FO 226 aej:=pf aoF (.cons aby .nil)
noncomputable abbrev ael:Env:={P:=Tryz.prog,fn:=bf [(226,.pure aej)],own:=[],key:=16500,nt:=9}
theorem aoG:af ael [] Tryz.f165 aek:=pb <| by
 rintro⟨t,l⟩ hP
 have hz:=cO l (jG t)
 have hd:=Dv t l
 simp -dsimp [Tryz.f165,ael,vl,Uc,eO]
 repeat' (first|omega|simp -dsimp [ael,ri,aa,ints,hP,hd,hz,vl,Uc,eO]|apply aI|refine oI fun _=>?_|apply nI)
theorem ajU:FO 165 aek:=pf aoG (.cons ajT .nil)
@[simp] def tbE (t:Tb):List V:=[.agg (eO t)]
theorem Zv (a b:Tb) (h:tbE a=tbE b):a=b:=mZ _ _ (by simpa using h)
theorem tT (t:Tb):aY tbE [.agg [.sl 1 (t.xs.map ri),.sl 1 (t.ys.map ri),.sl 1 (t.vs.map rwI)]]=t:=aA Zv t
def vY (t:Tb):Bool:=xH t.xs && (xH t.ys && (decide (t.vs.length=t.xs.length) && !t.vs.any (jG t)))
structure TbP (t:Tb):Prop where
 x:t.xs.length≤1000000000000000000
 y:t.ys.length≤1000000000000000000
 v:t.vs.length≤1000000000000000000
noncomputable abbrev ctS:aB:=bS tbE TbP fun t=>.int .i64 (if vY t=true then 0 else 11)
theorem jN {l:List Int} (h:xH l=true):2≤l.length∧l.length≤12:=by
 simp only [xH,Bool.and_eq_true]at h
 have:2≤(l.length:Int)∧(l.length:Int)≤12:=by simpa [au]using h.1
 omega
noncomputable abbrev Uf:Env:={P:=Tryz.prog,fn:=bf [(161,.pure T9),(163,.pure trS),(164,.pure axS),(165,.pure aek)],own:=[],key:=9800,nt:=31}
theorem b98:af Uf [] Tryz.f98 ctS:=pb <| by
 rintro t ⟨bx,by',bv⟩
 have bx':t.xs.length≤9223372036854775807:=by omega
 have Ug:t.ys.length≤9223372036854775807:=by omega
 cases h1:xH t.xs
 ·have hz:vY t=false:=by simp [vY,h1]
  simp -dsimp [Tryz.f98,Uf,eO]
  repeat' (first|omega|simp -dsimp [Uf,ri,aa,ints,bx',Ug,h1,tS,hz]|apply aI|refine oI fun _=>?_|apply nI)
 cases h2:xH t.ys
 ·have hz:vY t=false:=by simp [vY,h1,h2]
  simp -dsimp [Tryz.f98,Uf,eO]
  repeat' (first|omega|simp -dsimp [Uf,ri,aa,ints,bx',Ug,h1,h2,tS,hz]|apply aI|refine oI fun _=>?_|apply nI)
 by_cases h3:t.vs.length=t.xs.length
 case neg=>
  have h3':((t.vs.length:Int)=t.xs.length)=False:=eq_false (by omega)
  have hz:vY t=false:=by simp [vY,h1,h2,h3]
  simp -dsimp [Tryz.f98,Uf,eO]
  repeat' (first|omega|simp -dsimp [Uf,ri,aa,ints,bx',Ug,h1,h2,h3,h3',tS,hz]|apply aI|refine oI fun _=>?_|apply nI)
 have h3':((t.vs.length:Int)=t.xs.length)=True:=eq_true (by omega)
 have l1:=jN h1
 have l2:=jN h2
 have hP:TvP ⟨t,t.vs⟩:=⟨by simp only; omega,by simp only; omega⟩
 cases h4:t.vs.any (jG t)
 ·have hz:vY t=true:=by simp [vY,h1,h2,h3,h4]
  simp -dsimp [Tryz.f98,Uf,eO]
  repeat' (first|omega|simp -dsimp [Uf,ri,aa,ints,bx',Ug,h1,h2,h3,h3',h4,hP,Dv,tS,vl,Uc,eO,hz]|apply aI|refine oI fun _=>?_|apply nI)
 ·have hz:vY t=false:=by simp [vY,h1,h2,h3,h4]
  simp -dsimp [Tryz.f98,Uf,eO]
  repeat' (first|omega|simp -dsimp [Uf,ri,aa,ints,bx',Ug,h1,h2,h3,h3',h4,hP,Dv,tS,vl,Uc,eO,hz]|apply aI|refine oI fun _=>?_|apply nI)
theorem aoH:FO 98 ctS:=pf b98 (.cons Ua (.cons aby (.cons ajS (.cons ajU .nil))))
@[simp] def lsE (d:List Int × Sp):List V:=[ints d.1,.agg d.2.row]
theorem Zw (a b:List Int × Sp) (h:lsE a=lsE b):a=b:=by
 obtain⟨a1,a2⟩:=a; obtain⟨b1,b2⟩:=b
 simp only [lsE,List.cons.injEq,V.agg.injEq,and_true]at h
 rw [jk _ _ h.1,Sp.aq _ _ h.2]
theorem tU (l:List Int) (s:Sp):aY lsE [.sl 1 (l.map ri),.agg [.int .i64 s.lo,.int .i64 s.hi]]=(l,s):=aA Zw (l,s)
def FM (l:List Int) (s:Sp):Bool:=decide (l.getD 0 0≤s.lo) && decide (s.hi≤l.getD (l.length - 1) 0)
noncomputable abbrev aem:aB:=bS lsE (fun d=>0<d.1.length∧d.1.length≤1000000) fun d=>.bool (FM d.1 d.2)
noncomputable abbrev Uh:Env:={P:=Tryz.prog,fn:=bf [],own:=[],key:=10000,nt:=22}
theorem aoI:af Uh [] Tryz.f100 aem:=pb <| by
 rintro⟨l,s⟩ ⟨h0,hl⟩
 simp only at h0 hl
 obtain⟨x,hx,hx'⟩:=aM h0
 have hm:l.length - 1<l.length:=by omega
 obtain⟨y,hy,hy'⟩:=aM hm
 have gx:l.getD 0 0=x:=by simp [List.getD,hx]
 have gy:l.getD (l.length - 1) 0=y:=by simp [List.getD,hy]
 have wl:IntKind.wrap .i64 ((l.length:Int) - 1)=(l.length - 1:Nat):=by rw [aK (by omega) (by omega)]; omega
 have hz:FM l s=(decide (x≤s.lo) && decide (s.hi≤y)):=by rw [FM,gx,gy]
 by_cases h1:x≤s.lo
 ·simp -dsimp [Tryz.f100,Uh,Sp.row]
  repeat' (first|omega|simp -dsimp [Uh,ri,aa,ints,h0,hl,hx,hx',hm,hy,hy',wl,hz,h1,Sp.row]|apply aI|refine oI fun _=>?_|apply nI)
 ·simp -dsimp [Tryz.f100,Uh,Sp.row]
  repeat' (first|omega|simp -dsimp [Uh,ri,aa,ints,h0,hl,hx,hx',hm,hy,hy',wl,hz,h1,Sp.row]|apply aI|refine oI fun _=>?_|apply nI)
theorem ajV:FO 100 aem:=pf aoI .nil
end Go.Sx.y9
end
section
namespace Go.Sx.y9
open Go.Proofs Go.Sx
attribute [local irreducible] bA
attribute [local simp] aG
@[simp] def i2E (d:Int × Int):List V:=[.int .i64 d.1,.int .i64 d.2]
theorem Zx (a b:Int × Int) (h:i2E a=i2E b):a=b:=by
 simp only [i2E,List.cons.injEq,V.int.injEq,true_and,and_true]at h
 exact Prod.ext h.1 h.2
theorem qG (a b:Int):aY i2E [.int .i64 a,.int .i64 b]=(a,b):=aA Zx (a,b)
noncomputable abbrev NV:aB:=bS i1E (fun _=>True) fun _=>.bool false
noncomputable abbrev aen:aB:=bS i2E (fun _=>True) fun d=>.bool (decide (d.1<d.2))
noncomputable abbrev SP:Env:={P:=Tryz.prog,fn:=bf [],own:=[],key:=26300,nt:=6}
theorem adr:af SP [] Tryz.f263 NV:=pb <| by
 rintro n _
 simp -dsimp [Tryz.f263,SP]
theorem SQ:FO 263 NV:=pf adr .nil
noncomputable abbrev ajW:Env:={P:=Tryz.prog,fn:=bf [],own:=[],key:=26900,nt:=6}
theorem aoJ:af ajW [] Tryz.f269 NV:=pb <| by
 rintro n _
 simp -dsimp [Tryz.f269,ajW]
theorem ajX:FO 269 NV:=pf aoJ .nil
noncomputable abbrev aeo:Env:={P:=Tryz.prog,fn:=bf [(263,.pure NV)],own:=[],key:=26800,nt:=17}
theorem aoK:af aeo [] Tryz.f268 aen:=pb <| by
 rintro⟨a,b⟩ _
 simp -dsimp [Tryz.f268,aeo]
 repeat' (first|omega|simp -dsimp [aeo,ri,aa,ints,qF]|apply aI|refine oI fun _=>?_|apply nI)
theorem ajY:FO 268 aen:=pf aoK (.cons SQ .nil)
theorem hsh (n:Nat) (hn:n<4611686018427387904):tB .u64 (n:Int) 1=(n / 2:Nat):=by
 have e:min (1:Int).toNat IntKind.u64.bits=1:=rfl
 rw [tB,e,Int.fdiv_eq_ediv_of_nonneg _ (by decide)]
 omega
@[simp] def Pa (d:List Int × Int):List V:=[ints d.1,.int .i64 d.2]
theorem Dw (a b:List Int × Int) (h:Pa a=Pa b):a=b:=by
 obtain⟨a1,a2⟩:=a; obtain⟨b1,b2⟩:=b
 simp only [Pa,List.cons.injEq,V.int.injEq,true_and,and_true]at h
 rw [jk _ _ h.1,h.2]
theorem nT (l:List Int) (x:Int):aY Pa [.sl 1 (l.map ri),.int .i64 x]=(l,x):=aA Dw (l,x)
def Ui (l:List Int) (x:Int):Nat:=l.findIdx fun y=>decide (x≤y)
theorem aep {l:List Int} {x:Int} {i:Nat} (hi:i≤l.length) (lo:∀t,t<i→l.getD t 0<x) (hl:∀t,i≤t→t<l.length→x≤l.getD t 0):Ui l x=i:=by
 unfold Ui
 by_cases h:i<l.length
 ·rw [List.findIdx_eq h]
  refine⟨?_,fun j hj=>?_⟩
  ·have:=hl i (Nat.le_refl _) h
   simpa [List.getD,h]using this
  ·have:=lo j hj
   have hj2:j<l.length:=by omega
   simp only [List.getD,List.getElem?_eq_getElem hj2,Option.getD_some]at this
   simp; omega
 ·have:i=l.length:=by omega
  subst this
  rw [List.findIdx_eq_length]
  intro y hy
  obtain⟨j,hj,rfl⟩:=List.getElem_of_mem hy
  have:=lo j hj
  simp only [List.getD,List.getElem?_eq_getElem hj,Option.getD_some]at this
  simp; omega
def bsF (l:List Int) (x:Int):Bool:=decide (Ui l x<l.length∧l.getD (Ui l x) 0=x)
structure BsP (d:List Int × Int):Prop where
 n:d.1.length≤1000000
 s:∀i j,i≤j→j<d.1.length→d.1.getD i 0≤d.1.getD j 0
noncomputable abbrev bsS:aB:=bS Pa BsP fun d=>.dB [.int .i64 (Ui d.1 d.2:Nat),.bool (bsF d.1 d.2)]
structure BsI (l:List Int) (x:Int) where
 i:Nat
 j:Nat
 ij:i≤j
 jl:j≤l.length
 lo:∀t,t<i→l.getD t 0<x
 hi:∀t,j≤t→t<l.length→x≤l.getD t 0
noncomputable abbrev FN:Env:={P:=Tryz.prog,fn:=bf [(268,.pure aen),(269,.pure NV)],own:=[],key:=25400,nt:=54}
theorem aoL:af FN [] Tryz.f254 bsS:=pb <| by
 rintro⟨l,x⟩ ⟨hl,hs⟩
 simp only at hl hs
 simp -dsimp [Tryz.f254,FN]
 repeat' (first|omega|simp -dsimp [FN,ri,aa,ints,hl]|apply aI|refine oI fun _=>?_|apply nI)
 refine ay [13,14,15,16,17,18,19,20,21,9,22,23,24,25,26,27,28,29,7,30,8] (fun s:BsI l x=>[(7,(true,.int .i64 (s.i:Nat))),(8,(true,.int .i64 (s.j:Nat)))]) (fun _=>cg) (fun s=>s.j - s.i) ⟨0,l.length,by omega,by omega,fun _ h=>by omega,fun _ h1 h2=>by omega⟩ ?_ (bA.refl _) ?_
 ·simp [aj,aT]
 rintro⟨i,j,ij,jl,lo,hi⟩
 simp only
 by_cases hlt:i<j
 ·have zo:((i:Int)<j)=True:=eq_true (by omega)
  have e1:=wi ((i:Int)+j)
  have e2:IntKind.wrap .u64 ((i:Int)+j)=(i:Int)+j:=by simp [IntKind.wrap,IntKind.bits,IntKind.signed]; omega
  obtain⟨h,hh⟩:∃h,(i+j) / 2=h:=⟨_,rfl⟩
  have e3:tB .u64 ((i:Int)+j) 1=(h:Int):=by rw [show(i:Int)+j=((i+j:Nat):Int) by omega,hsh (i+j) (by omega),hh]
  have e4:IntKind.wrap .i64 (h:Int)=h:=aK (by omega) (by omega)
  have e5:=wi ((h:Int)+1)
  have hM:IntKind.wrap .i64 (tB .u64 (IntKind.wrap .u64 ((i:Int)+j)) 1)=(h:Int):=by rw [e2,e3,e4]
  have hhl:h<l.length:=by omega
  obtain⟨y,hy,hy'⟩:=aM hhl
  have gy:l.getD h 0=y:=by simp [List.getD,hy]
  by_cases hxy:y<x
  ·simp -dsimp [zo]
   repeat' (first|omega|simp -dsimp [FN,ri,aa,ints,zo,e1,hM,e5,hhl,hy,hy',qG,hxy]|apply aI|refine oI fun _=>?_|apply nI)
   refine⟨⟨h+1,j,by omega,jl,fun t ht=>?_,hi⟩,ag rfl ?_,bA.refl _,by simp only; omega⟩
   ·have:=hs t h (by omega) hhl; omega
   ·simp [aj,aT]
  ·have aoM:(y<x)=False:=eq_false hxy
   simp -dsimp [zo]
   repeat' (first|omega|simp -dsimp [FN,ri,aa,ints,zo,e1,hM,e5,hhl,hy,hy',qG,aoM]|apply aI|refine oI fun _=>?_|apply nI)
   refine⟨⟨i,h,by omega,by omega,lo,fun t ht htl=>?_⟩,ag rfl ?_,bA.refl _,by simp only; omega⟩
   ·have:=hs h t ht htl; omega
   ·simp [aj,aT]
 ·have hie:i=j:=by omega
  subst hie
  have hn:=aep jl lo hi
  have zo:((i:Int)<i)=False:=eq_false (by omega)
  by_cases tf:i<l.length
  ·have Zy:((i:Int)<l.length)=True:=eq_true (by omega)
   obtain⟨y,hy,hy'⟩:=aM tf
   have hf:bsF l x=decide (y=x):=by simp [bsF,hn,tf,List.getD,hy,hy']
   by_cases hyx:y=x
   ·have hf':bsF l x=true:=by rw [hf]; simp [hyx]
    simp -dsimp [zo]
    repeat' (first|omega|simp -dsimp [FN,ri,aa,ints,zo,Zy,tf,hy,hy',hyx,hn,hf',qF]|apply aI|refine oI fun _=>?_|apply nI)
   ·have aoN:(y=x)=False:=eq_false hyx
    have hf':bsF l x=false:=by rw [hf]; simp [hyx]
    simp -dsimp [zo]
    repeat' (first|omega|simp -dsimp [FN,ri,aa,ints,zo,Zy,tf,hy,hy',aoN,hn,hf',qF]|apply aI|refine oI fun _=>?_|apply nI)
  ·have Zy:((i:Int)<l.length)=False:=eq_false (by omega)
   have hf':bsF l x=false:=by simp [bsF,hn,tf]
   simp -dsimp [zo]
   repeat' (first|omega|simp -dsimp [FN,ri,aa,ints,zo,Zy,tf,hn,hf',qF]|apply aI|refine oI fun _=>?_|apply nI)
theorem ajZ:FO 254 bsS:=pf aoL (.cons ajY (.cons ajX .nil))
def dD (l:List Int) (x:Int):Nat:=Ui ((l.drop 1).take (l.length - 2)) x
theorem Zz {l:List Int} (h:xH l=true):T4 l:=by
 intro i hi
 simp only [xH,Bool.and_eq_true,List.all_eq_true]at h
 have:=h.2 (i+1) (by simpa using hi)
 simp only [zn,Bool.and_eq_true,Bool.or_eq_true,decide_eq_true_eq,Nat.add_sub_cancel]at this
 rcases this.2 with h1|h1
 ·omega
 ·have:1≤l.getD (i+1) 0 - l.getD i 0∧l.getD (i+1) 0 - l.getD i 0≤10000:=by simpa [au]using h1
  omega
theorem nU {l:List Int} {i:Nat} (hi:i<l.length - 2):((l.drop 1).take (l.length - 2)).getD i 0=l.getD (i+1) 0:=by
 simp only [List.getD]
 rw [List.getElem?_take_of_lt hi,List.getElem?_drop,Nat.add_comm 1 i]
theorem qH {l:List Int} (h:2≤l.length):((l.drop 1).take (l.length - 2)).length=l.length - 2:=by simp; omega
theorem Uj (l:List Int) (x:Int):Ui l x≤l.length:=List.findIdx_le_length
theorem Dx {l:List Int} (h:2≤l.length) (x:Int):dD l x+1<l.length:=by
 have:=Uj ((l.drop 1).take (l.length - 2)) x
 rw [qH h]at this
 unfold dD; omega
noncomputable abbrev aeq:aB:=bS Pa (fun d=>xH d.1=true) fun d=>.int .i64 (dD d.1 d.2:Nat)
noncomputable abbrev aer:Env:={P:=Tryz.prog,fn:=bf [(254,.pure bsS)],own:=[],key:=22800,nt:=18}
theorem aoO:af aer [] Tryz.f228 aeq:=pb <| by
 rintro⟨l,x⟩ Dy
 have Dy:xH l=true:=Dy
 have hl:=jN Dy
 have aoP:=Zz Dy
 have wl:IntKind.wrap .i64 ((l.length:Int) - 1)=(l.length - 1:Nat):=by rw [aK (by omega) (by omega)]; omega
 have hP:BsP ((l.drop 1).take (l.length - 2),x):=⟨by simp only; rw [qH hl.1]; omega,fun i j hij hj=>by
  simp only at hj ⊢
  rw [qH hl.1]at hj
  rw [nU (by omega),nU (by omega)]
  exact T6 aoP (by omega) (by omega)⟩
 have hd:=nT ((l.drop 1).take (l.length - 2)) x
 have hm:List.take (l.length - 1 - 1) (l.map ri).tail=((l.drop 1).take (l.length - 2)).map ri:=by
  rw [show(l.map ri).tail=(l.drop 1).map ri by simp,←List.map_take,show l.length - 1 - 1=l.length - 2 by omega]
 have hc:dD l x=Ui ((l.drop 1).take (l.length - 2)) x:=rfl
 generalize (l.drop 1).take (l.length - 2)=T at *
 simp -dsimp [Tryz.f228,aer]
 repeat' (first|omega|simp -dsimp [aer,ri,aa,ints,hl,wl,hP,hd,hm,hc]|apply aI|refine oI fun _=>?_|apply nI)
theorem aj0:FO 228 aeq:=pf aoO (.cons ajZ .nil)
end Go.Sx.y9
end
end
