/- A part of a proof; no conditions. -/
import Derived.Test.YtegiclpanpmkdaaGreatDoorP08
import Derived.Test.YtegiclpanpmkdaaGreatDoorP10
set_option linter.all false
set_option maxRecDepth 100000
set_option maxHeartbeats 8000000
noncomputable section
section
namespace Go.Sx
structure Tb where
 xs:List Int
 ys:List Int
 vs:List (List Int)
deriving Inhabited
def T4 (l:List Int):Prop:=∀i,i+1<l.length->l.getD i 0<l.getD (i+1) 0
theorem T5 {l:List Int} (h:T4 l) {i k:Nat} (hik:i<k) (hk:k<l.length):l.getD i 0<l.getD k 0:=by
 induction k with
 | zero=>omega
 | succ k ih=>
  have h1:=h k (by omega);by_cases e:i=k
  ·subst e; exact h1
  ·have:=ih (by omega) (by omega); omega
theorem T6 {l:List Int} (h:T4 l) {i k:Nat} (hik:i<=k) (hk:k<l.length):l.getD i 0<=l.getD k 0:=by
 by_cases e:i=k
 ·subst e; exact Int.le_refl _
 ·exact Int.le_of_lt (T5 h (by omega) hk)
def Lx (l:List Int) (i:Nat) (x:Int):Prop:=i+1<l.length/\l.getD i 0<=x/\x<=l.getD (i+1) 0
theorem mY {l:List Int} (h:T4 l) {i k:Nat} {x:Int} (hi:Lx l i x) (hk:Lx l k x) (hik:i<k):k=i+1/\x=l.getD k 0:=by
 obtain⟨a1,a2,a3⟩:=hi; obtain⟨b1,b2,b3⟩:=hk;have h1:=T6 h (show i+1<=k by omega) (by omega);have h2:l.getD (i+1) 0=l.getD k 0:=by omega
 by_cases e:k=i+1
 ·subst e; exact⟨rfl,by omega⟩
 ·have:=T5 h (show i+1<k by omega) (by omega); omega
def Tb.v (t:Tb) (i k:Nat):Int:=(t.vs.getD i []).getD k 0
def Tb.num (t:Tb) (i k:Nat) (x y:Int):Int:=
 (t.xs.getD (i+1) 0 - x) * (t.ys.getD (k+1) 0 - y) * t.v i k+(x - t.xs.getD i 0) * (t.ys.getD (k+1) 0 - y) * t.v (i+1) k
  + (t.xs.getD (i+1) 0 - x) * (y - t.ys.getD k 0) * t.v i (k+1)+(x - t.xs.getD i 0) * (y - t.ys.getD k 0) * t.v (i+1) (k+1)
def Tb.den (t:Tb) (i k:Nat):Int:=(t.xs.getD (i+1) 0 - t.xs.getD i 0) * (t.ys.getD (k+1) 0 - t.ys.getD k 0)
theorem Lz {l:List Int} (h:T4 l) {i:Nat} {x:Int} (hi:Lx l i x):0<l.getD (i+1) 0 - l.getD i 0:=by have:=h i hi.1; omega
theorem Tb.den_pos {t:Tb} (hx:T4 t.xs) (hy:T4 t.ys) {i k:Nat} {x y:Int} (hi:Lx t.xs i x) (hk:Lx t.ys k y):0<t.den i k:=
 Int.mul_pos (Lz hx hi) (Lz hy hk)
theorem Tb.T7 {t:Tb} (hx:T4 t.xs) {i k:Nat} {x y:Int} (hi:Lx t.xs i x) (hi':Lx t.xs (i+1) x):t.num i k x y * t.den (i+1) k=t.num (i+1) k x y * t.den i k:=by have e:=(mY hx hi hi' (by omega)).2;subst e;unfold Tb.num Tb.den;generalize t.xs.getD (i+1+1) 0=X2;generalize t.xs.getD (i+1) 0=X1;generalize t.xs.getD i 0=X0;generalize t.ys.getD (k+1) 0=Y1;generalize t.ys.getD k 0=Y0;grind
theorem Tb.T8 {t:Tb} (hy:T4 t.ys) {i k:Nat} {x y:Int} (hi:Lx t.ys k y) (hi':Lx t.ys (k+1) y):t.num i k x y * t.den i (k+1)=t.num i (k+1) x y * t.den i k:=by have e:=(mY hy hi hi' (by omega)).2;subst e;unfold Tb.num Tb.den;generalize t.ys.getD (k+1+1) 0=Y2;generalize t.ys.getD (k+1) 0=Y1;generalize t.ys.getD k 0=Y0;generalize t.xs.getD (i+1) 0=X1;generalize t.xs.getD i 0=X0;grind
theorem Tb.same {t:Tb} (hx:T4 t.xs) (hy:T4 t.ys) {i k i' k':Nat} {x y:Int} (hi:Lx t.xs i x) (hk:Lx t.ys k y) (hi':Lx t.xs i' x) (hk':Lx t.ys k' y) :
  t.num i k x y * t.den i' k'=t.num i' k' x y * t.den i k:=by
 have sx:∀k,t.num i k x y * t.den i' k=t.num i' k x y * t.den i k:=by
  intro k;rcases Nat.lt_trichotomy i i' with h|h|h
  ·obtain⟨rfl,_⟩:=mY hx hi hi' h;exact Tb.T7 hx hi hi'
  ·subst h; rfl
  ·obtain⟨rfl,_⟩:=mY hx hi' hi h;exact(Tb.T7 hx hi' hi).symm
 have sy:t.num i' k x y * t.den i' k'=t.num i' k' x y * t.den i' k:=by
  rcases Nat.lt_trichotomy k k' with h|h|h
  ·obtain⟨rfl,_⟩:=mY hy hk hk' h;exact Tb.T8 hy hk hk'
  ·subst h; rfl
  ·obtain⟨rfl,_⟩:=mY hy hk' hk h;exact(Tb.T8 hy hk' hk).symm
 have p1:=Tb.den_pos hx hy hi' hk;have e1:=sx k;have hc:t.den i' k * (t.num i k x y * t.den i' k')=t.den i' k * (t.num i' k' x y * t.den i k):=by
  have a1:t.den i' k * (t.num i k x y * t.den i' k')=(t.num i k x y * t.den i' k) * t.den i' k':=by grind
  have a2:t.den i' k * (t.num i' k' x y * t.den i k)=(t.num i' k' x y * t.den i' k) * t.den i k:=by grind
  rw [a1,a2,e1,<-sy]; grind
 exact Int.eq_of_mul_eq_mul_left (by omega) hc
end Go.Sx
end
section
namespace Go.Sx.y9
open Go.Proofs Go.Sx
attribute [local simp] ri aa ints
attribute [local irreducible] bA
attribute [local simp] aG
theorem aM {α:Type} {l:List α} {k:Nat} (h:k<l.length):∃a,l[k]?=some a/\l[k]=a:=⟨_,List.getElem?_eq_getElem h,rfl⟩
theorem zm (a b:Int) (h:ri a=ri b):a=b:=by simpa [ri]using h
theorem jk (a b:List Int) (h:ints a=ints b):a=b:=by simp only [ints,V.sl.injEq,true_and]at h;exact aR zm h
def rwI (l:List Int):List V:=[ints l]
def eO (t:Tb):List V:=[ints t.xs,ints t.ys,.sl 1 (t.vs.map rwI)]
@[simp] def i1E (d:Int):List V:=[.int .i64 d]
theorem Zq (a b:Int) (h:i1E a=i1E b):a=b:=by simpa using h
theorem qF (n:Int):aY i1E [.int .i64 n]=n:=aA Zq n
def oB (n:Int):Bool:=!au n (-1000000) 1000000
noncomputable abbrev T9:aB:=bS i1E (fun _=>True) fun n=>.bool (oB n)
noncomputable abbrev afw:=EV [(236,.pure bF)] [] 23500 6
theorem ap6:af afw [] Tryz.f235 T9:=pb <| by rintro n _;simp -dsimp [Tryz.f235,afw];repeat' (first|omega|simp -dsimp [afw,oB]|apply aI|apply nI|intro)
theorem akS:FO 235 T9:=pf ap6 (.cons akR .nil)
@[simp] def BC (d:List Int):List V:=[.sl 1 (d.map ri),.fn 235 []]
theorem NU (a b:List Int) (h:BC a=BC b):a=b:=by simp only [BC,List.cons.injEq,V.sl.injEq,true_and,and_true]at h;exact aR zm h
theorem vk (l:List Int):aY BC [.sl 1 (l.map ri),.fn 235 []]=l:=aA NU l
noncomputable abbrev IQ:aB:=bS BC (fun d=>d.length<=1000000) fun d=>.int .i64 (eB d oB)
noncomputable abbrev IU:aB:=bS BC (fun d=>d.length<=1000000) fun d=>.bool (d.any oB)
noncomputable abbrev SL:=EV [(235,.pure T9)] [] 13000 19
theorem anE:af SL [] Tryz.f130 IQ:=pb <| by
 rintro l hl;have hl:l.length<=1000000:=hl;simp -dsimp [Tryz.f130,SL];refine ay [9,10,5,11,12,13,14,15,16,17,4,18,8] (fun k:{k:Nat // k<=l.length/\∀j (h:j<l.length),j<k->oB l[j]=false}=>[(8,(true,.int .i64 k.1))]) (fun _=>cg) (fun k=>l.length - k.1) ⟨0,by omega,fun _ _ h=>by omega⟩ ?_ (bA.refl _) ?_
 ·simp [aj,aT]
 rintro⟨k,hk,hall⟩;by_cases aH:k<l.length
 ·have hki:(k:Int)<l.length:=by omega
  have wk:=wx k;cases hw:oB l[k]
  ·simp -dsimp [hki];repeat' (first|omega|simp -dsimp [SL,hki,aH,hl,hw,wk,qF]|apply aI|apply nI|intro)
   refine⟨k+1,ag rfl ?_,bA.refl _,⟨by omega,fun j h hj=>?_⟩,by omega⟩
   ·simp [aj,aT]
   ·by_cases hjk:j=k
    ·subst hjk; exact hw
    ·exact hall j h (by omega)
  ·have hz:=cW l oB aH hw hall;simp -dsimp [hki];repeat' (first|omega|simp -dsimp [SL,hki,aH,hl,hw,wk,hz,qF]|apply aI|apply nI|intro)
 ·have hkn:¬ (k:Int)<l.length:=by omega
  have hz:=bP l oB (fun j h=>hall j h (by omega));simp -dsimp [hkn];repeat' (first|omega|simp -dsimp [SL,hkn,hz]|apply aI|apply nI|intro)
theorem ahS:FO 130 IQ:=pf anE (.cons akS .nil)
noncomputable abbrev E68:=EV [(130,.pure IQ)] [] 6800 9
theorem b68:af E68 [] Tryz.f68 IU:=pb <| by rintro l hl;have hl:l.length<=1000000:=hl;have hz:=cO l oB;simp -dsimp [Tryz.f68,E68];repeat' (first|omega|simp -dsimp [E68,hl,vk,hz]|apply aI|apply nI|intro)
theorem ams:FO 68 IU:=pf b68 (.cons ahS .nil)
@[simp] def inE (d:List Int):List V:=[ints d]
structure TrD where
 t:Tb
 r:List Int
 deriving Inhabited
def vl (t:Tb):V:=.ip 3 [eO t] 0 0
def Uc:V:=.ip 1 [[.fn 235 []]] 0 0
@[simp] def Ws (d:TrD):List V:=[ints d.r,vl d.t,Uc]
end Go.Sx.y9
end
section
namespace Go.Sx.y9
open Go.Proofs Go.Sx
attribute [local simp] ri aa ints
attribute [local irreducible] bA
attribute [local simp] aG
structure TvD where
 t:Tb
 l:List (List Int)
 deriving Inhabited
@[simp] def tvE (d:TvD):List V:=[.sl 1 (d.l.map rwI),.fn 237 [vl d.t,Uc]]
structure TvP (d:TvD):Prop where
 y:d.t.ys.length<=1000000
 n:d.l.length<=1000000
@[simp] def tbE (t:Tb):List V:=[.agg (eO t)]
structure TbP (t:Tb):Prop where
 x:t.xs.length<=1000000000000000000
 y:t.ys.length<=1000000000000000000
 v:t.vs.length<=1000000000000000000
@[simp] def lsE (d:List Int × Sp):List V:=[ints d.1,.agg d.2.row]
end Go.Sx.y9
end
section
namespace Go.Sx.y9
open Go.Proofs Go.Sx
attribute [local simp] ri aa ints
attribute [local irreducible] bA
attribute [local simp] aG
@[simp] def i2E (d:Int × Int):List V:=[.int .i64 d.1,.int .i64 d.2]
noncomputable abbrev NV:aB:=bS i1E (fun _=>True) fun _=>.bool false
noncomputable abbrev Uu:=EV [] [] 19000 6
theorem ao8:af Uu [] Tryz.f190 NV:=pb <| by rintro n _;simp -dsimp [Tryz.f190,Uu]
theorem akh:FO 190 NV:=pf ao8 .nil
theorem hsh (n:Nat) (hn:n<4611686018427387904):tB .u64 (n:Int) 1=(n / 2:Nat):=by have e:min (1:Int).toNat IntKind.u64.bits=1:=rfl;rw [tB,e,Int.fdiv_eq_ediv_of_nonneg _ (by decide)];omega
@[simp] def Pa (d:List Int × Int):List V:=[ints d.1,.int .i64 d.2]
theorem Dw (a b:List Int × Int) (h:Pa a=Pa b):a=b:=by obtain⟨a1,a2⟩:=a; obtain⟨b1,b2⟩:=b;simp only [Pa,List.cons.injEq,V.int.injEq,true_and,and_true]at h;rw [jk _ _ h.1,h.2]
theorem nT (l:List Int) (x:Int):aY Pa [.sl 1 (l.map ri),.int .i64 x]=(l,x):=aA Dw (l,x)
structure BsP (d:List Int × Int):Prop where
 n:d.1.length<=1000000
 s:∀i j,i<=j->j<d.1.length->d.1.getD i 0<=d.1.getD j 0
structure BsI (l:List Int) (x:Int) where
 i:Nat
 j:Nat
 ij:i<=j
 jl:j<=l.length
 lo:∀t,t<i->l.getD t 0<x
 hi:∀t,j<=t->t<l.length->x<=l.getD t 0
end Go.Sx.y9
end
section
namespace Go.Sx.y9
open Go.Proofs Go.Sx
attribute [local simp] ri aa ints
attribute [local irreducible] bA
attribute [local simp] aG
structure Bd (m:Int):Prop where
 lo : -1000000000000000000<=m
 hi:m<=1000000000000000000
structure KD (d:Int × Int):Prop where
 n:Bd d.1
 w:0<d.2
@[simp] def vaE (d:Int × Int):List V:=[.agg [.int .i64 d.1,.int .i64 d.2]]
@[simp] def twE (d:Int × Int):List V:=[.sl 1 [[.int .i64 d.1],[.int .i64 d.2]]]
theorem Z1 (a b:Int × Int) (h:twE a=twE b):a=b:=by simp only [twE,List.cons.injEq,V.sl.injEq,V.int.injEq,true_and,and_true]at h;exact Prod.ext h.1 h.2
theorem Z2 (a b:Int):aY twE [.sl 1 [[.int .i64 a],[.int .i64 b]]]=(a,b):=aA Z1 (a,b)
noncomputable abbrev orS:aB:=bS twE (fun _=>True) fun d=>.int .i64 (if d.1=0 then d.2 else d.1)
structure OrI (a b:Int) where
 k:Nat
 le:k<=2
 h1:1<=k->a=0
 h2:2<=k->b=0
noncomputable abbrev ac8:=EV [] [] 15300 18
theorem ano:af ac8 [] Tryz.f153 orS:=pb <| by
 rintro⟨a,b⟩ _;have w1:IntKind.wrap .i64 1=1:=aK (by omega) (by omega);have w2:IntKind.wrap .i64 (1+1)=2:=aK (by omega) (by omega);have w3:IntKind.wrap .i64 2=2:=aK (by omega) (by omega);simp -dsimp [Tryz.f153,ac8];refine ay [9,10,11,5,12,13,14,15,2,16,8] (fun s:OrI a b=>[(8,(true,.int .i64 (s.k:Nat)))]) (fun _=>cg) (fun s=>2 - s.k) ⟨0,by omega,fun h=>absurd h (by omega),fun h=>absurd h (by omega)⟩ ?_ (bA.refl _) ?_
 ·simp [aj,aT]
 rintro⟨k,le,h1,h2⟩;simp only;rcases(by omega:k=0\/k=1\/k=2)with rfl|rfl|rfl
 ·by_cases h:a=0
  ·subst h;simp -dsimp [];repeat' (first|omega|simp -dsimp [ac8,w1]|apply aI|apply nI|intro)
   refine⟨⟨1,by omega,fun _=>rfl,fun h=>absurd h (by omega)⟩,ag rfl ?_,bA.refl _,by simp⟩;simp [aj,aT]
  ·have h':(a=0)=False:=eq_false h;simp -dsimp [];repeat' (first|omega|simp -dsimp [ac8,w1,h']|apply aI|apply nI|intro)
 ·have ha:=h1 (by omega);subst ha;by_cases h:b=0
  ·subst h;simp -dsimp [];repeat' (first|omega|simp -dsimp [ac8,w1,w2,w3]|apply aI|apply nI|intro)
   refine⟨⟨2,by omega,fun _=>rfl,fun _=>rfl⟩,ag rfl ?_,bA.refl _,by simp⟩;simp [aj,aT]
  ·have h':(b=0)=False:=eq_false h;simp -dsimp [];repeat' (first|omega|simp -dsimp [ac8,w1,h']|apply aI|apply nI|intro)
 ·have ha:=h1 (by omega);have hb:=h2 (by omega);subst ha hb;simp -dsimp [];repeat' (first|omega|simp -dsimp [ac8, *]|apply aI|apply nI|intro)
theorem aiu:FO 153 orS:=pf ano .nil
end Go.Sx.y9
end
end
