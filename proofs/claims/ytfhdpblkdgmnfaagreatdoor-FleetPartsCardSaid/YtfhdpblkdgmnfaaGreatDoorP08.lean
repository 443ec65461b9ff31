/- A part of a proof; no conditions. -/
import Derived.WalkKit
import Derived.Test.YtfhdpblkdgmnfaaGreatDoorP07
set_option linter.unusedSimpArgs false
set_option linter.unusedVariables false
set_option linter.unusedSectionVars false
set_option maxRecDepth 100000
set_option maxHeartbeats 8000000
noncomputable section
section
namespace Go.Sx
section
variable {α:Type}
def idxZ (l:List α) (p:α→Bool):Int:=match l.findIdx? p with|some i=>i|none=>-1
theorem idxZ_at (l:List α) (p:α→Bool) {k:Nat} (hk:k<l.length) (hp:p l[k]=true) (h:∀j (hj:j<l.length),j<k→p l[j]=false):idxZ l p=k:=by
 have:l.findIdx? p=some k:=by
  rw [List.findIdx?_eq_some_iff_getElem]
  exact⟨hk,hp,fun j hj=>by simp [h j (by omega) hj]⟩
 simp [idxZ,this]
theorem idxZ_none (l:List α) (p:α→Bool) (h:∀j (hj:j<l.length),p l[j]=false):idxZ l p = -1:=by
 have:l.findIdx? p=none:=by
  rw [List.findIdx?_eq_none_iff]
  intro x hx
  obtain⟨j,hj,rfl⟩:=List.getElem_of_mem hx
  exact h j hj
 simp [idxZ,this]
theorem idxZ_some {l:List α} {p:α→Bool} (h:idxZ l p≠-1):∃(k:Nat) (hk:k<l.length),idxZ l p=k∧p l[k]=true∧∀j (hj:j<l.length),j<k→p l[j]=false:=by
 unfold idxZ at h ⊢
 cases hf:l.findIdx? p with
 | none=>rw [hf]at h; exact absurd rfl h
 | some i=>
  rw [List.findIdx?_eq_some_iff_getElem]at hf
  obtain⟨h1,h2,h3⟩:=hf
  exact⟨i,h1,rfl,h2,fun j hj hji=>by simpa using h3 j hji⟩
theorem get_of {l:List α} {k:Nat} {x:α} (h:l[k]?=some x) (hk:k<l.length):l[k]=x:=by
 rw [List.getElem?_eq_getElem hk]at h; exact Option.some.inj h
theorem idxZ_any (l:List α) (p:α→Bool):decide (0≤idxZ l p)=l.any p:=by
 unfold idxZ
 cases h:l.findIdx? p with
 | none=>rw [List.findIdx?_eq_none_iff]at h; simp; exact fun x hx=>by simpa using h x hx
 | some i=>
  have:l.any p=true:=by
   rw [List.findIdx?_eq_some_iff_getElem]at h
   obtain⟨h1,h2,_⟩:=h
   exact List.any_eq_true.2 ⟨_,List.getElem_mem h1,h2⟩
  simp [this]
end
end Go.Sx
end
section
namespace Go.Sx
structure Sp where
 lo:Int
 hi:Int
 deriving DecidableEq,Inhabited
def Sp.row (s:Sp):List V:=[.int .i64 s.lo,.int .i64 s.hi]
theorem Sp.row_inj (a b:Sp) (h:a.row=b.row):a=b:=by
 cases a; cases b; simp [Sp.row]at h; simp [h]
def Sp.has (s:Sp) (h:Int):Bool:=decide (s.lo≤h) && decide (h≤s.hi)
theorem snoc_cases {α:Type} (l:List α):l=[]∨∃p s,l=p++[s]:=by
 cases h:l.reverse with
 | nil=>left; simpa using h
 | cons a r=>right; exact⟨r.reverse,a,by have:=congrArg List.reverse h; simpa using this⟩
end Go.Sx
end
section
namespace Go.Sx
open Classical in
def decC {D:Type} [Inhabited D] (enc:D→List V) (l:List V):D:=if x:∃d,l=enc d then x.choose else default
theorem decC_eq {D:Type} [Inhabited D] {enc:D→List V} (inj:∀a b,enc a=enc b→a=b) (d:D):decC enc (enc d)=d:=by
 have x:∃d',enc d=enc d':=⟨d,rfl⟩
 simp only [decC,dif_pos x]
 exact(inj _ _ x.choose_spec).symm
abbrev mkP {D:Type} [Inhabited D] (enc:D→List V) (pre:D→Prop) (res:D→V):PSpec:={dom:=D,enc:=enc,dec:=decC enc,pre:=pre,res:=res}
def mkH {D:Type} (enc:D→List V) (HP:D→Hp→Prop) (pre:D→Prop) (res:D→V) (post:D→Hp→Hp):HSpec:=
 {go:=fun args h=>open Classical in if hx:∃d,args=enc d∧HP d h then ⟨pre hx.choose,res hx.choose,post hx.choose h⟩else bad h}
theorem mkH_at {D:Type} {enc:D→List V} {HP:D→Hp→Prop} {pre:D→Prop} {res:D→V} {post:D→Hp→Hp} (inj:∀d d' h,enc d=enc d'→HP d h→HP d' h→d=d') {d:D} {h:Hp} (hd:HP d h) :
  (mkH enc HP pre res post).go (enc d) h=⟨pre d,res d,post d h⟩:=by
 have hx:∃d',enc d=enc d'∧HP d' h:=⟨d,rfl,hd⟩
 have e:hx.choose=d:=(inj _ _ _ hx.choose_spec.1 hd hx.choose_spec.2).symm
 simp only [mkH]
 rw [dif_pos hx,e]
theorem mkH_inv {D:Type} {enc:D→List V} {HP:D→Hp→Prop} {pre:D→Prop} {res:D→V} {post:D→Hp→Hp} {args:List V} {h:Hp} (hc:((mkH enc HP pre res post).go args h).c) :
  ∃d,args=enc d∧HP d h∧pre d∧(mkH enc HP pre res post).go args h=⟨pre d,res d,post d h⟩:=by
 simp only [mkH]at hc ⊢
 by_cases hx:∃d,args=enc d∧HP d h
 ·rw [dif_pos hx]at hc
  exact⟨hx.choose,hx.choose_spec.1,hx.choose_spec.2,hc,by rw [dif_pos hx]⟩
 ·rw [dif_neg hx]at hc; exact hc.elim
end Go.Sx
end
section
namespace Go.Sx
def cnt (P:Int→Bool) (x:Int):Nat→Int
 | 0=>0
 | n+1=>cnt P x n+if P (x+n)=true then 1 else 0
theorem cnt_split (P:Int→Bool) (x:Int) (m:Nat):∀n:Nat,cnt P x (m+n)=cnt P x m+cnt P (x+m) n
 | 0=>by simp [cnt]
 | n+1=>by
  have ih:=cnt_split P x m n
  rw [show m+(n+1)=(m+n)+1 from rfl,cnt,cnt,ih,show x+((m+n:Nat):Int)=x+m+n by omega]
  omega
theorem cnt_congr {P Q:Int→Bool} {x:Int}:∀n:Nat,(∀t,x≤t→t<x+n→P t=Q t)→cnt P x n=cnt Q x n
 | 0,_=>rfl
 | n+1,h=>by
  rw [cnt,cnt,cnt_congr n fun t h1 h2=>h t h1 (by omega),h (x+n) (by omega) (by omega)]
theorem cnt_add {P Q R:Int→Bool} {x:Int}:∀n:Nat,(∀t,x≤t→t<x+n→(if P t=true then (1:Int)else 0)=(if Q t=true then 1 else 0)+(if R t=true then 1 else 0))→cnt P x n=cnt Q x n+cnt R x n
 | 0,_=>rfl
 | n+1,h=>by
  have h1:=cnt_add n fun t h1 h2=>h t h1 (by omega)
  have h2:=h (x+n) (by omega) (by omega)
  rw [cnt,cnt,cnt,h1,h2]; omega
theorem cnt_le (P:Int→Bool) (x:Int):∀n:Nat,0≤cnt P x n∧cnt P x n≤n
 | 0=>by simp [cnt]
 | n+1=>by have:=cnt_le P x n; rw [cnt]; split<;>omega
theorem cnt_all {P:Int→Bool} {x:Int}:∀n:Nat,(∀t,x≤t→t<x+n→P t=true)→cnt P x n=n
 | 0,_=>rfl
 | n+1,h=>by rw [cnt,cnt_all n fun t h1 h2=>h t h1 (by omega),if_pos (h (x+n) (by omega) (by omega))]; omega
theorem cnt_none {P:Int→Bool} {x:Int}:∀n:Nat,(∀t,x≤t→t<x+n→P t=false)→cnt P x n=0
 | 0,_=>rfl
 | n+1,h=>by rw [cnt,cnt_none n fun t h1 h2=>h t h1 (by omega),h (x+n) (by omega) (by omega)]; rfl
def cn (P:Int→Bool) (x y:Int):Int:=cnt P x (y - x).toNat
theorem cn_split {P:Int→Bool} {x y z:Int} (h1:x≤y) (h2:y≤z):cn P x z=cn P x y+cn P y z:=by
 unfold cn
 rw [show(z - x).toNat=(y - x).toNat+(z - y).toNat by omega,cnt_split,show x+((y - x).toNat:Int)=y by omega]
theorem cn_congr {P Q:Int→Bool} {x y:Int} (h:∀t,x≤t→t<y→P t=Q t):cn P x y=cn Q x y:=cnt_congr _ fun t h1 h2=>h t h1 (by omega)
theorem cn_add {P Q R:Int→Bool} {x y:Int} (h:∀t,x≤t→t<y→(if P t=true then (1:Int)else 0)=(if Q t=true then 1 else 0)+(if R t=true then 1 else 0)):cn P x y=cn Q x y+cn R x y:=cnt_add _ fun t h1 h2=>h t h1 (by omega)
theorem cn_nonneg (P:Int→Bool) (x y:Int):0≤cn P x y:=(cnt_le P x _).1
theorem cn_all {P:Int→Bool} {x y:Int} (hxy:x≤y) (h:∀t,x≤t→t<y→P t=true):cn P x y=y - x:=by
 unfold cn; rw [cnt_all _ fun t h1 h2=>h t h1 (by omega)]; omega
theorem cn_none {P:Int→Bool} {x y:Int} (h:∀t,x≤t→t<y→P t=false):cn P x y=0:=cnt_none _ fun t h1 h2=>h t h1 (by omega)
theorem cn_empty {P:Int→Bool} {x y:Int} (h:y≤x):cn P x y=0:=cn_none fun t h1 h2=>by omega
theorem cn_one (P:Int→Bool) (x:Int):cn P x (x+1)=if P x=true then 1 else 0:=by
 unfold cn
 rw [show(x+1 - x).toNat=1 by omega]
 simp [cnt]
theorem cn_le {P:Int→Bool} {x y:Int} (h:x≤y):cn P x y≤y - x:=by
 have:=(cnt_le P x (y - x).toNat).2; unfold cn; omega
structure Du where
 p:Int
 a:Int
 b:Int
 deriving DecidableEq,Inhabited
def Du.on (d:Du) (t:Int):Bool:=decide (d.a≤t) && decide (t<d.b)
def onD (l:List Du) (t:Int):Bool:=l.any fun d=>d.on t
theorem onD_cons (d:Du) (l:List Du) (t:Int):onD (d::l) t=(d.on t || onD l t):=rfl
theorem onD_iff {l:List Du} {t:Int}:onD l t=true↔∃d∈l,d.a≤t∧t<d.b:=by
 simp [onD,Du.on,List.any_eq_true]
theorem onD_perm {l l':List Du} (h:l.Perm l') (t:Int):onD l t=onD l' t:=by
 unfold onD; exact h.any_eq
def swp (to:Int):List Du→Int→Int→Int
 | [],_,n=>n
 | d::r,done,n=>if max d.a done<min d.b to then swp to r (min d.b to) (n+(min d.b to - max d.a done))else swp to r done n
theorem swp_eq (to:Int):∀(l:List Du) (done n:Int),done≤to→l.Pairwise (fun x y=>x.a≤y.a)→swp to l done n=n+cn (onD l) done to
 | [],done,n,_,_=>by
  rw [swp,cn_none (P:=onD []) fun t _ _=>rfl]; omega
 | d::r,done,n,h,hp=>by
  rw [swp]
  have hr:=List.pairwise_cons.1 hp
  split
  ·rename_i h1
   rw [swp_eq to r _ _ (by omega) hr.2]
   have e1:cn (onD (d::r)) done to=cn (onD (d::r)) done (max d.a done)+(cn (onD (d::r)) (max d.a done) (min d.b to)+cn (onD (d::r)) (min d.b to) to):=by
    rw [←cn_split (by omega) (by omega),←cn_split (by omega) (by omega)]
   have e2:cn (onD (d::r)) done (max d.a done)=0:=cn_none fun t t1 t2=>by
    cases ht:onD (d::r) t
    ·rfl
    ·obtain⟨x,hx,hx1,hx2⟩:=onD_iff.1 ht
     rcases List.mem_cons.1 hx with rfl|hx
     ·omega
     ·have:=hr.1 x hx; omega
   have e3:cn (onD (d::r)) (max d.a done) (min d.b to)=min d.b to - max d.a done:=cn_all (by omega) fun t t1 t2=>onD_iff.2 ⟨d,List.mem_cons_self,by omega,by omega⟩
   have e4:cn (onD (d::r)) (min d.b to) to=cn (onD r) (min d.b to) to:=cn_congr fun t t1 t2=>by
    rw [onD_cons]
    have:d.on t=false:=by simp [Du.on]; omega
    rw [this]; rfl
   omega
  ·rename_i h1
   rw [swp_eq to r _ _ h hr.2]
   rw [cn_congr (P:=onD (d::r)) (Q:=onD r) fun t t1 t2=>by
    rw [onD_cons]
    have:d.on t=false:=by simp [Du.on]; omega
    rw [this]; rfl]
def wk (l:List Du) (x y:Int):Int:=cn (onD l) x y
theorem wk_perm {l l':List Du} (h:l.Perm l') (x y:Int):wk l x y=wk l' x y:=cn_congr fun t _ _=>onD_perm h t
theorem wk_sorted {l l':List Du} (h:l'.Perm l) (hs:l'.Pairwise (fun x y=>x.a≤y.a)) {x y:Int} (hxy:x≤y):swp y l' x 0=wk l x y:=by
 rw [swp_eq y l' x 0 hxy hs,Int.zero_add]; exact wk_perm h x y
theorem wk_left {l:List Du} {x W:Int} (hW:0≤W) (h:onD l (x - 1)=true):wk l x (x+W)≤wk l (x - 1) (x - 1+W):=by
 unfold wk
 by_cases h0:W=0
 ·subst h0; rw [cn_empty (by omega),cn_empty (by omega)]; omega
 have e1:cn (onD l) (x - 1) (x+W)=cn (onD l) (x - 1) x+cn (onD l) x (x+W):=cn_split (by omega) (by omega)
 have e2:cn (onD l) (x - 1) (x+W)=cn (onD l) (x - 1) (x - 1+W)+cn (onD l) (x - 1+W) (x+W):=cn_split (by omega) (by omega)
 have e3:cn (onD l) (x - 1) x=1:=by have:=cn_one (onD l) (x - 1); rw [Int.sub_add_cancel]at this; rw [this,if_pos h]
 have e4:cn (onD l) (x - 1+W) (x+W)≤1:=by have:=cn_le (P:=onD l) (x:=x - 1+W) (y:=x+W) (by omega); omega
 omega
theorem wk_right {l:List Du} {x W:Int} (hW:0≤W) (h:onD l x=false):wk l x (x+W)≤wk l (x+1) (x+1+W):=by
 unfold wk
 by_cases h0:W=0
 ·subst h0; rw [cn_empty (by omega),cn_empty (by omega)]; omega
 have e1:cn (onD l) x (x+1+W)=cn (onD l) x (x+1)+cn (onD l) (x+1) (x+1+W):=cn_split (by omega) (by omega)
 have e2:cn (onD l) x (x+1+W)=cn (onD l) x (x+W)+cn (onD l) (x+W) (x+1+W):=cn_split (by omega) (by omega)
 have e3:cn (onD l) x (x+1)=0:=by rw [cn_one,h]; rfl
 have e4:=cn_nonneg (onD l) (x+W) (x+1+W)
 omega
theorem begin_left {l:List Du} {W:Int} (hW:0≤W):∀(n:Nat) (x lo:Int),(∀d∈l,lo≤d.a)→x≤lo+n→onD l x=true→∃d∈l,wk l x (x+W)≤wk l d.a (d.a+W)
 | 0,x,lo,hlo,hx,h=>by
  obtain⟨d,hd,h1,h2⟩:=onD_iff.1 h
  have:=hlo d hd
  exact⟨d,hd,by rw [show x=d.a by omega]; exact Int.le_refl _⟩
 | n+1,x,lo,hlo,hx,h=>by
  by_cases h1:onD l (x - 1)=true
  ·obtain⟨d,hd,h2⟩:=begin_left hW n (x - 1) lo hlo (by omega) h1
   exact⟨d,hd,Int.le_trans (wk_left hW h1) h2⟩
  ·obtain⟨d,hd,h2,h3⟩:=onD_iff.1 h
   have:d.a=x:=by
    by_cases h4:d.a=x
    ·exact h4
    ·exact absurd (onD_iff.2 ⟨d,hd,by omega,by omega⟩) h1
   exact⟨d,hd,by rw [this]; exact Int.le_refl _⟩
theorem begin_right {l:List Du} {W:Int} (hW:0≤W) (hne:l≠[]):∀(n:Nat) (x hi:Int),(∀d∈l,d.b≤hi)→hi≤x+n→wk l x (x+W)=0∨∃y,onD l y=true∧wk l x (x+W)≤wk l y (y+W)
 | 0,x,hi,hhi,hx=>.inl (cn_none fun t t1 t2=>by
   cases ht:onD l t
   ·rfl
   ·obtain⟨d,hd,h1,h2⟩:=onD_iff.1 ht
    have:=hhi d hd; omega)
 | n+1,x,hi,hhi,hx=>by
  by_cases h:onD l x=true
  ·exact .inr ⟨x,h,Int.le_refl _⟩
  ·have h1:=wk_right hW (Bool.eq_false_iff.2 h)
   rcases begin_right hW hne n (x+1) hi hhi (by omega)with h2|⟨y,hy,h2⟩
   ·left; have:=cn_nonneg (onD l) x (x+W); unfold wk at h1 h2 ⊢; omega
   ·exact .inr ⟨y,hy,Int.le_trans h1 h2⟩
theorem bound_lo:∀l:List Du,∃lo:Int,∀d∈l,lo≤d.a
 | []=>⟨0,fun _ h=>by cases h⟩
 | d::l=>by
  obtain⟨lo,h⟩:=bound_lo l
  refine⟨min lo d.a,fun x hx=>?_⟩
  rcases List.mem_cons.1 hx with rfl|hx
  ·omega
  ·have:=h x hx; omega
theorem bound_hi:∀l:List Du,∃hi:Int,∀d∈l,d.b≤hi
 | []=>⟨0,fun _ h=>by cases h⟩
 | d::l=>by
  obtain⟨lo,h⟩:=bound_hi l
  refine⟨max lo d.b,fun x hx=>?_⟩
  rcases List.mem_cons.1 hx with rfl|hx
  ·omega
  ·have:=h x hx; omega
theorem wk_most {l:List Du} {W T:Int} (hW:0≤W) (hT:0≤T) (h:∀d∈l,wk l d.a (d.a+W)≤T) (x:Int):wk l x (x+W)≤T:=by
 by_cases hne:l=[]
 ·subst hne
  have:wk [] x (x+W)=0:=cn_none fun t _ _=>rfl
  omega
 obtain⟨lo,hlo⟩:=bound_lo l
 obtain⟨hi,hhi⟩:=bound_hi l
 rcases begin_right hW hne (hi - x).toNat x hi hhi (by omega)with h1|⟨y,hy,h1⟩
 ·omega
 ·obtain⟨d,hd,h2⟩:=begin_left hW (y - lo).toNat y lo hlo (by omega) hy
  have:=h d hd; omega
def totB (l:List Du) (W T:Int):Bool:=l.all fun d=>decide (wk l d.a (d.a+W)≤T) && decide (wk l (d.b - W) d.b≤T)
theorem totB_iff {l:List Du} {W T:Int} (hW:0≤W) (hT:0≤T):totB l W T=true↔∀x,wk l x (x+W)≤T:=by
 constructor
 ·intro h x
  refine wk_most hW hT (fun d hd=>?_) x
  have:=List.all_eq_true.1 h d hd
  simp at this; exact this.1
 ·intro h
  refine List.all_eq_true.2 fun d hd=>?_
  have h1:=h d.a
  have h2:=h (d.b - W)
  rw [Int.sub_add_cancel]at h2
  simp; exact⟨h1,h2⟩
def bus1 (d:Du) (x y:Int):Int:=max 0 (min y d.b - max x d.a)
theorem bus1_eq (d:Du) (x y:Int):bus1 d x y=cn d.on x y:=by
 unfold bus1
 by_cases h:max x d.a<min y d.b
 ·rw [cn_split (y:=max x d.a) (by omega) (by omega),cn_split (x:=max x d.a) (y:=min y d.b) (by omega) (by omega)]
  rw [cn_none (x:=x) (y:=max x d.a) fun t t1 t2=>by simp [Du.on]; omega,cn_all (x:=max x d.a) (y:=min y d.b) (by omega) fun t t1 t2=>by simp [Du.on]; omega,cn_none (x:=min y d.b) (y:=y) fun t t1 t2=>by simp [Du.on]; omega]
  omega
 ·rw [cn_none (x:=x) (y:=y) fun t t1 t2=>by simp [Du.on]; omega]; omega
def Disj (l:List Du):Prop:=l.Pairwise fun x y=>∀t,¬ (x.on t=true∧y.on t=true)
def besd (d:Du) (x y:Int):List Du→Int
 | []=>bus1 d x y
 | z::l=>besd d x y l+(bus1 z x y - bus1 z (max x d.a) (min y d.b))
theorem bus1_meet (z d:Du) (x y:Int):bus1 z (max x d.a) (min y d.b)=cn (fun t=>z.on t && d.on t) x y:=by
 rw [bus1_eq]
 by_cases h:max x d.a≤min y d.b
 ·rw [cn_split (P:=fun t=>z.on t && d.on t) (y:=max x d.a) (by omega) (by omega),cn_split (P:=fun t=>z.on t && d.on t) (x:=max x d.a) (y:=min y d.b) (by omega) (by omega)]
  rw [cn_none (P:=fun t=>z.on t && d.on t) (x:=x) (y:=max x d.a) fun t t1 t2=>by simp [Du.on]; omega,cn_none (P:=fun t=>z.on t && d.on t) (x:=min y d.b) (y:=y) fun t t1 t2=>by simp [Du.on]; omega]
  rw [cn_congr (P:=fun t=>z.on t && d.on t) (Q:=z.on) fun t t1 t2=>by
   have:d.on t=true:=by simp [Du.on]; omega
   simp [this]]
  omega
 ·rw [cn_empty (by omega)]
  exact(cn_none fun t t1 t2=>by simp [Du.on]; omega).symm
theorem besd_eq (d:Du) (x y:Int):∀l:List Du,Disj l→besd d x y l=wk (d::l) x y
 | [],_=>by
  rw [besd,bus1_eq]
  exact cn_congr fun t _ _=>by simp [onD]
 | z::l,h=>by
  have hz:=List.pairwise_cons.1 h
  rw [besd,besd_eq d x y l hz.2,bus1_eq,bus1_meet]
  have e1:cn z.on x y=cn (fun t=>z.on t && d.on t) x y+cn (fun t=>z.on t && !d.on t) x y:=cn_add fun t _ _=>by
   cases z.on t<;>cases d.on t<;>simp
  have e2:wk (d::z::l) x y=wk (d::l) x y+cn (fun t=>z.on t && !d.on t) x y:=cn_add fun t _ _=>by
   rw [onD_cons,onD_cons,onD_cons]
   cases hz1:z.on t
   ·cases d.on t<;>simp
   ·have:onD l t=false:=by
     cases ho:onD l t
     ·rfl
     ·obtain⟨w,hw,h1,h2⟩:=onD_iff.1 ho
      exact absurd ⟨hz1,by simp [Du.on,h1,h2]⟩ (hz.1 w hw t)
    cases d.on t<;>simp [this]
  omega
end Go.Sx
end
section
namespace Go.Sx
structure Pn where
 rat:Int
 rank:Int
 dive:Int
 deriving DecidableEq,Inhabited
def Pn.row (p:Pn):List V:=[.int .i64 p.rat,.int .i64 p.rank,.int .i64 p.dive]
theorem Pn.row_inj (a b:Pn) (h:a.row=b.row):a=b:=by
 cases a; cases b; simp [Pn.row]at h; simp [h]
def Du.row (p:Du):List V:=[.int .i64 p.p,.int .i64 p.a,.int .i64 p.b]
theorem Du.row_inj (a b:Du) (h:a.row=b.row):a=b:=by
 cases a; cases b; simp [Du.row]at h; simp [h]
structure Ro where
 ppl:List Pn
 lng:Int
 rst:Int
 win:Int
 tot:Int
 rcn:Int
 deriving DecidableEq,Inhabited
def pplV (l:List Pn):V:=.sl 3 (l.map Pn.row)
def Ro.row (r:Ro):List V:=[pplV r.ppl,.int .i64 r.lng,.int .i64 r.rst,.int .i64 r.win,.int .i64 r.tot,.int .i64 r.rcn]
theorem mapRow_inj {α:Type} {f:α→List V} (hf:∀a b,f a=f b→a=b):∀{a b:List α},a.map f=b.map f→a=b
 | [],[],_=>rfl
 | [],_::_,h=>by simp at h
 | _::_,[],h=>by simp at h
 | x::a,y::b,h=>by
  simp only [List.map_cons,List.cons.injEq]at h
  rw [hf _ _ h.1,mapRow_inj hf h.2]
theorem Ro.row_inj (a b:Ro) (h:a.row=b.row):a=b:=by
 cases a; cases b
 simp only [Ro.row,pplV,List.cons.injEq,V.sl.injEq,V.int.injEq,true_and,and_true]at h
 obtain⟨h1,h2,h3,h4,h5,h6⟩:=h
 rw [mapRow_inj Pn.row_inj h1,h2,h3,h4,h5,h6]
structure Cl where
 a:Int
 b:Int
 craft:Int
 water:Bool
 deriving DecidableEq,Inhabited
def Cl.row (c:Cl):List V:=[.int .i64 c.a,.int .i64 c.b,.int .i64 c.craft,.bool c.water]
theorem Cl.row_inj (a b:Cl) (h:a.row=b.row):a=b:=by
 cases a; cases b; simp [Cl.row]at h; simp [h]
def Pn.ok (p:Pn):Bool:=decide (0≤p.rat∧p.rat≤255) && decide (0≤p.rank∧p.rank≤3) && decide (0≤p.dive∧p.dive≤2000)
def Ro.ok (r:Ro):Bool:=decide (r.ppl.length≤12) && r.ppl.all Pn.ok && decide (1≤r.lng∧r.lng≤2000) && decide (0≤r.rst∧r.rst≤2000) && decide (1≤r.win∧r.win≤2000) && decide (1≤r.rcn∧r.rcn≤2000) && decide (1≤r.tot∧r.tot≤r.win)
structure Ro.Fit (r:Ro):Prop where
 n:r.ppl.length≤12
 p:∀p∈r.ppl,p.ok=true
 lng:1≤r.lng∧r.lng≤2000
 rst:0≤r.rst∧r.rst≤2000
 win:1≤r.win∧r.win≤2000
 rcn:1≤r.rcn∧r.rcn≤2000
 tot:1≤r.tot∧r.tot≤r.win
theorem Ro.ok_iff {r:Ro}:r.ok=true↔r.Fit:=by
 constructor
 ·intro h
  simp [Ro.ok]at h
  obtain⟨⟨⟨⟨⟨⟨h1,h2⟩,h3⟩,h4⟩,h5⟩,h6⟩,h7⟩:=h
  exact⟨h1,h2,h3,h4,h5,h6,h7⟩
 ·rintro⟨h1,h2,h3,h4,h5,h6,h7⟩
  simp [Ro.ok]
  exact⟨⟨⟨⟨⟨⟨h1,h2⟩,h3⟩,h4⟩,h5⟩,h6⟩,h7⟩
def strB (a b:Int):Bool:=decide (0≤a∧a≤b - 1) && decide (b≤2000)
theorem strB_iff {a b:Int}:strB a b=true↔0≤a∧a<b∧b≤2000:=by
 simp [strB]; omega
def Val (l:List Du):Prop:=∀d∈l,0≤d.a∧d.a<d.b∧d.b≤2000
def own (l:List Du) (n:Int):List Du:=l.filter fun d=>decide (d.p=n)
theorem own_val {l:List Du} (h:Val l) (n:Int):Val (own l n):=fun d hd=>h d (List.mem_filter.1 hd).1
theorem own_len (l:List Du) (n:Int):(own l n).length≤l.length:=List.length_filter_le ..
def restB (r:Ro) (x y:Du):Bool:=if y.a<x.a then decide (y.b+r.rst≤x.a)else decide (x.b+r.rst≤y.a)
def recB (r:Ro) (o:List Du) (x:Du):Bool:=decide (x.a≤r.rcn) || o.any fun d=>decide (0≤x.a - d.b∧x.a - d.b≤r.rcn)
def brk (r:Ro) (o:List Du) (x:Du):List Int:=
 (if (o.all fun d=>restB r d x)=true then []else [3])++(if r.lng<x.b - x.a then [4]else [])++(if totB (o++[x]) r.win r.tot=true then []else [5])++(if recB r o x=true then []else [6])
theorem brk_nil {r:Ro} {o:List Du} {x:Du}:brk r o x=[]↔(∀d∈o,restB r d x=true)∧x.b - x.a≤r.lng∧totB (o++[x]) r.win r.tot=true∧recB r o x=true:=by
 unfold brk
 by_cases h1:(o.all fun d=>restB r d x)=true
 ·have h1':=List.all_eq_true.1 h1
  by_cases h2:r.lng<x.b - x.a
  ·simp [h2]; intro _ h; omega
  ·by_cases h3:totB (o++[x]) r.win r.tot=true
   ·by_cases h4:recB r o x=true
    ·simp [h1,h2,h3,h4]; exact⟨h1',by omega⟩
    ·simp [h1,h2,h3,h4]
   ·simp [h1,h2,h3]
 ·have:¬ ∀d∈o,restB r d x=true:=fun h=>h1 (List.all_eq_true.2 h)
  simp [h1,this]
def rrest (r:Ro) (l:List Du) (d:Du):Bool:=l.all fun x=>!(decide (x.p=d.p) && decide (d.a<x.b+r.rst) && decide (x.a<d.b+r.rst))
def bsd (d:Du) (x y:Int):List Du→Int→Int
 | [],n=>n
 | z::l,n=>bsd d x y l (if z.p=d.p then n+(bus1 z x y - bus1 z (max x d.a) (min y d.b))else n)
def rwin (r:Ro) (l:List Du) (d:Du):Bool:=(l++[d]).all fun z=>!decide (z.p=d.p) || (decide (bsd d z.a (z.a+r.win) l (bus1 d z.a (z.a+r.win))≤r.tot) && decide (bsd d (max 0 (z.b - r.win)) (max 0 (z.b - r.win)+r.win) l (bus1 d (max 0 (z.b - r.win)) (max 0 (z.b - r.win)+r.win))≤r.tot))
def rrec (r:Ro) (l:List Du) (d:Du):Bool:=decide (d.a≤r.rcn) || l.any fun x=>decide (x.p=d.p) && decide (x.b≤d.a) && decide (d.a - r.rcn≤x.b)
def rbrk (r:Ro) (l:List Du) (d:Du):List Int:=
 (if rrest r l d=true then []else [3])++(if r.lng<d.b - d.a then [4]else [])++(if rwin r l d=true then []else [5])++(if rrec r l d=true then []else [6])
theorem bsd_own (d:Du) (x y:Int):∀(l:List Du) (n:Int),bsd d x y l n=n+(besd d x y (own l d.p) - bus1 d x y)
 | [],n=>by simp [bsd,own,besd]
 | z::l,n=>by
  rw [bsd,bsd_own d x y l]
  by_cases h:z.p=d.p
  ·rw [if_pos h,show own (z::l) d.p=z::own l d.p by simp [own,h],besd]; omega
  ·rw [if_neg h,show own (z::l) d.p=own l d.p by simp [own,h]]
theorem bsd_eq {d:Du} {x y:Int} {l:List Du} (h:Disj (own l d.p)):bsd d x y l (bus1 d x y)=wk (own l d.p++[d]) x y:=by
 rw [bsd_own,besd_eq d x y _ h]
 have:wk (d::own l d.p) x y=wk (own l d.p++[d]) x y:=wk_perm (by simpa using (List.perm_append_comm (l₁:=[d]) (l₂:=own l d.p))) x y
 omega
theorem own_snoc (l:List Du) (d:Du):own (l++[d]) d.p=own l d.p++[d]:=by simp [own,List.filter_append]
theorem all_own (l:List Du) (n:Int) (p:Du→Bool):(l.all fun z=>!decide (z.p=n) || p z)=(own l n).all p:=by
 induction l with
 | nil=>rfl
 | cons z l ih=>
  by_cases h:z.p=n
  ·rw [show own (z::l) n=z::own l n by simp [own,h]]; simp [h,ih]
  ·rw [show own (z::l) n=own l n by simp [own,h]]; simp [h,ih]
theorem rwin_eq {r:Ro} (hr:r.Fit) {l:List Du} {d:Du} (h:Disj (own l d.p)) (hv:Val (own l d.p)) (hd:0≤d.a∧d.a<d.b∧d.b≤2000):rwin r l d=totB (own l d.p++[d]) r.win r.tot:=by
 unfold rwin
 rw [all_own,own_snoc]
 simp only [bsd_eq h]
 rw [Bool.eq_iff_iff]
 rw [totB_iff (by have:=hr.win; omega) (by have:=hr.tot; omega)]
 constructor
 ·intro h1 x
  refine wk_most (by have:=hr.win; omega) (by have:=hr.tot; omega) (fun z hz=>?_) x
  have:=List.all_eq_true.1 h1 z hz
  simp at this; exact this.1
 ·intro h1
  refine List.all_eq_true.2 fun z hz=>?_
  simp; exact⟨h1 _,h1 _⟩
theorem own_mem {l:List Du} {n:Int} {x:Du}:x∈own l n↔x∈l∧x.p=n:=by simp [own]
theorem rrest_eq {r:Ro} (hr:r.Fit) {l:List Du} {d:Du} (hv:Val (own l d.p)) (hd:0≤d.a∧d.a<d.b∧d.b≤2000):rrest r l d=(own l d.p).all fun x=>restB r x d:=by
 have hrr:=hr.rst
 unfold rrest
 rw [Bool.eq_iff_iff,List.all_eq_true,List.all_eq_true]
 constructor
 ·intro h x hx
  have h1:=h x (own_mem.1 hx).1
  have h2:=(own_mem.1 hx).2
  have h3:=hv x hx
  simp [h2]at h1
  unfold restB
  split
  ·simp; omega
  ·simp
   omega
 ·intro h x hx
  by_cases h2:x.p=d.p
  ·have hx':=own_mem.2 ⟨hx,h2⟩
   have h1:=h x hx'
   have h3:=hv x hx'
   unfold restB at h1
   simp [h2]
   split at h1
   ·simp at h1; omega
   ·simp at h1; omega
  ·simp [h2]
theorem rrec_eq {r:Ro} {l:List Du} {d:Du}:rrec r l d=recB r (own l d.p) d:=by
 unfold rrec recB
 congr 1
 rw [Bool.eq_iff_iff,List.any_eq_true,List.any_eq_true]
 constructor
 ·rintro⟨x,hx,h⟩
  simp at h
  exact⟨x,own_mem.2 ⟨hx,h.1.1⟩,by simp; omega⟩
 ·rintro⟨x,hx,h⟩
  have:=own_mem.1 hx
  simp at h
  exact⟨x,this.1,by simp [this.2]; omega⟩
theorem rbrk_eq {r:Ro} (hr:r.Fit) {l:List Du} {d:Du} (h:Disj (own l d.p)) (hv:Val (own l d.p)) (hd:0≤d.a∧d.a<d.b∧d.b≤2000):rbrk r l d=brk r (own l d.p) d:=by
 unfold rbrk brk
 rw [rrest_eq hr hv hd,rwin_eq hr h hv hd,rrec_eq]
def duAt (l:List Du) (i:Nat):Du:=l.getD i default
def duOk (r:Ro) (l:List Du) (i:Nat):Bool:=
 decide (0≤(duAt l i).p∧(duAt l i).p≤r.ppl.length - 1) && strB (duAt l i).a (duAt l i).b && (decide (i=0) || decide ((duAt l (i - 1)).a≤(duAt l i).a)) && (brk r (own (l.take i) (duAt l i).p) (duAt l i)).isEmpty
theorem duOk_iff {r:Ro} {l:List Du} {i:Nat}:duOk r l i=true↔(0≤(duAt l i).p∧(duAt l i).p≤r.ppl.length - 1)∧(0≤(duAt l i).a∧(duAt l i).a<(duAt l i).b∧(duAt l i).b≤2000)∧(i=0∨(duAt l (i - 1)).a≤(duAt l i).a)∧brk r (own (l.take i) (duAt l i).p) (duAt l i)=[]:=by
 unfold duOk
 simp only [Bool.and_eq_true,strB_iff,Bool.or_eq_true,decide_eq_true_eq,List.isEmpty_iff,and_assoc]
def Rt (r:Ro) (l:List Du) (n:Nat):Prop:=∀i,i<n→duOk r l i=true
theorem take_snoc {α:Type} [Inhabited α] (l:List α) {n:Nat} (h:n<l.length):l.take (n+1)=l.take n++[l.getD n default]:=by
 rw [List.take_add_one]; simp [List.getD,h]
theorem Rt.val {r:Ro} {l:List Du}:∀{n:Nat},n≤l.length→Rt r l n→Val (l.take n)
 | 0,_,_=>fun d hd=>by simp at hd
 | n+1,hn,h=>by
  rw [take_snoc l (by omega)]
  intro d hd
  rcases List.mem_append.1 hd with hd|hd
  ·exact Rt.val (by omega) (fun i hi=>h i (by omega)) d hd
  ·have:=List.mem_singleton.1 hd
   subst this
   exact(duOk_iff.1 (h n (by omega))).2.1
theorem rest_disj {r:Ro} (hr:0≤r.rst) {x y:Du} (h:restB r x y=true) (t:Int):¬ (x.on t=true∧y.on t=true):=by
 rintro⟨h1,h2⟩
 simp [Du.on]at h1 h2
 unfold restB at h
 split at h<;>simp at h<;>omega
theorem Rt.disj {r:Ro} (hr:0≤r.rst) {l:List Du} (p:Int):∀{n:Nat},n≤l.length→Rt r l n→Disj (own (l.take n) p)
 | 0,_,_=>by simp [own,Disj]
 | n+1,hn,h=>by
  have ih:=Rt.disj hr p (n:=n) (by omega) (fun i hi=>h i (by omega))
  rw [take_snoc l (by omega)]
  have hk:=duOk_iff.1 (h n (by omega))
  change Disj (own (l.take n++[duAt l n]) p)
  by_cases hp:(duAt l n).p=p
  ·have e:own (l.take n++[duAt l n]) p=own (l.take n) p++[duAt l n]:=by simp [own,List.filter_append,hp]
   rw [e]
   refine List.pairwise_append.2 ⟨ih,List.pairwise_singleton ..,fun x hx y hy=>?_⟩
   have:=List.mem_singleton.1 hy
   subst this
   rw [hp]at hk
   exact rest_disj hr ((brk_nil.1 hk.2.2.2).1 x hx)
  ·have e:own (l.take n++[duAt l n]) p=own (l.take n) p:=by simp [own,List.filter_append,hp]
   rw [e]; exact ih
def badDu (r:Ro) (l:List Du):Int:=idxZ (List.range l.length) fun i=>!duOk r l i
def chkE (r:Ro) (l:List Du):Int × Int:=if r.ok=true then (if 60<l.length then (0,2)else if 0≤badDu r l then (badDu r l,101)else (0,0))else (0,100)
theorem badDu_none {r:Ro} {l:List Du} (h:badDu r l<0):Rt r l l.length:=by
 intro i hi
 have hz:=idxZ_any (List.range l.length) fun j=>!duOk r l j
 have e:decide (0≤idxZ (List.range l.length) fun j=>!duOk r l j)=false:=by
  have:idxZ (List.range l.length) (fun j=>!duOk r l j)=badDu r l:=rfl
  rw [this]; simp; omega
 rw [e]at hz
 have:=List.any_eq_false.1 hz.symm i (by simpa using hi)
 simpa using this
theorem badDu_of {r:Ro} {l:List Du} (h:Rt r l l.length):badDu r l = -1:=idxZ_none _ _ fun j hj=>by
 simp at hj ⊢; exact h j hj
theorem chkE_zero {r:Ro} {l:List Du}:(chkE r l).2=0↔r.Fit∧l.length≤60∧Rt r l l.length:=by
 unfold chkE
 by_cases h1:r.ok=true
 ·rw [if_pos h1]
  by_cases h2:60<l.length
  ·rw [if_pos h2]; simp; omega
  ·rw [if_neg h2]
   by_cases h3:0≤badDu r l
   ·rw [if_pos h3]; simp
    intro _ _ h; rw [badDu_of h]at h3; omega
   ·rw [if_neg h3]; simp
    exact⟨Ro.ok_iff.1 h1,by omega,badDu_none (by omega)⟩
 ·rw [if_neg h1]; simp
  intro h; exact absurd (Ro.ok_iff.2 h) h1
def bit1 (x k:Int):Bool:=x.toNat.testBit k.toNat
def pnAt (r:Ro) (n:Int):Pn:=r.ppl.getD n.toNat default
def whyL (r:Ro) (l:List Du) (n:Int) (c:Cl):List Int:=
 (if bit1 (pnAt r n).rat c.craft=true then []else [1])++(if c.water=true∧(pnAt r n).dive<c.b then [2]else [])++brk r (own l n) ⟨n,c.a,c.b⟩
def callB (c:Cl):Bool:=strB c.a c.b && decide (0≤c.craft∧c.craft≤7)
def perB (r:Ro) (n:Int):Bool:=decide (0≤n∧n≤r.ppl.length - 1)
def mayB (r:Ro) (l:List Du) (c:Cl) (i k:Nat):Bool:=decide (i≠k) && (decide (2≤(pnAt r i).rank) && (whyL r l i c).isEmpty) && (decide (1≤(pnAt r k).rank) && (whyL r l k c).isEmpty)
def crwL (r:Ro) (l:List Du) (c:Cl):List (Int × Int):=
 (List.range r.ppl.length).flatMap fun i:Nat=>((List.range r.ppl.length).filter fun k:Nat=>mayB r l c i k).map fun k:Nat=>((i:Int),(k:Int))
end Go.Sx
end
section
namespace Go.Sx
variable [Gls]
section
variable {σ:Type} {LC:σ→List (Nat × Site)} {keys:List Nat}
def Ob (LC:σ→List (Nat × Site)) (s:σ) (h:Hp):Hp:=hps (LC s) h
omit [Gls]in
theorem ob_ne (hk:∀s,(LC s).map (·.1)=keys) {s:σ} {h:Hp} {k:Nat} (hn:keys.contains k=false):Ob LC s h k=h k:=
 hps_not (by rw [hk]; simpa [List.contains_eq_mem]using hn)
omit [Gls]in
theorem ob_ob (hk:∀s,(LC s).map (·.1)=keys) (s s':σ) (h:Hp):Ob LC s (Ob LC s' h)=Ob LC s h:=by
 funext k
 by_cases hn:k∈keys
 ·exact hps_mem (by rw [hk]; exact hn)
 ·have hn':keys.contains k=false:=by simpa [List.contains_eq_mem]using hn
  rw [ob_ne hk hn',ob_ne hk hn',ob_ne hk hn']
omit [Gls]in
theorem ob_over (hk:∀s,(LC s).map (·.1)=keys) {s:σ} {h:Hp} {L:List (Nat × Site)} (hn:(L.all fun p=>!keys.contains p.1)=true):hps L (Ob LC s h)=Ob LC s (hps L h):=by
 funext k
 by_cases hm:k∈L.map (·.1)
 ·have hnk:keys.contains k=false:=by
   obtain⟨p,hp,rfl⟩:=List.mem_map.1 hm
   simpa using List.all_eq_true.1 hn p hp
  rw [ob_ne hk hnk]; exact hps_mem hm
 ·rw [hps_not hm]
  by_cases hnk:k∈keys
  ·exact hps_mem (by rw [hk]; exact hnk)
  ·have hn':keys.contains k=false:=by simpa [List.contains_eq_mem]using hnk
   rw [ob_ne hk hn',ob_ne hk hn',hps_not hm]
omit [Gls]in
theorem ob_hpush (hk:∀s,(LC s).map (·.1)=keys) {s:σ} {h:Hp} {k:Nat} (hn:keys.contains k=false) (B:Blk):hpush (Ob LC s h) k B=Ob LC s (hpush h k B):=by
 funext j
 by_cases hj:j∈keys
 ·have hne:j≠k:=by rintro rfl; simp [List.contains_eq_mem,hj]at hn
  simp only [hpush,hne,if_false]
  exact hps_mem (by rw [hk]; exact hj)
 ·have hj':keys.contains j=false:=by simpa [List.contains_eq_mem]using hj
  rw [ob_ne hk hj']
  simp only [hpush,ob_ne hk hn,ob_ne hk hj']
omit [Gls]in
theorem ob_hset (hk:∀s,(LC s).map (·.1)=keys) {s:σ} {h:Hp} {k i:Nat} (hn:keys.contains k=false) (B:Blk):hset (Ob LC s h) k i B=Ob LC s (hset h k i B):=by
 funext j
 by_cases hj:j∈keys
 ·have hne:j≠k:=by rintro rfl; simp [List.contains_eq_mem,hj]at hn
  simp only [hset,hne,if_false]
  exact hps_mem (by rw [hk]; exact hj)
 ·have hj':keys.contains j=false:=by simpa [List.contains_eq_mem]using hj
  rw [ob_ne hk hj']
  simp only [hset,ob_ne hk hn,ob_ne hk hj']
theorem ob_write {s s':σ} {h:Hp} {k i:Nat} {B:Blk} (hk:∀s,(LC s).map (·.1)=keys) (hm:keys.contains k=true) (ho:∀j∈keys,j≠k→Ob LC s' h j=Ob LC s h j)
  (hw:Ob LC s' h k={Ob LC s h k with blks:=(Ob LC s h k).blks.set (i - (Ob LC s h k).base) B}):hset (Ob LC s h) k i B=Ob LC s' h:=by
 funext j
 by_cases hj:j=k
 ·subst hj; simp only [hset,if_true]; exact hw.symm
 ·simp only [hset,hj,if_false]
  by_cases hjk:j∈keys
  ·exact(ho j hjk hj).symm
  ·have hj':keys.contains j=false:=by simpa [List.contains_eq_mem]using hjk
   rw [ob_ne hk hj',ob_ne hk hj']
omit [Gls]in
theorem ob_mt {s:σ} {h:Hp} (hk:∀s,(LC s).map (·.1)=keys):Mt LC keys s h↔h=Ob LC s h:=by
 constructor
 ·intro hm
  exact(hps_self fun k hkk=>hm k (by rw [←hk s]; exact hkk)).symm
 ·intro he k hkk
  have:h k=Ob LC s h k:=congrFun he k
  rw [this]
  exact hps_mem (by rw [hk]; exact hkk)
omit [Gls]in
theorem ob_mt' {s:σ} {h:Hp} (hk:∀s,(LC s).map (·.1)=keys):Mt LC keys s (Ob LC s h):=(ob_mt hk).2 (ob_ob hk s s h).symm
theorem ob_hle {s:σ} {L L':List (Nat × Site)} {H:Hp} (h:allK (fun k=>sLe (hps L H k) (hps L' H k)) (L.map (·.1)++L'.map (·.1))) (hy:(L.map (·.1)++L'.map (·.1)).contains 999999999=false:=by first|rfl|simp):HLe (Ob LC s (hps L H)) (Ob LC s (hps L' H)):=by
 have hb:=hle_hpsb (H:=H) h hy
 have hns:YS ∉ L.map (·.1)++L'.map (·.1):=by
  intro hm
  have:(L.map (·.1)++L'.map (·.1)).contains 999999999=true:=by simpa [List.contains_eq_mem]using hm
  rw [hy]at this; cases this
 refine .sites (fun k=>?_) ?_
 ·by_cases hm:k∈(LC s).map (·.1)
  ·have:Ob LC s (hps L' H) k=Ob LC s (hps L H) k:=hps_mem hm
   rw [this]; exact .same rfl rfl
  ·have e1:Ob LC s (hps L' H) k=hps L' H k:=hps_not hm
   have e2:Ob LC s (hps L H) k=hps L H k:=hps_not hm
   rw [e1,e2]
   by_cases hs:k∈L.map (·.1)++L'.map (·.1)
   ·exact allK_mem h k hs
   ·rw [List.mem_append,not_or]at hs
    rw [hps_not hs.1,hps_not hs.2]
    exact .same rfl rfl
 ·by_cases hm:YS∈(LC s).map (·.1)
  ·exact hps_mem hm
  ·have e1:Ob LC s (hps L' H) YS=hps L' H YS:=hps_not hm
   have e2:Ob LC s (hps L H) YS=hps L H YS:=hps_not hm
   rw [e1,e2]
   exact hb.2
section
variable {D:Type}
open Classical in
def obS (LC:σ→List (Nat × Site)) (keys:List Nat) (enc:σ→D→List V) (pre:σ→D→Hp→Prop) (res:σ→D→Hp→V) (nxt:σ→D→σ) (fin:σ→D→Hp→Hp):HSpec where
 go args h:=if x:∃p:σ × D,Mt LC keys p.1 h∧args=enc p.1 p.2 then ⟨pre x.choose.1 x.choose.2 h,res x.choose.1 x.choose.2 h,Ob LC (nxt x.choose.1 x.choose.2) (fin x.choose.1 x.choose.2 h)⟩else bad h
variable {enc:σ→D→List V} {pre:σ→D→Hp→Prop} {res:σ→D→Hp→V} {nxt:σ→D→σ} {fin:σ→D→Hp→Hp}
omit [Gls]in
theorem obS_go (hk:∀s,(LC s).map (·.1)=keys) (inj:∀s s',(∀k∈keys,hps (LC s) noH k=hps (LC s') noH k)→s=s') (ein:∀s d d',enc s d=enc s d'→d=d') (s:σ) (d:D) (h:Hp) :
  (obS LC keys enc pre res nxt fin).go (enc s d) (Ob LC s h)=⟨pre s d (Ob LC s h),res s d (Ob LC s h),Ob LC (nxt s d) (fin s d (Ob LC s h))⟩:=by
 have x:∃p:σ × D,Mt LC keys p.1 (Ob LC s h)∧enc s d=enc p.1 p.2:=⟨(s,d),ob_mt' hk,rfl⟩
 have e1:x.choose.1=s:=inj _ _ fun k hkk=>((x.choose_spec.1 k hkk).symm.trans (ob_mt' (h:=h) hk k hkk))
 have e2:x.choose.2=d:=ein s _ _ (by have:=x.choose_spec.2; rw [e1]at this; exact this.symm)
 simp only [obS,dif_pos x,e1,e2]
omit [Gls]in
theorem obS_inv (hk:∀s,(LC s).map (·.1)=keys) {args:List V} {h:Hp} (hc:((obS LC keys enc pre res nxt fin).go args h).c) :
  ∃s d,h=Ob LC s h∧args=enc s d∧pre s d h∧(obS LC keys enc pre res nxt fin).go args h=⟨pre s d h,res s d h,Ob LC (nxt s d) (fin s d h)⟩:=by
 by_cases x:∃p:σ × D,Mt LC keys p.1 h∧args=enc p.1 p.2
 ·simp only [obS,dif_pos x]at hc ⊢
  exact⟨x.choose.1,x.choose.2,(ob_mt hk).1 x.choose_spec.1,x.choose_spec.2,hc,rfl⟩
 ·simp only [obS,dif_neg x]at hc
  exact hc.elim
end
end
def Blank (own:List Nat) (h:Hp):Prop:=∀k∈own,h k={base:=(h k).base,blks:=[]}
def bmp (own:List Nat) (n:Nat) (h:Hp):Hp:=hps (own.map fun k=>(k,{base:=(h k).base+n,blks:=[]})) h
omit [Gls]in
theorem Blank.self {own:List Nat} {h:Hp} (hb:Blank own h):h=hps (own.map fun k=>(k,{base:=(h k).base,blks:=[]})) h:=by
 refine(hps_self fun k hk=>?_).symm
 have hk':k∈own:=by simpa [List.map_map,Function.comp_def]using hk
 rw [hb k hk']
 clear hk
 induction own with
 | nil=>cases hk'
 | cons a r ih=>
  simp only [List.map_cons,hps]
  by_cases e:k=a
  ·subst e; rw [if_pos rfl]
  ·rw [if_neg e]
   rcases List.mem_cons.1 hk' with h|h
   ·exact absurd h e
   ·exact ih (fun j hj=>hb j (by simp [hj])) h
end Go.Sx
end
section
namespace Go.Sx
abbrev wr (n:Int):Int:=IntKind.wrap .i64 n
def strW (a b:Int):Bool:=decide (0≤a∧a≤wr (b - 1)) && decide (b≤2000)
def restW (r:Ro) (x y:Du):Bool:=if y.a<x.a then decide (wr (y.b+r.rst)≤x.a)else decide (wr (x.b+r.rst)≤y.a)
def nearW (r:Ro) (x d:Du):Bool:=decide (0≤wr (x.a - d.b)∧wr (x.a - d.b)≤r.rcn)
def recW (r:Ro) (o:List Du) (x:Du):Bool:=decide (x.a≤r.rcn) || o.any (nearW r x)
def swpW (to:Int):List Du→Int→Int→Int
 | [],_,n=>n
 | d::r,done,n=>if max d.a done<min d.b to then swpW to r (min d.b to) (wr (n+wr (min d.b to - max d.a done)))else swpW to r done n
section
variable (srt:List Du→List Du)
def wkW (l:List Du) (x y:Int):Int:=swpW y (srt l) x 0
def totW (l:List Du) (W T:Int):Bool:=l.all fun d=>decide (wkW srt l d.a (wr (d.a+W))≤T) && decide (wkW srt l (wr (d.b - W)) d.b≤T)
def brkW (r:Ro) (o:List Du) (x:Du):List Int:=
 (if (o.any fun d=>!restW r d x)=true then [3]else [])++(if r.lng<wr (x.b - x.a)then [4]else [])++(if totW srt (o++[x]) r.win r.tot=true then []else [5])++(if recW r o x=true then []else [6])
def duOkW (r:Ro) (l:List Du) (i:Nat):Bool:=
 decide (0≤(duAt l i).p∧(duAt l i).p≤r.ppl.length - 1) && strW (duAt l i).a (duAt l i).b && (decide (i=0) || decide ((duAt l (i - 1)).a≤(duAt l i).a)) && (brkW srt r (own (l.take i) (duAt l i).p) (duAt l i)).isEmpty
def badDuW (r:Ro) (l:List Du):Int:=idxZ (List.range l.length) fun i=>!duOkW srt r l i
def chkEW (r:Ro) (l:List Du):Int × Int:=if r.ok=true then (if 60<l.length then (0,2)else if 0≤badDuW srt r l then (badDuW srt r l,101)else (0,0))else (0,100)
def whyW (r:Ro) (l:List Du) (n:Int) (c:Cl):List Int:=
 (if bit1 (pnAt r n).rat c.craft=true then []else [1])++(if c.water=true∧(pnAt r n).dive<c.b then [2]else [])++brkW srt r (own l n) ⟨n,c.a,c.b⟩
def callW (c:Cl):Bool:=strW c.a c.b && decide (0≤c.craft∧c.craft≤7)
def chk2W (r:Ro) (l:List Du) (b:Bool):Int:=if (chkEW srt r l).2=0 then (if b=true then 0 else 1)else (chkEW srt r l).2
end
structure SrtOk (srt:List Du→List Du):Prop where
 perm:∀l,(∀d∈l,0≤d.a∧d.a≤9223372036854775807)→(srt l).Perm l
 sort:∀l,(∀d∈l,0≤d.a∧d.a≤9223372036854775807)→(srt l).Pairwise fun x y=>x.a≤y.a
theorem Val.beg {l:List Du} (h:Val l):∀d∈l,0≤d.a∧d.a≤9223372036854775807:=fun d hd=>by have:=h d hd; omega
theorem strW_iff {a b:Int} (hb : -9223372036854775808<b) (hb2:b≤9223372036854775807):strW a b=strB a b:=by
 unfold strW strB; rw [show wr (b - 1)=b - 1 from wrap_id (by omega) (by omega)]
theorem strW_beg {a b:Int} (h:strW a b=true):0≤a∧a≤9223372036854775807:=by
 simp [strW]at h
 have:wr (b - 1)≤9223372036854775807:=by
  rw [wr,IntKind.wrap_i64]; omega
 omega
theorem swpW_eq {to:Int} (hto:to≤1000000):∀(l:List Du) (done n:Int),Val l→-1000000≤done→done≤to→0≤n→n≤done+1000000→swpW to l done n=swp to l done n
 | [],_,_,_,_,_,_,_=>rfl
 | d::r,done,n,hv,h1,h2,h3,h4=>by
  have hd:=hv d (by simp)
  rw [swpW,swp]
  split
  ·rename_i h
   rw [show wr (min d.b to - max d.a done)=min d.b to - max d.a done from wrap_id (by omega) (by omega),show wr (n+(min d.b to - max d.a done))=n+(min d.b to - max d.a done)from wrap_id (by omega) (by omega)]
   exact swpW_eq hto r _ _ (fun x hx=>hv x (by simp [hx])) (by omega) (by omega) (by omega) (by omega)
  ·exact swpW_eq hto r _ _ (fun x hx=>hv x (by simp [hx])) h1 h2 h3 h4
section
variable {srt:List Du→List Du} (hs:SrtOk srt)
include hs
theorem wkW_eq {l:List Du} (hv:Val l) {x y:Int} (hx : -1000000≤x) (hxy:x≤y) (hy:y≤1000000):wkW srt l x y=wk l x y:=by
 have hp:=hs.perm l hv.beg
 have hv':Val (srt l):=fun d hd=>hv d (hp.mem_iff.1 hd)
 rw [wkW,swpW_eq hy (srt l) x 0 hv' hx hxy (by omega) (by omega),wk_sorted hp (hs.sort l hv.beg) hxy]
theorem totW_eq {l:List Du} (hv:Val l) {W T:Int} (hW:1≤W∧W≤2000):totW srt l W T=totB l W T:=by
 unfold totW totB
 rw [Bool.eq_iff_iff,List.all_eq_true,List.all_eq_true]
 refine forall_congr' fun d=>forall_congr' fun hd=>?_
 have:=hv d hd
 rw [show wr (d.a+W)=d.a+W from wrap_id (by omega) (by omega),show wr (d.b - W)=d.b - W from wrap_id (by omega) (by omega),wkW_eq hs hv (by omega) (by omega) (by omega),wkW_eq hs hv (by omega) (by omega) (by omega)]
theorem brkW_eq {r:Ro} (hr:r.Fit) {o:List Du} (hv:Val o) {x:Du} (hx:0≤x.a∧x.a<x.b∧x.b≤2000):brkW srt r o x=brk r o x:=by
 have h1:=hr.rst
 have e1:(o.any fun d=>!restW r d x)=!(o.all fun d=>restB r d x):=by
  rw [List.not_all_eq_any_not,Bool.eq_iff_iff,List.any_eq_true,List.any_eq_true]
  refine exists_congr fun d=>and_congr_right fun hd=>?_
  have:=hv d hd
  unfold restW restB
  rw [show wr (x.b+r.rst)=x.b+r.rst from wrap_id (by omega) (by omega),show wr (d.b+r.rst)=d.b+r.rst from wrap_id (by omega) (by omega)]
 have e2:recW r o x=recB r o x:=by
  unfold recW recB nearW
  congr 1
  rw [Bool.eq_iff_iff,List.any_eq_true,List.any_eq_true]
  refine exists_congr fun d=>and_congr_right fun hd=>?_
  have:=hv d hd
  rw [show wr (x.a - d.b)=x.a - d.b from wrap_id (by omega) (by omega)]
 have hv':Val (o++[x]):=fun d hd=>by
  rcases List.mem_append.1 hd with h|h
  ·exact hv d h
  ·have:=List.mem_singleton.1 h; subst this; exact hx
 unfold brkW brk
 rw [e1,e2,totW_eq hs hv' hr.win,show wr (x.b - x.a)=x.b - x.a from wrap_id (by omega) (by omega)]
 cases (o.all fun d=>restB r d x)<;>simp
theorem Rt.duOkW {r:Ro} (hr:r.Fit) {l:List Du} {i:Nat} (hi:i<l.length) (h:Rt r l (i+1)):duOkW srt r l i=true:=by
 have hk:=h i (by omega)
 have hk':=duOk_iff.1 hk
 have hv:=Rt.val (n:=i) (by omega) fun j hj=>h j (by omega)
 unfold Sx.duOkW
 unfold duOk at hk
 rw [strW_iff (by omega) (by omega),brkW_eq hs hr (own_val hv _) hk'.2.1]
 exact hk
theorem chkEW_of {r:Ro} {l:List Du} (h:(chkE r l).2=0):chkEW srt r l=(0,0):=by
 obtain⟨h1,h2,h3⟩:=chkE_zero.1 h
 have:badDuW srt r l = -1:=idxZ_none _ _ fun j hj=>by
  simp at hj ⊢
  exact Rt.duOkW hs h1 hj fun i hi=>h3 i (by omega)
 unfold chkEW
 rw [if_pos (Ro.ok_iff.2 h1),if_neg (by omega),if_neg (by rw [this]; omega)]
end
end Go.Sx
end
section
namespace Go.Sx
structure Se where
 arm:Int
 ex:Bool
 deriving DecidableEq,Inhabited
def Se.row (s:Se):List V:=[.int .i64 s.arm,.bool s.ex]
theorem Se.row_inj (a b:Se) (h:a.row=b.row):a=b:=by
 cases a; cases b; simp [Se.row]at h; simp [h]
structure Gu where
 w:Int
 suit:Bool
 dive:Int
 able:Bool
 deriving DecidableEq,Inhabited
def Gu.row (g:Gu):List V:=[.int .i64 g.w,.bool g.suit,.int .i64 g.dive,.bool g.able]
theorem Gu.row_inj (a b:Gu) (h:a.row=b.row):a=b:=by
 cases a; cases b; simp [Gu.row]at h; simp [h]
structure Ca where
 emp:Int
 arm:Int
 st:List Se
 farm:Int
 low:Int
 high:Int
 deriving DecidableEq,Inhabited
def Ca.row (c:Ca):List V:=[.int .i64 c.emp,.int .i64 c.arm,.sl 2 (c.st.map Se.row),.int .i64 c.farm,.int .i64 c.low,.int .i64 c.high]
theorem Ca.row_inj (a b:Ca) (h:a.row=b.row):a=b:=by
 cases a; cases b
 simp only [Ca.row,List.cons.injEq,V.sl.injEq,V.int.injEq,true_and,and_true]at h
 obtain⟨h1,h2,h3,h4,h5,h6⟩:=h
 rw [mapRow_inj Se.row_inj h3,h1,h2,h4,h5,h6]
def armB (n:Int):Bool:=decide (-1000≤n∧n≤1000)
def Ca.ok (c:Ca):Bool:=decide (1≤c.emp∧c.emp≤100000) && decide (c.st.length≤8) && decide (c.low≤c.high) && armB c.arm && armB c.farm && armB c.low && armB c.high && c.st.all fun s=>armB s.arm
structure Ca.Fit (c:Ca):Prop where
 emp:1≤c.emp∧c.emp≤100000
 n:c.st.length≤8
 lh:c.low≤c.high
 arm : -1000≤c.arm∧c.arm≤1000
 farm : -1000≤c.farm∧c.farm≤1000
 low : -1000≤c.low∧c.low≤1000
 high : -1000≤c.high∧c.high≤1000
 st:∀s∈c.st,-1000≤s.arm∧s.arm≤1000
theorem Ca.ok_iff {c:Ca}:c.ok=true↔c.Fit:=by
 unfold Ca.ok armB
 simp only [Bool.and_eq_true,decide_eq_true_eq,List.all_eq_true]
 constructor
 ·rintro⟨⟨⟨⟨⟨⟨⟨h1,h2⟩,h3⟩,h4⟩,h5⟩,h6⟩,h7⟩,h8⟩
  exact⟨h1,h2,h3,h4,h5,h6,h7,h8⟩
 ·rintro⟨h1,h2,h3,h4,h5,h6,h7,h8⟩
  exact⟨⟨⟨⟨⟨⟨⟨h1,h2⟩,h3⟩,h4⟩,h5⟩,h6⟩,h7⟩,h8⟩
def Gu.ok (g:Gu):Bool:=decide (1≤g.w∧g.w≤500) && decide (0≤g.dive∧g.dive≤2000)
structure LFit (c:Ca) (l:List Gu) (f:Sp):Prop where
 cf:c.Fit
 n:l.length≤c.st.length
 gf:∀g∈l,1≤g.w∧g.w≤500
 ff:0≤f.lo∧f.lo≤f.hi∧f.hi≤100000
end Go.Sx
end
section
namespace Go.Sx
structure Eas (r r':Ro):Prop where
 ppl:r'.ppl=r.ppl
 win:r'.win=r.win
 lng:r.lng≤r'.lng
 rst:r'.rst≤r.rst
 tot:r.tot≤r'.tot
 rcn:r.rcn≤r'.rcn
section
variable (srt:List Du→List Du)
end
theorem duAt_app {l:List Du} {m:List Du} {i:Nat} (h:i<l.length):duAt (l++m) i=duAt l i:=by
 simp [duAt,List.getD,List.getElem?_append_left h]
theorem duOk_app {r:Ro} {l m:List Du} {i:Nat} (h:i<l.length):duOk r (l++m) i=duOk r l i:=by
 unfold duOk
 rw [duAt_app h,List.take_append_of_le_length (by omega)]
 cases i with
 | zero=>rfl
 | succ i=>rw [show i+1 - 1=i by omega,duAt_app (by omega)]
theorem Rt.snoc {r:Ro} {l:List Du} {d:Du} (h:Rt r l l.length) (hp:0≤d.p∧d.p≤r.ppl.length - 1) (hd:0≤d.a∧d.a<d.b∧d.b≤2000) (hl:l=[]∨(duAt l (l.length - 1)).a≤d.a) (hb:brk r (own l d.p) d=[]):Rt r (l++[d]) (l++[d]).length:=by
 intro i hi
 simp at hi
 by_cases hil:i<l.length
 ·rw [duOk_app hil]; exact h i hil
 ·have:i=l.length:=by omega
  subst this
  have e:duAt (l++[d]) l.length=d:=by simp [duAt,List.getD]
  unfold duOk
  rw [e,List.take_left' rfl,hb]
  simp only [Bool.and_eq_true]
  refine⟨⟨⟨decide_eq_true hp,strB_iff.2 hd⟩,?_⟩,rfl⟩
  rcases hl with hl|hl
  ·simp [hl]
  ·by_cases h0:l.length=0
   ·simp [h0]
   ·rw [duAt_app (by omega)]
    simp [hl]
end Go.Sx
end
end
