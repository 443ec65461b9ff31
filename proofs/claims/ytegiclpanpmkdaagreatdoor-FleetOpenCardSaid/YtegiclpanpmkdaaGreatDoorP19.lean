/- A part of a proof; no conditions. -/
import Derived.Test.YtegiclpanpmkdaaGreatDoorP18
set_option linter.all false
set_option maxRecDepth 100000
set_option maxHeartbeats 8000000
noncomputable section
section
namespace Go.Sx
def lxB:List Int->List Int->Bool
 | [],[]=>false
 | [],_::_=>true
 | _::_,[]=>false
 | x::a,y::b=>decide (x<y) || (decide (x=y) && lxB a b)
theorem asB:∀{a b c:List Int},lxB a b=true->lxB b c=true->lxB a c=true
 | [],[],_,h,_=>by simp [lxB]at h
 | [],_::_,[],_,k=>by simp [lxB]at k
 | [],_::_,_::_,_,_=>rfl
 | _::_,[],_,h,_=>by simp [lxB]at h
 | _::_,_::_,[],_,k=>by simp [lxB]at k
 | x::a,y::b,z::c,h,k=>by
  simp only [lxB,Bool.or_eq_true,Bool.and_eq_true,decide_eq_true_eq]at h k ⊢
  rcases h with h|⟨rfl,h⟩<;>rcases k with k|⟨rfl,k⟩
  ·left; omega
  ·left; omega
  ·left; omega
  ·right; exact⟨rfl,asB h k⟩
theorem avj:∀a:List Int,lxB a a=false
 | []=>rfl
 | x::a=>by simp [lxB,avj a]
theorem asO:∀{a b:List Int},lxB a b=false->lxB b a=false->a=b
 | [],[],_,_=>rfl
 | [],_::_,h,_=>by simp [lxB]at h
 | _::_,[],_,k=>by simp [lxB]at k
 | x::a,y::b,h,k=>by
  simp only [lxB,Bool.or_eq_false_iff,Bool.and_eq_false_iff,decide_eq_false_iff_not]at h k;have e:x=y:=by omega
  subst e;rcases h.2 with h2|h2
  ·exact absurd rfl h2
  ·rcases k.2 with k2|k2
   ·exact absurd rfl k2
   ·rw [asO h2 k2]
theorem asH {a b c:List Int} (h:lxB b a=false) (k:lxB c b=false):lxB c a=false:=by
 cases e:lxB c a
 ·rfl
 ·exfalso;cases e2:lxB a b
  ·rw [asO e2 h]at e; rw [k]at e; cases e
  ·have:=asB e e2; rw [this]at k; cases k
def srK (s:Sr):List Int:=[s.j,s.m,s.c,s.k]
def plK (f:Fl) (l:List Sr):List Int:=-(j4 f l)::(l.length:Int)::l.flatMap srK
def ltP (f:Fl) (a b:List Sr):Bool:=lxB (plK f a) (plK f b)
theorem ax6 {f:Fl} {a b:List Sr} (h:j4 f b<j4 f a):ltP f a b=true:=by simp only [ltP,plK,lxB,Bool.or_eq_true,decide_eq_true_eq]; left; omega
theorem awt {f:Fl} {a b:List Sr} (h:ltP f a b=false):j4 f a<=j4 f b:=by apply Classical.byContradiction; intro hn;rw [ax6 (by omega)]at h; cases h
inductive Ext (f:Fl) (now:Int):List Sr->List Sr->Prop
 | refl (q:List Sr):Ext f now q q
 | step {q x:List Sr} (s:Sr) (h:wS f q s false=true) (hn:now<=(ew f s).lv) (hx:Ext f now (q++[s]) x):Ext f now q x
theorem Ext.trans {f:Fl} {now:Int} {a b c:List Sr} (h:Ext f now a b) (k:Ext f now b c):Ext f now a c:=by
 induction h with
 | refl=>exact k
 | step s h hn _ ih=>exact .step s h hn (ih k)
theorem Ext.good {f:Fl} {now:Int} {any:Bool} {a b:List Sr} (h:Ext f now a b) (ha:Good f any a):Good f any b:=by
 induction h with
 | refl=>exact ha
 | step s h hn _ ih=>
  refine ih (ha.snoc ?_);cases any
  ·exact h
  ·exact vw.2 (vw.1 h).weak
theorem Ext.app {f:Fl} {now:Int} {a b:List Sr} (h:Ext f now a b):∃r,b=a++r/\(∀x∈r,now<=(ew f x).lv):=by
 induction h with
 | refl=>exact⟨[],by simp,by simp⟩
 | step s h hn _ ih=>
  obtain⟨r,rfl,hr⟩:=ih;refine⟨s::r,by simp,fun x hx=>?_⟩;rcases List.mem_cons.1 hx with rfl|hx
  ·exact hn
  ·exact hr x hx
theorem Ext.of {f:Fl} {now:Int}:∀{r l:List Sr},Good f false (l++r)->(∀x∈r,now<=(ew f x).lv)->Ext f now l (l++r)
 | [],l,_,_=>by simpa using Ext.refl l
 | s::r,l,h,hn=>by
  have e:l++s::r=(l++[s])++r:=by simp
  rw [e]at h ⊢;have hl:Good f false (l++[s]):=by
   have:=h.take (l++[s]).length
   rwa [List.take_left' rfl]at this
  exact .step s hl.last (hn s (by simp)) (Ext.of h fun x hx=>hn x (by simp [hx]))
def Va (f:Fl) (q:List Sr):Nat->Int
 | 0=>j4 f q
 | k+1=>Va f q k+if (q.any fun y=>decide (y.j=k))=true then 0 else (fP f k).val
def asu (f:Fl) (q:List Sr):Nat->Int
 | 0=>0
 | k+1=>asu f q k+if (q.any fun y=>decide (y.j=k))=true then 0 else (fP f k).val
theorem awa (f:Fl) (q:List Sr):∀k,Va f q k=j4 f q+asu f q k
 | 0=>by simp [Va,asu]
 | k+1=>by rw [Va,asu,awa f q k]; omega
theorem asj {f:Fl} (hf:gu f) (q:List Sr):∀{k:Nat},k<=f.jobs.length->0<=asu f q k
 | 0,_=>Int.le_refl _
 | k+1,hk=>by have:=asj hf q (k:=k) (by omega);have:=(hf.jb (j:=k) (by omega)).2.2.2.2;rw [asu]; split<;>omega
theorem asp {f:Fl} {q:List Sr} {s:Sr} (hs:∀y∈q,y.j≠s.j):∀k:Nat,asu f (q++[s]) k=asu f q k - if 0<=s.j/\s.j<k then (fP f s.j.toNat).val else 0
 | 0=>by simp [asu]; omega
 | k+1=>by
  rw [asu,asu,asp hs k,List.any_append];by_cases e:s.j=k
  ·have h1:(q.any fun y=>decide (y.j=k))=false:=List.any_eq_false.2 fun y hy=>by have:=hs y hy; simp; omega
   have h2:([s].any fun y=>decide (y.j=k))=true:=(by simp [e]);have e1:¬ (0<=s.j/\s.j<(k:Int)):=(by omega);have e2:0<=s.j/\s.j<((k+1:Nat):Int):=(by omega);have e3:s.j.toNat=k:=(by omega);rw [h1,h2,if_neg e1,if_pos e2,e3];simp
  ·have h2:([s].any fun y=>decide (y.j=k))=false:=(by simp [e]);rw [h2,Bool.or_false];by_cases e2:0<=s.j/\s.j<(k:Int)
   ·have e1:0<=s.j/\s.j<((k+1:Nat):Int):=(by omega);rw [if_pos e2,if_pos e1]; omega
   ·have e1:¬ (0<=s.j/\s.j<((k+1:Nat):Int)):=(by omega);rw [if_neg e2,if_neg e1]; omega
theorem Ext.val {f:Fl} {now:Int} {q x:List Sr} (hf:gu f) (h:Ext f now q x):j4 f x<=j4 f q+asu f q f.jobs.length:=by
 induction h with
 | refl q=>have:=asj hf q (Nat.le_refl _); omega
 | step s h hn _ ih=>
  have hx:=vw.1 h;have hs:=hx.sr;rw [asn,asp fun y hy=>(On.1 (hx.cl y hy)).1,if_pos (by have:=hs.j; omega)]at ih;omega
theorem Good.atw {f:Fl} {any:Bool} {l:List Sr} (h:Good f any l):l.length<=f.jobs.length:=by
 have hnd:∀(n:Nat) (l:List Nat),l.Nodup->(∀x∈l,x<n)->l.length<=n:=by
  intro n
  induction n with
  | zero=>intro l _ hx; cases l with
   | nil=>simp
   | cons a l=>exact absurd (hx a (by simp)) (by omega)
  | succ n ih=>
   intro l hl hx;have h1:=ih (l.erase n) (hl.erase n) fun x hx'=>by
    have h2:=hx x (List.mem_of_mem_erase hx');have h3:x≠n:=fun e=>by subst e; exact(List.Nodup.not_mem_erase hl) hx'
    omega
   by_cases hm:n∈l
   ·rw [List.length_erase_of_mem hm]at h1; omega
   ·rw [List.erase_of_not_mem hm]at h1; omega
 have h2:=hnd f.jobs.length (l.map fun s=>s.j.toNat) ?_ ?_
 ·simpa using h2
 ·rw [List.nodup_iff_pairwise_ne,List.pairwise_map,List.pairwise_iff_getElem];intro i k hi hk hik;have:=On.1 (h.pair hik hk);rw [show l.getD k default=l[k] by simp [List.getD,hk],show l.getD i default=l[i] by simp [List.getD,hi]]at this;have h1:=(h.sr _ (List.getElem_mem hi)).j;have h2:=(h.sr _ (List.getElem_mem hk)).j;omega
 ·intro x hx;obtain⟨s,hs,rfl⟩:=List.mem_map.1 hx;exact(h.sr s hs).j.2
structure Fnd (f:Fl) (now:Int) (q r0:List Sr) (D:Sr->Prop) (r:List Sr):Prop where
 it:r=r0\/Ext f now q r
 old:ltP f r0 r=false
 own:ltP f q r=false
 sub:∀s x,D s->wS f q s false=true->now<=(ew f s).lv->Ext f now (q++[s]) x->ltP f x r=false
def Top (f:Fl) (now:Int) (q r0 r:List Sr):Prop:=(r=r0\/Ext f now q r)/\ltP f r0 r=false/\∀x,Ext f now q x->ltP f x r=false
theorem Fnd.start (f:Fl) (now:Int) (q r0:List Sr):Fnd f now q r0 (fun _=>False) (if ltP f q r0=true then q else r0):=by
 by_cases h:ltP f q r0=true
 ·rw [if_pos h];refine⟨.inr (.refl q),?_,avj _,fun _ _ h=>h.elim⟩;cases e:ltP f r0 q
  ·rfl
  ·have:=asB h e; rw [avj]at this; cases this
 ·rw [if_neg h];exact⟨.inl rfl,avj _,by simpa using h,fun _ _ h=>h.elim⟩
theorem Fnd.mono {f:Fl} {now:Int} {q r0 r:List Sr} {D D':Sr->Prop} (h:Fnd f now q r0 D r) (hd:∀s,D' s->wS f q s false=true->now<=(ew f s).lv->D s):Fnd f now q r0 D' r:=
 ⟨h.it,h.old,h.own,fun s x hs h1 h2=>h.sub s x (hd s hs h1 h2) h1 h2⟩
theorem Fnd.more {f:Fl} {now:Int} {q r0 r r':List Sr} {D:Sr->Prop} {s:Sr} (h:Fnd f now q r0 D r) (hs:wS f q s false=true) (hn:now<=(ew f s).lv) (ht:Top f now (q++[s]) r r'):Fnd f now q r0 (fun y=>D y\/y=s) r':=by
 obtain⟨h1,h2,h3⟩:=ht;refine⟨?_,asH h2 h.old,asH h2 h.own,fun y x hy g1 g2 g3=>?_⟩
 ·rcases h1 with rfl|h1
  ·exact h.it
  ·exact .inr (.step s hs hn h1)
 ·rcases hy with hy|rfl
  ·exact asH h2 (h.sub y x hy g1 g2 g3)
  ·exact h3 x g3
theorem Fnd.top {f:Fl} {now:Int} {q r0 r:List Sr} {D:Sr->Prop} (h:Fnd f now q r0 D r) (hd:∀s,wS f q s false=true->now<=(ew f s).lv->D s):Top f now q r0 r:=by
 refine⟨h.it,h.old,fun x hx=>?_⟩;cases hx with
 | refl=>exact h.own
 | step s h1 h2 h3=>exact h.sub s x (hd s h1 h2) h1 h2 h3
theorem Fnd.cut {f:Fl} {now:Int} {q r0 r:List Sr} {D:Sr->Prop} (hf:gu f) (h:Fnd f now q r0 D r) (hc:Va f q f.jobs.length<j4 f r):Top f now q r0 r:=by
 refine⟨h.it,h.old,fun x hx=>?_⟩;have:=hx.val hf;rw [awa]at hc;cases e:ltP f x r
 ·rfl
 ·exfalso;simp only [ltP,plK,lxB,Bool.or_eq_true,Bool.and_eq_true,decide_eq_true_eq]at e;omega
end Go.Sx
end
section
namespace Go.Sx
def wiB (f:Fl) (l:List Sr) (s:Sr):Bool:=decide ((fL f.gv (j9 f (l++[s]))).2=0) && uZ f (l++[s])
def yb (j m:Nat) (c:Int × Int):Sr:=⟨j,m,c.1,c.2⟩
def cwL (f:Fl) (q:List Sr) (j m:Nat):List (Int × Int):=if jx (Im f (yb j m (0,0)))=true then tF f.gv (j9 f q) (Im f (yb j m (0,0)))else []
def ftB (f:Fl) (q:List Sr) (j m:Nat) (any:Bool):Bool:=akI f q (yb j m (0,0)) any
theorem atb {f:Fl} {q:List Sr} {j m:Nat} {c:Int × Int} {any:Bool} (hj:j<f.jobs.length) (hm:m<f.dU.length) :
  wS f q (yb j m c) any=(ftB f q j m any && (cwL f q j m).contains c && wiB f q (yb j m c)):=by
 have h1:Xc f (yb j m c).j (yb j m c).m=true:=PY.2 (by simp [yb]; omega);have h2:akI f q (yb j m c) any=ftB f q j m any:=rfl;have h3:NK f q (yb j m c)=(cwL f q j m).contains c:=by
  have e:Im f (yb j m c)=Im f (yb j m (0,0)):=rfl;unfold NK cwL;rw [e];cases jx (Im f (yb j m (0,0)))
  ·simp
  ·simp [yb]
 unfold wS wiB;rw [h1,h2,h3,Bool.true_and,Bool.and_assoc]
section
variable (g:List Sr->List Sr->List Sr) (f:Fl) (now:Int) (q:List Sr)
def lpC (j m:Nat) (cs:List (Int × Int)) (r:List Sr):Nat->List Sr
 | 0=>r
 | k+1=>if wiB f q (yb j m (cs.getD k default))=true then g (q++[yb j m (cs.getD k default)]) (lpC j m cs r k)else lpC j m cs r k
def lpM (j:Nat) (r:List Sr):Nat->List Sr
 | 0=>r
 | m+1=>if ftB f q j m false=true/\now<=(jJ f j m).lv then lpC g f q j m (cwL f q j m) (lpM j r m) (cwL f q j m).length else lpM j r m
def lpJ (r:List Sr):Nat->List Sr
 | 0=>r
 | j+1=>lpM g f now q j (lpJ r j) f.dU.length
end
def bg (f:Fl) (now:Int):Nat->List Sr->List Sr->List Sr
 | 0,_,r=>r
 | M+1,q,r=>if Va f q f.jobs.length<j4 f (if ltP f q r=true then q else r)then (if ltP f q r=true then q else r)else lpJ (bg f now M) f now q (if ltP f q r=true then q else r) f.jobs.length
section
variable {f:Fl} {now:Int} {q r0:List Sr} {g:List Sr->List Sr->List Sr} (hg:∀s r,wS f q s false=true->now<=(ew f s).lv->Top f now (q++[s]) r (g (q++[s]) r))
include hg
theorem awb {j m:Nat} (hj:j<f.jobs.length) (hm:m<f.dU.length) (hft:ftB f q j m false=true) (hlv:now<=(jJ f j m).lv) {D:Sr->Prop} {r:List Sr} (h:Fnd f now q r0 D r):∀{k:Nat},k<=(cwL f q j m).length->Fnd f now q r0 (fun s=>D s\/∃i,i<k/\s=yb j m ((cwL f q j m).getD i default)) (lpC g f q j m (cwL f q j m) r k)
 | 0,_=>h.mono fun s hs _ _=>by
  rcases hs with hs|⟨i,hi,_⟩
  ·exact hs
  ·omega
 | k+1,hk=>by
  have ih:=awb hj hm hft hlv h (k:=k) (by omega);have hmem:(cwL f q j m).contains ((cwL f q j m).getD k default)=true:=by rw [List.contains_iff_mem,List.getD_eq_getElem?_getD,List.getElem?_eq_getElem (by omega)]; exact List.getElem_mem _
  have hsp:=atb (f:=f) (q:=q) (c:=(cwL f q j m).getD k default) (any:=false) hj hm;rw [hft,hmem,Bool.true_and,Bool.true_and]at hsp;rw [lpC];by_cases hw:wiB f q (yb j m ((cwL f q j m).getD k default))=true
  ·rw [if_pos hw];refine(ih.more (hsp.trans hw) hlv (hg _ _ (hsp.trans hw) hlv)).mono fun s hs _ _=>?_;rcases hs with hs|⟨i,hi,hs⟩
   ·exact .inl (.inl hs)
   ·by_cases e:i=k
    ·subst e; exact .inr hs
    ·exact .inl (.inr ⟨i,by omega,hs⟩)
  ·rw [if_neg hw];refine ih.mono fun s hs h1 _=>?_;rcases hs with hs|⟨i,hi,hs⟩
   ·exact .inl hs
   ·by_cases e:i=k
    ·subst e; subst hs; rw [hsp]at h1; exact absurd h1 hw
    ·exact .inr ⟨i,by omega,hs⟩
theorem awc {j:Nat} (hj:j<f.jobs.length) {D:Sr->Prop} {r:List Sr} (h:Fnd f now q r0 D r):∀{m:Nat},m<=f.dU.length->Fnd f now q r0 (fun s=>D s\/(s.j=j/\0<=s.m/\s.m<m)) (lpM g f now q j r m)
 | 0,_=>h.mono fun s hs _ _=>by
  rcases hs with hs|hs
  ·exact hs
  ·omega
 | m+1,hm=>by
  have ih:=awc hj h (m:=m) (by omega);have Wl:∀s:Sr,s.j=j->s.m=m->s=yb j m (s.c,s.k):=fun s h1 h2=>by cases s; simp at h1 h2; simp [yb,h1,h2]
  rw [lpM];by_cases hc:ftB f q j m false=true/\now<=(jJ f j m).lv
  ·rw [if_pos hc];refine(awb hg hj (by omega) hc.1 hc.2 ih (Nat.le_refl _)).mono fun s hs h1 _=>?_;rcases hs with hs|hs
   ·exact .inl (.inl hs)
   ·by_cases e:s.m=m
    ·right;have e2:=Wl s hs.1 e;rw [e2,atb hj (by omega),Bool.and_eq_true,Bool.and_eq_true,List.contains_iff_mem]at h1;obtain⟨i,hi,hi2⟩:=List.getElem_of_mem h1.1.2;refine⟨i,hi,?_⟩;rw [List.getD_eq_getElem?_getD,List.getElem?_eq_getElem hi,hi2]; exact e2
    ·exact .inl (.inr ⟨hs.1,hs.2.1,by omega⟩)
  ·rw [if_neg hc];refine ih.mono fun s hs h1 h2=>?_;rcases hs with hs|hs
   ·exact .inl hs
   ·by_cases e:s.m=m
    ·exfalso;have e2:=Wl s hs.1 e;rw [e2,atb hj (by omega),Bool.and_eq_true,Bool.and_eq_true]at h1;rw [e2]at h2;exact hc ⟨h1.1.1,h2⟩
    ·exact .inr ⟨hs.1,hs.2.1,by omega⟩
theorem awd {D:Sr->Prop} {r:List Sr} (h:Fnd f now q r0 D r):∀{j:Nat},j<=f.jobs.length->Fnd f now q r0 (fun s=>D s\/(0<=s.j/\s.j<j)) (lpJ g f now q r j)
 | 0,_=>h.mono fun s hs _ _=>by
  rcases hs with hs|hs
  ·exact hs
  ·omega
 | j+1,hj=>by
  have ih:=awd h (j:=j) (by omega);rw [lpJ];refine(awc hg (by omega) ih (Nat.le_refl _)).mono fun s hs h1 _=>?_;have H8:=(vw.1 h1).sr;rcases hs with hs|hs
  ·exact .inl (.inl hs)
  ·by_cases e:s.j=j
   ·exact .inr ⟨e,H8.m.1⟩
   ·exact .inl (.inr (by omega))
end
theorem avo {f:Fl} (hf:gu f) {now:Int}:∀{M:Nat} {q r:List Sr},Good f true q->f.jobs.length - q.length<M->Top f now q r (bg f now M q r)
 | 0,_,_,_,h=>by omega
 | M+1,q,r,hq,hM=>by
  have hs:=Fnd.start f now q r;rw [bg];by_cases hc:Va f q f.jobs.length<j4 f (if ltP f q r=true then q else r)
  ·rw [if_pos hc]; exact hs.cut hf hc
  ·rw [if_neg hc];refine(awd (fun s r' h1 h2=>avo hf (hq.snoc (vw.2 (vw.1 h1).weak)) ?_) hs (Nat.le_refl _)).top fun s h1 _=>.inr (vw.1 h1).sr.j.1;have:=(hq.snoc (vw.2 (vw.1 h1).weak)).atw;simp at this ⊢; omega
end Go.Sx
end
section
namespace Go.Sx
def nz:List Int->Int
 | []=>0
 | x::l=>if x=0 then nz l else x
def aeQ (x y:Sr):Int:=nz [x.j - y.j,x.m - y.m,x.c - y.c,x.k - y.k]
def xg:List Sr->List Sr->Int
 | [],[]=>0
 | [],_::_=>-1
 | _::_,[]=>1
 | x::a,y::b=>if aeQ x y=0 then xg a b else aeQ x y
def atV (f:Fl) (a b:List Sr):Int:=nz [j4 f b - j4 f a,(a.length:Int) - b.length,xg a b]
theorem axW (x y:Sr) (a b:List Int):lxB (srK x++a) (srK y++b)=(decide (aeQ x y<0) || (decide (aeQ x y=0) && lxB a b)):=by
 simp only [srK,List.cons_append,List.nil_append,lxB,aeQ,nz];by_cases h1:x.j=y.j
 ·by_cases h2:x.m=y.m
  ·by_cases h3:x.c=y.c
   ·by_cases h4:x.k=y.k
    ·simp [h1,h2,h3,h4]
    ·have e:¬ x.k - y.k=0:=(by omega);have e2:(x.k<y.k)=(x.k - y.k<0):=(by rw [eq_iff_iff]; omega);simp [h1,h2,h3,h4,e,e2]
   ·have e:¬ x.c - y.c=0:=(by omega);have e2:(x.c<y.c)=(x.c - y.c<0):=(by rw [eq_iff_iff]; omega);simp [h1,h2,h3,e,e2]
  ·have e:¬ x.m - y.m=0:=(by omega);have e2:(x.m<y.m)=(x.m - y.m<0):=(by rw [eq_iff_iff]; omega);simp [h1,h2,e,e2]
 ·have e:¬ x.j - y.j=0:=by omega
  have e2:(x.j<y.j)=(x.j - y.j<0):=by rw [eq_iff_iff]; omega
  simp [h1,e,e2]
theorem avL:∀{a b:List Sr},a.length=b.length->decide (xg a b<0)=lxB (a.flatMap srK) (b.flatMap srK)
 | [],[],_=>rfl
 | [],_::_,h=>by simp at h
 | _::_,[],h=>by simp at h
 | x::a,y::b,h=>by
  rw [List.flatMap_cons,List.flatMap_cons,axW,<-avL (a:=a) (b:=b) (by simpa using h),xg];by_cases e:aeQ x y=0
  ·simp [e]
  ·simp [e]
theorem avK (f:Fl) (a b:List Sr):decide (atV f a b<0)=ltP f a b:=by
 simp only [ltP,plK,lxB,atV,nz];by_cases h1:j4 f a=j4 f b
 ·by_cases h2:a.length=b.length
  ·rw [<-avL h2];by_cases h3:xg a b=0
   ·simp [h1,h2,h3]
   ·simp [h1,h2,h3]
  ·have e:¬ ((a.length:Int) - b.length=0):=(by omega);have e1:¬ ((a.length:Int)=b.length):=(by omega);have e2:((a.length:Int)<b.length)=((a.length:Int) - b.length<0):=(by rw [eq_iff_iff]; omega);simp only [h1,Int.sub_self,e,e1,e2,if_true,if_false,decide_false,Bool.false_and,Bool.or_false,decide_true,Bool.true_and,Int.lt_irrefl,Bool.false_or]
 ·have e:¬ j4 f b - j4 f a=0:=by omega
  have e1:¬ -j4 f a = -j4 f b:=by omega
  have e2:(-j4 f a < -j4 f b)=(j4 f b - j4 f a<0):=by rw [eq_iff_iff]; omega
  simp only [e,e1,e2,if_false,decide_false,Bool.false_and,Bool.or_false]
def awN (x y:Sr):Bool:=if x.j≠y.j then decide (x.j<y.j)else if x.m≠y.m then decide (x.m<y.m)else if x.c≠y.c then decide (x.c<y.c)else decide (x.k<y.k)
theorem axV (x y:Sr):awN x y=decide (aeQ x y<0):=by
 unfold awN aeQ;simp only [nz];by_cases h1:x.j=y.j
 ·by_cases h2:x.m=y.m
  ·by_cases h3:x.c=y.c
   ·by_cases h4:x.k=y.k
    ·simp [h1,h2,h3,h4]
    ·simp only [h1,h2,h3,ne_eq,not_true,if_false,Int.sub_self,if_true,show ¬ x.k - y.k=0 by omega];rw [decide_eq_decide]; omega
   ·simp only [h1,h2,h3,ne_eq,not_true,not_false_iff,if_false,Int.sub_self,if_true,show ¬ x.c - y.c=0 by omega];rw [decide_eq_decide]; omega
  ·simp only [h1,h2,ne_eq,not_true,not_false_iff,if_false,Int.sub_self,if_true,show ¬ x.m - y.m=0 by omega];rw [decide_eq_decide]; omega
 ·simp only [h1,ne_eq,not_false_iff,if_true,show ¬ x.j - y.j=0 by omega,if_false];rw [decide_eq_decide]; omega
theorem ave {x y:Sr}:aeQ x y=0↔x=y:=by
 obtain⟨a,b,c,d⟩:=x; obtain⟨e,f,g,h⟩:=y;simp only [aeQ,nz,Sr.mk.injEq];constructor
 ·intro h0;by_cases h1:a - e=0
  ·rw [if_pos h1]at h0;by_cases h2:b - f=0
   ·rw [if_pos h2]at h0;by_cases h3:c - g=0
    ·rw [if_pos h3]at h0;by_cases h4:d - h=0
     ·omega
     ·rw [if_neg h4]at h0; exact absurd h0 h4
    ·rw [if_neg h3]at h0; exact absurd h0 h3
   ·rw [if_neg h2]at h0; exact absurd h0 h2
  ·rw [if_neg h1]at h0; exact absurd h0 h1
 ·rintro⟨rfl,rfl,rfl,rfl⟩;simp
end Go.Sx
end
end
