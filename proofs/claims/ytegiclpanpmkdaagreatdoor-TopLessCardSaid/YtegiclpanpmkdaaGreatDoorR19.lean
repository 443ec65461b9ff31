/- A part of a proof; no conditions. -/
import Derived.Test.YtegiclpanpmkdaaGreatDoorR18
set_option linter.all false
set_option maxRecDepth 100000
set_option maxHeartbeats 8000000
noncomputable section
section
namespace Go.Sx
def lxB:List Int->List Int->Bool
 | [],[]=>false
 | [],_::_=>true
 | _::_,[]=>false
 | x::a,y::b=>decide (x<y) || (decide (x=y) && lxB a b)
theorem asB:∀{a b c:List Int},lxB a b=true->lxB b c=true->lxB a c=true
 | [],[],_,h,_=>by simp [lxB]at h
 | [],_::_,[],_,k=>by simp [lxB]at k
 | [],_::_,_::_,_,_=>rfl
 | _::_,[],_,h,_=>by simp [lxB]at h
 | _::_,_::_,[],_,k=>by simp [lxB]at k
 | x::a,y::b,z::c,h,k=>by
  simp only [lxB,Bool.or_eq_true,Bool.and_eq_true,decide_eq_true_eq]at h k ⊢
  rcases h with h|⟨rfl,h⟩<;>rcases k with k|⟨rfl,k⟩
  ·left;omega
  ·left;omega
  ·left;omega
  ·right;exact⟨rfl,asB h k⟩
theorem asO:∀{a b:List Int},lxB a b=false->lxB b a=false->a=b
 | [],[],_,_=>rfl
 | [],_::_,h,_=>by simp [lxB]at h
 | _::_,[],_,k=>by simp [lxB]at k
 | x::a,y::b,h,k=>by
  simp only [lxB,Bool.or_eq_false_iff,Bool.and_eq_false_iff,decide_eq_false_iff_not]at h k;have e:x=y:=by omega
  subst e;rcases h.2 with h2|h2
  ·exact absurd rfl h2
  ·rcases k.2 with k2|k2
   ·exact absurd rfl k2
   ·rw [asO h2 k2]
theorem asH{a b c:List Int}(h:lxB b a=false)(k:lxB c b=false):lxB c a=false:=by
 cases e:lxB c a
 ·rfl
 ·exfalso;cases e2:lxB a b
  ·rw [asO e2 h]at e;rw [k]at e;cases e
  ·have:=asB e e2;rw [this]at k;cases k
def srK(s:Sr):List Int:=[s.j,s.m,s.c,s.k]
def plK(f:Fl)(l:List Sr):List Int:=-(V1 f l)::(l.length:Int)::l.flatMap srK
def ltP(f:Fl)(a b:List Sr):Bool:=lxB (plK f a) (plK f b)
inductive Ext (f:Fl) (now:Int):List Sr->List Sr->Prop
 | refl (q:List Sr):Ext f now q q
 | step {q x:List Sr} (s:Sr) (h:wS f q s false=true) (hn:now<=(ew f s).lv) (hx:Ext f now (q++[s]) x):Ext f now q x
theorem Ext.trans{f:Fl}{now:Int}{a b c:List Sr}(h:Ext f now a b)(k:Ext f now b c):Ext f now a c:=by
 induction h with
 | refl=>exact k
 | step s h hn _ ih=>exact .step s h hn (ih k)
theorem Ext.good{f:Fl}{now:Int}{any:Bool}{a b:List Sr}(h:Ext f now a b)(ha:Good f any a):Good f any b:=by
 induction h with
 | refl=>exact ha
 | step s h hn _ ih=>
  refine ih (ha.snoc ?_);cases any
  ·exact h
  ·exact vw.2 (vw.1 h).weak
theorem Ext.of{f:Fl}{now:Int}:∀{r l:List Sr},Good f false (l++r)->(∀x∈r,now<=(ew f x).lv)->Ext f now l (l++r)
 | [],l,_,_=>by simpa using Ext.refl l
 | s::r,l,h,hn=>by
  have e:l++s::r=(l++[s])++r:=by simp
  rw [e]at h ⊢;have hl:Good f false (l++[s]):=by
   have:=h.take (l++[s]).length
   rwa [List.take_left' rfl]at this
  exact .step s hl.last (hn s (by simp)) (Ext.of h fun x hx=>hn x (by simp [hx]))
def asu(f:Fl)(q:List Sr):Nat->Int
 | 0=>0
 | k+1=>asu f q k+if (q.any fun y=>decide (y.j=k))=true then 0 else (fP f k).val
theorem asj{f:Fl}(hf:gu f)(q:List Sr):∀{k:Nat},k<=f.jobs.length->0<=asu f q k
 | 0,_=>Int.le_refl _
 | k+1,hk=>by have:=asj hf q (k:=k) (by omega);have:=(hf.jb (j:=k) (by omega)).2.2.2.2;rw [asu];split<;>omega
theorem asp{f:Fl}{q:List Sr}{s:Sr}(hs:∀y∈q,y.j≠s.j):∀k:Nat,asu f (q++[s]) k=asu f q k - if 0<=s.j/\s.j<k then (fP f s.j.toNat).val else 0
 | 0=>by simp [asu];omega
 | k+1=>by
  rw [asu,asu,asp hs k,List.any_append];by_cases e:s.j=k
  ·have h1:(q.any fun y=>decide (y.j=k))=false:=List.any_eq_false.2 fun y hy=>by have:=hs y hy;simp;omega
   have h2:([s].any fun y=>decide (y.j=k))=true:=(by simp [e]);have e1:¬ (0<=s.j/\s.j<(k:Int)):=(by omega);have e2:0<=s.j/\s.j<((k+1:Nat):Int):=(by omega);have e3:s.j.toNat=k:=(by omega);rw [h1,h2,if_neg e1,if_pos e2,e3];simp
  ·have h2:([s].any fun y=>decide (y.j=k))=false:=(by simp [e]);rw [h2,Bool.or_false];by_cases e2:0<=s.j/\s.j<(k:Int)
   ·have e1:0<=s.j/\s.j<((k+1:Nat):Int):=(by omega);rw [if_pos e2,if_pos e1];omega
   ·have e1:¬ (0<=s.j/\s.j<((k+1:Nat):Int)):=(by omega);rw [if_neg e2,if_neg e1];omega
theorem Ext.val{f:Fl}{now:Int}{q x:List Sr}(hf:gu f)(h:Ext f now q x):V1 f x<=V1 f q+asu f q f.jobs.length:=by
 induction h with
 | refl q=>have:=asj hf q (Nat.le_refl _);omega
 | step s h hn _ ih=>
  have hx:=vw.1 h;have hs:=hx.sr;rw [asn,asp fun y hy=>(On.1 (hx.cl y hy)).1,if_pos (by have:=hs.j;omega)]at ih;omega
theorem Good.atw{f:Fl}{any:Bool}{l:List Sr}(h:Good f any l):l.length<=f.jobs.length:=by
 have v0:∀(n:Nat) (l:List Nat),l.Nodup->(∀x∈l,x<n)->l.length<=n:=by
  intro n
  induction n with
  | zero=>intro l _ hx;cases l with
   | nil=>simp
   | cons a l=>exact absurd (hx a (by simp)) (by omega)
  | succ n ih=>
   intro l hl hx;have h1:=ih (l.erase n) (hl.erase n) fun x hx'=>by
    have h2:=hx x (List.mem_of_mem_erase hx');have h3:x≠n:=fun e=>by subst e;exact(List.Nodup.not_mem_erase hl) hx'
    omega
   by_cases hm:n∈l
   ·rw [List.length_erase_of_mem hm]at h1;omega
   ·rw [List.erase_of_not_mem hm]at h1;omega
 have h2:=v0 f.jobs.length (l.map fun s=>s.j.toNat) ?_ ?_
 ·simpa using h2
 ·rw [List.nodup_iff_pairwise_ne,List.pairwise_map,List.pairwise_iff_getElem];intro i k hi hk v1;have:=On.1 (h.pair v1 hk);rw [show l.getD k default=l[k] by simp [List.getD,hk],show l.getD i default=l[i] by simp [List.getD,hi]]at this;have h1:=(h.sr _ (List.getElem_mem hi)).j;have h2:=(h.sr _ (List.getElem_mem hk)).j;omega
 ·intro x hx;obtain⟨s,hs,rfl⟩:=List.mem_map.1 hx;exact(h.sr s hs).j.2
structure Fnd (f:Fl) (now:Int) (q r0:List Sr) (D:Sr->Prop) (r:List Sr):Prop where
 it:r=r0\/Ext f now q r
 old:ltP f r0 r=false
 own:ltP f q r=false
 sub:∀s x,D s->wS f q s false=true->now<=(ew f s).lv->Ext f now (q++[s]) x->ltP f x r=false
def Top(f:Fl)(now:Int)(q r0 r:List Sr):Prop:=(r=r0\/Ext f now q r)/\ltP f r0 r=false/\∀x,Ext f now q x->ltP f x r=false
theorem Fnd.mono{f:Fl}{now:Int}{q r0 r:List Sr}{D D':Sr->Prop}(h:Fnd f now q r0 D r)(hd:∀s,D' s->wS f q s false=true->now<=(ew f s).lv->D s):Fnd f now q r0 D' r:=
 ⟨h.it,h.old,h.own,fun s x hs h1 h2=>h.sub s x (hd s hs h1 h2) h1 h2⟩
theorem Fnd.more{f:Fl}{now:Int}{q r0 r r':List Sr}{D:Sr->Prop}{s:Sr}(h:Fnd f now q r0 D r)(hs:wS f q s false=true)(hn:now<=(ew f s).lv)(ht:Top f now (q++[s]) r r'):Fnd f now q r0 (fun y=>D y\/y=s) r':=by
 obtain⟨h1,h2,h3⟩:=ht;refine⟨?_,asH h2 h.old,asH h2 h.own,fun y x hy g1 g2 g3=>?_⟩
 ·rcases h1 with rfl|h1
  ·exact h.it
  ·exact .inr (.step s hs hn h1)
 ·rcases hy with hy|rfl
  ·exact asH h2 (h.sub y x hy g1 g2 g3)
  ·exact h3 x g3
theorem Fnd.top{f:Fl}{now:Int}{q r0 r:List Sr}{D:Sr->Prop}(h:Fnd f now q r0 D r)(hd:∀s,wS f q s false=true->now<=(ew f s).lv->D s):Top f now q r0 r:=by
 refine⟨h.it,h.old,fun x hx=>?_⟩;cases hx with
 | refl=>exact h.own
 | step s h1 h2 h3=>exact h.sub s x (hd s h1 h2) h1 h2 h3
end Go.Sx
end
section
namespace Go.Sx
def wiB(f:Fl)(l:List Sr)(s:Sr):Bool:=decide ((fL f.gv (j9 f (l++[s]))).2=0) && uZ f (l++[s])
def E0(j m:Nat)(c:Int × Int):Sr:=⟨j,m,c.1,c.2⟩
def cwL(f:Fl)(q:List Sr)(j m:Nat):List (Int × Int):=if jx (Im f (E0 j m (0,0)))=true then tF f.gv (j9 f q) (Im f (E0 j m (0,0)))else []
def ftB(f:Fl)(q:List Sr)(j m:Nat)(any:Bool):Bool:=akI f q (E0 j m (0,0)) any
theorem atb{f:Fl}{q:List Sr}{j m:Nat}{c:Int × Int}{any:Bool}(hj:j<f.jobs.length)(hm:m<f.dU.length) :
  wS f q (E0 j m c) any=(ftB f q j m any && (cwL f q j m).contains c && wiB f q (E0 j m c)):=by
 have h1:Xc f (E0 j m c).j (E0 j m c).m=true:=PY.2 (by simp [E0];omega);have h2:akI f q (E0 j m c) any=ftB f q j m any:=rfl;have h3:NK f q (E0 j m c)=(cwL f q j m).contains c:=by
  have e:Im f (E0 j m c)=Im f (E0 j m (0,0)):=rfl;unfold NK cwL;rw [e];cases jx (Im f (E0 j m (0,0)))
  ·simp
  ·simp [E0]
 unfold wS wiB;rw [h1,h2,h3,Bool.true_and,Bool.and_assoc]
section
variable (g:List Sr->List Sr->List Sr) (f:Fl) (now:Int) (q:List Sr)
end
section
variable {f:Fl} {now:Int} {q r0:List Sr} {g:List Sr->List Sr->List Sr} (hg:∀s r,wS f q s false=true->now<=(ew f s).lv->Top f now (q++[s]) r (g (q++[s]) r))
include hg
end
end Go.Sx
end
end
