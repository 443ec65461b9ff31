/- Plain: a plan made anew at a tick. No conditions. -/
import Derived.Test.YtegiclpanpmkdaaGreatDoorP19
set_option linter.all false
set_option maxRecDepth 100000
set_option maxHeartbeats 8000000
noncomputable section
namespace Go.Sx
section
variable {f:Fl} {l:List Sr} {now:Int}
theorem Good.sorted {any:Bool} (h:Good f any l) {i k:Nat} (hik:i<=k) (hk:k<l.length):(ew f (l.getD i default)).lv<=(ew f (l.getD k default)).lv:=by
 by_cases e:i=k
 ·rw [e]; exact Int.le_refl _
 ·exact(On.1 (h.pair (show i<k by omega) hk)).2.2.1
def W0 (f:Fl) (l:List Sr) (now:Int) (k:Nat):List Sr:=(l.take k).filter fun x=>decide ((ew f x).lv<now)
theorem au4 (f:Fl) (l:List Sr) (now:Int):W0 f l now 0=[]:=by simp [W0]
theorem au5 {k:Nat} {x:Sr} (hx:l[k]?=some x) (h:now<=(ew f x).lv):W0 f l now (k+1)=W0 f l now k:=by have:decide ((ew f x).lv<now)=false:=decide_eq_false (by omega);simp [W0,List.take_add_one,hx,List.filter_append,this]
theorem au2 {k:Nat} {x:Sr} (hx:l[k]?=some x):l.getD k default=x:=by simp [List.getD,hx]
theorem au6 {any:Bool} (hG:Good f any l) {k:Nat} {x:Sr} (hx:l[k]?=some x) (h:(ew f x).lv<now):W0 f l now k=l.take k/\W0 f l now (k+1)=l.take (k+1):=by
 have hk:k<l.length:=(List.getElem?_eq_some_iff.1 hx).1;have key:∀n,n<=k+1->W0 f l now n=l.take n:=fun n hn=>by
  unfold W0;rw [List.filter_eq_self];intro y hy;obtain⟨i,hi,rfl⟩:=List.getElem_of_mem hy;have hi2:i<n/\i<l.length:=by rw [List.length_take]at hi; omega
  have hs:=hG.sorted (show i<=k by omega) hk;rw [au2 hx]at hs;have e:(l.take n)[i]=l.getD i default:=by simp [List.getD,hi2.2]
  rw [e];exact decide_eq_true (by omega)
 exact⟨key k (by omega),key (k+1) (by omega)⟩
theorem auX {any:Bool} (hG:Good f any l) (now:Int):∃p,p<=l.length/\W0 f l now l.length=l.take p/\(∀i,i<p->(ew f (l.getD i default)).lv<now)/\∀i,p<=i->i<l.length->now<=(ew f (l.getD i default)).lv:=by
 have key:∀n,n<=l.length->∃p,p<=n/\W0 f l now n=l.take p/\(∀i,i<p->(ew f (l.getD i default)).lv<now)/\∀i,p<=i->i<n->now<=(ew f (l.getD i default)).lv:=by
  intro n
  induction n with
  | zero=>intro _; exact⟨0,Nat.le_refl _,by rw [au4,List.take_zero],fun i hi=>by omega,fun i _ hi=>by omega⟩
  | succ n ih=>
   intro hn;obtain⟨p,h1,h2,h3,h4⟩:=ih (by omega);obtain⟨x,hx⟩:∃x,l[n]?=some x:=⟨_,List.getElem?_eq_getElem (show n<l.length by omega)⟩
   by_cases e:(ew f x).lv<now
   ·obtain⟨k1,k2⟩:=au6 hG hx e;refine⟨n+1,Nat.le_refl _,k2,fun i hi=>?_,fun i h5 h6=>by omega⟩;have hs:=hG.sorted (show i<=n by omega) (show n<l.length by omega);rw [au2 hx]at hs;omega
   ·refine⟨p,by omega,by rw [au5 hx (by omega)]; exact h2,h3,fun i h5 h6=>?_⟩;by_cases e2:i=n
    ·rw [e2,au2 hx]; omega
    ·exact h4 i h5 (by omega)
 exact key l.length (Nat.le_refl _)
theorem Top.good {q r:List Sr} (hq:Good f false q) (h:Top f now q q r):Good f false r:=by
 rcases h.1 with e|e
 ·rw [e]; exact hq
 ·exact e.good hq
theorem avm {q r:List Sr} (h:Top f now q q r):∃t,r=q++t/\∀x∈t,now<=(ew f x).lv:=by
 rcases h.1 with e|e
 ·exact⟨[],by rw [e]; simp,fun x hx=>by cases hx⟩
 ·exact e.app
theorem ayo (hG:Good f false l) {r:List Sr} (h:Top f now (W0 f l now l.length) (W0 f l now l.length) r) {i:Nat} {x:Sr} (hx:r[i]?=some x) (hlv:(ew f x).lv<now):l[i]?=some x:=by
 obtain⟨p,h1,h2,h3,h4⟩:=auX hG now;obtain⟨t,rfl,ht⟩:=avm h;rw [h2]at hx;by_cases e:i<p
 ·rw [List.getElem?_append_left (by rw [List.length_take]; omega),List.getElem?_take,if_pos e]at hx;exact hx
 ·rw [List.getElem?_append_right (by rw [List.length_take]; omega)]at hx;have:=ht x (List.mem_of_getElem? hx);omega
theorem ayp (hG:Good f false l) {r:List Sr} (h:Top f now (W0 f l now l.length) (W0 f l now l.length) r) {i:Nat} {x:Sr} (hx:l[i]?=some x) (hlv:(ew f x).lv<now):r[i]?=some x:=by
 obtain⟨p,h1,h2,h3,h4⟩:=auX hG now;obtain⟨t,rfl,ht⟩:=avm h;have hi:i<l.length:=(List.getElem?_eq_some_iff.1 hx).1;have e:i<p:=by apply Classical.byContradiction;intro e;have:=h4 i (by omega) hi;rw [au2 hx]at this;omega
 rw [h2,List.getElem?_append_left (by rw [List.length_take]; omega),List.getElem?_take,if_pos e];exact hx
theorem aws (hG:Good f false l) {r:List Sr} (h:Top f now (W0 f l now l.length) (W0 f l now l.length) r):j4 f l<=j4 f r:=by
 obtain⟨p,h1,h2,h3,h4⟩:=auX hG now;have e:l=l.take p++l.drop p:=(List.take_append_drop p l).symm;have hE:Ext f now (l.take p) (l.take p++l.drop p):=Ext.of (by rw [<-e]; exact hG) fun x hx=>by
  obtain⟨i,hi,rfl⟩:=List.getElem_of_mem hx;have hi2:p+i<l.length:=by rw [List.length_drop]at hi; omega
  have:=h4 (p+i) (by omega) hi2
  rwa [show l.getD (p+i) default=(l.drop p)[i] by simp [List.getD,hi2]]at this
 rw [<-e,<-h2]at hE;exact awt (h.2.2 l hE)
theorem awu {any:Bool} {x:List Sr} (hx:Good f false x):Ext f 0 [] x:=by have:=Ext.of (f:=f) (now:=0) (r:=x) (l:=[]) (by simpa using hx) fun y hy=>(hx.sr y hy).lv;simpa using this
theorem au3 {b x:List Sr} (h:Top f 0 [] [] b) (hx:Good f false x):ltP f x b=false/\j4 f x<=j4 f b:=by have:=h.2.2 x (awu (any:=false) hx);exact⟨this,awt this⟩
theorem auZ {b:List Sr} (h:Top f 0 [] [] b):Good f false b:=h.good Good.nil
theorem awg (hG:Good f false l) {r:List Sr} (h:Top f now (W0 f l now l.length) (W0 f l now l.length) r):Good f false r:=by obtain⟨p,h1,h2,h3,h4⟩:=auX hG now;refine h.good ?_;rw [h2]; exact hG.take p
theorem awv {any:Bool} (hG:Good f any l):W0 f l 0 l.length=[]:=by unfold W0;rw [List.take_length,List.filter_eq_nil_iff];intro x hx;have:=(hG.sr x hx).lv;simp; omega
end
end Go.Sx
end
