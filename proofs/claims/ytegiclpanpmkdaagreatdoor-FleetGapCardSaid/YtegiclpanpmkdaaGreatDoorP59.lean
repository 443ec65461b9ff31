/- A part of a proof; no conditions. -/
import Derived.Test.YtegiclpanpmkdaaGreatDoorP46
import Derived.Test.YtegiclpanpmkdaaGreatDoorP19
import Derived.Test.YtegiclpanpmkdaaGreatDoorP47
import Derived.Test.YtegiclpanpmkdaaGreatDoorP50
import Derived.Test.YtegiclpanpmkdaaGreatDoorP51
set_option linter.all false
set_option maxRecDepth 100000
set_option maxHeartbeats 8000000
noncomputable section
section
namespace Go.Sx
def smT (g:Nat->Int) (S:Nat->Bool):Nat->Int
 | 0=>0
 | k+1=>smT g S k+if S k=true then g k else 0
theorem E8 {g:Nat->Int} {S T:Nat->Bool}:∀{k:Nat},(∀j,j<k->S j=T j)->smT g S k=smT g T k
 | 0,_=>rfl
 | k+1,h=>by rw [smT,smT,E8 fun j hj=>h j (by omega),h k (by omega)]
theorem awT {g:Nat->Int} {S:Nat->Bool} {a:Nat} (ha:S a=false):∀k:Nat,smT g (fun j=>S j || decide (j=a)) k=smT g S k+if a<k then g a else 0
 | 0=>by simp [smT]
 | k+1=>by
  rw [smT,smT,awT ha k];by_cases e:k=a
  ·subst e;rw [ha,if_neg (Nat.lt_irrefl k),if_pos (Nat.lt_succ_self k)];simp
  ·have h1:decide (k=a)=false:=decide_eq_false e;rw [h1,Bool.or_false];by_cases e2:a<k
   ·simp only [e2,show a<k+1 by omega,if_true]; omega
   ·simp only [e2,show ¬ a<k+1 by omega,if_false]; omega
theorem avC {g:Nat->Int} {S:Nat->Bool} {lo hi:Int} (hl:lo<=0) (hh:0<=hi):∀{k:Nat},(∀j,j<k->S j=true->lo<=g j/\g j<=hi)->lo * k<=smT g S k/\smT g S k<=hi * k
 | 0,_=>by simp [smT]
 | k+1,h=>by
  have ih:=avC hl hh (k:=k) fun j hj=>h j (by omega);have hk:=h k (by omega);rw [smT];have e1:lo * ((k+1:Nat):Int)=lo * k+lo:=by rw [Int.natCast_add,Int.mul_add]; simp
  have e2:hi * ((k+1:Nat):Int)=hi * k+hi:=by rw [Int.natCast_add,Int.mul_add]; simp
  rw [e1,e2];split
  ·have:=hk (by assumption); omega
  ·omega
theorem avs {g:Nat->Int} {S:Nat->Bool}:∀{k:Nat},(∀j,j<k->S j=false)->smT g S k=0
 | 0,_=>rfl
 | k+1,h=>by rw [smT,avs fun j hj=>h j (by omega),h k (by omega)]; simp
def inJ (l:List Sr) (Q:Sr->Bool) (j:Nat):Bool:=l.any fun x=>Q x && decide (x.j=(j:Int))
def lsm (g:Nat->Int) (Q:Sr->Bool):List Sr->Int
 | []=>0
 | x::l=>(if Q x=true then g x.j.toNat else 0)+lsm g Q l
theorem avt (g:Nat->Int) (Q:Sr->Bool) (s:Sr):∀l:List Sr,lsm g Q (l++[s])=lsm g Q l+if Q s=true then g s.j.toNat else 0
 | []=>by simp [lsm]
 | x::l=>by rw [List.cons_append,lsm,avt g Q s l,lsm]; omega
theorem avD {f:Fl} {any:Bool} {l:List Sr} (h:Good f any l) (g:Nat->Int) (Q:Sr->Bool):smT g (inJ l Q) f.jobs.length=lsm g Q l:=by
 refine Vo (f:=f) (any:=any) (P:=fun l=>smT g (inJ l Q) f.jobs.length=lsm g Q l) ?_ ?_ l h
 ·exact avs fun j _=>by simp [inJ]
 intro l s hl hn ih;have hx:=vw.1 hn;have hs:=hx.sr.j;rw [avt,<-ih];by_cases hq:Q s=true
 ·rw [if_pos hq];have hS:∀j,inJ (l++[s]) Q j=(inJ l Q j || decide (j=s.j.toNat)):=fun j=>by have e:decide (s.j=(j:Int))=decide (j=s.j.toNat):=(by rw [decide_eq_decide]; omega);simp [inJ,List.any_append,hq,e]
  have ha:inJ l Q s.j.toNat=false:=List.any_eq_false.2 fun y hy=>by have h1:=(On.1 (hx.cl y hy)).1;have e:((s.j.toNat:Nat):Int)=s.j:=(by omega);simp only [e,Bool.and_eq_true,decide_eq_true_eq,not_and];exact fun _=>h1
  rw [E8 (T:=fun j=>inJ l Q j || decide (j=s.j.toNat)) fun j _=>hS j,awT ha,if_pos hs.2]
 ·rw [if_neg hq,Int.add_zero];exact E8 fun j _=>by have:Q s=false:=(by simpa using hq);simp [inJ,List.any_append,this]
theorem avM (g h:Nat->Int) (Q:Sr->Bool):∀l,lsm (fun j=>g j - h j) Q l=lsm g Q l - lsm h Q l
 | []=>rfl
 | x::l=>by rw [lsm,lsm,lsm,avM g h Q l]; split<;>omega
theorem avN (f:Fl) (m:Nat):∀{l:List Sr},(∀x∈l,0<=x.m)->lsm (fun j=>(jJ f j m).mD) (fun x=>decide (x.m=(m:Int))) l=fA f m l
 | [],_=>rfl
 | x::l,h=>by
  rw [lsm,fA,avN f m fun y hy=>h y (List.mem_cons_of_mem _ hy)];by_cases e:x.m=(m:Int)
  ·rw [if_pos (decide_eq_true e),if_pos e];have:x.m.toNat=m:=(by omega);rw [ew,this]
  ·rw [if_neg (by simpa using e),if_neg e]
theorem avO (f:Fl):∀l:List Sr,lsm (fun j=>(fP f j).val) (fun _=>true) l=j4 f l
 | []=>rfl
 | x::l=>by rw [lsm,j4,avO f l]; simp
def msm (g:Nat->Int) (l:List Sr):Nat->Int
 | 0=>0
 | m+1=>msm g l m+lsm g (fun x=>decide (x.m=(m:Int))) l
theorem axY (g:Nat->Int) (N:Nat):∀{l:List Sr},(∀x∈l,0<=x.m/\x.m<N)->msm g l N=lsm g (fun _=>true) l:=by
 have h0:∀n,msm g [] n=0:=fun n=>by
  induction n with
  | zero=>rfl
  | succ n ih=>rw [msm,ih]; rfl
 have h1:∀(x:Sr) (l:List Sr) (n:Nat),0<=x.m->msm g (x::l) n=msm g l n+if x.m<n then g x.j.toNat else 0:=fun x l n hx=>by
  induction n with
  | zero=>
   have e:¬ x.m<((0:Nat):Int):=(by omega);simp only [msm,e,if_false]; rfl
  | succ n ih=>
   rw [msm,msm,ih,lsm];by_cases e:x.m=(n:Int)
   ·simp only [e,decide_true,if_true,show ¬ (n:Int)<n by omega,show(n:Int)<((n+1:Nat):Int) by omega,if_false]; omega
   ·by_cases e2:x.m<(n:Int)
    ·simp only [e,decide_false,e2,show x.m<((n+1:Nat):Int) by omega,if_true,if_false,Bool.false_eq_true]; omega
    ·simp only [e,decide_false,e2,show ¬ x.m<((n+1:Nat):Int) by omega,if_false,Bool.false_eq_true]; omega
 intro l
 induction l with
 | nil=>intro _; rw [h0]; rfl
 | cons x l ih=>
  intro h;have hx:=h x (by simp);rw [h1 x l N hx.1,ih fun y hy=>h y (List.mem_cons_of_mem _ hy),if_pos hx.2,lsm];simp only [if_true]; omega
theorem awU (S:Nat->Bool):∀n:Nat,∃s:Nat,s<2 ^ n/\∀j:Nat,j<n->wP (s:Int) (j:Int)=S j
 | 0=>⟨0,by simp,fun j hj=>by omega⟩
 | n+1=>by
  obtain⟨s,hs,hb⟩:=awU S n;have hp:2 ^ (n+1)=2 ^ n+2 ^ n:=by rw [Nat.pow_succ]; omega
  unfold wP at hb ⊢;simp only [Int.toNat_natCast]at hb ⊢;cases hS:S n
  ·refine⟨s,by omega,fun j hj=>?_⟩;by_cases e:j=n
   ·subst e; rw [hS]; exact Nat.testBit_lt_two_pow hs
   ·exact hb j (by omega)
  ·refine⟨2 ^ n+s,by omega,fun j hj=>?_⟩;by_cases e:j=n
   ·subst e;rw [hS,Nat.testBit_two_pow_add_eq,Nat.testBit_lt_two_pow hs]; rfl
   ·rw [Nat.testBit_two_pow_add_gt (by omega)]; exact hb j (by omega)
structure MJ (f:Fl) (m:Nat) (S:Nat->Bool):Prop where
 can:∀j,j<f.jobs.length->S j=true->jR f j m=true/\DY f j m=true
 ap:∀i j,i<f.jobs.length->j<f.jobs.length->S i=true->S j=true->i≠j->(jJ f i m).hm+f.turn<=(jJ f j m).lv\/(jJ f j m).hm+f.turn<=(jJ f i m).lv
theorem Good.mj {f:Fl} {l:List Sr} (h:Good f false l) (m:Nat):MJ f m (inJ l fun x=>decide (x.m=(m:Int))):=by
 have hx:∀j:Nat,inJ l (fun x=>decide (x.m=(m:Int))) j=true->∃(k:Nat) (hk:k<l.length),l[k].m=(m:Int)/\l[k].j=(j:Int):=fun j hj=>by obtain⟨x,hx,hq⟩:=List.any_eq_true.1 hj;simp only [Bool.and_eq_true,decide_eq_true_eq]at hq;obtain⟨k,hk,rfl⟩:=List.getElem_of_mem hx;exact⟨k,hk,hq⟩
 have hg:∀k (hk:k<l.length),l.getD k default=l[k]:=fun k hk=>by simp [List.getD,hk]
 have hbk:∀(k:Nat) (hk:k<l.length) (j:Nat),l[k].m=(m:Int)->l[k].j=(j:Int)->ew f l[k]=jJ f j m:=fun k hk j h1 h2=>by rw [ew,h1,h2]; rfl
 refine⟨fun j hj hS=>?_,fun i j hi hj hSi hSj hij=>?_⟩
 ·obtain⟨k,hk,h1,h2⟩:=hx j hS;have hn:=h.nx hk;rw [hg k hk]at hn;have h3:=hn.can;have h4:=hn.opn;rw [h1,h2]at h3 h4;refine⟨h3,?_⟩;rcases h4 with h4|h4
  ·cases h4
  ·exact h4
 ·obtain⟨a,ha,a1,a2⟩:=hx i hSi;obtain⟨b,hb,b1,b2⟩:=hx j hSj;have key:∀(a b:Nat) (ha:a<l.length) (hb:b<l.length),a<b->l[a].m=l[b].m->(ew f l[a]).hm+f.turn<=(ew f l[b]).lv:=fun a b ha hb hab hm=>by have:=On.1 (h.pair hab hb);rw [hg a ha,hg b hb]at this;exact this.2.1 hm
  rcases Nat.lt_trichotomy a b with g|g|g
  ·have:=key a b ha hb g (by rw [a1,b1]);rw [hbk a ha i a1 a2,hbk b hb j b1 b2]at this;exact .inl this
  ·subst g; exact absurd (by omega:i=j) hij
  ·have:=key b a hb ha g (by rw [a1,b1]);rw [hbk a ha i a1 a2,hbk b hb j b1 b2]at this;exact .inr this
theorem awV {f:Fl} (hf:gu f) {m:Nat} (hm:m<f.dU.length) {ps:List Int} (hp:∀j,0<=ps.getD j 0/\ps.getD j 0<=1000000) {s:Nat} (h:MJ f m fun j=>wP (s:Int) (j:Int)):∀{k:Nat},k<=f.jobs.length->
  (rG f m ps s k).ok=true/\(rG f m ps s k).sum=smT (fun j=>(fP f j).val - ps.getD j 0) (fun j=>wP (s:Int) (j:Int)) k/\(rG f m ps s k).mD=smT (fun j=>(jJ f j m).mD) (fun j=>wP (s:Int) (j:Int)) k/\∀b∈(rG f m ps s k).bl,∃i:Nat,i<k/\wP (s:Int) (i:Int)=true/\b=jJ f i m
 | 0,_=>⟨rfl,rfl,rfl,fun b hb=>by cases hb⟩
 | k+1,hk=>by
  obtain⟨h1,h2,h3,h4⟩:=awV hf hm hp h (k:=k) (by omega);have hj6:=hf.jobs;have ez:=avC (g:=fun j=>(fP f j).val - ps.getD j 0) (S:=fun j=>wP (s:Int) (j:Int)) (lo:=-1000000) (hi:=1000000) (by omega) (by omega) (k:=k) fun j hj _=>by have:=(hf.jb (j:=j) (by omega)).2.2.2.2;have:=hp j;omega
  have kJ:=avC (g:=fun j=>(jJ f j m).mD) (S:=fun j=>wP (s:Int) (j:Int)) (lo:=0) (hi:=153600) (by omega) (by omega) (k:=k) fun j hj hS=>by have hc:=(h.can j (by omega) hS).1;have hq:=(hf.ticks (j:=j) (m:=m) (by omega) hm hc).1;have:=(hf.bk (j:=j) (m:=m) (by omega) hm hq).2.2;omega
  rw [rG,smT,smT];by_cases hS:wP (s:Int) (k:Int)=true
  ·rw [if_pos hS,if_pos hS,if_pos hS];obtain⟨hc,ho⟩:=h.can k (by omega) hS;obtain⟨hq,ht1,_,_,ht4⟩:=hf.ticks (j:=k) (m:=m) (by omega) hm hc;have hv:=(hf.jb (j:=k) (by omega)).2.2.2.2;have hpk:=hp k;have hba:=(hf.bk (j:=k) (m:=m) (by omega) hm hq).2.2;have htu:=hf.turn;rw [uJ hq];simp only [h1,h2,h3,hc,ho];refine⟨?_,?_,?_,?_⟩
   ·have:(rG f m ps s k).bl.any (Ni (f,jJ f k m))=false:=List.any_eq_false.2 fun b hb=>by
     obtain⟨i,hi,hSi,rfl⟩:=h4 b hb;obtain⟨hci,_⟩:=h.can i (by omega) hSi;obtain⟨_,hi1,_,_,hi4⟩:=hf.ticks (j:=i) (m:=m) (by omega) hm hci;have ha:=h.ap i k (by omega) (by omega) hSi hS (by omega);have w1:wr ((jJ f i m).hm+f.turn)=(jJ f i m).hm+f.turn:=aK (by omega) (by omega);have w2:wr ((jJ f k m).hm+f.turn)=(jJ f k m).hm+f.turn:=aK (by omega) (by omega);have e:apW f (jJ f k m) (jJ f i m)=(decide (wr ((jJ f i m).hm+f.turn)<=(jJ f k m).lv) || decide (wr ((jJ f k m).hm+f.turn)<=(jJ f i m).lv)):=rfl;rw [w1,w2]at e;have e2:apW f (jJ f k m) (jJ f i m)=true:=by
      rw [e]; rcases ha with ha|ha
      ·simp [ha]
      ·simp [ha]
     simp [Ni,e2]
    rw [this]; rfl
   ·rw [show wr ((fP f k).val - ps.getD k 0)=(fP f k).val - ps.getD k 0 from aK (by omega) (by omega)];exact aK (by omega) (by omega)
   ·exact aK (by omega) (by omega)
   ·intro b hb;rcases List.mem_append.1 hb with hb|hb
    ·obtain⟨i,hi,e⟩:=h4 b hb;exact⟨i,by omega,e⟩
    ·exact⟨k,by omega,hS,List.mem_singleton.1 hb⟩
  ·rw [if_neg hS,if_neg hS,if_neg hS];refine⟨h1,by omega,by omega,fun b hb=>?_⟩;obtain⟨i,hi,e⟩:=h4 b hb;exact⟨i,by omega,e⟩
theorem awW (f:Fl) (m:Nat) (ps:List Int):∀{a b:Nat},a<=b->KV f m ps a<=KV f m ps b:=by
 have h1:∀a,KV f m ps a<=KV f m ps (a+1):=fun a=>by rw [KV]; split<;>omega
 intro a b hab
 induction b with
 | zero=>rw [show a=0 by omega]; exact Int.le_refl _
 | succ b ih=>
  by_cases e:a=b+1
  ·rw [e]; exact Int.le_refl _
  ·exact Int.le_trans (ih (by omega)) (h1 b)
theorem ayM {f:Fl} {m:Nat} {ps:List Int} {s n:Nat} (hs:s<n) (h1:(rG f m ps s f.jobs.length).ok=true) (h2:(rG f m ps s f.jobs.length).mD<=max (Ai f m) 0):(rG f m ps s f.jobs.length).sum<=KV f m ps n:=by refine Int.le_trans ?_ (awW f m ps (show s+1<=n by omega));rw [KV,h1,decide_eq_true h2,Bool.true_and,if_pos rfl];omega
theorem avP {f:Fl} (hf:gu f) {m:Nat} {ps:List Int} (hp:∀j,0<=ps.getD j 0/\ps.getD j 0<=1000000) (s:Nat):∀{k:Nat},k<=f.jobs.length->-1000000 * (k:Int)<=(rG f m ps s k).sum/\(rG f m ps s k).sum<=1000000 * (k:Int)
 | 0,_=>by simp [rG]
 | k+1,hk=>by
  have ih:=avP hf hp (m:=m) s (k:=k) (by omega);have hv:=(hf.jb (j:=k) (by omega)).2.2.2.2;have hpk:=hp k;have hj6:=hf.jobs;rw [rG];split
  ·simp only;rw [show wr ((fP f k).val - ps.getD k 0)=(fP f k).val - ps.getD k 0 from aK (by omega) (by omega),show ∀x:Int,-100000000<=x->x<=100000000->wr x=x from fun x _ _=>aK (by omega) (by omega)];all_goals omega
  ·omega
theorem awX {f:Fl} (hf:gu f) {m:Nat} {ps:List Int} (hp:∀j,0<=ps.getD j 0/\ps.getD j 0<=1000000):∀n,0<=KV f m ps n/\KV f m ps n<=6000000
 | 0=>by simp [KV]
 | n+1=>by have ih:=awX hf hp (m:=m) n;have:=avP hf hp (m:=m) n (Nat.le_refl _);have:=hf.jobs;rw [KV]; split<;>omega
theorem avE {ps:List Int} (hp:∀j,0<=ps.getD j 0/\ps.getD j 0<=1000000):∀{k:Nat},k<=6->boP ps k=smT (fun j=>ps.getD j 0) (fun _=>true) k/\0<=boP ps k/\boP ps k<=1000000 * k
 | 0,_=>by simp [boP,smT]
 | k+1,hk=>by obtain⟨h1,h2,h3⟩:=avE hp (k:=k) (by omega);have:=hp k;rw [boP,smT,<-h1,if_pos rfl,show wr (boP ps k+ps.getD k 0)=boP ps k+ps.getD k 0 from aK (by omega) (by omega)];exact⟨rfl,by omega,by omega⟩
def erT (f:Fl) (ps:List Int):Nat->Int
 | 0=>0
 | m+1=>erT f ps m+KV f m ps (2 ^ f.jobs.length)
theorem awY {f:Fl} (hf:gu f) {ps:List Int} (hn:ps.length=f.jobs.length) (hp:∀j,0<=ps.getD j 0/\ps.getD j 0<=1000000):∀{m:Nat},m<=1000->boM f ps m=boP ps ps.length+erT f ps m/\0<=erT f ps m/\erT f ps m<=6000000 * m
 | 0,_=>by simp [boM,erT]
 | m+1,hm=>by obtain⟨h1,h2,h3⟩:=awY hf hn hp (m:=m) (by omega);have h4:=awX hf hp (m:=m) (2 ^ f.jobs.length);have h5:=(avE hp (k:=ps.length) (by have:=hf.jobs; omega)).2;have h6:=hf.jobs;rw [boM,erT,h1,show wr (boP ps ps.length+erT f ps m+KV f m ps (2 ^ f.jobs.length))=boP ps ps.length+erT f ps m+KV f m ps (2 ^ f.jobs.length)from aK (by omega) (by omega)];exact⟨by omega,by omega,by omega⟩
theorem avQ {g:Nat->Int} {S:Nat->Bool} (hg:∀j,0<=g j):∀k,smT g S k<=smT g (fun _=>true) k
 | 0=>Int.le_refl _
 | k+1=>by have:=avQ (S:=S) hg k;have:=hg k;rw [smT,smT,if_pos rfl]; split<;>omega
theorem Good.gap {f:Fl} (hf:gu f) {l:List Sr} (h:Good f false l) {ps:List Int} (hn:ps.length=f.jobs.length) (hp:∀j,0<=ps.getD j 0/\ps.getD j 0<=1000000):j4 f l<=boM f ps f.dU.length/\0<=boM f ps f.dU.length/\boM f ps f.dU.length<=7000000000:=by
 have hm:=hf.JJ;have hj6:=hf.jobs;have hE:=awY hf hn hp hm;have hP:=avE hp (k:=ps.length) (by omega);have key:∀m,m<f.dU.length->lsm (fun j=>(fP f j).val - ps.getD j 0) (fun x=>decide (x.m=(m:Int))) l<=KV f m ps (2 ^ f.jobs.length):=fun m jW=>by
  obtain⟨s,hs,hb⟩:=awU (inJ l fun x=>decide (x.m=(m:Int))) f.jobs.length;have hM:=h.mj m;have hM2:MJ f m fun j=>wP (s:Int) (j:Int):=⟨fun j hj hS=>hM.can j hj (by rw [<-hb j hj]; exact hS),fun i j hi hj hSi hSj=>hM.ap i j hi hj (by rw [<-hb i hi]; exact hSi) (by rw [<-hb j hj]; exact hSj)⟩
  obtain⟨e1,e2,e3,_⟩:=awV hf jW hp hM2 (Nat.le_refl _);have c1:=E8 (g:=fun j=>(fP f j).val - ps.getD j 0) (k:=f.jobs.length) hb;have c2:=E8 (g:=fun j=>(jJ f j m).mD) (k:=f.jobs.length) hb;rw [c1,avD h]at e2;rw [c2,avD h,avN f m fun x hx=>(h.sr x hx).m.1.1]at e3;rw [<-e2];refine ayM hs e1 ?_;rw [e3];by_cases hu:∃x∈l,x.m=(m:Int)
  ·obtain⟨x,hx,Wn⟩:=hu;obtain⟨g1,g2⟩:=h.mD x hx;rw [Wn]at g1 g2;rw [show((m:Int)).toNat=m from Int.toNat_natCast m]at g1 g2;have:=(ad3 hf m).2.2.2 g1;omega
  ·have:∀l:List Sr,(∀x∈l,x.m≠(m:Int))->fA f m l=0:=fun l=>by
    induction l with
    | nil=>intro _; rfl
    | cons x l ih=>intro hx; rw [fA,ih fun y hy=>hx y (List.mem_cons_of_mem _ hy),if_neg (hx x (by simp))]; rfl
   rw [this l fun x hx e=>hu ⟨x,hx,e⟩];omega
 have hsum:∀n,n<=f.dU.length->msm (fun j=>(fP f j).val - ps.getD j 0) l n<=erT f ps n:=fun n=>by
  induction n with
  | zero=>intro _; exact Int.le_refl _
  | succ n ih=>
   intro MR;have:=ih (by omega);have:=key n (by omega);rw [msm,erT]; omega
 have h1:=hsum f.dU.length (Nat.le_refl _);rw [axY _ _ fun x hx=>(h.sr x hx).m.1,avM,avO]at h1;have h2:=avD h (fun j=>ps.getD j 0) fun _=>true;have h3:=avQ (g:=fun j=>ps.getD j 0) (S:=inJ l fun _=>true) (fun j=>(hp j).1) f.jobs.length;rw [h2,<-hn,<-hP.1]at h3;omega
end Go.Sx
end
section
namespace Go.Sx
open Go.Proofs
attribute [local simp] ri aa ints
attribute [local irreducible] bA
namespace Gp
structure VlP (d:Fl × List Sr):Prop where
 ok:gu d.1
 g:Good d.1 false d.2
noncomputable abbrev ayw:aB:=bS yU VlP fun d=>.int .i64 (j4 d.1 d.2)
noncomputable abbrev E54:=EV [] [] 5400 26 [(1,[2,50002])]
theorem b54:af E54 [] Tryz.f54 ayw:=pb <| by
 rintro⟨f,l⟩ ⟨hf,hG⟩;simp only at hf hG;have hlJ:=hG.atw;have hj6:=hf.jobs;have hvb:=fun k=>as6 hf (l:=l.take k) fun x hx=>hG.sr x (List.mem_of_mem_take hx);have hlt:∀k,(l.take k).length<=6:=fun k=>by simp; omega
 have hv0:j4 f []=0:=rfl;simp -dsimp [Tryz.f54,E54];repeat' (first|omega|simp -dsimp [E54, *]|apply aI|apply nI|intro)
 refine ay [7,8,9,10,13,14,15,16,17,18,19,20,21,22,23,24,5,11,12,6] (fun k:{k:Nat // k<=l.length}=>[(6,(true,.int .i64 k.1)),(5,(true,.int .i64 (j4 f (l.take k.1))))]) (fun _=>hps [(5402,fS f)] cg) (fun k=>l.length - k.1) ⟨0,by omega⟩ ?_ ?_ ?_
 ·simp [aj,aT,hv0]
 ·(try simp -dsimp only [hpx]); refine ai ?_; simp -dsimp [aC,fS]<;>exact rz
 rintro⟨k,hk⟩;dsimp only;by_cases aH:k<l.length
 ·have hki:(k:Int)<l.length:=by omega
  have wk:=wx k;obtain⟨x,hx,hx'⟩:=gx aH;have hS:=hG.sr x (List.mem_of_getElem? hx);have hV:=asn f x (l.take k);rw [show l.take k++[x]=l.take (k+1) by rw [List.take_add_one,hx]; rfl]at hV;have hj:=hS.j.1;have b0:=hvb k;have t0:=hlt k;have hjv:=(hf.jb hS.j.2).2.2.2.2;generalize hV1:j4 f (l.take (k+1))=V1 at *;generalize j4 f (l.take k)=V0 at *;obtain⟨xj,xm,xc,xk⟩:=x;simp only at hj hV hjv;obtain⟨xj,rfl⟩:=Int.eq_ofNat_of_zero_le hj.1;simp only [Int.toNat_natCast]at hV hjv;have hj1:xj<f.jobs.length:=by omega
  have hji:(xj:Int)<f.jobs.length:=by omega
  obtain⟨jb,hjb,hjb'⟩:=gx hj1;have hjw:jb.row=[.int .i64 jb.a,.int .i64 jb.b,.int .i64 jb.dep,.int .i64 jb.val,.bool jb.AW]:=rfl;have hja:fP f xj=jb:=by simp [fP,List.getD,hjb]
  rw [hja]at hV hjv;have wv:IntKind.wrap .i64 (V0+jb.val)=V1:=by rw [aK (by omega) (by omega)]; omega
  simp -dsimp [hki,fS];repeat' (first|omega|simp -dsimp [E54,hki,aH,hx,hx',Sr.row,hj1,hji,hjb,hjb',hjw,wv,wk]|apply aI|apply nI|intro)
  refine⟨k+1,ag rfl ?_,?_,by omega,by omega⟩
  ·simp [aj,aT,hV1]
  ·(try simp -dsimp only [hpx]); refine ai ?_; simp -dsimp [aC,fS]<;>exact rz
 have hkn:¬ (k:Int)<l.length:=by omega
 have hke:k=l.length:=by omega
 subst hke;have hall:l.take l.length=l:=List.take_length;simp -dsimp [hkn];repeat' (first|omega|simp -dsimp [E54,hkn,hall]|apply aI|apply nI|intro)
theorem apw:FO 54 ayw:=pf b54 .nil
@[simp] def loE (d:Sr × Sr):List V:=[.agg d.1.row,.agg d.2.row]
theorem axS (a b:Sr × Sr) (h:loE a=loE b):a=b:=by obtain⟨a1,a2⟩:=a; obtain⟨b1,b2⟩:=b;simp only [loE,List.cons.injEq,V.agg.injEq,and_true]at h;rw [Sr.aq _ _ h.1,Sr.aq _ _ h.2]
theorem axT (x1 x2 x3 x4 y1 y2 y3 y4:Int):aY loE [.agg [.int .i64 x1,.int .i64 x2,.int .i64 x3,.int .i64 x4],.agg [.int .i64 y1,.int .i64 y2,.int .i64 y3,.int .i64 y4]]=(⟨x1,x2,x3,x4⟩,⟨y1,y2,y3,y4⟩):=aA axS (⟨x1,x2,x3,x4⟩,⟨y1,y2,y3,y4⟩)
noncomputable abbrev ayx:aB:=bS loE (fun _=>True) fun d=>.bool (awN d.1 d.2)
noncomputable abbrev E55:=EV [] [] 5500 40
theorem b55:af E55 [] Tryz.f55 ayx:=pb <| by
 rintro⟨⟨a1,a2,a3,a4⟩,⟨b1,b2,b3,b4⟩⟩ _;have e:awN ⟨a1,a2,a3,a4⟩ ⟨b1,b2,b3,b4⟩=if a1≠b1 then decide (a1<b1)else if a2≠b2 then decide (a2<b2)else if a3≠b3 then decide (a3<b3)else decide (a4<b4):=rfl;by_cases c1:a1=b1
 case neg=>
  have d1:(a1 == b1)=false:=by simpa using c1
  rw [if_pos c1]at e;simp -dsimp [Tryz.f55,E55,Sr.row];repeat' (first|omega|simp -dsimp [E55,Sr.row,c1,d1,e]|apply aI|apply nI|intro)
 subst c1;rw [if_neg (by simp)]at e;by_cases c2:a2=b2
 case neg=>
  have d2:(a2 == b2)=false:=by simpa using c2
  rw [if_pos c2]at e;simp -dsimp [Tryz.f55,E55,Sr.row];repeat' (first|omega|simp -dsimp [E55,Sr.row,c2,d2,e]|apply aI|apply nI|intro)
 subst c2;rw [if_neg (by simp)]at e;by_cases c3:a3=b3
 case neg=>
  have d3:(a3 == b3)=false:=by simpa using c3
  rw [if_pos c3]at e;simp -dsimp [Tryz.f55,E55,Sr.row];repeat' (first|omega|simp -dsimp [E55,Sr.row,c3,d3,e]|apply aI|apply nI|intro)
 subst c3;rw [if_neg (by simp)]at e;simp -dsimp [Tryz.f55,E55,Sr.row];repeat' (first|omega|simp -dsimp [E55,Sr.row,e]|apply aI|apply nI|intro)
theorem apx:FO 55 ayx:=pf b55 .nil
@[simp] def bfE (d:(Fl × List Sr) × List Sr):List V:=[.agg d.1.1.row,.sl 4 (d.1.2.map Sr.row),.sl 4 (d.2.map Sr.row)]
theorem axU (a b:(Fl × List Sr) × List Sr) (h:bfE a=bfE b):a=b:=by obtain⟨⟨a1,a2⟩,a3⟩:=a; obtain⟨⟨b1,b2⟩,b3⟩:=b;simp only [bfE,List.cons.injEq,V.agg.injEq,V.sl.injEq,true_and,and_true]at h;rw [Fl.aq _ _ h.1,aR Sr.aq h.2.1,aR Sr.aq h.2.2]
theorem avJ (f:Fl) (a b:List Sr):aY bfE [.agg f.row,.sl 4 (a.map Sr.row),.sl 4 (b.map Sr.row)]=((f,a),b):=aA axU ((f,a),b)
structure BfP (d:(Fl × List Sr) × List Sr):Prop where
 ok:gu d.1.1
 a:Good d.1.1 false d.1.2
 b:Good d.1.1 false d.2
noncomputable abbrev ayy:aB:=bS bfE BfP fun d=>.bool (ltP d.1.1 d.1.2 d.2)
noncomputable abbrev wX:=EV [(54,.pure ayw),(55,.pure ayx)] [] 2300 56 [(1,[3,50003])]
theorem b23:af wX [] Tryz.f23 ayy:=pb <| by
 rintro⟨⟨f,a⟩,b⟩ ⟨hf,ha,hb⟩;simp only at hf ha hb;have hA:VlP (f,a):=⟨hf,ha⟩
 have hB:VlP (f,b):=⟨hf,hb⟩
 have hj6:=hf.jobs;have haJ:=ha.atw;have hbJ:=hb.atw;have hC:=avK f a b;have hD:atV f a b=nz [j4 f b - j4 f a,(a.length:Int) - b.length,xg a b]:=rfl;by_cases c1:j4 f a=j4 f b
 case neg=>
  have d1:(j4 f a == j4 f b)=false:=by simpa using c1
  have hr:ltP f a b=decide (j4 f b<j4 f a):=by
   rw [<-hC,hD,nz,if_neg (by omega)];by_cases h:j4 f b<j4 f a
   ·rw [decide_eq_true h,decide_eq_true (by omega)]
   ·rw [decide_eq_false h,decide_eq_false (by omega)]
  simp -dsimp [Tryz.f23,wX];repeat' (first|omega|simp -dsimp [wX,gO,hA,hB,c1,d1,hr]|apply aI|apply nI|intro)
 rw [nz,if_pos (by omega),nz]at hD;by_cases c2:a.length=b.length
 case neg=>
  have c2i:((a.length:Int)=b.length)=False:=eq_false (by omega);have d2:((a.length:Int) == b.length)=false:=by simpa using of_eq_false c2i
  have hr:ltP f a b=decide ((a.length:Int)<b.length):=by
   rw [<-hC,hD,if_neg (by omega)];by_cases h:(a.length:Int)<b.length
   ·rw [decide_eq_true h,decide_eq_true (by omega)]
   ·rw [decide_eq_false h,decide_eq_false (by omega)]
  simp -dsimp [Tryz.f23,wX];repeat' (first|omega|simp -dsimp [wX,gO,hA,hB,c1,c2i,d2,hr]|apply aI|apply nI|intro)
 rw [if_pos (by omega),nz,nz]at hD;have hD2:atV f a b=xg a b:=by rw [hD]; split<;>omega
 have c2i:(a.length:Int)=b.length:=by omega
 rw [hD2]at hC;simp -dsimp [Tryz.f23,wX];repeat' (first|omega|simp -dsimp [wX,gO,hA,hB,c1,c2i]|apply aI|apply nI|intro)
 refine ay [32,33,34,35,38,39,40,41,42,43,44,45,46,47,48,49,50,51,52,53,54,55,6,36,37,7] (fun k:{k:Nat // k<=a.length/\xg (a.drop k) (b.drop k)=xg a b}=>[(7,(true,.int .i64 k.1))]) (fun _=>hps [(2303,fS f)] cg) (fun k=>a.length - k.1) ⟨0,by omega,rfl⟩ ?_ ?_ ?_
 ·simp [aj,aT]
 ·(try simp -dsimp only [hpx]); refine ai ?_; simp -dsimp [aC,fS]<;>exact rz
 rintro⟨k,hk,hc⟩;dsimp only;by_cases aH:k<a.length
 case neg=>
  have hkn:¬ (k:Int)<b.length:=by omega
  have hr:ltP f a b=false:=by rw [<-hC,<-hc,List.drop_eq_nil_of_le (by omega),List.drop_eq_nil_of_le (by omega)]; rfl
  simp -dsimp [hkn];repeat' (first|omega|simp -dsimp [wX,hkn,c2i,hr]|apply aI|apply nI|intro)
 have hki:(k:Int)<a.length:=by omega
 have hk2:k<b.length:=by omega
 have iB:(k:Int)<b.length:=by omega
 have wk:=wx k;obtain⟨x,hx,hx'⟩:=gx aH;obtain⟨y,hy,hy'⟩:=gx hk2;rw [List.drop_eq_getElem_cons aH,List.drop_eq_getElem_cons hk2,hx',hy',xg]at hc;by_cases e:x=y
 ·subst e;rw [if_pos (ave.2 rfl)]at hc;simp -dsimp [hki,fS];repeat' (first|omega|simp -dsimp [wX,hki,iB,aH,hk2,hx,hx',hy,hy',c2i,Sr.row,wk]|apply aI|apply nI|intro)
  refine⟨k+1,ag rfl ?_,?_,⟨by omega,hc⟩,by omega⟩
  ·simp [aj,aT]
  ·(try simp -dsimp only [hpx]); refine ai ?_; simp -dsimp [aC,fS]<;>exact rz
 rw [if_neg fun h=>e (ave.1 h)]at hc;have hr:ltP f a b=awN x y:=by rw [<-hC,<-hc,axV]
 obtain⟨x1,x2,x3,x4⟩:=x;obtain⟨y1,y2,y3,y4⟩:=y;have e':¬ (x1=y1/\x2=y2/\x3=y3/\x4=y4):=fun⟨h1,h2,h3,h4⟩=>e (by rw [h1,h2,h3,h4]);simp -dsimp [hki,fS];repeat' (first|omega|simp -dsimp [wX,hki,iB,aH,hk2,hx,hx',hy,hy',c2i,Sr.row,axT,e',hr]|apply aI|apply nI|intro)
theorem apO:FO 23 ayy:=pf b23 (.cons apw (.cons apx .nil))
end Gp
end Go.Sx
end
section
namespace Go.Sx
open Go.Proofs
attribute [local simp] ri aa ints
attribute [local irreducible] bA
namespace Gp
def prB (f:Fl) (ps:List Int):Bool:=decide (ps.length=f.jobs.length) && !ps.any uX
theorem avk {f:Fl} (hK:Cw f) {ps:List Int}:prB f ps=true↔PrP f ps:=by unfold prB;rw [Bool.and_eq_true,decide_eq_true_eq,Bool.not_eq_true'];exact⟨fun h=>⟨hK,h.1,h.2⟩,fun h=>⟨h.n,h.a⟩⟩
theorem axJ {f:Fl} {ps:List Int} (h:PrP f ps) (j:Nat):0<=ps.getD j 0/\ps.getD j 0<=1000000:=by
 by_cases e:j<ps.length
 ·have:=List.any_eq_false.1 h.a (ps[j]) (List.getElem_mem e);rw [show ps.getD j 0=ps[j] by simp [List.getD,e]];simp [uX,bQ]at this; omega
 ·rw [show ps.getD j 0=0 by simp [List.getD,e]]; omega
structure PqP (d:Fl × List Int):Prop where
 k:Cw d.1
 l:d.2.length<=100000000000000
noncomputable abbrev acZ:aB:=bS fqE PqP fun d=>.int .i64 (if prB d.1 d.2=true then 0 else 1)
noncomputable abbrev Wp:=EV [(68,.pure Fc.Ic)] [] 5100 18
theorem b51:af Wp [] Tryz.f51 acZ:=pb <| by
 rintro⟨f,ps⟩ ⟨hK,hl⟩;simp only at hK hl;have hf:=hK.ok;have hj:=hf.jobs;have hP:prB f ps=(decide (ps.length=f.jobs.length) && !ps.any uX):=rfl;by_cases c:ps.length=f.jobs.length
 case neg=>
  have ci:((ps.length:Int)=f.jobs.length)=False:=eq_false (by omega);have d:((ps.length:Int) == f.jobs.length)=false:=by simpa using of_eq_false ci
  rw [decide_eq_false c,Bool.false_and]at hP;simp -dsimp [Tryz.f51,Wp];repeat' (first|omega|simp -dsimp [Wp,ci,c,d,hP]|apply aI|apply nI|intro)
 have vP:ps.length<=1000000:=by omega
 have hl3:f.jobs.length<=1000000:=by omega
 rw [decide_eq_true c,Bool.true_and]at hP;cases hA:ps.any uX
 all_goals
  rw [hA]at hP;simp -dsimp [Tryz.f51,Wp];repeat' (first|omega|simp -dsimp [Wp,c,vP,hl3,Fc.Bu,hA,hP]|apply aI|apply nI|intro)
theorem aiy:FO 51 acZ:=pf b51 (.cons Fc.ams .nil)
noncomputable abbrev ac1:aB:=bS Sa PqP fun d=>.dB [.int .i64 (if prB d.1 d.2=true then boM d.1 d.2 d.1.dU.length else 0),.int .i64 (if prB d.1 d.2=true then 0 else 1)]
noncomputable abbrev E21:=EV [(37,.pure nfS),(51,.pure acZ),(52,.pure Ig)] [] 2100 26 [(1,[2,50002])]
theorem b21:af E21 [] Tryz.f21 ac1:=pb <| by
 rintro⟨f,ps⟩ hQ;have hK:=hQ.k;simp only at hK;by_cases c:prB f ps=true
 ·have hP:=(avk hK).1 c;simp -dsimp [Tryz.f21,E21];repeat' (first|omega|simp -dsimp [E21,fC,XV,hK,hQ,hP,c]|apply aI|apply nI|intro)
 ·simp -dsimp [Tryz.f21,E21];repeat' (first|omega|simp -dsimp [E21,fC,XV,hK,hQ,c]|apply aI|apply nI|intro)
theorem aph:FO 21 ac1:=pf b21 (.cons anj (.cons aiy (.cons afk .nil)))
@[simp] def gaE (d:(Fl × List Sr) × List Int):List V:=[.agg d.1.1.row,.sl 4 (d.1.2.map Sr.row),.sl 1 (d.2.map ri)]
theorem ax7 (a b:(Fl × List Sr) × List Int) (h:gaE a=gaE b):a=b:=by obtain⟨⟨a1,a2⟩,a3⟩:=a; obtain⟨⟨b1,b2⟩,b3⟩:=b;simp only [gaE,List.cons.injEq,V.agg.injEq,V.sl.injEq,true_and,and_true]at h;rw [Fl.aq _ _ h.1,aR Sr.aq h.2.1,ee h.2.2]
theorem awf (f:Fl) (l:List Sr) (ps:List Int):aY gaE [.agg f.row,.sl 4 (l.map Sr.row),.sl 1 (ps.map ri)]=((f,l),ps):=aA ax7 ((f,l),ps)
structure GaP (d:(Fl × List Sr) × List Int):Prop where
 q:PqP (d.1.1,d.2)
 g:Good d.1.1 false d.1.2
noncomputable abbrev ay4:aB:=bS gaE GaP fun d=>.dB [.int .i64 (if prB d.1.1 d.2=true then boM d.1.1 d.2 d.1.1.dU.length - j4 d.1.1 d.1.2 else 0),.int .i64 (if prB d.1.1 d.2=true then 0 else 1)]
noncomputable abbrev E24:=EV [(35,.pure at5),(51,.pure acZ),(52,.pure Ig)] [] 2400 42 [(1,[3,50003])]
theorem b24:af E24 [] Tryz.f24 ay4:=pb <| by
 rintro⟨⟨f,l⟩,ps⟩ ⟨hQ,hG⟩;have hK:=hQ.k;simp only at hK hQ hG;have hf:=hK.ok;have hN:NpP (f,l):=⟨hK,by have:=hG.atw; have:=hf.jobs; simp only; omega⟩
 have hE:=yg hf hG;have hb:=hG.plb hf;by_cases c:prB f ps=true
 ·have hP:=(avk hK).1 c;have hg:=hG.gap hf hP.n (axJ hP);have hv:=hb.v;have w:=wi (boM f ps f.dU.length - j4 f l);simp -dsimp [Tryz.f24,E24];repeat' (first|omega|simp -dsimp [E24,gO,XV,hN,hE,hQ,hP,c,w]|apply aI|apply nI|intro)
 ·simp -dsimp [Tryz.f24,E24];repeat' (first|omega|simp -dsimp [E24,gO,XV,hN,hE,hQ,c]|apply aI|apply nI|intro)
theorem ag0:FO 24 ay4:=pf b24 (.cons Ye (.cons aiy (.cons afk .nil)))
structure LgP (d:(Fl × List Sr) × List Int):Prop where
 r:RiP (d.1.1,d.1.2)
 l:d.2.length<=100000000000000
noncomputable abbrev ayn:aB:=bS gaE LgP fun _=>.bool true
noncomputable abbrev E5:=EV [(18,.pure lgS),(19,.pure X6),(20,.pure afl),(11,.pure C0),(21,.pure ac1),(17,.pure awo),(12,.pure awM),(22,.pure cpS),(10,.pure XM),(23,.pure ayy),(24,.pure ay4)] [] 500 135 [(1,[3,50003])]
theorem b5:af E5 [] Tryz.f5 ayn:=pb <| by
 rintro⟨⟨f,l⟩,ps⟩ ⟨XN,hps⟩;have hP:=XN.p;have hl:=XN.l;simp only at hP hl XN hps;cases hL:R5 f
 case true=>
  simp -dsimp [Tryz.f5,E5];repeat' (first|omega|simp -dsimp [E5,fC,hP,hL]|apply aI|apply nI|intro)
 by_cases h4:l.length<=4
 case neg=>
  simp -dsimp [Tryz.f5,E5];repeat' (first|omega|simp -dsimp [E5,fC,mR,hP,hL,h4]|apply aI|apply nI|intro)
 by_cases hE:Nr f=0
 case neg=>
  simp -dsimp [Tryz.f5,E5];repeat' (first|omega|simp -dsimp [E5,fC,mR,hP,hL,h4,hE]|apply aI|apply nI|intro)
 have hf:=tC.1 hE;have hK:=C6 hL hf;have hB:=awq hL hK;have hPq:PqP (f,ps):=⟨hK,hps⟩
 have hT:=auW hf (now:=0) (q:=[]) Good.nil;have hG:=auZ hT;have hGl:=hG.atw;have hj:=hf.jobs;have hN:NpP (f,U0 f 0 []):=⟨hK,by simp only; omega⟩
 have hCp:CpP (f,U0 f 0 []):=⟨hP,fun _=>hK,by simp only; omega⟩
 have hc:=yg hf hG;have hlt:((f.jobs.length:Int)<(U0 f 0 []).length)=False:=eq_false (by omega);have hbo:prB f ps=true->(boM f ps f.dU.length<j4 f (U0 f 0 []))=False:=fun c=>eq_false (by have hPr:=(avk hK).1 c;have:=(hG.gap hf hPr.n (axJ hPr)).1;omega)
 cases hR:AB f l
 case false=>
  by_cases c:prB f ps=true
  ·have hbo:=hbo c;simp -dsimp [Tryz.f5,E5];repeat' (first|omega|simp -dsimp [E5,fC,mR,Sc,gO,hP,hL,h4,hE,hB,hPq,hN,hCp,hc,hlt,hbo,c,XN,hR]|apply aI|apply nI|intro)
  ·simp -dsimp [Tryz.f5,E5];repeat' (first|omega|simp -dsimp [E5,fC,mR,Sc,gO,hP,hL,h4,hE,hB,hPq,hN,hCp,hc,hlt,c,XN,hR]|apply aI|apply nI|intro)
 obtain⟨_,_,_,hGl⟩:=RZ hR;have hN2:NpP (f,l):=⟨hK,by simp only; omega⟩
 have RW:=yg hf hGl;have JN:=(au3 hT hGl).1;have hBf:BfP ((f,l),U0 f 0 []):=⟨hf,hGl,hG⟩
 have hGa:GaP ((f,l),ps):=⟨hPq,hGl⟩
 by_cases c:prB f ps=true
 ·have hbo:=hbo c;have hPr:=(avk hK).1 c;have hg:=hGl.gap hf hPr.n (axJ hPr);have hv:=(hGl.plb hf).v;have w:=wi (boM f ps f.dU.length - j4 f l);have h0:(0<=boM f ps f.dU.length - j4 f l)=True:=eq_true (by omega);have h0':(j4 f l<=boM f ps f.dU.length)=True:=eq_true (by omega);simp -dsimp [Tryz.f5,E5];repeat' (first|omega|simp -dsimp [E5,fC,mR,Sc,gO,avJ,awf,hP,hL,h4,hE,hB,hPq,hN,hCp,hc,hlt,hbo,c,XN,hR,hN2,RW,JN,hBf,hGa,w,h0,h0']|apply aI|apply nI|intro)
 ·simp -dsimp [Tryz.f5,E5];repeat' (first|omega|simp -dsimp [E5,fC,mR,Sc,gO,avJ,awf,hP,hL,h4,hE,hB,hPq,hN,hCp,hc,hlt,c,XN,hR,hN2,RW,JN,hBf,hGa]|apply aI|apply nI|intro)
theorem ok5:FO 5 ayn:=pf b5 (.cons agV (.cons an2 (.cons auN (.cons Xd (.cons aph (.cons ag2 (.cons anw (.cons apQ (.cons aiO (.cons apO (.cons ag0 .nil)))))))))))
end Gp
end Go.Sx
end
end
