/- Plain: other minima, one more forecast: what a right plan keeps. No conditions. -/
import Derived.Test.YtegiclpanpmkdaaGreatDoorR19
set_option linter.all false
set_option maxRecDepth 100000
set_option maxHeartbeats 8000000
noncomputable section
namespace Go.Sx
def auV(f:Fl)(fs:List Fc)(mn:Mn):Fl:={f with met:={f.met with fs:=fs},mn:=mn}
theorem avd(f:Fl)(fs:List Fc)(mn:Mn)(m:Int):∀l:List Sr,fA (auV f fs mn) m l=fA f m l
 | []=>rfl
 | x::l=>by rw [fA,fA,avd f fs mn m l];rfl
theorem avn(f:Fl)(fs:List Fc)(mn:Mn)(l:List Sr)(t:Int):∀n:Nat,GX (auV f fs mn) l t n=GX f l t n
 | 0=>rfl
 | n+1=>by rw [GX,GX,avn f fs mn l t n];rfl
theorem awh(f:Fl)(fs:List Fc)(mn:Mn)(l:List Sr):uZ (auV f fs mn) l=uZ f l:=by
 have h:∀t,Nt (auV f fs mn) l t=Nt f l t:=fun t=>by unfold Nt;rw [avn];rfl
 unfold uZ;simp only [h];rfl
theorem Good.auV{f:Fl}{fs:List Fc}{mn:Mn}{any:Bool}{l:List Sr}(v0:∀p t,wT f p t=true->wT (auV f fs mn) p t=true)(h:Good f any l):Good (auV f fs mn) any l:=by
 intro i hi;have hn:=vw.1 (h i hi);refine vw.2 ⟨hn.th,hn.can,?_,hn.cl,by rw [avd];exact hn.mD,hn.crw,hn.iV,by rw [awh];exact hn.rU⟩;rcases hn.opn with h|h
 ·exact .inl h
 ·refine .inr ?_;unfold DY at h ⊢;simp only [Bool.and_eq_true]at h ⊢;exact⟨⟨⟨v0 _ _ h.1.1.1,v0 _ _ h.1.1.2⟩,v0 _ _ h.1.2⟩,v0 _ _ h.2⟩
theorem avl(f:Fl)(fs:List Fc)(mn:Mn):∀l:List Sr,V1 (auV f fs mn) l=V1 f l
 | []=>rfl
 | x::l=>by rw [V1,V1,avl f fs mn l];rfl
theorem gu.auV{f:Fl}(h:gu f){fs:List Fc}{mn:Mn}(hm:Met.ok {f.met with fs:=fs}=true)(hn:mn.ok=true):gu (auV f fs mn):=
 {met:=hm,mn:=hn,Ah:=h.Ah,op:=h.op,du:=h.du,dU:=h.dU,lz:=h.lz,ab0:=h.ab0,ab1:=h.ab1,turn:=h.turn,hour:=h.hour,rU:=h.rU,gF:=h.gF,jobs:=h.jobs,job:=h.job}
section
variable {m:Met} {x:Fc} {p t:Int}
theorem aAA{i:Nat}(hi:i<m.fs.length):lD {m with fs:=m.fs++[x]} i=lD m i:=by simp [lD,List.getD,List.getElem?_append_left hi]
theorem aAB:lD {m with fs:=m.fs++[x]} m.fs.length=x:=by simp [lD,List.getD]
theorem aAu(p t:Int):∀{n:Nat},n<=m.fs.length->lW {m with fs:=m.fs++[x]} p t n=lW m p t n
 | 0,_=>rfl
 | n+1,hn=>by rw [Bg,Bg,aAu p t (n:=n) (by omega)];unfold Am;rw [aAA (by omega)]
theorem aA4{k k':Nat->Int}{l:List Nat}(h:∀i∈l,k i=k' i):fT k l=fT k' l:=by
 have hs:∀(j:Nat) (l:List Nat),(∀i∈l,k i=k' i)->j<l.length->sink k l j=sink k' l j:=by
  intro j
  induction j with
  | zero=>intro l _ _;rfl
  | succ j ih=>
   intro l hl hj;have h1:l.getD (j+1) 0∈l:=(by rw [List.getD_eq_getElem?_getD,List.getElem?_eq_getElem hj];exact List.getElem_mem hj);have h2:l.getD j 0∈l:=(by rw [List.getD_eq_getElem?_getD,List.getElem?_eq_getElem (by omega:j<l.length)];exact List.getElem_mem _);unfold sink;rw [hl _ h1,hl _ h2];split
   ·refine ih _ (fun i hi=>?_) (by simp;omega);rcases List.mem_or_eq_of_mem_set hi with hi|hi
    ·rcases List.mem_or_eq_of_mem_set hi with hi|hi
     ·exact hl i hi
     ·rw [hi];exact hl _ h2
    ·rw [hi];exact hl _ h1
   ·rfl
 have key:∀n,n<=l.length->fT k (l.take n)=fT k' (l.take n):=by
  intro n
  induction n with
  | zero=>intro _;rfl
  | succ n ih=>
   intro hn;have e:l.take (n+1)=l.take n++[l[n]]:=(by rw [List.take_add_one];simp [show n<l.length by omega]);rw [e,vA,vA,ih (by omega)];refine hs _ _ (fun i hi=>?_) (by simp);rcases List.mem_append.1 hi with hi|hi
   ·exact h i (List.mem_of_mem_take (mQ.1 hi))
   ·rw [List.mem_singleton.1 hi];exact h _ (List.getElem_mem _)
 have:=key l.length (Nat.le_refl _)
 rwa [List.take_length]at this
theorem aA0(p t:Int){n:Nat}(hn:n<=m.fs.length):je {m with fs:=m.fs++[x]} p t n=je m p t n:=by unfold je;rw [aAu p t hn];refine aA4 fun i hi=>?_;rw [aAA (by have:=(CJ hi).1;omega)]
theorem aAI{l:List Nat}(hl:∀i∈l,i<m.fs.length):∀{k:Nat},k<=l.length->fq {m with fs:=m.fs++[x]} l k=fq m l k
 | 0,_=>rfl
 | k+1,hk=>by
  have h1:l.getD k 0∈l:=by rw [List.getD_eq_getElem?_getD,List.getElem?_eq_getElem (by omega:k<l.length)];exact List.getElem_mem _
  rw [fq,fq,aAI hl (k:=k) (by omega),aAA (hl _ h1)]
theorem aA1(m:Met)(l r:List Nat):∀{k:Nat},k<=l.length->fq m (l++r) k=fq m l k
 | 0,_=>rfl
 | k+1,hk=>by
  have e:(l++r).getD k 0=l.getD k 0:=by simp [List.getD,List.getElem?_append_left (by omega:k<l.length)]
  rw [fq,fq,aA1 m l r (k:=k) (by omega),e]
theorem aar{n i:Nat}(h:i∈je m p t n):i<n:=(CJ (mQ.1 h)).1
theorem aBv(h:¬ (x.pl=p/\x.a<=t/\t<x.b)):Al {m with fs:=m.fs++[x]} p t=Al m p t:=by
 have hc:lW {m with fs:=m.fs++[x]} p t (m.fs++[x]).length=lW m p t m.fs.length:=by
  rw [show(m.fs++[x]).length=m.fs.length+1 by simp,Bg,aAu p t (Nat.le_refl _)];have:Am {m with fs:=m.fs++[x]} p t m.fs.length=false:=by unfold Am;rw [aAB];exact decide_eq_false h
  rw [this];simp
 have hk:je {m with fs:=m.fs++[x]} p t (m.fs++[x]).length=je m p t m.fs.length:=by have:=aA0 (m:=m) (x:=x) p t (Nat.le_refl m.fs.length);unfold je at this ⊢;rw [hc,<-this,aAu p t (Nat.le_refl _)]
 unfold Al;simp only;rw [hk];exact aAI (fun i hi=>aar hi) (Nat.le_refl _)
theorem aBB(hi:∀y∈m.fs,y.aX<=x.aX)(h:x.pl=p/\x.a<=t/\t<x.b):Al {m with fs:=m.fs++[x]} p t=((pz (Al m p t).1 x.k).1,(Al m p t).2++if (pz (Al m p t).1 x.k).2=true then [m.fs.length]else []):=by
 have hc:lW {m with fs:=m.fs++[x]} p t (m.fs++[x]).length=lW m p t m.fs.length++[m.fs.length]:=by
  rw [show(m.fs++[x]).length=m.fs.length+1 by simp,Bg,aAu p t (Nat.le_refl _)];have:Am {m with fs:=m.fs++[x]} p t m.fs.length=true:=by unfold Am;rw [aAB];exact decide_eq_true h
  rw [this];simp
 have hk:je {m with fs:=m.fs++[x]} p t (m.fs++[x]).length=je m p t m.fs.length++[m.fs.length]:=by have h1:=aA0 (m:=m) (x:=x) p t (Nat.le_refl m.fs.length);unfold je at h1 ⊢;rw [aAu p t (Nat.le_refl _)]at h1;rw [hc,vA,h1];refine aBd fun y hy=>?_;have hy:=(CJ (mQ.1 hy)).1;rw [aAA hy,aAB];refine hi _ ?_;rw [lD,List.getD_eq_getElem?_getD,List.getElem?_eq_getElem hy];exact List.getElem_mem hy
 unfold Al;simp only;rw [hk];rw [show(je m p t m.fs.length++[m.fs.length]).length=(je m p t m.fs.length).length+1 by simp,fq];have e:(je m p t m.fs.length++[m.fs.length]).getD (je m p t m.fs.length).length 0=m.fs.length:=by simp [List.getD]
 rw [aA1 _ _ _ (Nat.le_refl _),aAI (fun i hi=>aar hi) (Nat.le_refl _),e,aAB]
theorem aAS{a b:Sp}(h:(eM a b).2=false):a.lo<=(eM a b).1.lo/\(eM a b).1.hi<=a.hi:=by
 unfold eM at h ⊢;split
 ·rename_i g;rw [if_pos g]at h;cases h
 ·rename_i g;rw [if_neg g]at h;split
  ·rename_i g2;rw [if_pos g2]at h;cases h
  ·simp only;omega
theorem aBC{k b:cR}{mn:Mn}(hc:(pz k b).2=false)(h:ahO k mn=true):ahO (pz k b).1 mn=true:=by simp only [pz,Bool.or_eq_false_iff]at hc;have h1:=aAS hc.1.1;have h2:=aAS hc.1.2;have h3:=aAS hc.2;simp only [ahO,Bool.and_eq_true,decide_eq_true_eq]at h;have e:ahO (pz k b).1 mn=(decide ((eM k.w b.w).1.hi<=mn.w) && decide (mn.s<=(eM k.s b.s).1.lo) && decide (mn.c<=(eM k.c b.c).1.lo) && (!(k.pE && b.pE) || mn.pE) && (!(k.pF && b.pF) || mn.pF)):=rfl;obtain⟨⟨⟨⟨g1,g2⟩,g3⟩,g4⟩,g5⟩:=h;rw [e,decide_eq_true (show(eM k.w b.w).1.hi<=mn.w by omega),decide_eq_true (show mn.s<=(eM k.s b.s).1.lo by omega),decide_eq_true (show mn.c<=(eM k.c b.c).1.lo by omega)];revert g4 g5;cases k.pE<;>cases k.pF<;>cases b.pE<;>cases b.pF<;>cases mn.pE<;>cases mn.pF<;>simp
theorem aA5{mn:Mn}(hi:∀y∈m.fs,y.aX<=x.aX)(hs:∀y∈m.ss,y.pl≠x.pl)(v3:∀t,x.a<=t->t<x.b->m.fs.length ∉ (Al {m with fs:=m.fs++[x]} x.pl t).2)(p t:Int)(h:EI m mn p t=true):EI {m with fs:=m.fs++[x]} mn p t=true:=by
 unfold EI at h ⊢;by_cases P7:x.pl=p/\x.a<=t/\t<x.b
 ·have hm:=aBB hi P7;have v1:seen m p t m.ss.length=[]:=by unfold seen;rw [List.filter_eq_nil_iff];intro i v4;have v2:i<m.ss.length:=(by simpa using v4);have:=hs (lE m i) (by rw [lE,List.getD_eq_getElem?_getD,List.getElem?_eq_getElem v2];exact List.getElem_mem v2);rw [P7.1]at this;simp [wL,this]
  have hk:∀fs,ED {m with fs:=fs} p t=(Al {m with fs:=fs} p t).1:=fun fs=>by
   have e:jf {m with fs:=fs} p t m.ss.length=[]:=by have:seen {m with fs:=fs} p t m.ss.length=[]:=v1;unfold jf;rw [this];rfl
   unfold ED;simp only;rw [e];rfl
  have kW:ED m p t=(Al m p t).1:=hk m.fs;rw [kW]at h;rw [hk,hm];refine aBC ?_ h;have:=v3 t P7.2.1 P7.2.2;rw [P7.1,hm]at this;simp only [List.mem_append,not_or]at this;cases c:(pz (Al m p t).1 x.k).2
  ·rfl
  ·rw [c,if_pos rfl]at this;exact absurd (by simp) this.2
 ·have hm:=aBv (m:=m) P7;have e:ED {m with fs:=m.fs++[x]} p t=ED m p t:=by
   have v5:∀l k0 n,qR {m with fs:=m.fs++[x]} t l k0 n=qR m t l k0 n:=fun l k0 n=>by
    induction n with
    | zero=>rfl
    | succ n ih=>rw [qR,qR,ih];rfl
   unfold ED;rw [hm,v5];rfl
  rw [e];exact h
end
end Go.Sx
end
