/- Plain: other minima, one more forecast: what a right plan keeps. No conditions. -/
import Derived.Test.YtegiclpanpmkdaaGreatDoorP19
set_option linter.all false
set_option maxRecDepth 100000
set_option maxHeartbeats 8000000
noncomputable section
namespace Go.Sx
def auV (f:Fl) (fs:List Fc) (mn:Mn):Fl:={f with met:={f.met with fs:=fs},mn:=mn}
theorem avd (f:Fl) (fs:List Fc) (mn:Mn) (m:Int):∀l:List Sr,fA (auV f fs mn) m l=fA f m l
 | []=>rfl
 | x::l=>by rw [fA,fA,avd f fs mn m l]; rfl
theorem avn (f:Fl) (fs:List Fc) (mn:Mn) (l:List Sr) (t:Int):∀n:Nat,GX (auV f fs mn) l t n=GX f l t n
 | 0=>rfl
 | n+1=>by rw [GX,GX,avn f fs mn l t n]; rfl
theorem awh (f:Fl) (fs:List Fc) (mn:Mn) (l:List Sr):uZ (auV f fs mn) l=uZ f l:=by
 have h:∀t,Nt (auV f fs mn) l t=Nt f l t:=fun t=>by unfold Nt; rw [avn]; rfl
 unfold uZ; simp only [h]; rfl
theorem Good.auV {f:Fl} {fs:List Fc} {mn:Mn} {any:Bool} {l:List Sr} (hop:∀p t,wT f p t=true->wT (auV f fs mn) p t=true) (h:Good f any l):Good (auV f fs mn) any l:=by
 intro i hi;have hn:=vw.1 (h i hi);refine vw.2 ⟨hn.th,hn.can,?_,hn.cl,by rw [avd]; exact hn.mD,hn.crw,hn.iV,by rw [awh]; exact hn.rU⟩;rcases hn.opn with h|h
 ·exact .inl h
 ·refine .inr ?_;unfold DY at h ⊢;simp only [Bool.and_eq_true]at h ⊢;exact⟨⟨⟨hop _ _ h.1.1.1,hop _ _ h.1.1.2⟩,hop _ _ h.1.2⟩,hop _ _ h.2⟩
theorem avl (f:Fl) (fs:List Fc) (mn:Mn):∀l:List Sr,j4 (auV f fs mn) l=j4 f l
 | []=>rfl
 | x::l=>by rw [j4,j4,avl f fs mn l]; rfl
theorem gu.auV {f:Fl} (h:gu f) {fs:List Fc} {mn:Mn} (hm:Met.ok {f.met with fs:=fs}=true) (hn:mn.ok=true):gu (auV f fs mn):=
 {met:=hm,mn:=hn,Ah:=h.Ah,op:=h.op,du:=h.du,dU:=h.dU,lz:=h.lz,ab0:=h.ab0,ab1:=h.ab1,turn:=h.turn,hour:=h.hour,rU:=h.rU,gF:=h.gF,jobs:=h.jobs,job:=h.job}
def wkM:Mn:=⟨300,0,0,true,true⟩
theorem axM:wkM.ok=true:=by decide
theorem aww {k:cR} {mn:Mn} (hn:mn.ok=true) (h:ahO k mn=true):ahO k wkM=true:=by simp only [Wt.ok,bQ,Bool.and_eq_true,decide_eq_true_eq]at hn;simp only [ahO,Bool.and_eq_true,decide_eq_true_eq]at h;have e:ahO k wkM=(decide (k.w.hi<=300) && decide (0<=k.s.lo) && decide (0<=k.c.lo) && (!k.pE || true) && (!k.pF || true)):=rfl;rw [e,decide_eq_true (show k.w.hi<=300 by omega),decide_eq_true (show 0<=k.s.lo by omega),decide_eq_true (show 0<=k.c.lo by omega)];simp
theorem Good.awr {f:Fl} (hf:gu f) {any:Bool} {l:List Sr} (h:Good f any l):Good (Sx.auV f f.met.fs wkM) any l:=
 h.auV fun _ _ h=>aww hf.mn h
section
variable {m:Met} {x:Fc} {p t:Int}
theorem aar {n i:Nat} (h:i∈je m p t n):i<n:=(CJ (mQ.1 h)).1
end
end Go.Sx
end
