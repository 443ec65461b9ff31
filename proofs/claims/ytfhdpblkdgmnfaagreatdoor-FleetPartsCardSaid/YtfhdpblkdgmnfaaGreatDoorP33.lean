/- A part of a proof; no conditions. -/
import Derived.Test.YtfhdpblkdgmnfaaGreatDoorP18
import Derived.Test.YtfhdpblkdgmnfaaGreatDoorP30
import Derived.Test.YtfhdpblkdgmnfaaGreatDoorP32
set_option linter.unusedSimpArgs false
set_option linter.unusedVariables false
set_option linter.unusedSectionVars false
set_option maxRecDepth 100000
set_option maxHeartbeats 8000000
noncomputable section
section
namespace Go.Sx
theorem Rt.most {r:Ro} (hr:r.Fit) {l:List Du} (p:Int):∀{n:Nat},n≤l.length→Rt r l n→∀x,wk (own (l.take n) p) x (x+r.win)≤r.tot
 | 0,_,_=>fun x=>by
  have:=hr.tot
  have e:wk (own (l.take 0) p) x (x+r.win)=0:=by
   have:wk ([]:List Du) x (x+r.win)≤0:=wk_most (l:=[]) (by have:=hr.win; omega) (Int.le_refl 0) (by simp) x
   have h2:=cn_nonneg (onD []) x (x+r.win)
   have e2:wk ([]:List Du) x (x+r.win)=cn (onD []) x (x+r.win):=rfl
   simp only [List.take_zero,own,List.filter_nil]
   omega
  omega
 | n+1,hn,h=>by
  have ih:=Rt.most hr p (n:=n) (by omega) (fun i hi=>h i (by omega))
  rw [take_snoc l (by omega)]
  have hk:=duOk_iff.1 (h n (by omega))
  change ∀x,wk (own (l.take n++[duAt l n]) p) x (x+r.win)≤r.tot
  by_cases hp:(duAt l n).p=p
  ·have e:own (l.take n++[duAt l n]) p=own (l.take n) p++[duAt l n]:=by simp [own,List.filter_append,hp]
   rw [e]
   rw [hp]at hk
   exact(totB_iff (by have:=hr.win; omega) (by have:=hr.tot; omega)).1 (brk_nil.1 hk.2.2.2).2.2.1
  ·have e:own (l.take n++[duAt l n]) p=own (l.take n) p:=by simp [own,List.filter_append,hp]
   rw [e]; exact ih
section
variable {f:Fl} {any:Bool} {l:List Sr} {s:Sr}
theorem Good.len (hf:FlOk f) (h:Good f any l):l.length≤30∧(duF f l).length≤60:=by
 obtain⟨h1,h2,h3⟩:=chkE_zero.1 (h.chk hf)
 rw [duF_len]at h2
 rw [duF_len]; omega
theorem airM_take (f:Fl) (m:Int) (l:List Sr) {k:Nat} {x:Sr} (h:l[k]?=some x):airM f m (l.take (k+1))=airM f m (l.take k)+if x.m=m then (bkS f x).air else 0:=by
 rw [List.take_add_one,h]; exact airM_snoc f m x _
theorem duF_take (f:Fl) (l:List Sr) {k:Nat} {x:Sr} (h:l[k]?=some x):duF f (l.take (k+1))=duF f (l.take k)++du2 f x:=by
 rw [List.take_add_one,h]; exact duF_snoc f _ x
theorem Good.more {k:Nat} (hk:k<l.length) (h:Good f any (l.take k)) (hn:nxB f (l.take k) (l.getD k default) any=true):Good f any (l.take (k+1)):=by
 rw [take_snoc l hk]; exact h.snoc hn
theorem bdP_at {k:Nat} (hk:k<l.length) (h:Good f any (l.take k)) (hn:nxB f (l.take k) (l.getD k default) any=false):bdP f l any=k:=by
 refine idxZ_at _ _ (by simpa using hk) (by simp only [List.getElem_range]; rw [hn]; rfl) fun j _ hj=>?_
 simp only [List.getElem_range]
 have:=h j (by simp; omega)
 rw [List.take_take,show min j k=j by omega,getD_take hj]at this
 rw [this]; rfl
end
end Go.Sx
end
section
namespace Go.Sx
theorem airM_succ {f:Fl} {l:List Sr} {m:Int} {k:Nat} {x:Sr} (h:l[k]?=some x):airM f m (l.take (k+1))=airM f m (l.take k)+if x.m=m then (bkS f x).air else 0:=by
 rw [List.take_add_one,h]; exact airM_snoc f m x _
end Go.Sx
end
end
