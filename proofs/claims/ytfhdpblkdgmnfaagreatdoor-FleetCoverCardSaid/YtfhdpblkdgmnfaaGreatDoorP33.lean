/- Crews: what is told of right duties. No conditions. -/
import Derived.Test.YtfhdpblkdgmnfaaGreatDoorP31
import Derived.Test.YtfhdpblkdgmnfaaGreatDoorP40
import Derived.Test.YtfhdpblkdgmnfaaGreatDoorP32
set_option linter.unusedSimpArgs false
set_option linter.unusedVariables false
set_option linter.unusedSectionVars false
set_option maxRecDepth 100000
set_option maxHeartbeats 8000000
noncomputable section
namespace Go.Sx
theorem Ya {r:Ro} {l:List Du} {c:Cl} (hz:(fL r l).2=0) (hc:jx c=true):Sj r l c=(tF r l c,0):=by
 obtain⟨hf,_,_⟩:=dN.1 hz
 have RW:r9 c.a c.b=true∧(0≤c.gP∧c.gP≤7):=by simpa [jx]using hc
 have hs:=gQ.1 RW.1
 have h2:gR c=true:=by rw [gR,tG (by omega) (by omega),RW.1]; simp [RW.2]
 have h3:fQ bH r l true=0:=by unfold fQ; rw [mM gZ hz]; rfl
 have hW:∀i k:Nat,Fi bH r l c i k=C7 r l c i k:=fun i k=>by
  unfold Fi C7; rw [C8 gZ hf (xB hz) hs,C8 gZ hf (xB hz) hs]
 have hL:Sk bH r l c=tF r l c:=by unfold Sk tF; simp only [hW]
 unfold Sj
 rw [h2,if_pos h3,hL]
theorem atA {r:Ro} {l:List Du} {c:Cl} (hz:(fL r l).2=0) (hc:jx c=false) (hb : -9223372036854775808<c.b∧c.b≤9223372036854775807):Sj r l c=([],1):=by
 have h2:gR c=false:=by rw [gR,tG hb.1 hb.2]; exact hc
 have h3:fQ bH r l false=1:=by unfold fQ; rw [mM gZ hz]; rfl
 unfold Sj
 rw [h2,h3]
 rfl
theorem asV {r:Ro} (hr:r.ok=true) {l:List Du} (hv:Bi l):gT bH r l=fL r l:=by
 have hf:=Ro.si.1 hr
 have h1:∀i,i<l.length→kG bH r l i=ue r l i:=fun i hi=>by
  have hm:cz l i∈l:=by
   have:cz l i=l[i]:=by simp [cz,List.getD,hi]
   rw [this]; exact List.getElem_mem hi
  have hd:=hv _ hm
  have oR:Bi (l.take i):=fun d hd=>hv d (List.mem_of_mem_take hd)
  unfold kG ue
  rw [tG (by omega) (by omega),L3 gZ hf (qC oR _) hd]
 have h2:ar6 bH r l=wh r l:=by
  unfold ar6 wh
  by_cases h:eB (List.range l.length) (fun i=>!ue r l i) = -1
  ·rw [h]
   have hz:=cO (List.range l.length) fun i=>!ue r l i
   rw [h]at hz
   refine bP _ _ fun j hj=>?_
   have hj':j<l.length:=by simpa using hj
   have:=List.any_eq_false.1 (hz.symm.trans (by decide)) j (by simpa using hj')
   simp only [List.getElem_range]
   rw [h1 j hj']; simpa using this
  ·obtain⟨k,hk,e,hp,hq⟩:=ve h
   rw [e]
   simp only [List.length_range]at hk
   refine cW _ _ (by simpa using hk) ?_ fun j hj hjk=>?_
   ·simp only [List.getElem_range]at hp ⊢
    rw [h1 k hk]; exact hp
   ·have:=hq j hj hjk
    simp only [List.getElem_range]at this ⊢
    rw [h1 j (by simpa using hj)]; exact this
 unfold gT fL
 rw [h2]
theorem Nh {f:Fl} {l:List Sr} {m:Int} {k:Nat} {x:Sr} (h:l[k]?=some x):fA f m (l.take (k+1))=fA f m (l.take k)+if x.m=m then (ew f x).mD else 0:=by
 rw [List.take_add_one,h]; exact qA f m x _
end Go.Sx
end
