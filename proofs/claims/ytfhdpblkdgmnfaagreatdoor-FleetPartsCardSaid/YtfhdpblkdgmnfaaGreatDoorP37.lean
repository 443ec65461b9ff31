/- A part of a proof; no conditions. -/
import Derived.Test.YtfhdpblkdgmnfaaGreatDoorP36
import Derived.Test.YtfhdpblkdgmnfaaGreatDoorP17
set_option linter.unusedSimpArgs false
set_option linter.unusedVariables false
set_option linter.unusedSectionVars false
set_option maxRecDepth 100000
set_option maxHeartbeats 8000000
noncomputable section
section
namespace Go.Sx
section core
variable {x y:HI}
theorem at_core (hp:x.ps=y.ps) (k a b:Int):x.at k a b=y.at k a b:=by simp only [HI.at,hp]
theorem lackK_core (hp:x.ps=y.ps) (m:Int) (k:Nat):∀j,x.lackK m k j=y.lackK m k j
 | 0=>rfl
 | j+1=>by rw [HI.lackK,HI.lackK,HI.emp,HI.emp,at_core hp,lackK_core hp m k j]
theorem lackTo_core (hr:x.r=y.r) (hp:x.ps=y.ps) (m:Int):∀k,x.lackTo m k=y.lackTo m k
 | 0=>rfl
 | k+1=>by simp only [HI.lackTo,lackTo_core hr hp m k,lackK_core hp,HI.places,hr]
theorem lacks_core (hr:x.r=y.r) (hp:x.ps=y.ps) (m:Int):x.lacks m=y.lacks m:=by simp only [HI.lacks,hr,lackTo_core hr hp]
theorem leftH_core (hr:x.r=y.r) (hi:x.iss=y.iss) (p:PS):∀i,x.leftH p i=y.leftH p i
 | 0=>by simp only [HI.leftH,hr]
 | i+1=>by rw [HI.leftH,HI.leftH,HI.leftI,HI.leftI,hr,hi,leftH_core hr hi p i]
theorem leftT_core (hr:x.r=y.r) (hi:x.iss=y.iss) (p:PS):x.leftT p=y.leftT p:=by simp only [HI.leftT,hr,leftH_core hr hi]
theorem leftC_core (hr:x.r=y.r) (p:PS):x.leftC p=y.leftC p:=by simp only [HI.leftC,hr]
theorem longG_core (hr:x.r=y.r) (hi:x.iss=y.iss) (m c:Int):∀(l:List PS) (most:Int),x.longG m c l most=y.longG m c l most
 | [],_=>rfl
 | p::l,most=>by simp only [HI.longG,leftT_core hr hi,leftC_core hr,longG_core hr hi m c l]
theorem longest_core (hr:x.r=y.r) (hp:x.ps=y.ps) (hi:x.iss=y.iss) (m c:Int):x.longest m c=y.longest m c:=by
 simp only [HI.longest,lacks_core hr hp,hp,longG_core hr hi]
end core
structure Rel (r:Reg) (s:HG) (t:RS):Prop where
 rg:s.r=r
 psq:s.ps=t.ps r
 issq:s.iss=t.iss
theorem Rel.getp {r:Reg} {s:HG} {t:RS} (h:Rel r s t) {n:Nat} (hn:n<r.parts.length):s.ps[n]?=some (t.pt r n):=by rw [h.psq]; exact t.ps_get r hn
theorem ps_set {t t':RS} {r:Reg} {n:Nat} {q:PS} (hn:n<r.parts.length) (h0:t'.pt r n=q) (h1:∀p,p≠n→t'.pt r p=t.pt r p):(t.ps r).set n q=t'.ps r:=by
 refine List.ext_getElem? fun k=>?_
 rw [List.getElem?_set]
 by_cases hk:k<r.parts.length
 ·rw [t'.ps_get r hk]
  split
  ·rename_i e; subst e
   rw [if_pos (by rw [RS.ps_len]; exact hn),h0]
  ·rename_i e
   rw [t.ps_get r hk,h1 k (fun h=>e h.symm)]
 ·have e1:(t'.ps r)[k]?=none:=List.getElem?_eq_none (by rw [RS.ps_len]; omega)
  have e2:(t.ps r)[k]?=none:=List.getElem?_eq_none (by rw [RS.ps_len]; omega)
  rw [e1]
  split
  ·rename_i e; subst e; omega
  ·exact e2
section fly
variable (iss:List Bool) (h:Int)
def adds (o:Nat) (v:Int):Int:=if iss.getD o false=true then wadd v h else v
theorem sinceTo_get (l:List Int):∀i o,i≤l.length→(sinceTo iss h l i).getD o 0=if o<i then adds iss h o (l.getD o 0)else l.getD o 0
 | 0,o,_=>by simp [sinceTo]
 | i+1,o,hi=>by
  have ih:=sinceTo_get l i
  simp only [sinceTo]
  by_cases hb:iss.getD i false=true
  ·rw [if_pos hb]
   by_cases ho:o=i
   ·subst ho
    rw [getD_set_eq (by rw [sinceTo_len]; omega),ih o (by omega),if_neg (by omega),if_pos (by omega),adds,if_pos hb]
   ·rw [getD_set_ne (fun e=>ho e.symm),ih o (by omega)]
    by_cases hlt:o<i
    ·rw [if_pos hlt,if_pos (by omega)]
    ·rw [if_neg hlt,if_neg (by omega)]
  ·rw [if_neg hb,ih o (by omega)]
   by_cases ho:o=i
   ·subst ho; rw [if_neg (by omega),if_pos (by omega),adds,if_neg hb]
   ·by_cases hlt:o<i
    ·rw [if_pos hlt,if_pos (by omega)]
    ·rw [if_neg hlt,if_neg (by omega)]
theorem snAdd_get (p:Nat) (l:List (List Int)) (hl:∀x∈l,p<x.length):∀i o q,i≤l.length→((snAdd iss h p l i).getD o []).getD q 0=if o<i∧q=p then adds iss h o ((l.getD o []).getD q 0)else (l.getD o []).getD q 0
 | 0,o,q,_=>by simp [snAdd]
 | i+1,o,q,hi=>by
  have ih:=snAdd_get p l hl i
  have hlen:=lens_len (snAdd_lens iss h p l i)
  simp only [snAdd]
  by_cases hb:iss.getD i false=true
  ·rw [if_pos hb]
   by_cases ho:o=i
   ·subst ho
    rw [getD_set_eq (by omega)]
    have hrow:p<((snAdd iss h p l o).getD o []).length:=by
     have hm:((snAdd iss h p l o).map List.length)[o]?=(l.map List.length)[o]?:=by rw [snAdd_lens]
     rw [List.getElem?_map,List.getElem?_map,List.getElem?_eq_getElem (by omega:o<(snAdd iss h p l o).length),List.getElem?_eq_getElem (by omega:o<l.length)]at hm
     simp only [Option.map_some,Option.some.injEq]at hm
     have h2:=hl _ (List.getElem_mem (by omega:o<l.length))
     simp only [List.getD,List.getElem?_eq_getElem (by omega:o<(snAdd iss h p l o).length),Option.getD_some]
     omega
    by_cases hq:q=p
    ·subst hq
     rw [getD_set_eq hrow,ih o q (by omega),if_neg (by omega),if_pos ⟨by omega,rfl⟩,adds,if_pos hb]
    ·rw [getD_set_ne (fun e=>hq e.symm),ih o q (by omega),if_neg (by omega),if_neg (by omega)]
   ·rw [getD_set_ne (fun e=>ho e.symm),ih o q (by omega)]
    by_cases hlt:o<i
    ·by_cases hq:q=p
     ·rw [if_pos ⟨hlt,hq⟩,if_pos ⟨by omega,hq⟩]
     ·rw [if_neg (by omega),if_neg (by omega)]
    ·rw [if_neg (by omega),if_neg (by omega)]
  ·rw [if_neg hb,ih o q (by omega)]
   by_cases ho:o=i
   ·subst ho
    by_cases hq:q=p
    ·rw [if_neg (by omega),if_pos ⟨by omega,hq⟩,adds,if_neg hb]
    ·rw [if_neg (by omega),if_neg (by omega)]
   ·by_cases hlt:o<i
    ·by_cases hq:q=p
     ·rw [if_pos ⟨hlt,hq⟩,if_pos ⟨by omega,hq⟩]
     ·rw [if_neg (by omega),if_neg (by omega)]
    ·rw [if_neg (by omega),if_neg (by omega)]
variable (t:RS) (m c:Int)
theorem flyU_get:∀k p,k≤t.used.length→(t.flyU m h c k).getD p (0,0)=if p<k∧(t.whr.getD p (0,0)).1=m then (wadd (t.used.getD p (0,0)).1 h,wadd (t.used.getD p (0,0)).2 c)else t.used.getD p (0,0)
 | 0,p,_=>by simp [RS.flyU]
 | k+1,p,hk=>by
  have ih:=flyU_get k
  simp only [RS.flyU]
  by_cases hm:(t.whr.getD k (0,0)).1=m
  ·rw [if_pos hm]
   by_cases hp:p=k
   ·subst hp
    rw [getD_set_eq (by rw [flyU_len]; omega),ih p (by omega),if_neg (by omega),if_pos ⟨by omega,hm⟩]
   ·rw [getD_set_ne (fun e=>hp e.symm),ih p (by omega)]
    by_cases hlt:p<k
    ·simp only [hlt,show p<k+1 by omega,true_and]
    ·rw [if_neg (by omega),if_neg (by omega)]
  ·rw [if_neg hm,ih p (by omega)]
   by_cases hp:p=k
   ·subst hp; rw [if_neg (by omega),if_neg (fun e=>hm e.2)]
   ·by_cases hlt:p<k
    ·simp only [hlt,show p<k+1 by omega,true_and]
    ·rw [if_neg (by omega),if_neg (by omega)]
theorem flyS_get {n:Nat} (hn:∀x∈t.since,x.length=n) (hio:t.iss.length=t.since.length):∀k o q,k≤n→o<t.since.length→((t.flyS m h k).getD o []).getD q 0=if q<k∧(t.whr.getD q (0,0)).1=m then adds t.iss h o ((t.since.getD o []).getD q 0)else (t.since.getD o []).getD q 0
 | 0,o,q,_,_=>by simp [RS.flyS]
 | k+1,o,q,hk,ho=>by
  have ih:=flyS_get hn hio k
  simp only [RS.flyS]
  by_cases hm:(t.whr.getD k (0,0)).1=m
  ·rw [if_pos hm,snAdd_get t.iss h k _ (fun x hx=>by have:=lens_all (flyS_lens t m h k) hn x hx; omega) _ _ _ (by rw [lens_len (flyS_lens t m h k)]; omega),ih o q (by omega) ho]
   by_cases hq:q=k
   ·subst hq
    rw [if_pos ⟨by omega,rfl⟩,if_neg (by omega),if_pos ⟨by omega,hm⟩]
   ·rw [if_neg (fun e=>hq e.2)]
    by_cases hlt:q<k
    ·simp only [hlt,show q<k+1 by omega,true_and]
    ·rw [if_neg (by omega),if_neg (by omega)]
  ·rw [if_neg hm,ih o q (by omega) ho]
   by_cases hq:q=k
   ·subst hq; rw [if_neg (by omega),if_neg (fun e=>hm e.2)]
   ·by_cases hlt:q<k
    ·simp only [hlt,show q<k+1 by omega,true_and]
    ·rw [if_neg (by omega),if_neg (by omega)]
end fly
theorem list_ext_getD {α:Type} {l l':List α} (d:α) (hl:l.length=l'.length) (h:∀i,i<l.length→l.getD i d=l'.getD i d):l=l':=by
 refine List.ext_getElem hl fun i h1 h2=>?_
 have:=h i h1
 simpa [List.getD,h1,h2]using this
theorem fly_pt {t:RS} {r:Reg} (hw:t.Wf r) (m h c:Int) {p:Nat} (hp:p<r.parts.length):flyP t.iss m h c (t.pt r p)=(t.flyDo m h c r.parts.length).pt r p:=by
 have hU:=flyU_get h t m c r.parts.length p (by rw [hw.used]; omega)
 have hS:=fun o (ho:o<t.since.length)=>flyS_get h t m hw.sincer (by rw [hw.iss,hw.since]) r.parts.length o p (Nat.le_refl _) ho
 have hpa:(t.pt r p).a=(t.whr.getD p (0,0)).1:=rfl
 unfold flyP
 rw [hpa]
 by_cases hm:(t.whr.getD p (0,0)).1=m
 ·rw [if_pos hm]
  rw [if_pos ⟨hp,hm⟩]at hU
  have hs:sinceTo t.iss h (t.pt r p).since t.iss.length=(t.flyS m h r.parts.length).map fun l=>l.getD p 0:=by
   refine list_ext_getD 0 (by rw [sinceTo_len]; simp [RS.pt,lens_len (flyS_lens t m h r.parts.length)]) fun o ho=>?_
   rw [sinceTo_len]at ho
   have ho':o<t.since.length:=by simpa [RS.pt]using ho
   have g1:(t.pt r p).since.getD o 0=(t.since.getD o []).getD p 0:=by simp [RS.pt,List.getD,ho']
   have g2:((t.flyS m h r.parts.length).map fun l=>l.getD p 0).getD o 0=((t.flyS m h r.parts.length).getD o []).getD p 0:=by
    have:o<(t.flyS m h r.parts.length).length:=by rw [lens_len (flyS_lens t m h r.parts.length)]; exact ho'
    simp [List.getD,this]
   rw [g2,hS o ho',if_pos ⟨hp,hm⟩,sinceTo_get _ _ _ _ _ (by simp [RS.pt,hw.iss,hw.since]),if_pos (by rw [hw.iss,←hw.since]; exact ho'),g1]
  rw [hs]
  show _=({kind:=_,hours:=((t.flyU m h c r.parts.length).getD p (0,0)).1,cycles:=((t.flyU m h c r.parts.length).getD p (0,0)).2,known:=_,a:=_,b:=_,since:=_,chk:=_}:PS)
  rw [hU]
  rfl
 ·rw [if_neg hm]
  rw [if_neg (fun e=>hm e.2)]at hU
  have hs:(t.pt r p).since=(t.flyS m h r.parts.length).map fun l=>l.getD p 0:=by
   refine list_ext_getD 0 (by simp [RS.pt,lens_len (flyS_lens t m h r.parts.length)]) fun o ho=>?_
   have ho':o<t.since.length:=by simpa [RS.pt]using ho
   have g1:(t.pt r p).since.getD o 0=(t.since.getD o []).getD p 0:=by simp [RS.pt,List.getD,ho']
   have g2:((t.flyS m h r.parts.length).map fun l=>l.getD p 0).getD o 0=((t.flyS m h r.parts.length).getD o []).getD p 0:=by
    have:o<(t.flyS m h r.parts.length).length:=by rw [lens_len (flyS_lens t m h r.parts.length)]; exact ho'
    simp [List.getD,this]
   rw [g1,g2,hS o ho',if_neg (fun e=>hm e.2)]
  show _=({kind:=_,hours:=((t.flyU m h c r.parts.length).getD p (0,0)).1,cycles:=((t.flyU m h c r.parts.length).getD p (0,0)).2,known:=_,a:=_,b:=_,since:=(t.flyS m h r.parts.length).map fun l=>l.getD p 0,chk:=_}:PS)
  rw [hU,←hs]
  rfl
end Go.Sx
end
section
namespace Go.Sx
section
variable {r:Reg} {s:HG} {t:RS} {n:Nat}
theorem Rel.core (h:Rel r s t):s.i.r=(t.hi r).r∧s.i.ps=(t.hi r).ps∧s.i.iss=(t.hi r).iss:=⟨h.rg,h.psq,h.issq⟩
theorem Rel.getD (h:Rel r s t) {k:Nat} (hk:k<r.parts.length):s.ps.getD k default=t.pt r k:=by simp [List.getD,h.getp hk]
theorem Rel.psl (h:Rel r s t):s.ps.length=r.parts.length:=by rw [h.psq,RS.ps_len]
theorem Rel.partq (h:Rel r s t) (a:Int):s.i.part a=RS.partA r a:=by show withinB a 0 (wsub s.ps.length 1)=_; rw [h.psl]; rfl
theorem Rel.ordq (h:Rel r s t) (a:Int):s.i.order a=RS.ordA r a:=by show withinB a 0 (wsub s.r.orders.length 1)=_; rw [h.rg]; rfl
theorem Rel.machq (h:Rel r s t) (a:Int):s.i.machine a=withinB a 0 (wsub r.machines 1):=by show withinB a 0 (wsub s.r.machines 1)=_; rw [h.rg]
theorem pt_chk (t:RS) (r:Reg) (p o:Nat):(t.pt r p).chk.getD o false=(t.done.getD o []).getD p false:=by
 simp only [RS.pt,List.getD,List.getElem?_map]
 cases t.done[o]?<;>simp
theorem band (a b:Bool) (h:a=true→b=true):(a && b)=a:=by cases a<;>simp_all
theorem Rel.okq (hI:s.Inv r n) (hw:t.Wf r) (h:Rel r s t) (w:Wk):s.doOk w=t.ok r w:=by
 obtain⟨v1,v2,v3,v4,v5,v6,v7,v8⟩:=valid_facts hw.val
 obtain⟨c1,c2,c3⟩:=h.core
 obtain⟨k,a,b,c⟩:=w
 by_cases k1:k=1
 ·subst k1
  simp only [HG.doOk,RS.ok,if_true,HG.flyOk,h.machq]
  congr 1
  cases hb:withinB b 0 100
  ·rfl
  simp only [Bool.true_and]
  congr 1
  simp only [withinB,decide_eq_true_eq]at hb
  rw [longest_core c1 c2 c3,longest_flies hb.1 hb.2]
 by_cases k2:k=2
 ·subst k2
  simp only [HG.doOk,RS.ok,Int.reduceEq,if_false,if_true,HG.fitOk,RS.stored,h.partq,h.machq]
  cases pa:RS.partA r a
  ·simp
  obtain⟨ni,rfl,hni⟩:=withinB_nat (m:=r.parts.length) (by omega) pa
  simp only [Int.toNat_natCast,h.getD hni,Bool.true_and]
  rw [at_core c2,h.rg]
  have e1:(t.pt r ni).a=(t.whr.getD ni (0,0)).1:=rfl
  have e2:(t.pt r ni).b=(t.whr.getD ni (0,0)).2:=rfl
  have e3:(t.pt r ni).known=(r.parts.getD ni default).known:=rfl
  have e4:(t.pt r ni).kind=(r.parts.getD ni default).kind:=rfl
  have hab:((t.pt r ni).a == -1 && (t.pt r ni).b == -1)=((t.whr.getD ni (0,0)).1 == -1):=by
   rw [←e1]
   refine band _ _ fun ha=>?_
   have ha':(t.pt r ni).a = -1:=by simpa using ha
   rcases hI.pa ni _ (h.getp hni)with h1|h1|h1
   ·simpa using h1.2
   ·omega
   ·omega
  rw [hab,e3,e4]
  cases withinB b 0 (wsub r.machines 1)<;>cases ((t.whr.getD ni (0,0)).1 == -1)<;>cases (r.parts.getD ni default).known<;>simp
 by_cases k5:k=5
 ·subst k5
  simp only [HG.doOk,RS.ok,Int.reduceEq,if_false,if_true,HG.chkOk,h.partq,h.ordq]
  cases pa:RS.partA r a
  ·simp
  obtain⟨ni,rfl,hni⟩:=withinB_nat (m:=r.parts.length) (by omega) pa
  cases oa:RS.ordA r b
  ·simp
  obtain⟨oi,rfl,hoi⟩:=withinB_nat (m:=r.orders.length) (by omega) oa
  simp only [Int.toNat_natCast,h.getD hni,Bool.true_and,pt_chk,h.issq,h.rg]
  have e4:(t.pt r ni).kind=(r.parts.getD ni default).kind:=rfl
  rw [e4]
  have hsy:((r.parts.getD ni default).kind == (r.orders.getD oi default).kind)=((r.orders.getD oi default).kind == (r.parts.getD ni default).kind):=by
   by_cases e:(r.parts.getD ni default).kind=(r.orders.getD oi default).kind
   ·rw [e]
   ·have e':¬ (r.orders.getD oi default).kind=(r.parts.getD ni default).kind:=fun h=>e h.symm
    rw [beq_eq_false_iff_ne.2 e,beq_eq_false_iff_ne.2 e']
  rw [hsy]
  cases t.iss.getD oi false<;>cases ((r.orders.getD oi default).kind == (r.parts.getD ni default).kind)<;>cases (t.done.getD oi []).getD ni false<;>cases (c == 0)<;>rfl
 by_cases k3:k=3
 ·subst k3
  simp only [HG.doOk,RS.ok,Int.reduceEq,if_false,if_true,HG.takeOk,h.partq]
  cases pa:RS.partA r a
  ·simp
  obtain⟨ni,rfl,hni⟩:=withinB_nat (m:=r.parts.length) (by omega) pa
  simp only [Int.toNat_natCast,h.getD hni,Bool.true_and]
  have e1:(t.pt r ni).a=(t.whr.getD ni (0,0)).1:=rfl
  rw [e1]
  cases decide (0≤(t.whr.getD ni (0,0)).1)<;>simp
 by_cases k4:k=4
 ·subst k4
  simp only [HG.doOk,RS.ok,Int.reduceEq,if_false,if_true,HG.issueOk,h.ordq,h.issq]
  cases RS.ordA r a<;>cases t.iss.getD a.toNat false<;>simp
 by_cases k6:k=6
 ·subst k6
  simp only [HG.doOk,RS.ok,Int.reduceEq,if_false,if_true,HG.scrapOk,RS.stored,h.partq]
  cases pa:RS.partA r a
  ·simp
  obtain⟨ni,rfl,hni⟩:=withinB_nat (m:=r.parts.length) (by omega) pa
  simp only [Int.toNat_natCast,h.getD hni,Bool.true_and]
  have e1:(t.pt r ni).a=(t.whr.getD ni (0,0)).1:=rfl
  have hab:((t.pt r ni).a == -1 && (t.pt r ni).b == -1)=((t.whr.getD ni (0,0)).1 == -1):=by
   rw [←e1]
   refine band _ _ fun ha=>?_
   have ha':(t.pt r ni).a = -1:=by simpa using ha
   rcases hI.pa ni _ (h.getp hni)with h1|h1|h1
   ·simpa using h1.2
   ·omega
   ·omega
  rw [hab]
  cases ((t.whr.getD ni (0,0)).1 == -1)<;>simp
 ·simp [HG.doOk,RS.ok,k1,k2,k3,k4,k5,k6]
theorem pt_whr {t:RS} {r:Reg} {k:Nat} (hk:k<t.whr.length) (a b:Int):({t with whr:=t.whr.set k (a,b)}:RS).pt r k={t.pt r k with a:=a,b:=b}:=by
 simp [RS.pt,List.getD,hk]
theorem pt_whr_ne {t:RS} {r:Reg} {k p:Nat} (hp:p≠k) (q:Int × Int):({t with whr:=t.whr.set k q}:RS).pt r p=t.pt r p:=by
 have:(t.whr.set k q).getD p (0,0)=t.whr.getD p (0,0):=getD_set_ne (Ne.symm hp)
 simp only [RS.pt,this]
theorem Rel.put (hw:t.Wf r) (h:Rel r s t) {k:Nat} (hk:k<r.parts.length) (a b:Int):s.ps.set k {s.ps.getD k default with a:=a,b:=b}=({t with whr:=t.whr.set k (a,b)}:RS).ps r:=by
 rw [h.psq]
 have hg:(t.ps r).getD k default=t.pt r k:=by simp [List.getD,t.ps_get r hk]
 rw [hg]
 exact ps_set hk (pt_whr (by rw [hw.whr]; exact hk) a b) fun p hp=>pt_whr_ne hp _
theorem Rel.step (hw:t.Wf r) (h:Rel r s t) {w:Wk} (hs:s.doOk w=true) (ht:t.ok r w=true):Rel r (s.step w) (t.act r w):=by
 obtain⟨v1,v2,v3,v4,v5,v6,v7,v8⟩:=valid_facts hw.val
 have hst:s.step w={s.doDo w with wk:=wadd s.wk 1}:=by simp only [HG.step,HG.after,hs,if_true]
 rw [hst]
 clear hst
 suffices h2:Rel r (s.doDo w) (t.act r w)from ⟨h2.rg,h2.psq,h2.issq⟩
 obtain⟨k,a,b,c⟩:=w
 by_cases k1:k=1
 ·subst k1
  simp only [HG.doDo,RS.act,if_true]
  refine⟨h.rg,?_,h.issq⟩
  show s.ps.map (flyP s.iss a b c)=_
  rw [h.psq,h.issq]
  refine List.ext_getElem? fun p=>?_
  rw [List.getElem?_map]
  by_cases hp:p<r.parts.length
  ·rw [t.ps_get r hp,RS.ps_get _ r hp,Option.map_some,fly_pt hw a b c hp]
  ·have e1:(t.ps r)[p]?=none:=List.getElem?_eq_none (by rw [RS.ps_len]; omega)
   have e2:((t.flyDo a b c r.parts.length).ps r)[p]?=none:=List.getElem?_eq_none (by rw [RS.ps_len]; omega)
   rw [e1,e2]; rfl
 by_cases k2:k=2
 ·subst k2
  simp only [HG.doDo,RS.act,Int.reduceEq,if_false,if_true]
  have pa:RS.partA r a=true:=by
   simp only [RS.ok,Int.reduceEq,if_false,if_true,RS.stored,Bool.and_eq_true]at ht
   exact ht.1.1
  obtain⟨ni,rfl,hni⟩:=withinB_nat (m:=r.parts.length) (by omega) pa
  unfold HG.fitDo
  split<;>exact⟨h.rg,h.put hw hni b c,h.issq⟩
 by_cases k5:k=5
 ·subst k5
  simp only [HG.doDo,RS.act,Int.reduceEq,if_false,if_true]
  simp only [RS.ok,Int.reduceEq,if_false,if_true,Bool.and_eq_true]at ht
  obtain⟨ni,rfl,hni⟩:=withinB_nat (m:=r.parts.length) (by omega) ht.1
  obtain⟨oi,rfl,hoi⟩:=withinB_nat (m:=r.orders.length) (by omega) ht.2.1
  refine⟨h.rg,?_,h.issq⟩
  show s.ps.set _ {s.ps.getD (ni:Int).toNat default with chk:=(s.ps.getD (ni:Int).toNat default).chk.set (oi:Int).toNat true}=_
  simp only [Int.toNat_natCast,h.getD hni]
  rw [h.psq]
  have hol:oi<t.done.length:=by rw [hw.done]; exact hoi
  have hdr:t.done.getD oi []∈t.done:=by
   have:t.done.getD oi []=t.done[oi]:=by simp [List.getD,hol]
   rw [this]; exact List.getElem_mem hol
  have hdl:=hw.doner _ hdr
  refine ps_set hni ?_ fun p hp=>?_
  ·simp only [RS.pt,List.map_set]
   rw [getD_set_eq (by rw [hdl]; exact hni)]
  ·simp only [RS.pt,List.map_set]
   rw [getD_set_ne (Ne.symm hp)]
   have:(t.done.map fun l=>l.getD p false).set oi ((t.done.getD oi []).getD p false)=t.done.map fun l=>l.getD p false:=set_id (by simp [List.getD,hol])
   rw [this]
 by_cases k3:k=3
 ·subst k3
  simp only [HG.doDo,RS.act,Int.reduceEq,if_false,if_true]
  simp only [RS.ok,Int.reduceEq,if_false,if_true,Bool.and_eq_true]at ht
  obtain⟨ni,rfl,hni⟩:=withinB_nat (m:=r.parts.length) (by omega) ht.1
  exact⟨h.rg,h.put hw hni (-1) (-1),h.issq⟩
 by_cases k4:k=4
 ·subst k4
  simp only [HG.doDo,RS.act,Int.reduceEq,if_false,if_true]
  exact⟨h.rg,h.psq,by show s.iss.set _ _=_; rw [h.issq]⟩
 by_cases k6:k=6
 ·subst k6
  simp only [HG.doDo,RS.act,Int.reduceEq,if_false,if_true]
  simp only [RS.ok,Int.reduceEq,if_false,if_true,RS.stored,Bool.and_eq_true]at ht
  obtain⟨ni,rfl,hni⟩:=withinB_nat (m:=r.parts.length) (by omega) ht.1.1
  exact⟨h.rg,h.put hw hni (-2) (-2),h.issq⟩
 ·simp [RS.ok,k1,k2,k3,k4,k5,k6]at ht
theorem RS.Wf.act (hw:t.Wf r) {w:Wk} (ht:t.ok r w=true):(t.act r w).Wf r:=by
 obtain⟨v1,v2,v3,v4,v5,v6,v7,v8⟩:=valid_facts hw.val
 obtain⟨k,a,b,c⟩:=w
 by_cases k1:k=1
 ·subst k1
  simp only [RS.act,if_true]
  refine⟨hw.val,by show(t.flyU a b c _).length=_; rw [flyU_len]; exact hw.used,hw.whr,hw.iss,by show(t.flyS a b _).length=_; rw [lens_len (flyS_lens t a b _)]; exact hw.since,hw.done,lens_all (flyS_lens t a b _) hw.sincer,hw.doner⟩
 by_cases k2:k=2
 ·subst k2
  simp only [RS.act,Int.reduceEq,if_false,if_true]
  exact⟨hw.val,hw.used,by simp [hw.whr],hw.iss,hw.since,hw.done,hw.sincer,hw.doner⟩
 by_cases k3:k=3
 ·subst k3
  simp only [RS.act,Int.reduceEq,if_false,if_true]
  exact⟨hw.val,hw.used,by simp [hw.whr],hw.iss,hw.since,hw.done,hw.sincer,hw.doner⟩
 by_cases k4:k=4
 ·subst k4
  simp only [RS.act,Int.reduceEq,if_false,if_true]
  exact⟨hw.val,hw.used,hw.whr,by simp [hw.iss],hw.since,hw.done,hw.sincer,hw.doner⟩
 by_cases k5:k=5
 ·subst k5
  simp only [RS.act,Int.reduceEq,if_false,if_true]
  simp only [RS.ok,Int.reduceEq,if_false,if_true,Bool.and_eq_true]at ht
  obtain⟨oi,rfl,hoi⟩:=withinB_nat (m:=r.orders.length) (by omega) ht.2.1
  have hol:oi<t.done.length:=by rw [hw.done]; exact hoi
  have hdr:t.done.getD oi []∈t.done:=by
   have:t.done.getD oi []=t.done[oi]:=by simp [List.getD,hol]
   rw [this]; exact List.getElem_mem hol
  refine⟨hw.val,hw.used,hw.whr,hw.iss,hw.since,by simp [hw.done],hw.sincer,fun l hl=>?_⟩
  rcases List.mem_or_eq_of_mem_set hl with h|h
  ·exact hw.doner l h
  ·rw [h,List.length_set]; exact hw.doner _ hdr
 by_cases k6:k=6
 ·subst k6
  simp only [RS.act,Int.reduceEq,if_false,if_true]
  exact⟨hw.val,hw.used,by simp [hw.whr],hw.iss,hw.since,hw.done,hw.sincer,hw.doner⟩
 ·simp [RS.ok,k1,k2,k3,k4,k5,k6]at ht
theorem Rel.new (r:Reg):Rel r (HG.new r) (RS.new r):=by
 refine⟨rfl,?_,rfl⟩
 show r.parts.map (PS.new r)=_
 refine List.ext_getElem? fun p=>?_
 rw [List.getElem?_map]
 by_cases hp:p<r.parts.length
 ·rw [RS.ps_get _ r hp,List.getElem?_eq_getElem hp,Option.map_some]
  simp [PS.new,RS.pt,RS.new,List.getD,hp]
 ·have e2:((RS.new r).ps r)[p]?=none:=List.getElem?_eq_none (by rw [RS.ps_len]; omega)
  rw [e2,List.getElem?_eq_none (by omega)]; rfl
end
def rT (r:Reg) (l:List Wk):Nat→RS
 | 0=>RS.new r
 | k+1=>(rT r l k).after r (l.getD k default)
theorem rT_rel {r:Reg} {l:List Wk} (hv:r.valid=true):∀k:Nat,k≤1000000→(∀j,j<k→okAt r l j=true)→(rT r l k).Wf r∧Rel r (stT r l k) (rT r l k)
 | 0,_,_=>⟨RS.Wf.new hv,Rel.new r⟩
 | k+1,hk,h=>by
  obtain⟨h1,h2⟩:=rT_rel hv k (by omega) fun j hj=>h j (by omega)
  have hI:=stT_inv (l:=l) hv k (by omega) fun j hj=>h j (by omega)
  have hs:(stT r l k).doOk (l.getD k default)=true:=h k (by omega)
  have ht:(rT r l k).ok r (l.getD k default)=true:=by rw [←Rel.okq hI h1 h2]; exact hs
  have ha:rT r l (k+1)=(rT r l k).act r (l.getD k default):=by simp only [rT,RS.after,ht,if_true]
  rw [ha]
  exact⟨h1.act ht,h2.step h1 hs ht⟩
theorem rT_ok {r:Reg} {l:List Wk} (hv:r.valid=true) {k:Nat} (hk:k≤1000000) (h:∀j,j<k→okAt r l j=true):(rT r l k).ok r (l.getD k default)=okAt r l k:=by
 obtain⟨h1,h2⟩:=rT_rel hv k hk h
 exact(Rel.okq (stT_inv hv k hk h) h1 h2 _).symm
end Go.Sx
end
section
namespace Go.Sx
open Go.Proofs
attribute [local irreducible] HLe
attribute [local simp] hps_app
theorem rwE_dec' (r:Reg) (t:RS) (w:Wk):decC rwE [.agg [.sl 3 (r.kinds.map Kd.row),.sl 4 (r.parts.map Pt.row),.int .i64 r.machines,.sl 2 (r.orders.map Od.row)],.agg [.sl 2 (t.used.map cycV),.sl 2 (t.whr.map cycV),.sl 1 (t.iss.map rb),snV t.since,dnV t.done],.agg [.int .i64 w.kind,.int .i64 w.a,.int .i64 w.b,.int .i64 w.c]]=⟨r,t,w⟩:=decC_eq rwE_inj ⟨r,t,w⟩
abbrev E51:Env:={P:=Tryz.prog,fn:=tbl [(107,.pure regS),(108,.pure beginS),(109,.pure stepS)],own:=[],key:=5100,nt:=41}
theorem b51:PureBody E51 [(10,([2000,2001,4,5,6],[[0,1,2,3,4,5,6,7,8,9,10,11,12]]))] Tryz.f51 checkFS:=by
 refine pb ?_
 rintro⟨r,l⟩ ⟨b1,b2,b3,b4⟩
 simp only at b1 b2 b3 b4
 cases c1:r.valid
 ·have hE:opE r l=90:=by simp [opE,c1]
  have hA:opA r l=0:=by simp [opA,c1]
  have hR:regE0 r=90:=by simp [regE0,c1]
  simp -dsimp [Tryz.f51,E51,Reg.row]
  repeat' (first|omega|(exact sub0_snV _)|(exact sub0_dnV _)|simp -dsimp [E51,ri,cellp,ints,b1,b2,b3,regE_dec',hR,hE,hA]|refine aI ?_ fun _=>?_|refine oI fun _=>?_|refine nI ?_ ?_)
 have hR:regE0 r=0:=by simp [regE0,c1]
 by_cases c2:l.length≤200
 case neg=>
  have hE:opE r l=2:=by simp [opE,c1,c2]
  have hA:opA r l=0:=by simp [opA,c1,c2]
  have c2':(200:Int)<l.length:=by omega
  simp -dsimp [Tryz.f51,E51,Reg.row]
  repeat' (first|omega|(exact sub0_snV _)|(exact sub0_dnV _)|simp -dsimp [E51,ri,cellp,ints,b1,b2,b3,regE_dec',hR,c2',hE,hA]|refine aI ?_ fun _=>?_|refine oI fun _=>?_|refine nI ?_ ?_)
 have c2':¬ (200:Int)<l.length:=by omega
 have hN:=stRow (RS.new r)
 simp -dsimp [Tryz.f51,E51,Reg.row]
 repeat' (first|omega|(exact sub0_snV _)|(exact sub0_dnV _)|simp -dsimp [E51,ri,cellp,ints,b1,b2,b3,regE_dec',hR,c1,c2',hN]|refine aI ?_ fun _=>?_|refine oI fun _=>?_|refine nI ?_ ?_)
 refine awp_loop [21,22,23,24,28,29,30,31,32,33,34,27,35,36,9,10,37,38,39,4,5,40,25,26,8] (fun k:{k:Nat // k≤l.length∧∀j,j<k→okAt r l j=true}=>[(8,(true,.int .i64 (k.1:Nat)))])
  (fun k=>hps [(5107,{base:=0,blks:=[{z:=5,els:=[[.sl 2 ((rT r l k.1).used.map cycV),.sl 2 ((rT r l k.1).whr.map cycV),.sl 1 ((rT r l k.1).iss.map rb),snV (rT r l k.1).since,dnV (rT r l k.1).done]],ty:=198}]}),(5109,{base:=k.1,blks:=[]}),
   (5102,{base:=0,blks:=[{z:=4,els:=[[.sl 3 (r.kinds.map Kd.row),.sl 4 (r.parts.map Pt.row),.int .i64 r.machines,.sl 2 (r.orders.map Od.row)]],ty:=37}]})] noH) (fun k=>l.length - k.1) ⟨0,by omega,fun j hj=>by omega⟩ ?_ ?_ ?_
 ·simp [okAll,okv]
 ·exact(by(try simp -dsimp only [hpx]); refine hle_hps ?_; simp -dsimp [allK,rT]<;>exact rz)
 rintro⟨k,hk,hall⟩
 simp only
 obtain⟨hWf,hRel⟩:=rT_rel (l:=l) c1 k (by omega) hall
 have hok:=rT_ok (l:=l) c1 (k:=k) (by omega) hall
 by_cases hk1:k<l.length
 ·have hki:(k:Int)<l.length:=by omega
  have hwk:IntKind.wrap .i64 ((k:Int)+1)=(k+1:Nat):=wrap_id (by omega) (by omega)
  obtain⟨w,hw,hw'⟩:=get_ex hk1
  have hg:l.getD k default=w:=by simp [List.getD,hw]
  rw [hg]at hok
  have hst:(rT r l k).after r w=rT r l (k+1):=by simp only [rT,hg]
  have hN2:=stRow (rT r l (k+1))
  generalize hT':rT r l (k+1)=T' at *
  generalize rT r l k=T at *
  cases hd:okAt r l k
  ·rw [hd]at hok
   have hba:badAt r l=k:=badAt_at hk1 hd hall
   have hE:opE r l=91:=by simp [opE,c1,c2,hba]<;>omega
   have hA:opA r l=k:=by simp [opA,c1,c2,hba]<;>omega
   simp -dsimp [hki]
   repeat' (first|omega|(exact sub0_snV _)|(exact sub0_dnV _)|simp -dsimp [E51,ri,cellp,ints,FoOk,FreeAt,hki,hk1,hw,hw',Wk.row,rwE_dec',hWf,hst,hN2,hok,hE,hA]|refine aI ?_ fun _=>?_|refine oI fun _=>?_|refine nI ?_ ?_)
  ·rw [hd]at hok
   have hall':∀j,j<k+1→okAt r l j=true:=fun j hj=>by
    by_cases e:j=k
    ·subst e; exact hd
    ·exact hall j (by omega)
   simp -dsimp [hki]
   repeat' (first|omega|(exact sub0_snV _)|(exact sub0_dnV _)|simp -dsimp [E51,ri,cellp,ints,FoOk,FreeAt,hki,hk1,hw,hw',Wk.row,rwE_dec',hWf,hst,hN2,hok,hwk]|refine aI ?_ fun _=>?_|refine oI fun _=>?_|refine nI ?_ ?_)
   refine⟨k+1,tle_chain rfl ?_,(by(try simp -dsimp only [hpx]); refine hle_hps ?_; simp -dsimp [allK,hT']<;>exact rz),⟨by omega,hall'⟩,by omega⟩
   simp [okAll,okv]
 ·have hkn:¬ (k:Int)<l.length:=by omega
  have hke:k=l.length:=by omega
  subst hke
  have hba:badAt r l = -1:=badAt_none hall
  have hE:opE r l=0:=by simp [opE,c1,c2,hba]
  have hA:opA r l=0:=by simp [opA,c1,c2,hba]
  simp -dsimp [hkn]
  repeat' (first|omega|(exact sub0_snV _)|(exact sub0_dnV _)|simp -dsimp [E51,ri,cellp,ints,hkn,hE,hA]|refine aI ?_ fun _=>?_|refine oI fun _=>?_|refine nI ?_ ?_)
theorem ok51:FO 51 checkFS:=pf b51 (.cons ok107 (.cons ok108 (.cons ok109 .nil)))
theorem opE_rel {r:Reg} {l:List Wk} (h:opE r l=0):(rT r l l.length).Wf r∧Rel r (opH r l) (rT r l l.length):=by
 obtain⟨h1,h2,h3,_⟩:=opE_inv h
 exact rT_rel h1 _ (by omega) h3
abbrev behindS:PSpec:=mkP rlE (fun d=>opE d.r d.l=0) fun d=>.agg (rT d.r d.l d.l.length).row
abbrev E187:Env:={P:=Tryz.prog,fn:=tbl [(108,.pure beginS),(109,.pure stepS)],own:=[],key:=18700,nt:=26}
theorem b187:PureBody E187 [] Tryz.f187 behindS:=by
 refine pb ?_
 rintro⟨r,l⟩ hE
 simp only at hE
 obtain⟨c1,c2,c3,_⟩:=opE_inv hE
 have hN:=stRow (RS.new r)
 simp -dsimp [Tryz.f187,E187,Reg.row]
 repeat' (first|omega|(exact sub0_snV _)|(exact sub0_dnV _)|simp -dsimp [E187,ri,cellp,ints,regE_dec',c1,hN]|refine aI ?_ fun _=>?_|refine oI fun _=>?_|refine nI ?_ ?_)
 refine awp_loop [9,10,11,12,16,17,18,19,20,21,22,15,23,24,13,14,6] (fun k:Fin (l.length+1)=>[(6,(true,.int .i64 (k.1:Nat)))])
  (fun k=>hps [(18705,{base:=0,blks:=[{z:=5,els:=[[.sl 2 ((rT r l k.1).used.map cycV),.sl 2 ((rT r l k.1).whr.map cycV),.sl 1 ((rT r l k.1).iss.map rb),snV (rT r l k.1).since,dnV (rT r l k.1).done]],ty:=198}]}),
   (18704,{base:=0,blks:=[{z:=5,els:=[[.nil,.nil,.nil,.nil,.nil]],ty:=198}]}),(18702,{base:=0,blks:=[{z:=4,els:=[[.sl 3 (r.kinds.map Kd.row),.sl 4 (r.parts.map Pt.row),.int .i64 r.machines,.sl 2 (r.orders.map Od.row)]],ty:=37}]})] noH) (fun k=>l.length - k.1) ⟨0,by omega⟩ ?_ ?_ ?_
 ·simp [okAll,okv]
 ·exact(by(try simp -dsimp only [hpx]); refine hle_hps ?_; simp -dsimp [allK,rT]<;>exact rz)
 rintro⟨k,hk⟩
 simp only
 by_cases hk1:k<l.length
 ·have hki:(k:Int)<l.length:=by omega
  have hwk:IntKind.wrap .i64 ((k:Int)+1)=(k+1:Nat):=wrap_id (by omega) (by omega)
  obtain⟨w,hw,hw'⟩:=get_ex hk1
  have hg:l.getD k default=w:=by simp [List.getD,hw]
  have hWf:=(rT_rel (l:=l) c1 k (by omega) (fun j hj=>c3 j (by omega))).1
  have hst:(rT r l k).after r w=rT r l (k+1):=by simp only [rT,hg]
  have hN2:=stRow (rT r l (k+1))
  generalize hT':rT r l (k+1)=T' at *
  generalize rT r l k=T at *
  simp -dsimp [hki]
  repeat' (first|omega|(exact sub0_snV _)|(exact sub0_dnV _)|simp -dsimp [E187,ri,cellp,ints,FoOk,FreeAt,hki,hk1,hw,hw',Wk.row,rwE_dec',hWf,hst,hN2,hwk]|refine aI ?_ fun _=>?_|refine oI fun _=>?_|refine nI ?_ ?_)
  refine⟨⟨k+1,by omega⟩,tle_chain rfl ?_,(by(try simp -dsimp only [hpx]); refine hle_hps ?_; simp -dsimp [allK,hT']<;>exact rz),by simp only; omega⟩
  simp [okAll,okv]
 ·have hkn:¬ (k:Int)<l.length:=by omega
  have hke:k=l.length:=by omega
  subst hke
  have hN2:=stRow (rT r l l.length)
  simp -dsimp [hkn]
  repeat' (first|omega|(exact sub0_snV _)|(exact sub0_dnV _)|simp -dsimp [E187,ri,cellp,ints,hkn,hN2]|refine aI ?_ fun _=>?_|refine oI fun _=>?_|refine nI ?_ ?_)
theorem ok187:FO 187 behindS:=pf b187 (.cons ok108 (.cons ok109 .nil))
end Go.Sx
end
section
namespace Go.Sx
open Go.Proofs
attribute [local irreducible] HLe
attribute [local simp] hps_app
abbrev cmS:PSpec:=mkP rnE RLN.Fine fun d=>.int .i64 (lacksE d.r d.l d.n)
abbrev E186:Env:={P:=Tryz.prog,fn:=tbl [(51,.pure checkFS),(175,.pure withinS)],own:=[],key:=18600,nt:=24}
theorem b186:PureBody E186 [] Tryz.f186 cmS:=by
 refine pb ?_
 rintro⟨r,l,m⟩ hfn
 have hfn:RL.Fine ⟨r,l⟩:=hfn
 by_cases hE:opE r l=0
 case neg=>
  have hR:lacksE r l m=opE r l:=by simp [lacksE,hE]
  simp -dsimp [Tryz.f186,E186,Reg.row]
  repeat' (first|omega|(exact sub0_snV _)|(exact sub0_dnV _)|simp -dsimp [E186,ri,cellp,ints,rlE_dec',hfn,hE,hR]|refine aI ?_ fun _=>?_|refine oI fun _=>?_|refine nI ?_ ?_)
 obtain⟨hWf,hRel⟩:=opE_rel hE
 cases hp:withinB m 0 (IntKind.wrap .i64 (r.machines - 1))
 ·have hp':(opH r l).i.machine m=false:=by rw [hRel.machq]; exact hp
  have hR:lacksE r l m=1:=by simp [lacksE,hE,hp']
  simp -dsimp [Tryz.f186,E186,Reg.row]
  repeat' (first|omega|(exact sub0_snV _)|(exact sub0_dnV _)|simp -dsimp [E186,ri,cellp,ints,rlE_dec',hfn,hE,hp,hR]|refine aI ?_ fun _=>?_|refine oI fun _=>?_|refine nI ?_ ?_)
 ·have hp':(opH r l).i.machine m=true:=by rw [hRel.machq]; exact hp
  have hR:lacksE r l m=0:=by simp [lacksE,hE,hp']
  simp -dsimp [Tryz.f186,E186,Reg.row]
  repeat' (first|omega|(exact sub0_snV _)|(exact sub0_dnV _)|simp -dsimp [E186,ri,cellp,ints,rlE_dec',hfn,hE,hp,hR]|refine aI ?_ fun _=>?_|refine oI fun _=>?_|refine nI ?_ ?_)
theorem ok186:FO 186 cmS:=pf b186 (.cons ok51 (.cons ok175 .nil))
theorem lacksE_zero {r:Reg} {l:List Wk} {m:Int} (h:lacksE r l m=0):opE r l=0∧(opH r l).i.machine m=true:=by
 unfold lacksE at h
 split at h
 ·rename_i h1
  split at h
  ·rename_i h2; exact⟨h1,h2⟩
  ·omega
 ·contradiction
theorem flies_not {x:HI} {m c h:Int} (h0:0≤h) (h1:h≤100) (hf:x.flies m h c=false):x.longest m c<h:=by
 rw [←longest_flies h0 h1]at hf
 have:=of_decide_eq_false hf
 omega
theorem flies_yes {x:HI} {m c h:Int} (h0:0≤h) (h1:h≤100) (hf:x.flies m h c=true):h≤x.longest m c:=by
 rw [←longest_flies h0 h1]at hf
 exact of_decide_eq_true hf
abbrev E116:Env:={P:=Tryz.prog,fn:=tbl [(187,.pure behindS),(175,.pure withinS),(186,.pure cmS),(177,.pure rfliesS)],own:=[],key:=11600,nt:=37}
theorem b116:PureBody E116 [] Tryz.f116 longFS:=by
 refine pb ?_
 rintro⟨r,l,m,c⟩ hfn
 have hfn':RLN.Fine ⟨r,l,m⟩:=hfn
 by_cases hL:lacksE r l m=0
 case neg=>
  have hR:longE r l m c=lacksE r l m:=by
   unfold longE
   by_cases h1:opE r l=0
   ·by_cases h2:(opH r l).i.machine m=true
    ·exact absurd (by simp [lacksE,h1,h2]) hL
    ·simp only [Bool.not_eq_true]at h2
     simp [h1,h2,lacksE]
   ·simp [h1,lacksE]
  have hR2:longF r l m c=0:=by simp [longF,hR,hL]
  simp -dsimp [Tryz.f116,E116,Reg.row]
  repeat' (first|omega|(exact sub0_snV _)|(exact sub0_dnV _)|simp -dsimp [E116,ri,cellp,ints,rnE_dec',hfn',hL,hR,hR2]|refine aI ?_ fun _=>?_|refine oI fun _=>?_|refine nI ?_ ?_)
 obtain⟨hE,hm⟩:=lacksE_zero hL
 obtain⟨hWf,hRel⟩:=opE_rel hE
 obtain⟨c1,c2,c3⟩:=hRel.core
 cases hc:withinB c 0 100
 ·have hR:longE r l m c=1:=by simp [longE,hE,hm,hc]
  have hR2:longF r l m c=0:=by simp [longF,hR]
  simp -dsimp [Tryz.f116,E116,Reg.row]
  repeat' (first|omega|(exact sub0_snV _)|(exact sub0_dnV _)|simp -dsimp [E116,ri,cellp,ints,rnE_dec',hfn',hL,hc,hR,hR2]|refine aI ?_ fun _=>?_|refine oI fun _=>?_|refine nI ?_ ?_)
 have hLE:longE r l m c=if ((rT r l l.length).hi r).longest m c<0 then 3 else 0:=by
  rw [longE,if_pos hE,hm,hc,longest_core c1 c2 c3]; rfl
 have hLF:longF r l m c=if longE r l m c=0 then ((rT r l l.length).hi r).longest m c else 0:=by
  rw [longF,longest_core c1 c2 c3]
 have hle:=longest_le100 ((rT r l l.length).hi r) m c
 have hN2:=stRow (rT r l l.length)
 generalize hT:rT r l l.length=T at *
 simp -dsimp [Tryz.f116,E116,Reg.row]
 repeat' (first|omega|(exact sub0_snV _)|(exact sub0_dnV _)|simp -dsimp [E116,ri,cellp,ints,rnE_dec',rlE_dec',hfn',hL,hc,hE,hT,hN2]|refine aI ?_ fun _=>?_|refine oI fun _=>?_|refine nI ?_ ?_)
 refine awp_loop [26,27,30,31,32,33,34,35,36,8,9,28,29,12] (fun k:{k:Nat // k≤101∧(T.hi r).longest m c<101 - k}=>[(12,(true,.int .i64 (100 - (k.1:Nat))))])
  (fun _=>hps [(11611,{base:=0,blks:=[{z:=5,els:=[[.sl 2 (T.used.map cycV),.sl 2 (T.whr.map cycV),.sl 1 (T.iss.map rb),snV T.since,dnV T.done]],ty:=198}]}),
   (11604,{base:=0,blks:=[{z:=4,els:=[[.sl 3 (r.kinds.map Kd.row),.sl 4 (r.parts.map Pt.row),.int .i64 r.machines,.sl 2 (r.orders.map Od.row)]],ty:=37}]})] noH) (fun k=>101 - k.1) ⟨0,by omega,by omega⟩ ?_ ?_ ?_
 ·simp [okAll,okv]
 ·exact(by(try simp -dsimp only [hpx]); refine hle_hps ?_; simp -dsimp [allK]<;>exact rz)
 rintro⟨k,hk,hlt⟩
 simp only
 by_cases hk1:k<101
 ·have hki:(0:Int)≤100 - (k:Int):=by omega
  have hki2:(k:Int)≤100:=by omega
  have hwk:IntKind.wrap .i64 (100 - (k:Int) - 1)=100 - ((k+1:Nat):Int):=by rw [wrap_id (by omega) (by omega)]; omega
  cases hf:(T.hi r).flies m (100 - (k:Int)) c
  ·have:=flies_not hki (by omega) hf
   simp -dsimp [hki,hki2]
   repeat' (first|omega|(exact sub0_snV _)|(exact sub0_dnV _)|simp -dsimp [E116,ri,cellp,ints,hki,hki2,rxE_dec',hWf,hf,hwk]|refine aI ?_ fun _=>?_|refine oI fun _=>?_|refine nI ?_ ?_)
   refine⟨k+1,tle_chain rfl ?_,(by(try simp -dsimp only [hpx]); refine hle_hps ?_; simp -dsimp [allK]<;>exact rz),⟨by omega,by omega⟩,by omega⟩
   simp [okAll,okv]
  ·have:=flies_yes hki (by omega) hf
   have hv:(T.hi r).longest m c=100 - (k:Int):=by omega
   have hv0:¬ (100:Int) - (k:Int)<0:=by omega
   have hE2:longE r l m c=0:=by rw [hLE,hv,if_neg hv0]
   have hF2:longF r l m c=100 - (k:Int):=by rw [hLF,hE2,if_pos rfl,hv]
   simp -dsimp [hki,hki2]
   repeat' (first|omega|(exact sub0_snV _)|(exact sub0_dnV _)|simp -dsimp [E116,ri,cellp,ints,hki,hki2,rxE_dec',hWf,hf,hE2,hF2]|refine aI ?_ fun _=>?_|refine oI fun _=>?_|refine nI ?_ ?_)
 ·have hkn:¬ (0:Int)≤100 - (k:Int):=by omega
  have hkn2:¬ (k:Int)≤100:=by omega
  have hv:(T.hi r).longest m c<0:=by omega
  have hE2:longE r l m c=3:=by rw [hLE,if_pos hv]
  have hF2:longF r l m c=0:=by rw [hLF,hE2]; rfl
  simp -dsimp [hkn,hkn2]
  repeat' (first|omega|(exact sub0_snV _)|(exact sub0_dnV _)|simp -dsimp [E116,ri,cellp,ints,hkn,hkn2,hE2,hF2]|refine aI ?_ fun _=>?_|refine oI fun _=>?_|refine nI ?_ ?_)
theorem ok116:FO 116 longFS:=pf b116 (.cons ok187 (.cons ok175 (.cons ok186 (.cons ok177 .nil))))
end Go.Sx
end
end
