/- A part of a proof; no conditions. -/
import Derived.Test.YtfhdpblkdgmnfaaGreatDoorP16
set_option linter.unusedSimpArgs false
set_option linter.unusedVariables false
set_option linter.unusedSectionVars false
set_option maxRecDepth 100000
set_option maxHeartbeats 8000000
noncomputable section
section
namespace Go.Sx
structure HG.Inv (s:HG) (r:Reg) (n:Nat):Prop where
 rg:s.r=r
 val:r.valid=true
 psl:s.ps.length=r.parts.length
 pk:∀(k:Nat) (p:PS),s.ps[k]?=some p→p.kind=(r.parts.getD k default).kind∧p.known=(r.parts.getD k default).known∧p.since.length=r.orders.length∧p.chk.length=r.orders.length
 iss:s.iss.length=r.orders.length
 fl:(s.fl.length:Int)=r.machines
 wk:s.wk=n
 hil:s.hi.length=s.ps.length
 hi:∀(k i m:Nat),s.hi[k]?=some (some (i,m))→∃l,s.hb[i]?=some l∧l.length=m∧0<m∧∀t∈l,0≤t.machine∧t.machine<r.machines
 inj:∀(k k' i m m':Nat),s.hi[k]?=some (some (i,m))→s.hi[k']?=some (some (i,m'))→k=k'
 cl:s.hcl=true→∀o∈s.hi,o=none
 hbl:s.hb.length≤n
 hbs:∀(i:Nat) (l:List Stt),s.hb[i]?=some l→l.length≤n
 pa:∀(k:Nat) (p:PS),s.ps[k]?=some p→(p.a = -1∧p.b = -1)∨(p.a = -2∧p.b = -2)∨(0≤p.a∧p.a<r.machines∧0≤p.b∧p.b<(r.kinds.getD p.kind.toNat default).places∧∃i m,s.hi[k]?=some (some (i,m)))
theorem valid_facts {r:Reg} (h:r.valid=true):r.kinds.length≤6∧r.parts.length≤24∧r.orders.length≤6∧0≤r.machines∧r.machines≤4∧
  (∀kd∈r.kinds,1≤kd.hours∧kd.hours≤100000∧1≤kd.cycles∧kd.cycles≤100000∧0≤kd.places∧kd.places≤4)∧
  (∀p∈r.parts,0≤p.kind∧p.kind<r.kinds.length∧0≤p.hours∧p.hours≤100000∧0≤p.cycles∧p.cycles≤100000)∧
  (∀o∈r.orders,0≤o.kind∧o.kind<r.kinds.length∧0≤o.within∧o.within≤100000):=by
 simp only [Reg.valid,Bool.and_eq_true,decide_eq_true_eq,Bool.not_eq_true',List.any_eq_false]at h
 obtain⟨h1,h2,h3,h4,h5,h6,h7⟩:=h
 have h4':0≤r.machines∧r.machines≤4:=by simpa [withinB]using h4
 have hkk:∀n,r.kindOk n=true→0≤n∧n<r.kinds.length:=by
  intro n hn
  have hw:wsub (r.kinds.length:Int) 1=r.kinds.length - 1:=wrap_id (by omega) (by omega)
  simp only [Reg.kindOk,hw,withinB,decide_eq_true_eq]at hn
  omega
 refine⟨h1,h2,h3,h4'.1,h4'.2,fun kd hk=>?_,fun p hp=>?_,fun o ho=>?_⟩
 ·have:=h5 kd hk
  simp [Kd.bad,withinB]at this
  omega
 ·have:=h6 p hp
  simp only [Reg.badP,Bool.or_eq_true,Bool.not_eq_true',not_or,Bool.not_eq_false]at this
  obtain⟨⟨a1,a2⟩,a3⟩:=this
  have:=hkk _ a1
  simp [withinB]at a2 a3
  omega
 ·have:=h7 o ho
  simp only [Reg.badO,Bool.or_eq_true,Bool.not_eq_true',not_or,Bool.not_eq_false]at this
  obtain⟨a1,a2⟩:=this
  have:=hkk _ a1
  simp [withinB]at a2
  omega
theorem getD_mem {α:Type} [Inhabited α] {l:List α} {k:Nat} (h:k<l.length):l.getD k default∈l:=by
 have:l.getD k default=l[k]:=by simp [List.getD,h]
 rw [this]; exact List.getElem_mem h
theorem HG.Inv.ok {s:HG} {r:Reg} {n:Nat} (h:s.Inv r n) (hn:n≤1000000):s.Ok:=by
 obtain⟨v1,v2,v3,v4,v5,v6,v7,v8⟩:=valid_facts h.val
 have e:=h.rg
 refine⟨⟨fun o ho i m ho'=>?_,h.cl⟩,by rw [h.psl]; omega,by rw [e]; omega,by rw [e]; omega,fun kd hk=>?_,fun p hp=>?_,h.hil,by rw [e]; exact v4,by rw [e]; omega,by rw [e]; exact h.iss,by rw [e]; exact h.fl,fun i l hl=>⟨?_,?_⟩,fun k p hp ha=>?_⟩
 ·subst ho'
  obtain⟨k,hk⟩:=List.mem_iff_getElem?.1 ho
  obtain⟨l,h1,h2,_⟩:=h.hi k i m hk
  exact⟨l,h1,h2⟩
 ·rw [e]at hk; have:=v6 kd hk; omega
 ·obtain⟨k,hk⟩:=List.mem_iff_getElem?.1 hp
  obtain⟨p1,p2,p3,p4⟩:=h.pk k p hk
  have hkl:k<r.parts.length:=by rw [←h.psl]; exact(List.getElem?_eq_some_iff.1 hk).1
  have:=v7 _ (getD_mem hkl)
  exact⟨by rw [p1]; omega,by show p.kind<(s.r.kinds.length:Int); rw [e,p1]; omega,by show s.iss.length=s.r.orders.length; rw [e]; exact h.iss,by show _=s.r.orders.length; rw [e]; exact p4,by show _=s.r.orders.length; rw [e]; exact p3,by show s.r.orders.length≤_; rw [e]; omega⟩
 ·have:=h.hbs i l hl; omega
 ·have:=h.hbl; omega
 ·rcases h.pa k p hp with h1|h1|⟨h1,h2,_,_,i,m,h5⟩
  ·omega
  ·omega
  ·refine⟨by rw [e]; exact h2,?_⟩
   obtain⟨l,l1,l2,l3,l4⟩:=h.hi k i m h5
   have hlt:l.length - 1<l.length:=by omega
   have hm:=l4 _ (getD_mem hlt)
   exact⟨i,l,by rw [l2]; exact h5,l1,by omega,by have:=h.hbs i l l1; omega,hm.1,by rw [h.fl]; exact hm.2⟩
theorem HG.Inv.new {r:Reg} (h:r.valid=true):(HG.new r).Inv r 0:=by
 obtain⟨v1,v2,v3,v4,v5,v6,v7,v8⟩:=valid_facts h
 have hn:∀(k i m:Nat),(HG.new r).hi[k]?=some (some (i,m))→False:=by
  intro k i m hk
  have:(List.replicate r.parts.length (none:Option (Nat × Nat)))[k]?=some (some (i,m)):=hk
  rw [List.getElem?_replicate]at this
  split at this<;>simp at this
 refine⟨rfl,h,by simp [HG.new],fun k p hp=>?_,by simp [HG.new],by simp [HG.new]; omega,rfl,by simp [HG.new],fun k i m hk=>(hn k i m hk).elim,fun k _ i m _ hk _=>(hn k i m hk).elim,fun _ o ho=>(List.mem_replicate.1 ho).2,Nat.le_refl _,fun i l hl=>by simp [HG.new]at hl,fun k p hp=>?_⟩
 ·have hp':(r.parts.map (PS.new r))[k]?=some p:=hp
  rw [List.getElem?_map]at hp'
  cases hq:r.parts[k]? with
  | none=>rw [hq]at hp'; simp at hp'
  | some q=>
   rw [hq]at hp'
   simp only [Option.map_some,Option.some.injEq]at hp'
   subst hp'
   simp [PS.new,List.getD,hq]
 ·have hp':(r.parts.map (PS.new r))[k]?=some p:=hp
  rw [List.getElem?_map]at hp'
  cases hq:r.parts[k]? with
  | none=>rw [hq]at hp'; simp at hp'
  | some q=>
   rw [hq]at hp'
   simp only [Option.map_some,Option.some.injEq]at hp'
   subst hp'
   exact .inl ⟨rfl,rfl⟩
end Go.Sx
end
section
namespace Go.Sx
def HG.step (s:HG) (w:Wk):HG:={s.after w with wk:=wadd s.wk 1}
structure PS.Sim (p p':PS):Prop where
 kind:p'.kind=p.kind
 known:p'.known=p.known
 since:p'.since.length=p.since.length
 chk:p'.chk.length=p.chk.length
theorem PS.Sim.refl (p:PS):p.Sim p:=⟨rfl,rfl,rfl,rfl⟩
theorem HG.Inv.upd {s s':HG} {r:Reg} {n:Nat} (h:s.Inv r n) (e1:s'.r=s.r) (e2:s'.ps.length=s.ps.length)
  (e3:∀(k:Nat) (p':PS),s'.ps[k]?=some p'→∃p,s.ps[k]?=some p∧p.Sim p'∧((p'.a=p.a∧p'.b=p.b)∨(p'.a = -1∧p'.b = -1)∨(p'.a = -2∧p'.b = -2)))
  (e4:s'.iss.length=s.iss.length) (e5:s'.fl.length=s.fl.length) (e6:s'.wk=s.wk+1) (e7:s'.hi=s.hi) (e8:s'.hb.length=s.hb.length)
  (e9:∀(i:Nat) (l:List Stt),s.hb[i]?=some l→∃l',s'.hb[i]?=some l'∧l'.length=l.length∧∀t'∈l',∃t∈l,t'.machine=t.machine)
  (e10:s'.hcl=true→s.hcl=true):s'.Inv r (n+1):=by
 refine⟨by rw [e1]; exact h.rg,h.val,by rw [e2]; exact h.psl,fun k p' hp'=>?_,by rw [e4]; exact h.iss,by rw [e5]; exact h.fl,by rw [e6,h.wk]; rfl,by rw [e7,e2]; exact h.hil,fun k i m hk=>?_,fun k k' i m m' hk hk'=>?_,fun hc=>by rw [e7]; exact h.cl (e10 hc),by rw [e8]; have:=h.hbl; omega,fun i l' hl'=>?_,fun k p' hp'=>?_⟩
 ·obtain⟨p,hp,hs,_⟩:=e3 k p' hp'
  obtain⟨p1,p2,p3,p4⟩:=h.pk k p hp
  exact⟨by rw [hs.kind,p1],by rw [hs.known,p2],by rw [hs.since,p3],by rw [hs.chk,p4]⟩
 ·rw [e7]at hk
  obtain⟨l,l1,l2,l3,l4⟩:=h.hi k i m hk
  obtain⟨l',m1,m2,m3⟩:=e9 i l l1
  refine⟨l',m1,by omega,l3,fun t' ht'=>?_⟩
  obtain⟨t,ht,et⟩:=m3 t' ht'
  rw [et]; exact l4 t ht
 ·rw [e7]at hk hk'; exact h.inj k k' i m m' hk hk'
 ·have:i<s.hb.length:=by rw [←e8]; exact(List.getElem?_eq_some_iff.1 hl').1
  obtain⟨l2,m1,m2,m3⟩:=e9 i _ (List.getElem?_eq_getElem this)
  rw [hl']at m1
  cases m1
  have:=h.hbs i _ (List.getElem?_eq_getElem this)
  omega
 ·obtain⟨p,hp,hs,ha⟩:=e3 k p' hp'
  rcases ha with⟨a1,a2⟩|ha|ha
  ·rw [a1,a2,hs.kind,e7]; exact h.pa k p hp
  ·exact .inl ha
  ·exact .inr (.inl ha)
theorem wadd_wk {n:Nat} (hn:n≤1000000):wadd (n:Int) 1=n+1:=wrap_id (by omega) (by omega)
theorem endL_len (fl:List (Int × Int)) (to:Int) (l:List Stt):(endL fl to l).length=l.length:=by simp [endL]
theorem endL_machine {fl:List (Int × Int)} {to:Int} {l:List Stt}:∀t'∈endL fl to l,∃t∈l,t'.machine=t.machine:=by
 intro t' ht'
 rcases List.mem_or_eq_of_mem_set ht' with h|h
 ·exact⟨t',h,rfl⟩
 ·by_cases hl:l.length - 1<l.length
  ·exact⟨_,getD_mem hl,by rw [h]; rfl⟩
  ·have:l=[]:=List.length_eq_zero_iff.1 (by omega)
   subst this
   simp [endL]at ht'
theorem getElem?_set_cases {α:Type} {l:List α} {i k:Nat} {x y:α} (h:(l.set i x)[k]?=some y):(k=i∧y=x∧i<l.length)∨(k≠i∧l[k]?=some y):=by
 rw [List.getElem?_set]at h
 by_cases e:i=k
 ·subst e
  rw [if_pos rfl]at h
  by_cases hl:i<l.length
  ·rw [if_pos hl]at h; cases h; exact .inl ⟨rfl,rfl,hl⟩
  ·rw [if_neg hl]at h; cases h
 ·rw [if_neg e]at h; exact .inr ⟨fun h=>e h.symm,h⟩
theorem HG.Inv.upd0 {s s':HG} {r:Reg} {n:Nat} (h:s.Inv r n) (e1:s'.r=s.r) (e2:s'.ps.length=s.ps.length)
  (e3:∀(k:Nat) (p':PS),s'.ps[k]?=some p'→∃p,s.ps[k]?=some p∧p.Sim p'∧((p'.a=p.a∧p'.b=p.b)∨(p'.a = -1∧p'.b = -1)∨(p'.a = -2∧p'.b = -2)))
  (e4:s'.iss.length=s.iss.length) (e5:s'.fl.length=s.fl.length) (e6:s'.wk=s.wk+1) (e7:s'.hi=s.hi) (e8:s'.hb=s.hb) (e10:s'.hcl=s.hcl):s'.Inv r (n+1):=
 h.upd e1 e2 e3 e4 e5 e6 e7 (by rw [e8]) (fun i l hl=>⟨l,by rw [e8]; exact hl,rfl,fun t ht=>⟨t,ht,rfl⟩⟩) (fun hc=>by rw [←e10]; exact hc)
theorem sim_set {l:List PS} {n:Nat} {q:PS} (hq:∀p,l[n]?=some p→p.Sim q∧((q.a=p.a∧q.b=p.b)∨(q.a = -1∧q.b = -1)∨(q.a = -2∧q.b = -2))) :
  ∀(k:Nat) (p':PS),(l.set n q)[k]?=some p'→∃p,l[k]?=some p∧p.Sim p'∧((p'.a=p.a∧p'.b=p.b)∨(p'.a = -1∧p'.b = -1)∨(p'.a = -2∧p'.b = -2)):=by
 intro k p' h
 rcases getElem?_set_cases h with⟨rfl,rfl,hl⟩|⟨_,h⟩
 ·have e:l[k]?=some l[k]:=List.getElem?_eq_getElem hl
  exact⟨l[k],e,hq _ e⟩
 ·exact⟨p',h,PS.Sim.refl _,.inl ⟨rfl,rfl⟩⟩
theorem HG.Inv.step {s:HG} {r:Reg} {n:Nat} (h:s.Inv r n) (hn:n≤1000000) {w:Wk} (hw:s.doOk w=true):(s.step w).Inv r (n+1):=by
 have hwk:wadd s.wk 1=s.wk+1:=by rw [h.wk]; exact wadd_wk hn
 have hst:s.step w={s.doDo w with wk:=s.wk+1}:=by simp only [HG.step,HG.after,hw,if_true,hwk]
 rw [hst]
 clear hst hwk
 obtain⟨v1,v2,v3,v4,v5,v6,v7,v8⟩:=valid_facts h.val
 have hpart:∀m:Int,s.i.part m=true→∃k:Nat,m=k∧k<s.ps.length:=fun m hm=>withinB_nat (by rw [h.psl]; omega) hm
 by_cases k1:w.kind=1
 ·simp only [HG.doDo,k1,if_true]
  refine h.upd0 rfl (by simp [HG.flyDo]) (fun k p' hp'=>?_) rfl (by simp [HG.flyDo]) rfl rfl rfl rfl
  have hp2:(s.ps.map (flyP s.iss w.a w.b w.c))[k]?=some p':=hp'
  rw [List.getElem?_map]at hp2
  cases hq:s.ps[k]? with
  | none=>rw [hq]at hp2; simp at hp2
  | some q=>
   rw [hq]at hp2
   simp only [Option.map_some,Option.some.injEq]at hp2
   subst hp2
   refine⟨q,rfl,?_,?_⟩
   ·unfold flyP; split
    ·exact⟨rfl,rfl,sinceTo_len _ _ _ _,rfl⟩
    ·exact PS.Sim.refl _
   ·unfold flyP; split<;>exact .inl ⟨rfl,rfl⟩
 by_cases k2:w.kind=2
 ·have hf:s.fitOk w.a w.b w.c=true:=by simpa [HG.doOk,k2]using hw
  simp only [HG.doDo,k2,Int.reduceEq,if_false,if_true]
  simp only [HG.fitOk,Bool.and_eq_true,beq_iff_eq,decide_eq_true_eq]at hf
  obtain⟨f1,f2,f3,f4,f5,f6⟩:=hf
  obtain⟨k,hk,hkl⟩:=hpart _ f1
  have hmm:∃m:Nat,w.b=m∧m<s.fl.length:=withinB_nat (by have:=h.fl; omega) (by
   have:s.i.machine w.b=withinB w.b 0 (wsub r.machines 1):=by show withinB w.b 0 (wsub s.r.machines 1)=_; rw [h.rg]
   rw [h.fl,←this]; exact f2)
  obtain⟨m,hm,hml⟩:=hmm
  have hml':(m:Int)<r.machines:=by rw [←h.fl]; omega
  obtain⟨p,hp,hp'⟩:=get_ex hkl
  rw [hk]at f3 f4 f5 f6 ⊢
  simp only [Int.toNat_natCast,List.getD,hp,Option.getD_some]at f3 f4 f5 f6
  have hpl:0≤w.c∧w.c<(r.kinds.getD p.kind.toNat default).places:=by
   have hkm:p.kind.toNat<r.kinds.length:=by
    obtain⟨p1,_⟩:=h.pk k p hp
    have:=v7 _ (getD_mem (l:=r.parts) (k:=k) (by rw [←h.psl]; exact hkl))
    rw [p1]; omega
   have hb:=v6 _ (getD_mem hkm)
   have e:(s.r.kinds[p.kind.toNat]?.getD default)=r.kinds.getD p.kind.toNat default:=by rw [h.rg]; rfl
   rw [e]at f5
   have hw:wsub (r.kinds.getD p.kind.toNat default).places 1=(r.kinds.getD p.kind.toNat default).places - 1:=wrap_id (by omega) (by omega)
   rw [hw]at f5
   simp only [withinB,decide_eq_true_eq]at f5
   omega
  have hdp:∀(p':PS) (j:Nat),(s.ps.set k {p with a:=w.b,b:=w.c})[j]?=some p'→(j=k∧p'={p with a:=w.b,b:=w.c})∨(j≠k∧s.ps[j]?=some p'):=by
   intro p' j hj
   rcases getElem?_set_cases hj with⟨e1,e2,_⟩|e
   ·exact .inl ⟨e1,e2⟩
   ·exact .inr e
  have hgp:s.ps.getD (k:Int).toNat default=p:=by simp [List.getD,hp]
  have hstm:(s.stt w.b w.c).machine=w.b:=rfl
  have hnh:k<s.hi.length:=by rw [h.hil]; exact hkl
  obtain⟨o,ho,ho'⟩:=get_ex hnh
  have hgo:s.hi.getD (k:Int).toNat none=o:=by simp [List.getD,ho]
  unfold HG.fitDo
  rw [hgo,hgp]
  cases o with
  | none=>
   simp only [Int.toNat_natCast]
   refine⟨h.rg,h.val,by simp [h.psl],fun j p' hj=>?_,h.iss,h.fl,by simp [h.wk],by simp [h.hil],fun j i mm hj=>?_,fun j j' i mm mm' hj hj'=>?_,fun hc=>by simp at hc,by have:=h.hbl; simp; omega,fun i l hl=>?_,fun j p' hj=>?_⟩
   ·rcases hdp p' j hj with⟨rfl,rfl⟩|⟨_,hj⟩
    ·exact h.pk j p hp
    ·exact h.pk j p' hj
   ·rcases getElem?_set_cases hj with⟨_,e,_⟩|⟨_,e⟩
    ·cases e
     refine⟨[s.stt w.b w.c],by simp,rfl,by omega,fun t ht=>?_⟩
     simp only [List.mem_singleton]at ht
     subst ht
     rw [hstm,hm]; omega
    ·obtain⟨l,l1,l2⟩:=h.hi j i mm e
     exact⟨l,by rw [List.getElem?_append_left (List.getElem?_eq_some_iff.1 l1).1]; exact l1,l2⟩
   ·have hlt:∀j i mm,s.hi[j]?=some (some (i,mm))→i<s.hb.length:=fun j i mm e=>by
     obtain⟨l,l1,_⟩:=h.hi j i mm e; exact(List.getElem?_eq_some_iff.1 l1).1
    rcases getElem?_set_cases hj with⟨e0,e,_⟩|⟨_,e⟩<;>rcases getElem?_set_cases hj' with⟨e0',e',_⟩|⟨_,e'⟩
    ·omega
    ·cases e; have:=hlt _ _ _ e'; omega
    ·cases e'; have:=hlt _ _ _ e; omega
    ·exact h.inj j j' i mm mm' e e'
   ·by_cases hi:i<s.hb.length
    ·simp only [List.getElem?_append_left hi]at hl
     have:=h.hbs i l hl; omega
    ·rw [List.getElem?_append_right (by omega)]at hl
     have:l=[s.stt w.b w.c]:=by
      cases hd:i - s.hb.length with
      | zero=>rw [hd]at hl; simpa using hl.symm
      | succ x=>rw [hd]at hl; simp at hl
     subst this; simp
   ·rcases hdp p' j hj with⟨rfl,rfl⟩|⟨hne,hj⟩
    ·exact .inr (.inr ⟨by simp only [hm]; omega,by simp only [hm]; exact hml',hpl.1,hpl.2,s.hb.length,1,by simp [hnh]⟩)
    ·rcases h.pa j p' hj with h1|h1|⟨h1,h2,h3,h4,i,mm,h5⟩
     ·exact .inl h1
     ·exact .inr (.inl h1)
     ·exact .inr (.inr ⟨h1,h2,h3,h4,i,mm,by rw [List.getElem?_set_ne (Ne.symm hne)]; exact h5⟩)
  | some x=>
   obtain⟨i0,m0⟩:=x
   simp only [Int.toNat_natCast]
   obtain⟨l0,y1,y2,y3,y4⟩:=h.hi k i0 m0 ho
   have hgb:s.hb.getD i0 []=l0:=by simp [List.getD,y1]
   have hi0:i0<s.hb.length:=(List.getElem?_eq_some_iff.1 y1).1
   rw [hgb]
   have hl0:=h.hbs i0 l0 y1
   refine⟨h.rg,h.val,by simp [h.psl],fun j p' hj=>?_,h.iss,h.fl,by simp [h.wk],by simp [h.hil],fun j i mm hj=>?_,fun j j' i mm mm' hj hj'=>?_,fun hc=>by simp at hc,by have:=h.hbl; simp; omega,fun i l hl=>?_,fun j p' hj=>?_⟩
   ·rcases hdp p' j hj with⟨rfl,rfl⟩|⟨_,hj⟩
    ·exact h.pk j p hp
    ·exact h.pk j p' hj
   ·rcases getElem?_set_cases hj with⟨_,e,_⟩|⟨hne,e⟩
    ·cases e
     refine⟨l0++[s.stt w.b w.c],by simp [hi0],by simp [y2],by omega,fun t ht=>?_⟩
     rcases List.mem_append.1 ht with ht|ht
     ·exact y4 t ht
     ·simp only [List.mem_singleton]at ht
      subst ht
      rw [hstm,hm]; omega
    ·obtain⟨l,l1,l2⟩:=h.hi j i mm e
     have hii:i0≠i:=by
      rintro rfl
      exact hne (h.inj j k i0 mm m0 e ho)
     exact⟨l,by simp only [List.getElem?_set_ne hii]; exact l1,l2⟩
   ·rcases getElem?_set_cases hj with⟨e0,e,_⟩|⟨hne,e⟩<;>rcases getElem?_set_cases hj' with⟨e0',e',_⟩|⟨hne',e'⟩
    ·omega
    ·cases e; exact absurd (h.inj j' k _ _ _ e' ho) hne'
    ·cases e'; exact absurd (h.inj j k _ _ _ e ho) hne
    ·exact h.inj j j' i mm mm' e e'
   ·rcases getElem?_set_cases hl with⟨_,e,_⟩|⟨_,e⟩
    ·subst e; simp; omega
    ·have:=h.hbs i l e; omega
   ·rcases hdp p' j hj with⟨rfl,rfl⟩|⟨hne,hj⟩
    ·exact .inr (.inr ⟨by simp only [hm]; omega,by simp only [hm]; exact hml',hpl.1,hpl.2,i0,m0+1,by simp [hnh]⟩)
    ·rcases h.pa j p' hj with h1|h1|⟨h1,h2,h3,h4,i,mm,h5⟩
     ·exact .inl h1
     ·exact .inr (.inl h1)
     ·exact .inr (.inr ⟨h1,h2,h3,h4,i,mm,by rw [List.getElem?_set_ne (Ne.symm hne)]; exact h5⟩)
 by_cases k5:w.kind=5
 ·have hf:s.chkOk w.a w.b=true:=by
   have:=hw; simp only [HG.doOk,k5,Int.reduceEq,if_false,if_true,Bool.and_eq_true]at this; exact this.2
  simp only [HG.doDo,k5,Int.reduceEq,if_false,if_true]
  simp only [HG.chkOk,Bool.and_eq_true]at hf
  obtain⟨k,hk,hkl⟩:=hpart _ hf.1
  rw [hk]
  refine h.upd0 rfl (by simp [HG.chkDo]) (sim_set fun p hp=>?_) rfl rfl rfl rfl rfl rfl
  have hg:s.ps.getD (k:Int).toNat default=p:=by simpa [List.getD]using congrArg (Option.getD · default) hp
  rw [hg]
  exact⟨⟨rfl,rfl,rfl,by simp⟩,.inl ⟨rfl,rfl⟩⟩
 by_cases k3:w.kind=3
 ·have hf:s.takeOk w.a=true:=by
   have:=hw; simp only [HG.doOk,k3,Int.reduceEq,if_false,if_true,Bool.and_eq_true]at this; exact this.2
  simp only [HG.doDo,k3,Int.reduceEq,if_false,if_true]
  refine h.upd rfl (by simp [HG.takeDo,HG.put,HG.endd]) (sim_set fun p hp=>?_) rfl rfl rfl rfl (by simp [HG.takeDo,HG.put,HG.endd]) (fun i l hl=>?_) (fun hc=>hc)
  ·have hg:s.ps.getD w.a.toNat default=p:=by simpa [List.getD]using congrArg (Option.getD · default) hp
   rw [hg]
   exact⟨⟨rfl,rfl,rfl,rfl⟩,.inr (.inl ⟨rfl,rfl⟩)⟩
  ·show ∃l',(s.hb.set (s.hist w.a) (endL s.fl s.wk (s.hb.getD (s.hist w.a) [])))[i]?=some l'∧_
   by_cases e:s.hist w.a=i
   ·subst e
    have hlt:=(List.getElem?_eq_some_iff.1 hl).1
    have hg:s.hb.getD (s.hist w.a) []=l:=by simp [List.getD,hl]
    exact⟨endL s.fl s.wk l,by rw [hg]; simp [hlt],endL_len _ _ _,endL_machine⟩
   ·exact⟨l,by rw [List.getElem?_set_ne e]; exact hl,rfl,fun t ht=>⟨t,ht,rfl⟩⟩
 by_cases k4:w.kind=4
 ·simp only [HG.doDo,k4,Int.reduceEq,if_false,if_true]
  exact h.upd0 rfl rfl (fun k p' hp'=>⟨p',hp',PS.Sim.refl _,.inl ⟨rfl,rfl⟩⟩) (by simp [HG.issueDo]) rfl rfl rfl rfl rfl
 by_cases k6:w.kind=6
 ·simp only [HG.doDo,k6,Int.reduceEq,if_false,if_true]
  refine h.upd0 rfl (by simp [HG.put]) (sim_set fun p hp=>?_) rfl rfl rfl rfl rfl rfl
  have hg:s.ps.getD w.a.toNat default=p:=by simpa [List.getD]using congrArg (Option.getD · default) hp
  rw [hg]
  exact⟨⟨rfl,rfl,rfl,rfl⟩,.inr (.inr ⟨rfl,rfl⟩)⟩
 ·simp [HG.doOk,k1,k2,k5,k3,k4,k6]at hw
end Go.Sx
end
section
namespace Go.Sx
open Go.Proofs
attribute [local irreducible] HLe
attribute [local simp] hps_app
theorem after_wk (s:HG) (w:Wk):(s.after w).wk=s.wk:=by
 unfold HG.after; split
 ·unfold HG.doDo; repeat' split
  all_goals first|rfl|(unfold HG.fitDo; split<;>rfl)
 ·rfl
def stT (r:Reg) (l:List Wk):Nat→HG
 | 0=>HG.new r
 | k+1=>(stT r l k).step (l.getD k default)
def okAt (r:Reg) (l:List Wk) (k:Nat):Bool:=(stT r l k).doOk (l.getD k default)
theorem stT_inv {r:Reg} {l:List Wk} (hv:r.valid=true):∀k:Nat,k≤1000000→(∀j,j<k→okAt r l j=true)→(stT r l k).Inv r k
 | 0,_,_=>HG.Inv.new hv
 | k+1,hk,h=>(stT_inv hv k (by omega) fun j hj=>h j (by omega)).step (by omega) (h k (by omega))
def badAt (r:Reg) (l:List Wk):Int:=idxZ (List.range l.length) fun j=>!okAt r l j
theorem badAt_at {r:Reg} {l:List Wk} {k:Nat} (hk:k<l.length) (h:okAt r l k=false) (hall:∀j,j<k→okAt r l j=true):badAt r l=k:=
 idxZ_at _ _ (by simpa using hk) (by simpa using h) fun j _ hj=>by simpa using hall j hj
theorem badAt_none {r:Reg} {l:List Wk} (hall:∀j,j<l.length→okAt r l j=true):badAt r l = -1:=
 idxZ_none _ _ fun j hj=>by simpa using hall j (by simpa using hj)
def opE (r:Reg) (l:List Wk):Int:=if r.valid=true then (if l.length≤200 then (if badAt r l<0 then 0 else 91)else 2)else 90
def opA (r:Reg) (l:List Wk):Int:=if r.valid=true then (if l.length≤200 then (if badAt r l<0 then 0 else badAt r l)else 0)else 0
def opH (r:Reg) (l:List Wk):HG:=stT r l l.length
structure RL where
 r:Reg
 l:List Wk
 deriving Inhabited
@[simp] def rlE (d:RL):List V:=[.agg d.r.row,.sl 4 (d.l.map Wk.row)]
theorem rlE_inj (a b:RL) (h:rlE a=rlE b):a=b:=by
 obtain⟨r,l⟩:=a; obtain⟨r',l'⟩:=b
 simp only [rlE,List.cons.injEq,V.agg.injEq,V.sl.injEq,true_and,and_true]at h
 rw [Reg.row_inj _ _ h.1,map_inj Wk.row_inj h.2]
theorem rlE_dec (r:Reg) (l:List Wk):decC rlE [.agg r.row,.sl 4 (l.map Wk.row)]=⟨r,l⟩:=decC_eq rlE_inj ⟨r,l⟩
theorem rlE_dec' (r:Reg) (l:List Wk):decC rlE [.agg [.sl 3 (r.kinds.map Kd.row),.sl 4 (r.parts.map Pt.row),.int .i64 r.machines,.sl 2 (r.orders.map Od.row)],.sl 4 (l.map Wk.row)]=⟨r,l⟩:=rlE_dec r l
def RL.Fine (d:RL):Prop:=d.r.kinds.length≤9223372036854775807∧d.r.parts.length≤9223372036854775807∧d.r.orders.length≤9223372036854775807∧d.l.length≤9223372036854775807
abbrev openS:PSpec:=mkP rlE RL.Fine fun d=>.tup [if opE d.r d.l=0 then (opH d.r d.l).i.v else .nilp,.int .i64 (opA d.r d.l),.int .i64 (opE d.r d.l)]
theorem do_go' (s:HG) (w:Wk) (h:Hp):doS.go [.bptr 9019 0 1 0 0,.agg [.int .i64 w.kind,.int .i64 w.a,.int .i64 w.b,.int .i64 w.c]] (Ob hgL s h)=⟨s.Ok∧Blank doOwn (Ob hgL s h),.bool (s.doOk w),Ob hgL (s.after w) (bmp doOwn 1 (Ob hgL s h))⟩:=do_go s w h
theorem regE_dec' (r:Reg):decC regE [.agg [.sl 3 (r.kinds.map Kd.row),.sl 4 (r.parts.map Pt.row),.int .i64 r.machines,.sl 2 (r.orders.map Od.row)]]=r:=regE_dec r
theorem new_go' (r:Reg) (h:Hp):newS.go [.agg [.sl 3 (r.kinds.map Kd.row),.sl 4 (r.parts.map Pt.row),.int .i64 r.machines,.sl 2 (r.orders.map Od.row)]] h=⟨r.Small∧Fresh h∧Blank newOwn h,.bptr 9019 0 1 0 0,Ob hgL (HG.new r) (bmp newOwn 1000000 h)⟩:=new_go r h
@[simp] theorem lend1_nilp (h:Hp):lend1 h .nilp=(True,.nilp):=rfl
theorem small_of {r:Reg} (h:r.valid=true):r.Small:=by
 obtain⟨v1,v2,v3,v4,v5,_⟩:=valid_facts h
 exact⟨by omega,by omega,by omega,by omega,by omega⟩
abbrev E38:Env:={P:=Tryz.prog,fn:=tbl [(89,.pure validS),(90,.heap newS),(91,.heap doS)],own:=[],key:=3800,nt:=38}
theorem b38:PureBody E38 [] Tryz.f38 openS:=by
 refine pb ?_
 rintro⟨r,l⟩ ⟨b1,b2,b3,b4⟩
 simp only at b1 b2 b3 b4
 cases c1:r.valid
 ·have hE:opE r l=90:=by simp [opE,c1]
  have hA:opA r l=0:=by simp [opA,c1]
  simp -dsimp [Tryz.f38,E38,Reg.row,-lendN,-lend1]
  repeat' (first|omega|simp -dsimp [E38,ri,cellp,ints,-lendN,-lend1,b1,b2,b3,regE_dec',Reg.row,c1,hE,hA]|refine aI ?_ fun _=>?_|refine oI fun _=>?_|refine nI ?_ ?_)
 by_cases c2:l.length≤200
 case neg=>
  have hE:opE r l=2:=by simp [opE,c1,c2]
  have hA:opA r l=0:=by simp [opA,c1,c2]
  have c2':(200:Int)<l.length:=by omega
  simp -dsimp [Tryz.f38,E38,Reg.row,-lendN,-lend1]
  repeat' (first|omega|simp -dsimp [E38,ri,cellp,ints,-lendN,-lend1,b1,b2,b3,regE_dec',Reg.row,c1,c2',hE,hA]|refine aI ?_ fun _=>?_|refine oI fun _=>?_|refine nI ?_ ?_)
 have c2':¬ (200:Int)<l.length:=by omega
 have hFr:∀S:Site,Fresh (hps [(3802,S)] noH):=by
  intro S k hk; simp only [hkeys,List.mem_cons,List.not_mem_nil,or_false]at hk
  rcases hk with rfl|rfl|rfl|rfl|rfl|rfl|rfl|rfl|rfl<;>simp
 have hBl:∀S:Site,Blank newOwn (hps [(3802,S)] noH):=by
  intro S k hk; simp only [newOwn,List.mem_cons,List.not_mem_nil,or_false]at hk
  rcases hk with rfl|rfl|rfl<;>simp
 have hsm:=small_of c1
 simp -dsimp [Tryz.f38,E38,Reg.row,-lendN,-lend1]
 repeat' (first|omega|simp -dsimp [E38,ri,cellp,ints,-lendN,-lend1,b1,b2,b3,regE_dec',Reg.row,c1,c2',new_go',hsm,hFr,hBl,bmp]|refine aI ?_ fun _=>?_|refine oI fun _=>?_|refine nI ?_ ?_)
 refine awp_loop [20,21,22,23,8,7,24,25,26,27,28,4,5,6,29,30,31,32,33,34,35,36,19] (fun k:{k:Nat // k≤l.length∧∀j,j<k→okAt r l j=true}=>[(4,(true,.bptr 9019 0 1 0 0)),(5,(true,.int .i64 0)),(6,(true,.int .i64 0)),(19,(true,.int .i64 (k.1:Nat)))])
  (fun k=>Ob hgL (stT r l k.1) (hps [(3808,{base:=k.1,blks:=[]}),(9103,{base:=k.1,blks:=[]}),(15010,{base:=k.1,blks:=[]}),(3802,{base:=1,blks:=[]}),(9001,{base:=1000000,blks:=[]}),(9005,{base:=1000000,blks:=[]}),(9044,{base:=1000000,blks:=[]})] noH)) (fun k=>l.length - k.1) ⟨0,by omega,fun j hj=>by omega⟩ ?_ ?_ ?_
 ·simp [okAll,okv]
 ·exact(by(try simp -dsimp only [hpush_hps,hps_app,List.cons_append,List.nil_append,hps_over]); refine ob_hle ?_; simp -dsimp [allK]<;>exact rz)
 rintro⟨k,hk,hall⟩
 simp only
 have hI:=stT_inv (l:=l) c1 k (by omega) hall
 have hOk:=hI.ok (by omega)
 by_cases hk1:k<l.length
 ·have hki:(k:Int)<l.length:=by omega
  have wk:IntKind.wrap .i64 ((k:Int)+1)=(k+1:Nat):=wrap_id (by omega) (by omega)
  obtain⟨w,hw,hw'⟩:=get_ex hk1
  have hg:l.getD k default=w:=by simp [List.getD,hw]
  have hok:okAt r l k=(stT r l k).doOk w:=by simp only [okAt,hg]
  have hst:stT r l (k+1)={(stT r l k).after w with wk:=IntKind.wrap .i64 (((stT r l k).after w).wk+1)}:=by simp only [stT,hg,HG.step,wadd,after_wk]
  generalize hS:stT r l k=S at *
  have hbl:∀(S:HG) (X:Site) (a b:Nat),Blank doOwn (Ob hgL S (hps [(3808,X),(9103,{base:=a,blks:=[]}),(15010,{base:=b,blks:=[]}),(3802,{base:=1,blks:=[]}),(9001,{base:=1000000,blks:=[]}),(9005,{base:=1000000,blks:=[]}),(9044,{base:=1000000,blks:=[]})] noH)):=by
   intro S X a b k hk
   simp only [doOwn,List.mem_cons,List.not_mem_nil,or_false]at hk
   rcases hk with rfl|rfl<;>simp
  cases hd:S.doOk w
  ·have hba:badAt r l=k:=badAt_at hk1 (by rw [hok,hd]) hall
   have hE:opE r l=91:=by simp [opE,c1,c2,hba]<;>omega
   have hA:opA r l=k:=by simp [opA,c1,c2,hba]<;>omega
   simp -dsimp [hki,-lendN,-lend1]
   repeat' (first|omega|simp -dsimp [E38,ri,cellp,ints,-lendN,-lend1,hki,hk1,hw,hw',Wk.row,do_go',hOk,hbl,bmp,g_hset,hd,hE,hA]|refine aI ?_ fun _=>?_|refine oI fun _=>?_|refine nI ?_ ?_)
  ·have hall':∀j,j<k+1→okAt r l j=true:=fun j hj=>by
    by_cases e:j=k
    ·subst e; rw [hok,hd]
    ·exact hall j (by omega)
   generalize hS':S.after w=S' at *
   have hww:=fun h=>w_wk (s:=S') (h:=h) (IntKind.wrap .i64 (S'.wk+1))
   rw [←hst]at hww
   simp -dsimp [hki,-lendN,-lend1]
   repeat' (first|omega|simp -dsimp [E38,ri,cellp,ints,-lendN,-lend1,hki,hk1,hw,hw',Wk.row,do_go',hOk,hbl,bmp,g_hset,hd,hS',hww,wk]|refine aI ?_ fun _=>?_|refine oI fun _=>?_|refine nI ?_ ?_)
   refine⟨k+1,tle_chain rfl ?_,(by(try simp -dsimp only [hpush_hps,hps_app,List.cons_append,List.nil_append,hps_over]); refine ob_hle ?_; simp -dsimp [allK]<;>exact rz),⟨by omega,hall'⟩,by omega⟩
   simp [okAll,okv]
 ·have hkn:¬ (k:Int)<l.length:=by omega
  have hke:k=l.length:=by omega
  subst hke
  have hba:badAt r l = -1:=badAt_none hall
  have hE:opE r l=0:=by simp [opE,c1,c2,hba]
  have hA:opA r l=0:=by simp [opA,c1,c2,hba]
  have hHk:=hOk.hok
  simp -dsimp [hkn,-lendN,-lend1]
  repeat' (first|omega|simp -dsimp [E38,ri,cellp,ints,-lendN,-lend1,hkn,hE,hA,opH,hHk,HI.v]|refine aI ?_ fun _=>?_|refine oI fun _=>?_|refine nI ?_ ?_)
theorem ok38:FO 38 openS:=pf b38 (.cons ok89 (.cons ok90 (.cons ok91 .nil)))
end Go.Sx
end
section
namespace Go.Sx
open Go.Proofs
attribute [local irreducible] HLe
attribute [local simp] hps_app
theorem opE_inv {r:Reg} {l:List Wk} (h:opE r l=0):r.valid=true∧l.length≤200∧(∀j,j<l.length→okAt r l j=true)∧(opH r l).Inv r l.length:=by
 unfold opE at h
 split at h
 ·rename_i h1
  split at h
  ·rename_i h2
   split at h
   ·rename_i h3
    have:∀j,j<l.length→okAt r l j=true:=by
     intro j hj
     have hz:=idxZ_any (List.range l.length) fun j=>!okAt r l j
     have e:decide (0≤idxZ (List.range l.length) fun j=>!okAt r l j)=false:=by
      have:idxZ (List.range l.length) (fun j=>!okAt r l j)=badAt r l:=rfl
      rw [this]; simp; omega
     rw [e]at hz
     have:=List.any_eq_false.1 hz.symm j (by simpa using hj)
     simpa using this
    exact⟨h1,h2,this,stT_inv h1 _ (by omega) this⟩
   ·omega
  ·omega
 ·omega
theorem opE_ok {r:Reg} {l:List Wk} (h:opE r l=0):(opH r l).Ok:=(opE_inv h).2.2.2.ok (by have:=(opE_inv h).2.1; omega)
abbrev checkFS:PSpec:=mkP rlE RL.Fine fun d=>.tup [.int .i64 (opA d.r d.l),.int .i64 (opE d.r d.l)]
def tkV {α:Type} (f:α→List V) (l:List α) (k:Nat):List (List V):=(l.take k).map f
@[simp] theorem tkV_zero {α:Type} (f:α→List V) (l:List α):tkV f l 0=[]:=rfl
theorem tkV_succ {α:Type} (f:α→List V) {l:List α} {k:Nat} {x:α} (h:l[k]?=some x):tkV f l (k+1)=tkV f l k++[f x]:=by
 simp [tkV,List.take_add_one,h]
theorem tkV_len {α:Type} (f:α→List V) {l:List α} {k:Nat} (h:k≤l.length):(tkV f l k).length=k:=by simp [tkV]; omega
theorem tkV_all {α:Type} (f:α→List V) (l:List α):tkV f l l.length=l.map f:=by simp [tkV]
end Go.Sx
end
section
namespace Go.Sx
open Go.Proofs
attribute [local irreducible] HLe
attribute [local simp] hps_app
structure RLN where
 r:Reg
 l:List Wk
 n:Int
 deriving Inhabited
@[simp] def rnE (d:RLN):List V:=[.agg d.r.row,.sl 4 (d.l.map Wk.row),.int .i64 d.n]
theorem rnE_inj (a b:RLN) (h:rnE a=rnE b):a=b:=by
 obtain⟨r,l,n⟩:=a; obtain⟨r',l',n'⟩:=b
 simp only [rnE,List.cons.injEq,V.agg.injEq,V.sl.injEq,V.int.injEq,true_and,and_true]at h
 rw [Reg.row_inj _ _ h.1,map_inj Wk.row_inj h.2.1,h.2.2]
theorem rnE_dec' (r:Reg) (l:List Wk) (n:Int):decC rnE [.agg [.sl 3 (r.kinds.map Kd.row),.sl 4 (r.parts.map Pt.row),.int .i64 r.machines,.sl 2 (r.orders.map Od.row)],.sl 4 (l.map Wk.row),.int .i64 n]=⟨r,l,n⟩:=decC_eq rnE_inj ⟨r,l,n⟩
def RLN.Fine (d:RLN):Prop:=RL.Fine ⟨d.r,d.l⟩
structure LR where
 h:Int
 c:Int
 e:Int
def lacksE (r:Reg) (l:List Wk) (m:Int):Int:=if opE r l=0 then (if (opH r l).i.machine m=true then 0 else 1)else opE r l
structure RLM where
 r:Reg
 l:List Wk
 m:Int
 c:Int
 deriving Inhabited
@[simp] def rmE (d:RLM):List V:=[.agg d.r.row,.sl 4 (d.l.map Wk.row),.int .i64 d.m,.int .i64 d.c]
theorem rmE_inj (a b:RLM) (h:rmE a=rmE b):a=b:=by
 obtain⟨r,l,m,c⟩:=a; obtain⟨r',l',m',c'⟩:=b
 simp only [rmE,List.cons.injEq,V.agg.injEq,V.sl.injEq,V.int.injEq,true_and,and_true]at h
 rw [Reg.row_inj _ _ h.1,map_inj Wk.row_inj h.2.1,h.2.2.1,h.2.2.2]
def RLM.Fine (d:RLM):Prop:=RL.Fine ⟨d.r,d.l⟩
def longE (r:Reg) (l:List Wk) (m c:Int):Int:=if opE r l=0 then (if ((opH r l).i.machine m && withinB c 0 100)=true then (if (opH r l).i.longest m c<0 then 3 else 0)else 1)else opE r l
def longF (r:Reg) (l:List Wk) (m c:Int):Int:=if longE r l m c=0 then (opH r l).i.longest m c else 0
abbrev longFS:PSpec:=mkP rmE RLM.Fine fun d=>.tup [.int .i64 (longF d.r d.l d.m d.c),.int .i64 (longE d.r d.l d.m d.c)]
abbrev E17:Env:={P:=Tryz.prog,fn:=tbl [(38,.pure openS),(39,.pure machineS),(40,.pure withinS),(41,.pure longestS)],own:=[],key:=1700,nt:=40}
theorem b17:PureBody E17 [] Tryz.f17 longFS:=by
 refine pb ?_
 rintro⟨r,l,m,c⟩ hfn
 have hfn:RL.Fine ⟨r,l⟩:=hfn
 by_cases hE:opE r l=0
 case neg=>
  have hR:longE r l m c=opE r l:=by simp [longE,hE]
  have hR2:longF r l m c=0:=by simp [longF,hR,hE]
  simp -dsimp [Tryz.f17,E17,Reg.row]
  repeat' (first|omega|simp -dsimp [E17,ri,cellp,ints,rlE_dec',Reg.row,hfn,hE,hR,hR2]|refine aI ?_ fun _=>?_|refine oI fun _=>?_|refine nI ?_ ?_)
 have hsm:=(opE_ok hE).small
 have hfit:∀p∈(opH r l).i.ps,(opH r l).i.Fit p:=(opE_ok hE).fit
 cases hp:(opH r l).i.machine m
 ·have hR:longE r l m c=1:=by simp [longE,hE,hp]
  have hR2:longF r l m c=0:=by simp [longF,hR]
  generalize hs:opH r l=s at *
  simp -dsimp [Tryz.f17,E17,Reg.row]
  repeat' (first|omega|simp -dsimp [E17,ri,cellp,ints,rlE_dec',Reg.row,hfn,hE,hs,HI.v,hiE_dec',hp,hR,hR2]|refine aI ?_ fun _=>?_|refine oI fun _=>?_|refine nI ?_ ?_)
 cases hq:withinB c 0 100
 ·have hR:longE r l m c=1:=by simp [longE,hE,hp,hq]
  have hR2:longF r l m c=0:=by simp [longF,hR]
  generalize hs:opH r l=s at *
  simp -dsimp [Tryz.f17,E17,Reg.row]
  repeat' (first|omega|simp -dsimp [E17,ri,cellp,ints,rlE_dec',Reg.row,hfn,hE,hs,HI.v,hiE_dec',hp,hq,hR,hR2]|refine aI ?_ fun _=>?_|refine oI fun _=>?_|refine nI ?_ ?_)
 by_cases hn:(opH r l).i.longest m c<0
 ·have hR:longE r l m c=3:=by simp [longE,hE,hp,hq,hn]
  have hR2:longF r l m c=0:=by simp [longF,hR]
  generalize hs:opH r l=s at *
  simp -dsimp [Tryz.f17,E17,Reg.row]
  repeat' (first|omega|simp -dsimp [E17,ri,cellp,ints,rlE_dec',Reg.row,hfn,hE,hs,HI.v,hiE_dec',hmE_dec',hsm,hfit,hp,hq,hn,hR,hR2]|refine aI ?_ fun _=>?_|refine oI fun _=>?_|refine nI ?_ ?_)
 ·have hR:longE r l m c=0:=by simp [longE,hE,hp,hq,hn]
  have hR2:longF r l m c=(opH r l).i.longest m c:=by simp [longF,hR]
  generalize hs:opH r l=s at *
  simp -dsimp [Tryz.f17,E17,Reg.row]
  repeat' (first|omega|simp -dsimp [E17,ri,cellp,ints,rlE_dec',Reg.row,hfn,hE,hs,HI.v,hiE_dec',hmE_dec',hsm,hfit,hp,hq,hn,hR,hR2]|refine aI ?_ fun _=>?_|refine oI fun _=>?_|refine nI ?_ ?_)
theorem ok17:FO 17 longFS:=pf b17 (.cons ok38 (.cons ok39 (.cons ok40 (.cons ok41 .nil))))
end Go.Sx
end
section
namespace Go.Sx
theorem longest_le100 (x:HI) (m c:Int):x.longest m c≤100:=by
 have key:∀(l:List PS) (most:Int),most≤100→x.longG m c l most≤100:=by
  intro l
  induction l with
  | nil=>intro most h; exact h
  | cons p l ih=>
   intro most h
   simp only [HI.longG]
   split
   ·split
    ·omega
    ·exact ih _ (by unfold imin; split<;>omega)
   ·exact ih _ h
 unfold HI.longest
 split
 ·exact key _ _ (by omega)
 ·omega
theorem stT_app (r:Reg) (l x:List Wk):∀k,k≤l.length→stT r (l++x) k=stT r l k
 | 0,_=>rfl
 | k+1,hk=>by
  have hg:(l++x).getD k default=l.getD k default:=by simp [List.getD,List.getElem?_append_left (by omega:k<l.length)]
  simp only [stT,stT_app r l x k (by omega),hg]
theorem okAt_app (r:Reg) (l x:List Wk) {k:Nat} (hk:k<l.length):okAt r (l++x) k=okAt r l k:=by
 have hg:(l++x).getD k default=l.getD k default:=by simp [List.getD,List.getElem?_append_left hk]
 simp only [okAt,stT_app r l x k (by omega),hg]
theorem opE_of {r:Reg} {l:List Wk} (hv:r.valid=true) (hl:l.length≤200) (h:∀j,j<l.length→okAt r l j=true):opE r l=0:=by
 have:=badAt_none h
 simp [opE,hv,hl,this]
theorem opE_bad {r:Reg} {l:List Wk} (hv:r.valid=true) (hl:l.length≤200) {k:Nat} (hk:k<l.length) (h:okAt r l k=false) (hall:∀j,j<k→okAt r l j=true):opE r l=91:=by
 have:=badAt_at hk h hall
 simp [opE,hv,hl,this]<;>omega
theorem opE_snoc {r:Reg} {l:List Wk} (h:opE r l=0) (hl:l.length<200) (w:Wk):opE r (l++[w])=if (opH r l).doOk w=true then 0 else 91:=by
 obtain⟨h1,h2,h3,h4⟩:=opE_inv h
 have hlen:(l++[w]).length=l.length+1:=by simp
 have hg:(l++[w]).getD l.length default=w:=by simp [List.getD]
 have hlast:okAt r (l++[w]) l.length=(opH r l).doOk w:=by simp only [okAt,stT_app r l [w] l.length (Nat.le_refl _),hg,opH]
 have hpre:∀j,j<l.length→okAt r (l++[w]) j=true:=fun j hj=>by rw [okAt_app r l [w] hj]; exact h3 j hj
 cases hd:(opH r l).doOk w
 ·exact opE_bad h1 (by omega) (k:=l.length) (by omega) (by rw [hlast,hd]) hpre
 ·refine opE_of h1 (by omega) fun j hj=>?_
  by_cases e:j=l.length
  ·subst e; rw [hlast,hd]
  ·exact hpre j (by omega)
theorem fly_ok (s:HG) (m n c:Int):s.doOk ⟨1,m,n,c⟩=s.flyOk m n c:=by simp [HG.doOk]
section
variable {r:Reg} {l:List Wk} {m c:Int}
end
end Go.Sx
end
section
namespace Go.Sx
structure RS where
 used:List (Int × Int)
 whr:List (Int × Int)
 iss:List Bool
 since:List (List Int)
 done:List (List Bool)
 deriving Inhabited
def bls (l:List Bool):V:=.sl 1 (l.map rb)
def snV (l:List (List Int)):V:=if l=[]then .nil else .sl 1 (l.map fun x=>[ints x])
def dnV (l:List (List Bool)):V:=if l=[]then .nil else .sl 1 (l.map fun x=>[bls x])
def RS.row (t:RS):List V:=[.sl 2 (t.used.map cycV),.sl 2 (t.whr.map cycV),.sl 1 (t.iss.map rb),snV t.since,dnV t.done]
theorem ints_inj1 (a b:List Int) (h:[ints a]=[ints b]):a=b:=ints_inj (by simpa using h)
theorem bls_inj1 (a b:List Bool) (h:[bls a]=[bls b]):a=b:=by
 simp only [bls,List.cons.injEq,V.sl.injEq,true_and,and_true]at h
 exact map_inj rb_inj h
theorem snV_inj {a b:List (List Int)} (h:snV a=snV b):a=b:=by
 unfold snV at h
 split at h<;>split at h
 ·rename_i h1 h2; rw [h1,h2]
 ·cases h
 ·cases h
 ·simp only [V.sl.injEq,true_and]at h; exact map_inj ints_inj1 h
theorem dnV_inj {a b:List (List Bool)} (h:dnV a=dnV b):a=b:=by
 unfold dnV at h
 split at h<;>split at h
 ·rename_i h1 h2; rw [h1,h2]
 ·cases h
 ·cases h
 ·simp only [V.sl.injEq,true_and]at h; exact map_inj bls_inj1 h
@[simp high] theorem len_snV (l:List (List Int)):(snV l).len=some l.length:=by
 unfold snV; split
 ·rename_i e; subst e; rfl
 ·simp [V.len]
@[simp high] theorem len_dnV (l:List (List Bool)):(dnV l).len=some l.length:=by
 unfold dnV; split
 ·rename_i e; subst e; rfl
 ·simp [V.len]
theorem snV_ne {l:List (List Int)} (h:0<l.length):snV l=.sl 1 (l.map fun x=>[ints x]):=by unfold snV; rw [if_neg]; rintro rfl; simp at h
theorem dnV_ne {l:List (List Bool)} (h:0<l.length):dnV l=.sl 1 (l.map fun x=>[bls x]):=by unfold dnV; rw [if_neg]; rintro rfl; simp at h
theorem RS.row_inj (a b:RS) (h:a.row=b.row):a=b:=by
 obtain⟨u,w,i,s,d⟩:=a; obtain⟨u',w',i',s',d'⟩:=b
 simp only [RS.row,List.cons.injEq,V.sl.injEq,true_and,and_true]at h
 obtain⟨h1,h2,h3,h4,h5⟩:=h
 rw [cycV_inj h1,cycV_inj h2,map_inj rb_inj h3,snV_inj h4,dnV_inj h5]
def RS.pt (t:RS) (r:Reg) (p:Nat):PS:={kind:=(r.parts.getD p default).kind,hours:=(t.used.getD p (0,0)).1,cycles:=(t.used.getD p (0,0)).2,known:=(r.parts.getD p default).known,a:=(t.whr.getD p (0,0)).1,b:=(t.whr.getD p (0,0)).2,since:=t.since.map fun l=>l.getD p 0,chk:=t.done.map fun l=>l.getD p false}
def RS.ps (t:RS) (r:Reg):List PS:=(List.range r.parts.length).map (t.pt r)
def RS.hi (t:RS) (r:Reg):HI:={r:=r,ps:=t.ps r,iss:=t.iss,v1:=.top,v2:=.top,v3:=.top}
theorem RS.ps_len (t:RS) (r:Reg):(t.ps r).length=r.parts.length:=by simp [RS.ps]
theorem RS.ps_get (t:RS) (r:Reg) {p:Nat} (h:p<r.parts.length):(t.ps r)[p]?=some (t.pt r p):=by simp [RS.ps,h]
structure RS.Wf (t:RS) (r:Reg):Prop where
 val:r.valid=true
 used:t.used.length=r.parts.length
 whr:t.whr.length=r.parts.length
 iss:t.iss.length=r.orders.length
 since:t.since.length=r.orders.length
 done:t.done.length=r.orders.length
 sincer:∀l∈t.since,l.length=r.parts.length
 doner:∀l∈t.done,l.length=r.parts.length
theorem RS.Wf.small {t:RS} {r:Reg} (h:t.Wf r):(t.hi r).Small:=by
 obtain⟨v1,v2,v3,v4,v5,v6,_⟩:=valid_facts h.val
 exact⟨by show(t.ps r).length≤1000; rw [RS.ps_len]; omega,by show r.kinds.length≤1000; omega,fun kd hk=>by have:=v6 kd hk; omega⟩
theorem RS.Wf.fit {t:RS} {r:Reg} (h:t.Wf r) {p:Nat} (hp:p<r.parts.length):(t.hi r).Fit (t.pt r p):=by
 obtain⟨v1,v2,v3,v4,v5,v6,v7,v8⟩:=valid_facts h.val
 have:=v7 _ (getD_mem hp)
 exact⟨this.1,this.2.1,h.iss,by simp [RS.pt,RS.hi,h.done],by simp [RS.pt,RS.hi,h.since],by show r.orders.length≤_; omega⟩
def RS.new (r:Reg):RS:={used:=r.parts.map fun p=>(p.hours,p.cycles),whr:=r.parts.map fun _=>(-1,-1),iss:=List.replicate r.orders.length false,since:=List.replicate r.orders.length (List.replicate r.parts.length 0),done:=List.replicate r.orders.length (List.replicate r.parts.length false)}
theorem RS.Wf.new {r:Reg} (h:r.valid=true):(RS.new r).Wf r:=
 ⟨h,by simp [RS.new],by simp [RS.new],by simp [RS.new],by simp [RS.new],by simp [RS.new],fun l hl=>by rw [(List.mem_replicate.1 hl).2]; simp,fun l hl=>by rw [(List.mem_replicate.1 hl).2]; simp⟩
def lsV (k n:Nat):V:=if n=0 then .nil else .bsl k 0 n
def lsB (rows:List (List V)) (ty:Nat):List Blk:=if rows.length=0 then []else [{z:=1,els:=rows,ty:=ty,cl:=false}]
theorem lsV_ne {k n:Nat} (h:0<n):lsV k n=.bsl k 0 n:=by unfold lsV; rw [if_neg (by omega)]
theorem lsB_ne {rows:List (List V)} {ty:Nat} (h:0<rows.length):lsB rows ty=[{z:=1,els:=rows,ty:=ty,cl:=false}]:=by unfold lsB; rw [if_neg (by omega)]
def snR (l:List (List Int)):List (List V):=l.mapIdx fun k x=>[.bsl 17629 k x.length]
def dnR (l:List (List Bool)):List (List V):=l.mapIdx fun k x=>[.bsl 17640 k x.length]
def cpB (l:List (Int × Int)):Blk:={z:=2,els:=l.map cycV,ty:=77}
def ibB (l:List Int):Blk:={z:=1,els:=l.map ri,ty:=3}
def bbB (l:List Bool):Blk:={z:=1,els:=l.map rb,ty:=4}
def cpL (t:RS):List (Nat × Site):=
 [(17607,{base:=0,blks:=[cpB t.used]}),(17610,{base:=0,blks:=[cpB t.whr]}),(17613,{base:=0,blks:=[bbB t.iss]}),
  (17631,{base:=0,blks:=lsB (snR t.since) 43}),(17629,{base:=0,blks:=t.since.map ibB}),(17642,{base:=0,blks:=lsB (dnR t.done) 166}),(17640,{base:=0,blks:=t.done.map bbB})]
abbrev cpK:List Nat:=[17607,17610,17613,17631,17629,17642,17640]
theorem cpL_keys (t:RS):(cpL t).map (·.1)=cpK:=rfl
def cpV (t:RS):V:=.agg [.bsl 17607 0 t.used.length,.bsl 17610 0 t.whr.length,.bsl 17613 0 t.iss.length,lsV 17631 t.since.length,lsV 17642 t.done.length]
section
variable [Gls] (s:RS) (h:Hp)
@[simp] theorem c17607:Ob cpL s h 17607={base:=0,blks:=[{z:=2,els:=s.used.map cycV,ty:=77}]}:=rfl
@[simp] theorem c17610:Ob cpL s h 17610={base:=0,blks:=[{z:=2,els:=s.whr.map cycV,ty:=77}]}:=rfl
@[simp] theorem c17613:Ob cpL s h 17613={base:=0,blks:=[{z:=1,els:=s.iss.map rb,ty:=4}]}:=rfl
@[simp] theorem c17631:Ob cpL s h 17631={base:=0,blks:=lsB (snR s.since) 43}:=rfl
@[simp] theorem c17629:Ob cpL s h 17629={base:=0,blks:=s.since.map ibB}:=rfl
@[simp] theorem c17642:Ob cpL s h 17642={base:=0,blks:=lsB (dnR s.done) 166}:=rfl
@[simp] theorem c17640:Ob cpL s h 17640={base:=0,blks:=s.done.map bbB}:=rfl
@[simp] theorem c_ne {k:Nat} (hn:cpK.contains k=false):Ob cpL s h k=h k:=ob_ne cpL_keys hn
@[simp] theorem c_c (s':RS):Ob cpL s (Ob cpL s' h)=Ob cpL s h:=ob_ob cpL_keys _ _ _
@[simp] theorem c_hget (k i:Nat):hget (Ob cpL s h) k i=if i<(Ob cpL s h k).base then none else (Ob cpL s h k).blks[i - (Ob cpL s h k).base]?:=rfl
@[simp] theorem c_hnext (k:Nat):hnext (Ob cpL s h) k=(Ob cpL s h k).base+(Ob cpL s h k).blks.length:=rfl
@[simp] theorem c_hpush {k:Nat} (hn:cpK.contains k=false) (B:Blk):hpush (Ob cpL s h) k B=Ob cpL s (hpush h k B):=ob_hpush cpL_keys hn B
theorem c_hset {k i:Nat} (hn:cpK.contains k=false) (B:Blk):hset (Ob cpL s h) k i B=Ob cpL s (hset h k i B):=ob_hset cpL_keys hn B
@[simp] theorem c_over {k:Nat} {S:Site} {L:List (Nat × Site)} (hn:(((k,S)::L).all fun p=>!cpK.contains p.1)=true):hps ((k,S)::L) (Ob cpL s h)=Ob cpL s (hps ((k,S)::L) h):=ob_over cpL_keys hn
end
section lend
variable [Gls]
theorem lendRs_mapIdx {α:Type} {g:V→Prop × V} {f:Nat→α→List V} {f':α→List V} {l:List α} (h:∀k x,l[k]?=some x→lendCs g (f k x)=(True,f' x)):lendRs g (l.mapIdx f)=(True,l.map f'):=by
 induction l generalizing f with
 | nil=>rfl
 | cons a r ih=>
  simp only [List.mapIdx_cons,List.map_cons,lendRs]
  rw [h 0 a rfl,ih (f:=fun k x=>f (k+1) x) fun k x hk=>h (k+1) x hk]
  simp
theorem lend_sn (s:RS) (h:Hp):lendN 3 (Ob cpL s h) (lsV 17631 s.since.length)=(True,snV s.since):=by
 by_cases hn:s.since.length=0
 ·have:s.since=[]:=List.length_eq_zero_iff.1 hn
  rw [hn]; simp [lsV,this,lendN,snV]
 ·have h0:¬ s.since=[]:=fun e=>hn (by rw [e]; rfl)
  rw [lsV_ne (by omega),snV_ne (by omega)]
  have hr:lendRs (lendN 2 (Ob cpL s h)) (snR s.since)=(True,s.since.map fun l=>[ints l]):=by
   refine lendRs_mapIdx fun k x hk=>?_
   have e:(s.since.map ibB)[k]?=some {z:=1,els:=x.map ri,ty:=3}:=by rw [List.getElem?_map,hk]; rfl
   simp [lendCs,lendN,V.leaf,e,lendB,ints]
  rw [lendN]
  simp only [c_hget,c17631,Nat.not_lt_zero,if_false,Nat.sub_zero]
  rw [lsB_ne (by simp [snR]; omega)]
  simp only [List.getElem?_cons_zero,lendB,hr]
  simp [snR]
theorem lend_dn (s:RS) (h:Hp):lendN 3 (Ob cpL s h) (lsV 17642 s.done.length)=(True,dnV s.done):=by
 by_cases hn:s.done.length=0
 ·have:s.done=[]:=List.length_eq_zero_iff.1 hn
  rw [hn]; simp [lsV,this,lendN,dnV]
 ·have h0:¬ s.done=[]:=fun e=>hn (by rw [e]; rfl)
  rw [lsV_ne (by omega),dnV_ne (by omega)]
  have hr:lendRs (lendN 2 (Ob cpL s h)) (dnR s.done)=(True,s.done.map fun l=>[bls l]):=by
   refine lendRs_mapIdx fun k x hk=>?_
   have e:(s.done.map bbB)[k]?=some {z:=1,els:=x.map rb,ty:=4}:=by rw [List.getElem?_map,hk]; rfl
   simp [lendCs,lendN,V.leaf,e,lendB,bls]
  rw [lendN]
  simp only [c_hget,c17642,Nat.not_lt_zero,if_false,Nat.sub_zero]
  rw [lsB_ne (by simp [dnR]; omega)]
  simp only [List.getElem?_cons_zero,lendB,hr]
  simp [dnR]
theorem leaf_lsV (k n:Nat):(lsV k n).leaf=true:=by unfold lsV; split<;>rfl
end lend
end Go.Sx
end
section
namespace Go.Sx
def HI.can (x:HI) (m h c:Int) (p:PS):Bool:=!(p.a == m) || (decide (h≤x.leftT p) && decide (c≤x.leftC p))
def HI.flies (x:HI) (m h c:Int):Bool:=decide (x.lacks m=[]) && x.ps.all (x.can m h c)
section core
variable {x y:HI}
theorem imin_le (h a b:Int):h≤imin a b↔h≤a∧h≤b:=by unfold imin; split<;>omega
theorem longG_le {h:Int} (h0:0≤h) (m c:Int):∀(l:List PS) (most:Int),h≤x.longG m c l most↔h≤most∧l.all (x.can m h c)=true
 | [],most=>by simp [HI.longG]
 | p::l,most=>by
  simp only [HI.longG,List.all_cons,Bool.and_eq_true]
  by_cases hm:p.a=m
  ·rw [if_pos hm]
   by_cases hc:x.leftC p<c
   ·rw [if_pos hc]
    have hcan:x.can m h c p=false:=by
     have:¬ c≤x.leftC p:=by omega
     simp [HI.can,hm,this]
    rw [hcan]; simp; omega
   ·rw [if_neg hc,longG_le h0 m c l,imin_le]
    have hcan:x.can m h c p=decide (h≤x.leftT p):=by
     have:c≤x.leftC p:=by omega
     simp [HI.can,hm,this]
    rw [hcan,decide_eq_true_eq,and_assoc]
  ·rw [if_neg hm,longG_le h0 m c l]
   have hcan:x.can m h c p=true:=by simp [HI.can,hm]
   rw [hcan]; simp
theorem longest_flies {h:Int} (h0:0≤h) (h1:h≤100) (m c:Int):decide (h≤x.longest m c)=x.flies m h c:=by
 by_cases hl:x.lacks m=[]
 ·simp only [HI.longest,HI.flies,hl,if_true,decide_true,Bool.true_and]
  have:=longG_le (x:=x) h0 m c x.ps 100
  cases ha:x.ps.all (x.can m h c)
  ·rw [ha]at this; exact decide_eq_false fun hh=>by simpa using (this.1 hh).2
  ·rw [ha]at this; exact decide_eq_true (this.2 ⟨h1,rfl⟩)
 ·simp only [HI.longest,HI.flies,hl,if_false,decide_false,Bool.false_and]
  simp; omega
end core
theorem getD_set_ne {α:Type} {l:List α} {i j:Nat} {x d:α} (h:i≠j):(l.set i x).getD j d=l.getD j d:=by simp [List.getD,List.getElem?_set_ne h]
theorem getD_set_eq {α:Type} {l:List α} {i:Nat} {x d:α} (h:i<l.length):(l.set i x).getD i d=x:=by simp [List.getD,h]
def RS.partA (r:Reg) (n:Int):Bool:=withinB n 0 (wsub r.parts.length 1)
end Go.Sx
end
end
