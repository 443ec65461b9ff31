/- A part of a proof; no conditions. -/
import Derived.Test.YtfhdpblkdgmnfaaGreatDoorP28
set_option linter.unusedSimpArgs false
set_option linter.unusedVariables false
set_option linter.unusedSectionVars false
set_option maxRecDepth 100000
set_option maxHeartbeats 8000000
noncomputable section
section
namespace Go.Sx
open Go.Proofs
attribute [local irreducible] HLe
@[simp] def ckE (d:Ro × List Du × Bool):List V:=[.agg d.1.row,.sl 3 (d.2.1.map Du.row),.bool d.2.2]
theorem ckE_inj (a b:Ro × List Du × Bool) (h:ckE a=ckE b):a=b:=by
 obtain⟨a1,a2,a3⟩:=a; obtain⟨b1,b2,b3⟩:=b
 simp only [ckE,List.cons.injEq,V.agg.injEq,V.sl.injEq,V.bool.injEq,true_and,and_true]at h
 rw [Ro.row_inj _ _ h.1,mapRow_inj Du.row_inj h.2.1,h.2.2]
theorem ckE_dec (r:Ro) (l:List Du) (b:Bool):decC ckE [.agg [.sl 3 (r.ppl.map Pn.row),.int .i64 r.lng,.int .i64 r.rst,.int .i64 r.win,.int .i64 r.tot,.int .i64 r.rcn],.sl 3 (l.map Du.row),.bool b]=(r,l,b):=decC_eq ckE_inj (r,l,b)
abbrev ckS:PSpec:=mkP ckE (fun d=>ChP (d.1,d.2.1)) fun d=>.int .i64 (chk2W srtD d.1 d.2.1 d.2.2)
@[simp] def clE (c:Cl):List V:=[.agg c.row]
theorem clE_inj (a b:Cl) (h:clE a=clE b):a=b:=Cl.row_inj _ _ (by simpa using h)
theorem clE_dec (c:Cl):decC clE [.agg [.int .i64 c.a,.int .i64 c.b,.int .i64 c.craft,.bool c.water]]=c:=decC_eq clE_inj c
abbrev callS:PSpec:=mkP clE (fun _=>True) fun c=>.bool (callW c)
@[simp] def whE (d:Ro × List Du × Int × Cl):List V:=[.agg d.1.row,.sl 3 (d.2.1.map Du.row),.int .i64 d.2.2.1,.agg d.2.2.2.row]
theorem whE_inj (a b:Ro × List Du × Int × Cl) (h:whE a=whE b):a=b:=by
 obtain⟨a1,a2,a3,a4⟩:=a; obtain⟨b1,b2,b3,b4⟩:=b
 simp only [whE,List.cons.injEq,V.agg.injEq,V.sl.injEq,V.int.injEq,true_and,and_true]at h
 rw [Ro.row_inj _ _ h.1,mapRow_inj Du.row_inj h.2.1,h.2.2.1,Cl.row_inj _ _ h.2.2.2]
theorem whE_dec (r:Ro) (l:List Du) (n:Int) (c:Cl):decC whE [.agg [.sl 3 (r.ppl.map Pn.row),.int .i64 r.lng,.int .i64 r.rst,.int .i64 r.win,.int .i64 r.tot,.int .i64 r.rcn],.sl 3 (l.map Du.row),.int .i64 n,.agg [.int .i64 c.a,.int .i64 c.b,.int .i64 c.craft,.bool c.water]]=(r,l,n,c):=decC_eq whE_inj (r,l,n,c)
structure WhP (d:Ro × List Du × Int × Cl):Prop where
 fit:d.1.Fit
 len:d.2.1.length≤60
 beg:∀x∈d.2.1,0≤x.a∧x.a≤9223372036854775807
 n:0≤d.2.2.1∧d.2.2.1≤d.1.ppl.length - 1
 call:callW d.2.2.2=true
theorem WhP.of {r:Ro} {l:List Du} {n:Int} {c:Cl} (h:(chkEW srtD r l).2=0) (hn:0≤n∧n≤r.ppl.length - 1) (hc:callW c=true):WhP (r,l,n,c):=by
 unfold chkEW at h
 split at h
 ·rename_i h1
  split at h
  ·simp at h
  ·rename_i h2
   split at h
   ·simp at h
   ·rename_i h3
    refine⟨Ro.ok_iff.1 h1,by simpa using h2,?_,hn,hc⟩
    have hb:badDuW srtD r l = -1:=by
     apply Classical.byContradiction
     intro hne
     obtain⟨k,_,e,_⟩:=idxZ_some hne
     exact h3 (by rw [badDuW,e]; omega)
    have hall:∀j,j<l.length→duOkW srtD r l j=true:=by
     intro j hj
     apply Classical.byContradiction
     intro hne
     have:idxZ (List.range l.length) (fun i=>!duOkW srtD r l i)≠-1:=by
      intro e
      have h0:=idxZ_any (List.range l.length) (fun i=>!duOkW srtD r l i)
      rw [e,decide_eq_false (by omega)]at h0
      have:=(List.any_eq_false.1 h0.symm) j (List.mem_range.2 hj)
      simp at this; exact hne this
     exact this hb
    have:=duOkW_begs (r:=r) (Nat.le_refl l.length) hall
    rwa [List.take_length]at this
 ·simp at h
abbrev whyS:PSpec:=mkP whE WhP fun d=>ints (whyW srtD d.1 d.2.1 d.2.2.1 d.2.2.2)
theorem bit_of {x k:Int} (hx:0≤x∧x≤255) (hk:0≤k∧k≤7):bitw .and .i64 (shrV .i64 x k) 1=if bit1 x k=true then 1 else 0:=by
 obtain⟨a,rfl⟩:∃a:Nat,x=a:=⟨x.toNat,by omega⟩
 obtain⟨n,rfl⟩:∃n:Nat,k=n:=⟨k.toNat,by omega⟩
 have h:sr a n<9223372036854775808:=Nat.lt_of_le_of_lt (Nat.shiftRight_le a n) (by omega)
 rw [bit_shr a n (by omega),show(1:Int)=((1:Nat):Int)from rfl,bit_and h (by omega),bit_one]
 unfold bit1
 simp only [Int.toNat_natCast]
 split<;>rfl
abbrev E30:Env:={P:=Tryz.prog,fn:=tbl [(33,.pure ofS),(34,.pure brkS)],own:=[],key:=3000,nt:=50}
theorem b30:PureBody E30 [] Tryz.f30 whyS:=by
 refine pb ?_
 rintro⟨r,l,n,c⟩ ⟨hf,hl,hb,hn,hcall⟩
 simp only at hf hl hb hn hcall
 obtain⟨k,rfl⟩:∃k:Nat,n=k:=⟨n.toNat,by omega⟩
 have hk:k<r.ppl.length:=by omega
 have hki:(k:Int)<r.ppl.length:=by omega
 obtain⟨p,hp⟩:∃p,r.ppl[k]?=some p:=⟨_,List.getElem?_eq_getElem hk⟩
 have hp':r.ppl[k]=p:=(List.getElem?_eq_some_iff.1 hp).2
 have hpa:pnAt r k=p:=by simp [pnAt,List.getD,hp]
 have hpo:=hf.p p (by rw [←hp']; exact List.getElem_mem hk)
 have hrat:0≤p.rat∧p.rat≤255:=by
  simp only [Pn.ok,Bool.and_eq_true,decide_eq_true_eq]at hpo; exact hpo.1.1
 have hcr:0≤c.craft∧c.craft≤7:=by
  simp only [callW,Bool.and_eq_true,decide_eq_true_eq]at hcall; exact hcall.2
 have hst:strW c.a c.b=true:=by
  simp only [callW,Bool.and_eq_true]at hcall; exact hcall.1
 have hbit:=bit_of hrat hcr
 have hsb:=strW_beg hst
 have hll:l.length≤1000000:=by omega
 have hBg:Beg (own l k++[⟨k,c.a,c.b⟩]):=⟨by have:=own_len l k; simp; omega,fun x hx=>by
  rcases List.mem_append.1 hx with h|h
  ·exact hb x (own_mem.1 h).1
  ·exact List.mem_singleton.1 h ▸ hsb⟩
 have hW:whyW srtD r l k c=(if bit1 p.rat c.craft=true then []else [1])++(if c.water=true∧p.dive<c.b then [2]else [])++brkW srtD r (own l k) ⟨k,c.a,c.b⟩:=by unfold whyW; rw [hpa]
 have hBl:(brkW srtD r (own l k) ⟨k,c.a,c.b⟩).length≤4:=by
  unfold brkW
  simp only [List.length_append]
  split<;>split<;>split<;>split<;>simp
 generalize hB:brkW srtD r (own l k) ⟨k,c.a,c.b⟩=B at *
 have hre:=reE_dec r (own l k) ⟨k,c.a,c.b⟩
 simp only at hre
 have hd:(decide (p.dive<c.b))=decide (p.dive<c.b):=rfl
 cases h1:bit1 p.rat c.craft<;>rw [h1]at hbit hW
 all_goals
  cases h2:c.water<;>rw [h2]at hW
  ·simp at hW
   simp -dsimp [Tryz.f30,E30,Ro.row,pplV,Cl.row]
   repeat' (first|omega|simp -dsimp [E30,ri,cellp,ints,Ro.row,pplV,Cl.row,Pn.row,bkRow,hk,hki,hp,hp',hbit,hll,ofE_dec,hre,hBg,hB,hBl,h2,hW]|refine aI ?_ fun _=>?_|refine oI fun _=>?_|refine nI ?_ ?_)
  ·by_cases h3:p.dive<c.b
   ·simp [h3]at hW
    simp -dsimp [Tryz.f30,E30,Ro.row,pplV,Cl.row]
    repeat' (first|omega|simp -dsimp [E30,ri,cellp,ints,Ro.row,pplV,Cl.row,Pn.row,bkRow,hk,hki,hp,hp',hbit,hll,ofE_dec,hre,hBg,hB,hBl,h2,h3,hW]|refine aI ?_ fun _=>?_|refine oI fun _=>?_|refine nI ?_ ?_)
   ·simp [h3]at hW
    have h3':(p.dive<c.b)=False:=eq_false h3
    simp -dsimp [Tryz.f30,E30,Ro.row,pplV,Cl.row]
    repeat' (first|omega|simp -dsimp [E30,ri,cellp,ints,Ro.row,pplV,Cl.row,Pn.row,bkRow,hk,hki,hp,hp',hbit,hll,ofE_dec,hre,hBg,hB,hBl,h2,h3',hW]|refine aI ?_ fun _=>?_|refine oI fun _=>?_|refine nI ?_ ?_)
end Go.Sx
end
section
namespace Go.Sx
open Go.Proofs
attribute [local irreducible] HLe
def whyO (r:Ro) (l:List Du) (n:Int) (c:Cl):List Int × Int:=
 if chk2W srtD r l (withinB n 0 (r.ppl.length - 1) && callW c)=0 then (whyW srtD r l n c,0)else ([],chk2W srtD r l (withinB n 0 (r.ppl.length - 1) && callW c))
structure WyP (d:Ro × List Du × Int × Cl):Prop where
 p:d.1.ppl.length≤100000000000000
 n:d.2.1.length≤100000000000000
abbrev WhyS:PSpec:=mkP whE WyP fun d=>.tup [ints (whyO d.1 d.2.1 d.2.2.1 d.2.2.2).1,.int .i64 (whyO d.1 d.2.1 d.2.2.1 d.2.2.2).2]
theorem chk2_zero {r:Ro} {l:List Du} {b:Bool} (h:chk2W srtD r l b=0):(chkEW srtD r l).2=0∧b=true:=by
 unfold chk2W at h
 split at h
 ·split at h
  ·exact⟨by assumption,by assumption⟩
  ·omega
 ·exact absurd h (by assumption)
abbrev E12:Env:={P:=Tryz.prog,fn:=tbl [(27,.pure ckS),(28,.pure withinS),(29,.pure callS),(30,.pure whyS)],own:=[],key:=1200,nt:=32}
theorem b12:PureBody E12 [] Tryz.f12 WhyS:=by
 refine pb ?_
 rintro⟨r,l,n,c⟩ ⟨hp,hl⟩
 simp only at hp hl
 have hwp:IntKind.wrap .i64 ((r.ppl.length:Int) - 1)=r.ppl.length - 1:=wrap_id (by omega) (by omega)
 have hK:whyO r l n c=if chk2W srtD r l (withinB n 0 (r.ppl.length - 1) && callW c)=0 then (whyW srtD r l n c,0)else ([],chk2W srtD r l (withinB n 0 (r.ppl.length - 1) && callW c)):=rfl
 have hCP:ChP (r,l):=⟨hp,hl⟩
 cases h1:withinB n 0 (r.ppl.length - 1)<;>rw [h1]at hK
 ·generalize he:chk2W srtD r l (false && callW c)=e at hK
  have he1:chk2W srtD r l false=e:=he
  have h0:¬ e=0:=fun h=>by have:=(chk2_zero (he1.trans h)).2; cases this
  have h0':(e=0)=False:=eq_false h0
  rw [if_neg h0]at hK
  simp -dsimp [Tryz.f12,E12,Ro.row,pplV,Cl.row]
  repeat' (first|omega|simp -dsimp [E12,ri,cellp,ints,Ro.row,pplV,Cl.row,ckE_dec,hCP,hwp,h1,he1,h0',hK]|refine aI ?_ fun _=>?_|refine oI fun _=>?_|refine nI ?_ ?_)
 ·generalize h2:callW c=b at hK
  generalize he:chk2W srtD r l (true && b)=e at hK
  have he1:chk2W srtD r l b=e:=he
  by_cases h0:e=0
  ·subst h0
   rw [if_pos rfl]at hK
   obtain⟨z1,z2⟩:=chk2_zero he1
   subst z2
   have hn:0≤n∧n≤r.ppl.length - 1:=by simpa [withinB]using h1
   have hW:=WhP.of z1 hn h2
   simp -dsimp [Tryz.f12,E12,Ro.row,pplV,Cl.row]
   repeat' (first|omega|simp -dsimp [E12,ri,cellp,ints,Ro.row,pplV,Cl.row,ckE_dec,clE_dec,whE_dec,hCP,hwp,h1,h2,he1,hW,hK]|refine aI ?_ fun _=>?_|refine oI fun _=>?_|refine nI ?_ ?_)
  ·rw [if_neg h0]at hK
   have h0':(e=0)=False:=eq_false h0
   simp -dsimp [Tryz.f12,E12,Ro.row,pplV,Cl.row]
   repeat' (first|omega|simp -dsimp [E12,ri,cellp,ints,Ro.row,pplV,Cl.row,ckE_dec,clE_dec,hCP,hwp,h1,h2,he1,h0',hK]|refine aI ?_ fun _=>?_|refine oI fun _=>?_|refine nI ?_ ?_)
@[simp] def utE (d:Ro × List Du × Int × Int):List V:=[.agg d.1.row,.sl 3 (d.2.1.map Du.row),.int .i64 d.2.2.1,.int .i64 d.2.2.2]
structure UtP (d:Ro × List Du × Int × Int):Prop where
 p:d.1.ppl.length≤100000000000000
 n:d.2.1.length≤100000000000000
end Go.Sx
end
section
namespace Go.Sx
open Go.Proofs
attribute [local irreducible] HLe
def prw (p:Int × Int):List V:=[.int .i64 p.1,.int .i64 p.2]
@[simp] def crE (d:Ro × List Du × Cl):List V:=[.agg d.1.row,.sl 3 (d.2.1.map Du.row),.agg d.2.2.row]
theorem crE_inj (a b:Ro × List Du × Cl) (h:crE a=crE b):a=b:=by
 obtain⟨a1,a2,a3⟩:=a; obtain⟨b1,b2,b3⟩:=b
 simp only [crE,List.cons.injEq,V.agg.injEq,V.sl.injEq,true_and,and_true]at h
 rw [Ro.row_inj _ _ h.1,mapRow_inj Du.row_inj h.2.1,Cl.row_inj _ _ h.2.2]
structure CrP (e:Ro × List Du × Cl):Prop where
 p:e.1.ppl.length≤100000000000000
 n:e.2.1.length≤100000000000000
section
variable (r:Ro) (l:List Du) (c:Cl)
end
end Go.Sx
end
end
