/- FleetParts: the law. No conditions. -/
import Derived.Test.YtfhdpblkdgmnfaaGreatDoorP45
import Derived.Test.YtfhdpblkdgmnfaaGreatDoorP18
import Derived.Test.YtfhdpblkdgmnfaaGreatDoorP33
set_option linter.unusedSimpArgs false
set_option linter.unusedVariables false
set_option linter.unusedSectionVars false
set_option maxRecDepth 100000
set_option maxHeartbeats 8000000
noncomputable section
namespace Go.Sx
open Go.Proofs
attribute [local irreducible] HLe
def usK (l:List Sr) (m:Int) (k:Nat):Bool:=(l.take k).any fun x=>decide (x.m=m)
theorem usK_succ {l:List Sr} {m:Int} {k:Nat} {x:Sr} (h:l[k]?=some x):usK l m (k+1)=(usK l m k || decide (x.m=m)):=by
 simp [usK,List.take_add_one,h]
abbrev lawFpS:PSpec:=mkP flpE RiP fun _=>.bool true
abbrev E4:Env:={P:=Tryz.prog,fn:=tbl [(15,.pure rigS),(16,.pure worksS),(11,.pure BloS),(17,.pure longFS),(18,.pure checkFS)],own:=[],key:=400,nt:=109,frz:=[(1,[2,50002])]}
theorem b4:PureBody E4 [(19,([1],[[0,1,2,3,4,5,6,7,8,9,10,11,12,13,14,15]]))] Tryz.f4 lawFpS:=by
 refine pb ?_
 rintro⟨f,l⟩ hRi
 have hP:=hRi.p
 have hl:=hRi.l
 simp only at hP hl
 cases hR:rigB f l
 case false=>
  simp -dsimp [Tryz.f4,E4]
  repeat' (first|omega|simp -dsimp [E4,ri,cellp,ints,flpE_dec,hRi,hR]|refine aI ?_ fun _=>?_|refine oI fun _=>?_|refine nI ?_ ?_)
 obtain⟨hlg,h4,hK,hG⟩:=rig_of hR
 have hf:=hK.ok
 have hbs:=hf.bas
 have hm4:=hf.mach4
 have hho:=hf.hour
 have hwk:f.wks.length≤12:=by
  have h1:=(opE_inv hf.op).2.1
  simp only [lgB,Bool.or_eq_false_iff,Bool.and_eq_false_iff,decide_eq_false_iff_not]at hlg
  omega
 have hFi:=fineF hf.op
 have hsr:=hG.sr
 simp -dsimp [Tryz.f4,E4]
 repeat' (first|omega|simp -dsimp [E4,ri,cellp,ints,flpE_dec,hRi,hR]|refine aI ?_ fun _=>?_|refine oI fun _=>?_|refine nI ?_ ?_)
 refine awp_loop [23,24,25,26,27,6,7,8,30,31,32,33,36,37,38,39,40,41,42,44,45,46,47,48,49,50,51,43,52,53,54,55,9,10,11,12,56,57,4,58,59,60,34,35,61,62,63,64,65,66,67,68,69,70,13,72,73,74,75,76,77,71,78,79,14,15,81,82,83,84,85,86,87,88,89,90,91,80,92,93,16,17,94,95,96,97,98,99,100,101,102,103,104,105,106,107,28,29,5] (fun p:{p:Er2 // p.a≤f.bas.length}=>[(5,(true,.int .i64 p.1.a))]) (fun p=>hps [(485,{base:=p.1.b,blks:=[]}),(402,fS f)] noH) (fun p=>f.bas.length - p.1.a) ⟨⟨0,0⟩,by simp⟩ ?_ ?_ ?_
 ·simp [okAll,okv]
 ·exact(by(try simp -dsimp only [hpx]); refine hle_hps ?_; simp -dsimp [allK,fS]<;>exact rz)
 rintro⟨⟨m,c⟩,hm⟩
 dsimp only at hm ⊢
 by_cases hm1:m<f.bas.length
 case neg=>
  have hmn:¬ (m:Int)<f.bas.length:=by omega
  simp -dsimp [hmn,fS]
  repeat' (first|omega|simp -dsimp [E4,ri,cellp,ints,hmn]|refine aI ?_ fun _=>?_|refine oI fun _=>?_|refine nI ?_ ?_)
 have hmi:(m:Int)<f.bas.length:=by omega
 have wm:IntKind.wrap .i64 ((m:Int)+1)=(m+1:Nat):=wrap_id (by omega) (by omega)
 have u0:usK l m 0=false:=by simp [usK]
 have a0:airM f m (l.take 0)=0:=by simp [airM]
 simp -dsimp [hmi,fS]
 repeat' (first|omega|simp -dsimp [E4,ri,cellp,ints,hmi]|refine aI ?_ fun _=>?_|refine oI fun _=>?_|refine nI ?_ ?_)
 refine awp_loop [30,31,32,33,36,37,38,39,40,41,42,44,45,46,47,48,49,50,51,43,52,53,54,55,9,10,11,12,56,57,4,58,59,60,6,7,34,35,8] (fun k:{k:Nat // k≤l.length}=>[(8,(true,.int .i64 k.1)),(6,(true,.int .i64 (airM f m (l.take k.1)))),(7,(true,.bool (usK l m k.1)))]) (fun _=>hps [(485,{base:=c,blks:=[]}),(402,fS f)] noH) (fun k=>l.length - k.1) ⟨0,by omega⟩ ?_ ?_ ?_
 ·simp [okAll,okv,u0,airM]
 ·exact(by(try simp -dsimp only [hpx]); refine hle_hps ?_; simp -dsimp [allK,fS]<;>exact rz)
 rintro⟨k,hk⟩
 dsimp only
 have hab:=airM_bd hf (m:Int) (l:=l.take k) fun x hx=>hsr x (List.mem_of_mem_take hx)
 have htl:(l.take k).length≤4:=by simp; omega
 by_cases hk1:k<l.length
 ·have hki:(k:Int)<l.length:=by omega
  have wk:IntKind.wrap .i64 ((k:Int)+1)=(k+1:Nat):=wrap_id (by omega) (by omega)
  obtain⟨x,hx⟩:∃x,l[k]?=some x:=⟨_,List.getElem?_eq_getElem hk1⟩
  have hx':l[k]=x:=(List.getElem?_eq_some_iff.1 hx).2
  have hxd:l.getD k default=x:=by simp [List.getD,hx]
  have hN:=hG.nx hk1
  rw [hxd]at hN
  have hS:=hN.sr
  have hU:=usK_succ (m:=(m:Int)) hx
  have hA:=airM_succ (f:=f) (m:=(m:Int)) hx
  have hoa:oaB f x.j.toNat x.m.toNat=true:=by
   rcases hN.opn with h|h
   ·cases h
   ·exact h
  have hBl:BlP (f,x.j,x.m):=⟨hS.jm hK,hN.can,hoa⟩
  have hab2:=(hS.bk hf).2.2
  have hbk:bkS f x=bkV f x.j.toNat x.m.toNat:=rfl
  rw [hbk]at hA hab2
  obtain⟨xj,xm,xc,xk⟩:=x
  simp only at hA hU hBl hab2
  by_cases hmm:xm=m
  ·subst hmm
   rw [if_pos rfl]at hA
   rw [decide_eq_true rfl,Bool.or_true]at hU
   have hne:(((m:Int):Int) != m)=false:=by simp
   simp only [Int.toNat_natCast]at hA hab2
   generalize hB:bkV f xj.toNat m=B at *
   obtain⟨b1,b2,b3,b4⟩:=B
   simp only at hA hab2
   generalize hA1:airM f m (l.take (k+1))=A1 at *
   generalize airM f m (l.take k)=A0 at *
   generalize hU1:usK l m (k+1)=U1 at *
   have wA:IntKind.wrap .i64 (A0+b4)=A0+b4:=wrap_id (by omega) (by omega)
   simp -dsimp [hki,fS]
   repeat' (first|omega|simp -dsimp [E4,ri,cellp,ints,hki,hk1,hx,hx',Sr.row,fl2E_dec,hBl,hB,hne,wA,wk]|refine aI ?_ fun _=>?_|refine oI fun _=>?_|refine nI ?_ ?_)
   refine⟨k+1,tle_chain rfl ?_,?_,by omega,by omega⟩
   ·simp [okAll,okv,hA1,hA,hU1,hU]
   ·exact(by(try simp -dsimp only [hpx]); refine hle_hps ?_; simp -dsimp [allK,fS]<;>exact rz)
  ·rw [if_neg hmm,Int.add_zero]at hA
   rw [decide_eq_false hmm,Bool.or_false]at hU
   have hne:((xm:Int) != m)=true:=by simpa using hmm
   generalize hA1:airM f m (l.take (k+1))=A1 at *
   generalize airM f m (l.take k)=A0 at *
   generalize hU1:usK l m (k+1)=U1 at *
   generalize usK l m k=U0 at *
   simp -dsimp [hki,fS]
   repeat' (first|omega|simp -dsimp [E4,ri,cellp,ints,hki,hk1,hx,hx',Sr.row,hne,wk]|refine aI ?_ fun _=>?_|refine oI fun _=>?_|refine nI ?_ ?_)
   refine⟨k+1,tle_chain rfl ?_,?_,by omega,by omega⟩
   ·simp [okAll,okv,hA1,hA,hU1,hU]
   ·exact(by(try simp -dsimp only [hpx]); refine hle_hps ?_; simp -dsimp [allK,fS]<;>exact rz)
 have hkn:¬ (k:Int)<l.length:=by omega
 have hke:k=l.length:=by omega
 subst hke
 rw [List.take_length]at hab ⊢
 cases hu:usK l m l.length
 ·simp -dsimp [hkn,fS]
  repeat' (first|omega|simp -dsimp [E4,ri,cellp,ints,hkn,hu,wm]|refine aI ?_ fun _=>?_|refine oI fun _=>?_|refine nI ?_ ?_)
  refine⟨⟨m+1,c⟩,?_,?_,by simp only; omega,by simp only; omega⟩
  ·refine tle_kept (kept_upds rfl (kept_forget rfl (kept_upds rfl kept_base))) ?_
   simp [okAll,okv]
  ·exact(by(try simp -dsimp only [hpx]); refine hle_hps ?_; simp -dsimp [allK,fS]<;>exact rz)
 obtain⟨x,hx,hxm⟩:∃x∈l,x.m=(m:Int):=by
  rw [usK,List.take_length,List.any_eq_true]at hu
  obtain⟨x,hx,h⟩:=hu
  exact⟨x,hx,of_decide_eq_true h⟩
 obtain⟨g1,g2⟩:=hG.air x hx
 have hfly:=hG.fly hf (by omega) hx
 rw [hxm]at g1 g2 hfly
 rw [show((m:Int)).toNat=m from Int.toNat_natCast m]at g1 g2
 obtain⟨e1,e2⟩:=hrF_long g1
 have g100:=(hrF_bd (f:=f) m).2
 have hup:=upH_le hab.1 hho.1 g2
 have hFi2:RLM.Fine ⟨f.reg,f.wks,(m:Int),0⟩:=hFi
 have hFi3:RL.Fine ⟨f.reg,f.wks++[⟨1,(m:Int),upH (airM f m l) f.hour,0⟩]⟩:=by
  obtain⟨z1,z2,z3,z4⟩:=hFi
  exact⟨z1,z2,z3,by simp only [List.length_append,List.length_singleton]; omega⟩
 have hd:=rlE_dec f.reg (f.wks++[⟨1,(m:Int),upH (airM f m l) f.hour,0⟩])
 simp only [List.map_append,List.map_cons,List.map_nil,Wk.row]at hd
 have hnh:hrF f m * f.hour≤10000:=by
  have:=Int.mul_le_mul g100 hho.2 (by omega) (by omega)
  omega
 have hnh0:0≤hrF f m * f.hour:=Int.mul_nonneg g1 (by omega)
 have hUd:upH (airM f m l) f.hour=(airM f m l+f.hour - 1).tdiv f.hour:=rfl
 have hh0:f.hour≠0:=by omega
 generalize upH (airM f m l) f.hour=U at *
 generalize airM f m l=A at *
 generalize hrF f m=H at *
 have w1:IntKind.wrap .i64 (A+f.hour)=A+f.hour:=wrap_id (by omega) (by omega)
 have w2:IntKind.wrap .i64 (A+f.hour - 1)=A+f.hour - 1:=wrap_id (by omega) (by omega)
 have w3:IntKind.wrap .i64 U=U:=wrap_id (by omega) (by omega)
 have w4:IntKind.wrap .i64 (H * f.hour)=H * f.hour:=wrap_id (by omega) (by omega)
 have hgt:(H * f.hour<A)=False:=eq_false (by omega)
 have hbb:f.wks.length * 32≤140737488355328:=by omega
 have hbb2:(f.wks.length+1) * 32≤140737488355328:=by omega
 simp -dsimp [hkn,fS]
 repeat' (first|omega|simp -dsimp [E4,ri,cellp,ints,hkn,hu,wm,w1,w2,hUd.symm,w3,w4,hh0,hgt,rmE_dec0,hFi2,e1,e2,hd,hFi3,hfly,hbb,hbb2,Wk.row,FreeAt,FoOk]|refine aI ?_ fun _=>?_|refine oI fun _=>?_|refine nI ?_ ?_)
 refine⟨⟨m+1,c+1⟩,?_,?_,by simp only; omega,by simp only; omega⟩
 ·refine tle_kept (kept_upds rfl (kept_forget rfl (kept_upds rfl kept_base))) ?_
  simp [okAll,okv]
 ·exact(by(try simp -dsimp only [hpx]); refine hle_hps ?_; simp -dsimp [allK,fS]<;>exact rz)
theorem ok4:FO 4 lawFpS:=pf b4 (.cons ok15 (.cons ok16 (.cons ok11 (.cons ok17 (.cons ok18 .nil)))))
end Go.Sx
end
