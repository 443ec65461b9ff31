/- FleetParts: the law. No conditions. -/
import Derived.Test.YtfhdpblkdgmnfaaGreatDoorP46
import Derived.Test.YtfhdpblkdgmnfaaGreatDoorP18
import Derived.Test.YtfhdpblkdgmnfaaGreatDoorP33
set_option linter.unusedSimpArgs false
set_option linter.unusedVariables false
set_option linter.unusedSectionVars false
set_option maxRecDepth 100000
set_option maxHeartbeats 8000000
noncomputable section
namespace Go.Sx
open Go.Proofs
attribute [local irreducible] bA
def RX (l:List Sr) (m:Int) (k:Nat):Bool:=(l.take k).any fun x=>decide (x.m=m)
theorem RY {l:List Sr} {m:Int} {k:Nat} {x:Sr} (h:l[k]?=some x):RX l m (k+1)=(RX l m k || decide (x.m=m)):=by
 simp [RX,List.take_add_one,h]
noncomputable abbrev H7:aB:=bS yU RiP fun _=>.bool true
noncomputable abbrev E4:Env:={P:=Tryz.prog,fn:=bf [(15,.pure XM),(16,.pure C0),(11,.pure MH),(17,.pure rS),(18,.pure mc)],own:=[],key:=400,nt:=109,jQ:=[(1,[2,50002])]}
theorem b4:af E4 [(19,([1],[[0,1,2,3,4,5,6,7,8,9,10,11,12,13,14,15]]))] Tryz.f4 H7:=pb <| by
 rintro⟨f,l⟩ XN
 have hP:=XN.p
 have hl:=XN.l
 simp only at hP hl
 cases hR:AB f l
 case false=>
  simp -dsimp [Tryz.f4,E4]
  repeat' (first|omega|simp -dsimp [E4,ri,aa,ints,gO,XN,hR]|apply aI|refine oI fun _=>?_|apply nI)
 obtain⟨hlg,h4,hK,hG⟩:=RZ hR
 have hf:=hK.ok
 have oG:=hf.dU
 have hm4:=hf.JJ
 have hho:=hf.hour
 have hwk:f.ko.length≤12:=by
  have h1:=(qz hf.op).2.1
  simp only [R5,Bool.or_eq_false_iff,Bool.and_eq_false_iff,decide_eq_false_iff_not]at hlg
  omega
 have hFi:=PW hf.op
 have H8:=hG.sr
 simp -dsimp [Tryz.f4,E4]
 repeat' (first|omega|simp -dsimp [E4,ri,aa,ints,gO,XN,hR]|apply aI|refine oI fun _=>?_|apply nI)
 refine ay [23,24,25,26,27,6,7,8,30,31,32,33,36,37,38,39,40,41,42,44,45,46,47,48,49,50,51,43,52,53,54,55,9,10,11,12,56,57,4,58,59,60,34,35,61,62,63,64,65,66,67,68,69,70,13,72,73,74,75,76,77,71,78,79,14,15,81,82,83,84,85,86,87,88,89,90,91,80,92,93,16,17,94,95,96,97,98,99,100,101,102,103,104,105,106,107,28,29,5] (fun p:{p:Er2 // p.a≤f.dU.length}=>[(5,(true,.int .i64 p.1.a))]) (fun p=>hps [(485,{base:=p.1.b,ah:=[]}),(402,fS f)] cg) (fun p=>f.dU.length - p.1.a) ⟨⟨0,0⟩,by simp⟩ ?_ ?_ ?_
 ·simp [aj,aT]
 ·(try simp -dsimp only [hpx]); refine ai ?_; simp -dsimp [aC,fS]<;>exact rz
 rintro⟨⟨m,c⟩,hm⟩
 dsimp only at hm ⊢
 by_cases jW:m<f.dU.length
 case neg=>
  have hmn:¬ (m:Int)<f.dU.length:=by omega
  simp -dsimp [hmn,fS]
  repeat' (first|omega|simp -dsimp [E4,ri,aa,ints,hmn]|apply aI|refine oI fun _=>?_|apply nI)
 have oh:(m:Int)<f.dU.length:=by omega
 have wm:=wx m
 have u0:RX l m 0=false:=by simp [RX]
 have a0:fA f m (l.take 0)=0:=by simp [fA]
 simp -dsimp [oh,fS]
 repeat' (first|omega|simp -dsimp [E4,ri,aa,ints,oh]|apply aI|refine oI fun _=>?_|apply nI)
 refine ay [30,31,32,33,36,37,38,39,40,41,42,44,45,46,47,48,49,50,51,43,52,53,54,55,9,10,11,12,56,57,4,58,59,60,6,7,34,35,8] (fun k:{k:Nat // k≤l.length}=>[(8,(true,.int .i64 k.1)),(6,(true,.int .i64 (fA f m (l.take k.1)))),(7,(true,.bool (RX l m k.1)))]) (fun _=>hps [(485,{base:=c,ah:=[]}),(402,fS f)] cg) (fun k=>l.length - k.1) ⟨0,by omega⟩ ?_ ?_ ?_
 ·simp [aj,aT,u0,fA]
 ·(try simp -dsimp only [hpx]); refine ai ?_; simp -dsimp [aC,fS]<;>exact rz
 rintro⟨k,hk⟩
 dsimp only
 have hab:=xz hf (m:Int) (l:=l.take k) fun x hx=>H8 x (List.mem_of_mem_take hx)
 have htl:(l.take k).length≤4:=by simp; omega
 by_cases aH:k<l.length
 ·have hki:(k:Int)<l.length:=by omega
  have wk:=wx k
  obtain⟨x,hx,hx'⟩:=gx aH
  have O5:l.getD k default=x:=by simp [List.getD,hx]
  have hN:=hG.nx aH
  rw [O5]at hN
  have hS:=hN.sr
  have hU:=RY (m:=(m:Int)) hx
  have hA:=Nh (f:=f) (m:=(m:Int)) hx
  have hoa:DY f x.j.toNat x.m.toNat=true:=by
   rcases hN.opn with h|h
   ·cases h
   ·exact h
  have iq:BlP (f,x.j,x.m):=⟨hS.jm hK,hN.can,hoa⟩
  have XO:=(hS.bk hf).2.2
  have hbk:ew f x=jJ f x.j.toNat x.m.toNat:=rfl
  rw [hbk]at hA XO
  obtain⟨xj,xm,xc,xk⟩:=x
  simp only at hA hU iq XO
  by_cases OT:xm=m
  ·subst OT
   rw [if_pos rfl]at hA
   rw [decide_eq_true rfl,Bool.or_true]at hU
   have hne:(((m:Int):Int) != m)=false:=by simp
   simp only [Int.toNat_natCast]at hA XO
   generalize hB:jJ f xj.toNat m=B at *
   obtain⟨b1,b2,b3,b4⟩:=B
   simp only at hA XO
   generalize yB:fA f m (l.take (k+1))=A1 at *
   generalize fA f m (l.take k)=A0 at *
   generalize Rh:RX l m (k+1)=U1 at *
   have wA:=wi (A0+b4)
   simp -dsimp [hki,fS]
   repeat' (first|omega|simp -dsimp [E4,ri,aa,ints,hki,aH,hx,hx',Sr.row,dS,iq,hB,hne,wA,wk]|apply aI|refine oI fun _=>?_|apply nI)
   refine⟨k+1,ag rfl ?_,?_,by omega,by omega⟩
   ·simp [aj,aT,yB,hA,Rh,hU]
   ·(try simp -dsimp only [hpx]); refine ai ?_; simp -dsimp [aC,fS]<;>exact rz
  ·rw [if_neg OT,Int.add_zero]at hA
   rw [decide_eq_false OT,Bool.or_false]at hU
   have hne:((xm:Int) != m)=true:=by simpa using OT
   generalize yB:fA f m (l.take (k+1))=A1 at *
   generalize fA f m (l.take k)=A0 at *
   generalize Rh:RX l m (k+1)=U1 at *
   generalize RX l m k=U0 at *
   simp -dsimp [hki,fS]
   repeat' (first|omega|simp -dsimp [E4,ri,aa,ints,hki,aH,hx,hx',Sr.row,hne,wk]|apply aI|refine oI fun _=>?_|apply nI)
   refine⟨k+1,ag rfl ?_,?_,by omega,by omega⟩
   ·simp [aj,aT,yB,hA,Rh,hU]
   ·(try simp -dsimp only [hpx]); refine ai ?_; simp -dsimp [aC,fS]<;>exact rz
 have hkn:¬ (k:Int)<l.length:=by omega
 have hke:k=l.length:=by omega
 subst hke
 rw [List.take_length]at hab ⊢
 cases hu:RX l m l.length
 ·simp -dsimp [hkn,fS]
  repeat' (first|omega|simp -dsimp [E4,ri,aa,ints,hkn,hu,wm]|apply aI|refine oI fun _=>?_|apply nI)
  refine⟨⟨m+1,c⟩,?_,?_,by simp only; omega,by simp only; omega⟩
  ·refine cq (aN rfl (br rfl (aN rfl bO))) ?_
   simp [aj,aT]
  ·(try simp -dsimp only [hpx]); refine ai ?_; simp -dsimp [aC,fS]<;>exact rz
 obtain⟨x,hx,Wn⟩:∃x∈l,x.m=(m:Int):=by
  rw [RX,List.take_length,List.any_eq_true]at hu
  obtain⟨x,hx,h⟩:=hu
  exact⟨x,hx,of_decide_eq_true h⟩
 obtain⟨g1,g2⟩:=hG.mD x hx
 have aiE:=hG.fly hf (by omega) hx
 rw [Wn]at g1 g2 aiE
 rw [show((m:Int)).toNat=m from Int.toNat_natCast m]at g1 g2
 obtain⟨e1,e2⟩:=Fa g1
 have am4:=(yf (f:=f) m).2
 have hup:=R6 hab.1 hho.1 g2
 have am5:RLM.oW ⟨f.eH,f.ko,(m:Int),0⟩:=hFi
 have am6:RL.oW ⟨f.eH,f.ko++[⟨1,(m:Int),upH (fA f m l) f.hour,0⟩]⟩:=by
  obtain⟨z1,z2,z3,z4⟩:=hFi
  exact⟨z1,z2,z3,by simp only [List.length_append,List.length_singleton]; omega⟩
 have hd:=gr f.eH (f.ko++[⟨1,(m:Int),upH (fA f m l) f.hour,0⟩])
 simp only [List.map_append,List.map_cons,List.map_nil,Wk.row]at hd
 have RN:qP f m * f.hour≤10000:=by
  have:=Int.mul_le_mul am4 hho.2 (by omega) (by omega)
  omega
 have arJ:0≤qP f m * f.hour:=Int.mul_nonneg g1 (by omega)
 have hUd:upH (fA f m l) f.hour=(fA f m l+f.hour - 1).tdiv f.hour:=rfl
 have hh0:f.hour≠0:=by omega
 generalize upH (fA f m l) f.hour=U at *
 generalize fA f m l=A at *
 generalize qP f m=H at *
 have w1:=wi (A+f.hour)
 have w2:=wi (A+f.hour - 1)
 have w3:IntKind.wrap .i64 U=U:=aK (by omega) (by omega)
 have w4:=wi (H * f.hour)
 have hgt:(H * f.hour<A)=False:=eq_false (by omega)
 have Aj:f.ko.length * 32≤140737488355328:=by omega
 have am7:(f.ko.length+1) * 32≤140737488355328:=by omega
 simp -dsimp [hkn,fS]
 repeat' (first|omega|simp -dsimp [E4,ri,aa,ints,hkn,hu,wm,w1,w2,hUd.symm,w3,w4,hh0,hgt,ta,am5,e1,e2,hd,am6,aiE,Aj,am7,Wk.row,aS,cQ]|apply aI|refine oI fun _=>?_|apply nI)
 refine⟨⟨m+1,c+1⟩,?_,?_,by simp only; omega,by simp only; omega⟩
 ·refine cq (aN rfl (br rfl (aN rfl bO))) ?_
  simp [aj,aT]
 ·(try simp -dsimp only [hpx]); refine ai ?_; simp -dsimp [aC,fS]<;>exact rz
theorem ok4:FO 4 H7:=pf b4 (.cons aiF (.cons aiG (.cons Xd (.cons ag2 (.cons agV .nil)))))
end Go.Sx
end
