/- A part of a proof; no conditions. -/
import Derived.Test.YtfhdpblkdgmnfaaGreatDoorP17
set_option linter.unusedSimpArgs false
set_option linter.unusedVariables false
set_option linter.unusedSectionVars false
set_option maxRecDepth 100000
set_option maxHeartbeats 8000000
noncomputable section
section
namespace Go.Sx
open Go.Proofs
attribute [local irreducible] HLe
attribute [local simp] hps_app
def regE0 (r:Reg):Int:=if r.valid=true then 0 else 90
abbrev regS:PSpec:=mkP regE (fun r=>r.kinds.length≤9223372036854775807∧r.parts.length≤9223372036854775807∧r.orders.length≤9223372036854775807) fun r=>.int .i64 (regE0 r)
abbrev E107:Env:={P:=Tryz.prog,fn:=tbl [(175,.pure withinS)],own:=[],key:=10700,nt:=119}
theorem b107:PureBody E107 [] Tryz.f107 regS:=by
 refine pb ?_
 rintro r ⟨b1,b2,b3⟩
 by_cases c1:r.kinds.length≤6
 case neg=>
  have d1:(6:Int)<r.kinds.length:=by omega
  have hv:regE0 r=90:=by simp [regE0,Reg.valid,c1]
  simp -dsimp [Tryz.f107,E107,Reg.row]
  repeat' (first|omega|simp -dsimp [E107,ri,cellp,ints,b1,b2,b3,d1,hv]|refine aI ?_ fun _=>?_|refine oI fun _=>?_|refine nI ?_ ?_)
 have d1:¬ (6:Int)<r.kinds.length:=by omega
 by_cases c2:r.parts.length≤24
 case neg=>
  have d2:(24:Int)<r.parts.length:=by omega
  have hv:regE0 r=90:=by simp [regE0,Reg.valid,c2]
  simp -dsimp [Tryz.f107,E107,Reg.row]
  repeat' (first|omega|simp -dsimp [E107,ri,cellp,ints,b1,b2,b3,d1,d2,hv]|refine aI ?_ fun _=>?_|refine oI fun _=>?_|refine nI ?_ ?_)
 have d2:¬ (24:Int)<r.parts.length:=by omega
 by_cases c3:r.orders.length≤6
 case neg=>
  have d3:(6:Int)<r.orders.length:=by omega
  have hv:regE0 r=90:=by simp [regE0,Reg.valid,c3]
  simp -dsimp [Tryz.f107,E107,Reg.row]
  repeat' (first|omega|simp -dsimp [E107,ri,cellp,ints,b1,b2,b3,d1,d2,d3,hv]|refine aI ?_ fun _=>?_|refine oI fun _=>?_|refine nI ?_ ?_)
 have d3:¬ (6:Int)<r.orders.length:=by omega
 cases c4:withinB r.machines 0 4
 ·have hv:regE0 r=90:=by simp [regE0,Reg.valid,c4]
  simp -dsimp [Tryz.f107,E107,Reg.row]
  repeat' (first|omega|simp -dsimp [E107,ri,cellp,ints,b1,b2,b3,d1,d2,d3,c4,hv]|refine aI ?_ fun _=>?_|refine oI fun _=>?_|refine nI ?_ ?_)
 have hval:r.valid=(!r.kinds.any Kd.bad && (!r.parts.any r.badP && !r.orders.any r.badO)):=by simp [Reg.valid,c1,c2,c3,c4]
 simp -dsimp [Tryz.f107,E107,Reg.row]
 repeat' (first|omega|simp -dsimp [E107,ri,cellp,ints,b1,b2,b3,d1,d2,d3,c4]|refine aI ?_ fun _=>?_|refine oI fun _=>?_|refine nI ?_ ?_)
 refine awp_loop [30,31,32,33,34,37,38,39,40,41,4,42,43,44,45,46,47,48,49,50,51,52,53,54,55,56,57,2,35,36,3] (fun k:{k:Nat // k≤r.kinds.length∧∀j (h:j<r.kinds.length),j<k→r.kinds[j].bad=false}=>[(3,(true,.int .i64 (k.1:Nat)))])
  (fun k=>hps [(10701,{base:=0,blks:=[{z:=4,els:=[[.sl 3 (r.kinds.map Kd.row),.sl 4 (r.parts.map Pt.row),.int .i64 r.machines,.sl 2 (r.orders.map Od.row)]],ty:=37}]}),(10704,{base:=k.1,blks:=[]})] noH) (fun k=>r.kinds.length - k.1) ⟨0,by omega,fun _ _ h=>by omega⟩ ?_ ?_ ?_
 ·simp [okAll,okv]
 ·exact(by(try simp -dsimp only [hpx]); refine hle_hps ?_; simp -dsimp [allK]<;>exact rz)
 rintro⟨k,hk,hall⟩
 simp only
 by_cases hk1:k<r.kinds.length
 ·have hki:(k:Int)<r.kinds.length:=by omega
  have wk:IntKind.wrap .i64 ((k:Int)+1)=(k+1:Nat):=wrap_id (by omega) (by omega)
  obtain⟨kd,hkd,hkd'⟩:=get_ex hk1
  have hbd:kd.bad=(!withinB kd.hours 1 100000 || !withinB kd.cycles 1 100000 || !withinB kd.places 0 4):=rfl
  cases hb:kd.bad
  ·rw [hb]at hbd
   have hq:withinB kd.hours 1 100000=true∧withinB kd.cycles 1 100000=true∧withinB kd.places 0 4=true:=by
    have:=hbd.symm
    simp only [Bool.or_eq_false_iff,Bool.not_eq_false']at this
    exact⟨this.1.1,this.1.2,this.2⟩
   obtain⟨q1,q2,q3⟩:=hq
   clear hbd
   simp -dsimp [hki]
   repeat' (first|omega|simp -dsimp [E107,ri,cellp,ints,hki,hk1,hkd,hkd',wk,Kd.row,q1,q2,q3]|refine aI ?_ fun _=>?_|refine oI fun _=>?_|refine nI ?_ ?_)
   refine⟨k+1,tle_chain rfl ?_,(by(try simp -dsimp only [hpx]); refine hle_hps ?_; simp -dsimp [allK]<;>exact rz),⟨by omega,fun j h hj=>?_⟩,by omega⟩
   ·simp [okAll,okv]
   ·by_cases hjk:j=k
    ·subst hjk; rw [hkd',hb]
    ·exact hall j h (by omega)
  ·have hany:r.kinds.any Kd.bad=true:=List.any_eq_true.2 ⟨kd,hkd' ▸ List.getElem_mem hk1,hb⟩
   have hv:regE0 r=90:=by simp [regE0,hval,hany]
   rw [hb]at hbd
   cases q1:withinB kd.hours 1 100000
   ·simp -dsimp [hki]
    repeat' (first|omega|simp -dsimp [E107,ri,cellp,ints,hki,hk1,hkd,hkd',wk,Kd.row,q1,hv]|refine aI ?_ fun _=>?_|refine oI fun _=>?_|refine nI ?_ ?_)
   cases q2:withinB kd.cycles 1 100000
   ·simp -dsimp [hki]
    repeat' (first|omega|simp -dsimp [E107,ri,cellp,ints,hki,hk1,hkd,hkd',wk,Kd.row,q1,q2,hv]|refine aI ?_ fun _=>?_|refine oI fun _=>?_|refine nI ?_ ?_)
   cases q3:withinB kd.places 0 4
   ·simp -dsimp [hki]
    repeat' (first|omega|simp -dsimp [E107,ri,cellp,ints,hki,hk1,hkd,hkd',wk,Kd.row,q1,q2,q3,hv]|refine aI ?_ fun _=>?_|refine oI fun _=>?_|refine nI ?_ ?_)
   ·rw [q1,q2,q3]at hbd; simp at hbd
 have hkn:¬ (k:Int)<r.kinds.length:=by omega
 have hany:r.kinds.any Kd.bad=false:=by
  rw [List.any_eq_false]
  intro x hx
  obtain⟨j,hj,rfl⟩:=List.mem_iff_getElem.1 hx
  rw [hall j hj (by omega)]; simp
 have hke:k=r.kinds.length:=by omega
 subst hke
 simp -dsimp [hkn]
 repeat' (first|omega|simp -dsimp [E107,ri,cellp,ints,hkn]|refine aI ?_ fun _=>?_|refine oI fun _=>?_|refine nI ?_ ?_)
 clear hall hk hkn hk1
 refine awp_loop [58,59,60,61,62,65,66,67,68,69,6,70,71,72,73,74,75,76,77,78,79,80,81,82,83,84,85,86,87,88,89,2,63,64,5] (fun k:{k:Nat // k≤r.parts.length∧∀j (h:j<r.parts.length),j<k→r.badP r.parts[j]=false}=>[(5,(true,.int .i64 (k.1:Nat)))])
  (fun k=>hps [(10701,{base:=0,blks:=[{z:=4,els:=[[.sl 3 (r.kinds.map Kd.row),.sl 4 (r.parts.map Pt.row),.int .i64 r.machines,.sl 2 (r.orders.map Od.row)]],ty:=37}]}),(10706,{base:=k.1,blks:=[]}),(10704,{base:=r.kinds.length,blks:=[]})] noH) (fun k=>r.parts.length - k.1) ⟨0,by omega,fun _ _ h=>by omega⟩ ?_ ?_ ?_
 ·simp [okAll,okv]
 ·exact(by(try simp -dsimp only [hpx]); refine hle_hps ?_; simp -dsimp [allK]<;>exact rz)
 rintro⟨k,hk,hall⟩
 simp only
 by_cases hk1:k<r.parts.length
 ·have hki:(k:Int)<r.parts.length:=by omega
  have wk:IntKind.wrap .i64 ((k:Int)+1)=(k+1:Nat):=wrap_id (by omega) (by omega)
  obtain⟨p,hp,hp'⟩:=get_ex hk1
  have hbd:r.badP p=(!withinB p.kind 0 (IntKind.wrap .i64 ((r.kinds.length:Int) - 1)) || !withinB p.hours 0 100000 || !withinB p.cycles 0 100000):=rfl
  cases hb:r.badP p
  ·rw [hb]at hbd
   have hq:withinB p.kind 0 (IntKind.wrap .i64 ((r.kinds.length:Int) - 1))=true∧withinB p.hours 0 100000=true∧withinB p.cycles 0 100000=true:=by
    have:=hbd.symm
    simp only [Bool.or_eq_false_iff,Bool.not_eq_false']at this
    exact⟨this.1.1,this.1.2,this.2⟩
   obtain⟨q1,q2,q3⟩:=hq
   clear hbd
   simp -dsimp [hki]
   repeat' (first|omega|simp -dsimp [E107,ri,cellp,ints,hki,hk1,hp,hp',wk,Pt.row,q1,q2,q3]|refine aI ?_ fun _=>?_|refine oI fun _=>?_|refine nI ?_ ?_)
   refine⟨k+1,tle_chain rfl ?_,(by(try simp -dsimp only [hpx]); refine hle_hps ?_; simp -dsimp [allK]<;>exact rz),⟨by omega,fun j h hj=>?_⟩,by omega⟩
   ·simp [okAll,okv]
   ·by_cases hjk:j=k
    ·subst hjk; rw [hp',hb]
    ·exact hall j h (by omega)
  ·have hany2:r.parts.any r.badP=true:=List.any_eq_true.2 ⟨p,hp' ▸ List.getElem_mem hk1,hb⟩
   have hv:regE0 r=90:=by simp [regE0,hval,hany2]
   rw [hb]at hbd
   cases q1:withinB p.kind 0 (IntKind.wrap .i64 ((r.kinds.length:Int) - 1))
   ·simp -dsimp [hki]
    repeat' (first|omega|simp -dsimp [E107,ri,cellp,ints,hki,hk1,hp,hp',wk,Pt.row,q1,hv]|refine aI ?_ fun _=>?_|refine oI fun _=>?_|refine nI ?_ ?_)
   cases q2:withinB p.hours 0 100000
   ·simp -dsimp [hki]
    repeat' (first|omega|simp -dsimp [E107,ri,cellp,ints,hki,hk1,hp,hp',wk,Pt.row,q1,q2,hv]|refine aI ?_ fun _=>?_|refine oI fun _=>?_|refine nI ?_ ?_)
   cases q3:withinB p.cycles 0 100000
   ·simp -dsimp [hki]
    repeat' (first|omega|simp -dsimp [E107,ri,cellp,ints,hki,hk1,hp,hp',wk,Pt.row,q1,q2,q3,hv]|refine aI ?_ fun _=>?_|refine oI fun _=>?_|refine nI ?_ ?_)
   ·rw [q1,q2,q3]at hbd; simp at hbd
 have hkn:¬ (k:Int)<r.parts.length:=by omega
 have hany2:r.parts.any r.badP=false:=by
  rw [List.any_eq_false]
  intro x hx
  obtain⟨j,hj,rfl⟩:=List.mem_iff_getElem.1 hx
  rw [hall j hj (by omega)]; simp
 have hke:k=r.parts.length:=by omega
 subst hke
 simp -dsimp [hkn]
 repeat' (first|omega|simp -dsimp [E107,ri,cellp,ints,hkn]|refine aI ?_ fun _=>?_|refine oI fun _=>?_|refine nI ?_ ?_)
 clear hall hk hkn hk1
 refine awp_loop [90,91,92,93,94,97,98,99,100,101,102,103,104,105,106,107,108,109,110,111,112,113,114,115,116,117,118,2,95,96,7] (fun k:{k:Nat // k≤r.orders.length∧∀j (h:j<r.orders.length),j<k→r.badO r.orders[j]=false}=>[(7,(true,.int .i64 (k.1:Nat)))])
  (fun k=>hps [(10701,{base:=0,blks:=[{z:=4,els:=[[.sl 3 (r.kinds.map Kd.row),.sl 4 (r.parts.map Pt.row),.int .i64 r.machines,.sl 2 (r.orders.map Od.row)]],ty:=37}]}),(10706,{base:=r.parts.length,blks:=[]}),(10704,{base:=r.kinds.length,blks:=[]})] noH) (fun k=>r.orders.length - k.1) ⟨0,by omega,fun _ _ h=>by omega⟩ ?_ ?_ ?_
 ·simp [okAll,okv]
 ·exact(by(try simp -dsimp only [hpx]); refine hle_hps ?_; simp -dsimp [allK]<;>exact rz)
 rintro⟨k,hk,hall⟩
 simp only
 by_cases hk1:k<r.orders.length
 ·have hki:(k:Int)<r.orders.length:=by omega
  have wk:IntKind.wrap .i64 ((k:Int)+1)=(k+1:Nat):=wrap_id (by omega) (by omega)
  obtain⟨p,hp,hp'⟩:=get_ex hk1
  have hbd:r.badO p=(!withinB p.kind 0 (IntKind.wrap .i64 ((r.kinds.length:Int) - 1)) || !withinB p.within 0 100000):=rfl
  cases hb:r.badO p
  ·rw [hb]at hbd
   have hq:withinB p.kind 0 (IntKind.wrap .i64 ((r.kinds.length:Int) - 1))=true∧withinB p.within 0 100000=true:=by
    have:=hbd.symm
    simp only [Bool.or_eq_false_iff,Bool.not_eq_false']at this
    exact this
   obtain⟨q1,q2⟩:=hq
   clear hbd
   simp -dsimp [hki]
   repeat' (first|omega|simp -dsimp [E107,ri,cellp,ints,hki,hk1,hp,hp',wk,Od.row,q1,q2]|refine aI ?_ fun _=>?_|refine oI fun _=>?_|refine nI ?_ ?_)
   refine⟨k+1,tle_chain rfl ?_,(by(try simp -dsimp only [hpx]); refine hle_hps ?_; simp -dsimp [allK]<;>exact rz),⟨by omega,fun j h hj=>?_⟩,by omega⟩
   ·simp [okAll,okv]
   ·by_cases hjk:j=k
    ·subst hjk; rw [hp',hb]
    ·exact hall j h (by omega)
  ·have hany3:r.orders.any r.badO=true:=List.any_eq_true.2 ⟨p,hp' ▸ List.getElem_mem hk1,hb⟩
   have hv:regE0 r=90:=by simp [regE0,hval,hany3]
   rw [hb]at hbd
   cases q1:withinB p.kind 0 (IntKind.wrap .i64 ((r.kinds.length:Int) - 1))
   ·simp -dsimp [hki]
    repeat' (first|omega|simp -dsimp [E107,ri,cellp,ints,hki,hk1,hp,hp',wk,Od.row,q1,hv]|refine aI ?_ fun _=>?_|refine oI fun _=>?_|refine nI ?_ ?_)
   cases q2:withinB p.within 0 100000
   ·simp -dsimp [hki]
    repeat' (first|omega|simp -dsimp [E107,ri,cellp,ints,hki,hk1,hp,hp',wk,Od.row,q1,q2,hv]|refine aI ?_ fun _=>?_|refine oI fun _=>?_|refine nI ?_ ?_)
   ·rw [q1,q2]at hbd; simp at hbd
 have hkn:¬ (k:Int)<r.orders.length:=by omega
 have hany3:r.orders.any r.badO=false:=by
  rw [List.any_eq_false]
  intro x hx
  obtain⟨j,hj,rfl⟩:=List.mem_iff_getElem.1 hx
  rw [hall j hj (by omega)]; simp
 have hv:regE0 r=0:=by simp [regE0,hval,hany,hany2,hany3]
 simp -dsimp [hkn]
 repeat' (first|omega|simp -dsimp [E107,ri,cellp,ints,hkn,hv]|refine aI ?_ fun _=>?_|refine oI fun _=>?_|refine nI ?_ ?_)
theorem ok107:FO 107 regS:=pf b107 (.cons ok175 .nil)
end Go.Sx
end
section
namespace Go.Sx
open Go.Proofs
attribute [local irreducible] HLe
attribute [local simp] hps_app
structure RtX where
 r:Reg
 t:RS
 a:Int
 b:Int
 c:Int
 deriving Inhabited
@[simp] def rxE (d:RtX):List V:=[.agg d.r.row,.agg d.t.row,.int .i64 d.a,.int .i64 d.b,.int .i64 d.c]
theorem rxE_inj (x y:RtX) (h:rxE x=rxE y):x=y:=by
 obtain⟨r,t,a,b,c⟩:=x; obtain⟨r',t',a',b',c'⟩:=y
 simp only [rxE,List.cons.injEq,V.agg.injEq,V.int.injEq,true_and,and_true]at h
 rw [Reg.row_inj _ _ h.1,RS.row_inj _ _ h.2.1,h.2.2.1,h.2.2.2.1,h.2.2.2.2]
theorem rxE_dec' (r:Reg) (t:RS) (a b c:Int):decC rxE [.agg [.sl 3 (r.kinds.map Kd.row),.sl 4 (r.parts.map Pt.row),.int .i64 r.machines,.sl 2 (r.orders.map Od.row)],.agg [.sl 2 (t.used.map cycV),.sl 2 (t.whr.map cycV),.sl 1 (t.iss.map rb),snV t.since,dnV t.done],.int .i64 a,.int .i64 b,.int .i64 c]=⟨r,t,a,b,c⟩:=decC_eq rxE_inj ⟨r,t,a,b,c⟩
structure RtY where
 r:Reg
 t:RS
 a:Int
 deriving Inhabited
@[simp] def ryE (d:RtY):List V:=[.agg d.r.row,.agg d.t.row,.int .i64 d.a]
theorem ryE_inj (x y:RtY) (h:ryE x=ryE y):x=y:=by
 obtain⟨r,t,a⟩:=x; obtain⟨r',t',a'⟩:=y
 simp only [ryE,List.cons.injEq,V.agg.injEq,V.int.injEq,true_and,and_true]at h
 rw [Reg.row_inj _ _ h.1,RS.row_inj _ _ h.2.1,h.2.2]
theorem ryE_dec' (r:Reg) (t:RS) (a:Int):decC ryE [.agg [.sl 3 (r.kinds.map Kd.row),.sl 4 (r.parts.map Pt.row),.int .i64 r.machines,.sl 2 (r.orders.map Od.row)],.agg [.sl 2 (t.used.map cycV),.sl 2 (t.whr.map cycV),.sl 1 (t.iss.map rb),snV t.since,dnV t.done],.int .i64 a]=⟨r,t,a⟩:=decC_eq ryE_inj ⟨r,t,a⟩
theorem lendN_snV (f:Nat) (h:Hp) (l:List (List Int)):lendN f h (snV l)=(True,snV l):=by unfold snV; split<;>cases f<;>rfl
theorem lendN_dnV (f:Nat) (h:Hp) (l:List (List Bool)):lendN f h (dnV l)=(True,dnV l):=by unfold dnV; split<;>cases f<;>rfl
@[simp ↓ high] theorem lend1_snV (h:Hp) (l:List (List Int)):lend1 h (snV l)=(True,snV l):=lendN_snV 3 h l
@[simp ↓ high] theorem lend1_dnV (h:Hp) (l:List (List Bool)):lend1 h (dnV l)=(True,dnV l):=lendN_dnV 3 h l
@[simp ↓ high] theorem leaf_snV (l:List (List Int)):(snV l).leaf=true:=by unfold snV; split<;>rfl
@[simp ↓ high] theorem leaf_dnV (l:List (List Bool)):(dnV l).leaf=true:=by unfold dnV; split<;>rfl
@[simp ↓ high] theorem cell1_snV (l:List (List Int)):(snV l).cell1=true:=by unfold snV; split<;>rfl
@[simp ↓ high] theorem cell1_dnV (l:List (List Bool)):(dnV l).cell1=true:=by unfold dnV; split<;>rfl
@[simp ↓ high] theorem rf1_snV (l:List (List Int)):(snV l).refFree1=true:=by unfold snV; split<;>rfl
@[simp ↓ high] theorem rf1_dnV (l:List (List Bool)):(dnV l).refFree1=true:=by unfold dnV; split<;>rfl
@[simp ↓ high] theorem rf_snV (l:List (List Int)):(snV l).refFree=true:=by unfold snV; split<;>rfl
@[simp ↓ high] theorem rf_dnV (l:List (List Bool)):(dnV l).refFree=true:=by unfold dnV; split<;>rfl
@[simp ↓ high] theorem sub0_snV (l:List (List Int)):sub0 (snV l) (snV l):=by unfold snV; split<;>simp [sub0]
@[simp ↓ high] theorem sub0_dnV (l:List (List Bool)):sub0 (dnV l) (dnV l):=by unfold dnV; split<;>simp [sub0]
attribute [simp high] lend1_snV lend1_dnV leaf_snV leaf_dnV cell1_snV cell1_dnV rf1_snV rf1_dnV rf_snV rf_dnV sub0_snV sub0_dnV
@[simp] theorem m_snV (l:List (List Int)):(match snV l,snV l with|_,.top=>True|.nil,.sl _ []=>True|.emp,.sl _ []=>True|x,y=>x=y)=True:=eq_true (sub0_snV l)
@[simp] theorem m_dnV (l:List (List Bool)):(match dnV l,dnV l with|_,.top=>True|.nil,.sl _ []=>True|.emp,.sl _ []=>True|x,y=>x=y)=True:=eq_true (sub0_dnV l)
abbrev rpartS:PSpec:=mkP rxE (fun d=>d.t.Wf d.r) fun d=>.int .i64 ((d.t.hi d.r).at d.b d.a d.c)
abbrev E178:Env:={P:=Tryz.prog,fn:=tbl [],own:=[],key:=17800,nt:=39}
theorem b178:PureBody E178 [] Tryz.f178 rpartS:=by
 refine pb ?_
 rintro⟨r,t,m,kk,pl⟩ hwf
 simp only at hwf
 obtain⟨v1,v2,v3,v4,v5,v6,v7,v8⟩:=valid_facts hwf.val
 simp -dsimp [Tryz.f178,E178,Reg.row,RS.row]
 refine awp_loop [12,13,14,15,16,19,20,21,22,23,24,25,26,27,28,29,30,31,32,33,34,35,36,37,38,10,17,18,11] (fun k:{k:Nat // k≤r.parts.length∧∀j (h:j<(t.ps r).length),j<k→atIs kk m pl (t.ps r)[j]=false}=>[(11,(true,.int .i64 (k.1:Nat)))])
  (fun k=>hps [(17806,{base:=0,blks:=[{z:=5,els:=[[.sl 2 (t.used.map cycV),.sl 2 (t.whr.map cycV),.sl 1 (t.iss.map rb),snV t.since,dnV t.done]],ty:=198}]}),(17805,{base:=0,blks:=[{z:=4,els:=[[.sl 3 (r.kinds.map Kd.row),.sl 4 (r.parts.map Pt.row),.int .i64 r.machines,.sl 2 (r.orders.map Od.row)]],ty:=37}]})] noH) (fun k=>r.parts.length - k.1) ⟨0,by omega,fun _ _ h=>by omega⟩ ?_ ?_ ?_
 ·simp [okAll,okv]
 ·exact(by(try simp -dsimp only [hpx]); refine hle_hps ?_; simp -dsimp [allK]<;>exact rz)
 rintro⟨k,hk,hall⟩
 simp only
 by_cases hk1:k<r.parts.length
 ·have hki:(k:Int)<r.parts.length:=by omega
  have wk:IntKind.wrap .i64 ((k:Int)+1)=(k+1:Nat):=wrap_id (by omega) (by omega)
  obtain⟨p,hp,hp'⟩:=get_ex hk1
  have hkw:k<t.whr.length:=by rw [hwf.whr]; exact hk1
  obtain⟨w,hw,hw'⟩:=get_ex hkw
  have hkp:k<(t.ps r).length:=by rw [RS.ps_len]; exact hk1
  have hpg:(t.ps r)[k]=t.pt r k:=by have:=t.ps_get r hk1; rw [List.getElem?_eq_getElem hkp]at this; exact Option.some.inj this
  have hat:atIs kk m pl (t.ps r)[k]=(p.kind == kk && (w.1 == m && w.2 == pl)):=by
   rw [hpg]; simp [atIs,RS.pt,List.getD,hp,hw]
  by_cases hkk:p.kind=kk
  ·cases hq:(w.1 == m && w.2 == pl)
   ·have hf:atIs kk m pl (t.ps r)[k]=false:=by rw [hat,hq]; simp
    simp -dsimp [hki]
    repeat' (first|omega|simp -dsimp [E178,ri,cellp,ints,hki,hk1,hp,hp',hw,hw',hkw,wk,Pt.row,cycV,hkk,hq]|refine aI ?_ fun _=>?_|refine oI fun _=>?_|refine nI ?_ ?_)
    refine⟨k+1,tle_chain rfl ?_,(by(try simp -dsimp only [hpx]); refine hle_hps ?_; simp -dsimp [allK]<;>exact rz),⟨by omega,fun j h hj=>?_⟩,by omega⟩
    ·simp [okAll,okv]
    ·by_cases hjk:j=k
     ·subst hjk; exact hf
     ·exact hall j h (by omega)
   ·have hf:atIs kk m pl (t.ps r)[k]=true:=by rw [hat,hq]; simp [hkk]
    have hz:(t.hi r).at kk m pl=k:=idxZ_at (t.ps r) (atIs kk m pl) hkp hf hall
    simp -dsimp [hki]
    repeat' (first|omega|simp -dsimp [E178,ri,cellp,ints,hki,hk1,hp,hp',hw,hw',hkw,wk,Pt.row,cycV,hkk,hq,hz]|refine aI ?_ fun _=>?_|refine oI fun _=>?_|refine nI ?_ ?_)
  ·have hf:atIs kk m pl (t.ps r)[k]=false:=by rw [hat]; simp [hkk]
   simp -dsimp [hki]
   repeat' (first|omega|simp -dsimp [E178,ri,cellp,ints,hki,hk1,hp,hp',wk,Pt.row,hkk]|refine aI ?_ fun _=>?_|refine oI fun _=>?_|refine nI ?_ ?_)
   refine⟨k+1,tle_chain rfl ?_,(by(try simp -dsimp only [hpx]); refine hle_hps ?_; simp -dsimp [allK]<;>exact rz),⟨by omega,fun j h hj=>?_⟩,by omega⟩
   ·simp [okAll,okv]
   ·by_cases hjk:j=k
    ·subst hjk; exact hf
    ·exact hall j h (by omega)
 ·have hkn:¬ (k:Int)<r.parts.length:=by omega
  have hz:(t.hi r).at kk m pl = -1:=idxZ_none (t.ps r) (atIs kk m pl) (fun j h=>hall j h (by rw [RS.ps_len]at h; omega))
  simp -dsimp [hkn]
  repeat' (first|omega|simp -dsimp [E178,ri,cellp,ints,hkn,hz]|refine aI ?_ fun _=>?_|refine oI fun _=>?_|refine nI ?_ ?_)
theorem ok178:FO 178 rpartS:=pf b178 .nil
abbrev rlacksS:PSpec:=mkP ryE (fun d=>d.t.Wf d.r) fun d=>prs ((d.t.hi d.r).lacks d.a)
abbrev E230:Env:={P:=Tryz.prog,fn:=tbl [(178,.pure rpartS)],own:=[],key:=23000,nt:=41}
theorem b230:PureBody E230 [] Tryz.f230 rlacksS:=by
 refine pb ?_
 rintro⟨r,t,m⟩ hwf
 simp only at hwf
 obtain⟨v1,v2,v3,v4,v5,v6,v7,v8⟩:=valid_facts hwf.val
 have hsm:=hwf.small
 obtain⟨x,hx⟩:∃x,x=t.hi r:=⟨_,rfl⟩
 have hxk:x.r=r:=by rw [hx]; rfl
 rw [←hx]at hsm
 simp -dsimp [Tryz.f230,E230,Reg.row,RS.row]
 repeat' (first|omega|simp -dsimp [E230,ri,cellp,ints,RS.row]|refine aI ?_ fun _=>?_|refine oI fun _=>?_|refine nI ?_ ?_)
 refine awp_loop_g [(7,23039,2,77)] rfl (by simp) [10,11,12,13,14,9,17,18,19,20,21,22,23,24,27,28,29,30,31,32,33,34,35,36,37,38,39,7,25,26,15,16,8] (fun k:Fin (r.kinds.length+1)=>[(8,(true,.int .i64 (k.1:Nat))),(7,(true,.bsl 23039 0 (x.lackTo m k.1).length))])
  (fun k=>hps [(23039,{base:=0,blks:=[{z:=2,els:=(x.lackTo m k.1).map cycV,ty:=77}]}),(23004,{base:=0,blks:=[{z:=5,els:=[[.sl 2 (t.used.map cycV),.sl 2 (t.whr.map cycV),.sl 1 (t.iss.map rb),snV t.since,dnV t.done]],ty:=198}]}),(23003,{base:=0,blks:=[{z:=4,els:=[[.sl 3 (r.kinds.map Kd.row),.sl 4 (r.parts.map Pt.row),.int .i64 r.machines,.sl 2 (r.orders.map Od.row)]],ty:=37}]})] noH) (fun k=>r.kinds.length - k.1) ⟨0,by omega⟩ ?_ ?_ ?_
 ·simp [okAll,okv,HI.lackTo]
 ·exact(by(try simp -dsimp only [hpx]); refine hle_hps ?_; simp -dsimp [allK,HI.lackTo]<;>exact rz)
 rintro⟨k,hk⟩
 simp only
 by_cases hk1:k<r.kinds.length
 ·have hki:(k:Int)<r.kinds.length:=by omega
  have wk:IntKind.wrap .i64 ((k:Int)+1)=(k+1:Nat):=wrap_id (by omega) (by omega)
  obtain⟨kd,hkd,hkd'⟩:=get_ex hk1
  have hT:x.lackTo m (k+1)=x.lackTo m k++x.lackK m k (x.places k):=rfl
  have hpl:x.places k=kd.places.toNat:=by simp [HI.places,hxk,List.getD,hkd]
  have hTl:=lackTo_len hsm m k
  have hpk:=places_le hsm k
  rw [hpl]at hT hpk
  generalize x.lackTo m k=T at *
  generalize hpn:kd.places.toNat=pn at *
  simp -dsimp [hki]
  repeat' (first|omega|simp -dsimp [E230,ri,cellp,ints,hki,hk1,hkd,hkd',wk,Kd.row]|refine aI ?_ fun _=>?_|refine oI fun _=>?_|refine nI ?_ ?_)
  refine awp_loop [17,18,19,20,21,22,23,24,27,28,29,30,31,32,33,34,35,36,37,38,39,7,25,26,9] (fun j:Fin (pn+1)=>[(9,(true,.int .i64 (j.1:Nat))),(7,(true,.bsl 23039 0 (T++x.lackK m k j.1).length))])
   (fun j=>hps [(23039,{base:=0,blks:=[{z:=2,els:=(T++x.lackK m k j.1).map cycV,ty:=77}]}),(23004,{base:=0,blks:=[{z:=5,els:=[[.sl 2 (t.used.map cycV),.sl 2 (t.whr.map cycV),.sl 1 (t.iss.map rb),snV t.since,dnV t.done]],ty:=198}]}),(23003,{base:=0,blks:=[{z:=4,els:=[[.sl 3 (r.kinds.map Kd.row),.sl 4 (r.parts.map Pt.row),.int .i64 r.machines,.sl 2 (r.orders.map Od.row)]],ty:=37}]})] noH) (fun j=>pn - j.1) ⟨0,by omega⟩ ?_ ?_ ?_
  ·simp [okAll,okv,HI.lackK]
  ·exact(by(try simp -dsimp only [hpx]); refine hle_hps ?_; simp -dsimp [allK,HI.lackK]<;>exact rz)
  rintro⟨j,hj⟩
  simp only
  by_cases hj1:j<pn
  ·have hji:(j:Int)<kd.places:=by omega
   have wj:IntKind.wrap .i64 ((j:Int)+1)=(j+1:Nat):=wrap_id (by omega) (by omega)
   have hL:x.lackK m k (j+1)=if x.emp m k j=true then x.lackK m k j++[((k:Int),(j:Int))]else x.lackK m k j:=rfl
   have hLl:=lackK_len x m k j
   have hem:x.emp m k j=decide (x.at k m j<0):=rfl
   have hax:(t.hi r).at k m j=x.at k m j:=by rw [hx]
   generalize x.lackK m k j=L at *
   by_cases he:x.at k m j<0
   ·rw [hem,decide_eq_true he,if_pos rfl]at hL
    have hb8:(T.length+L.length+1) * 16≤140737488355328:=by omega
    simp -dsimp [hji]
    repeat' (first|omega|simp -dsimp [E230,ri,cellp,ints,hji,hkd,hkd',hk1,hki,Kd.row,rxE_dec',hwf,hax,he,wj,hb8,cycV]|refine aI ?_ fun _=>?_|refine oI fun _=>?_|refine nI ?_ ?_)
    refine⟨⟨j+1,by omega⟩,tle_chain rfl ?_,(by(try simp -dsimp only [hpx]); refine hle_hps ?_; simp -dsimp [allK,hL,cycV]<;>exact rz),by simp only; omega⟩
    simp [okAll,okv,hL,Nat.add_assoc]
   ·rw [hem,decide_eq_false he,if_neg (by simp)]at hL
    simp -dsimp [hji]
    repeat' (first|omega|simp -dsimp [E230,ri,cellp,ints,hji,hkd,hkd',hk1,hki,Kd.row,rxE_dec',hwf,hax,he,wj,cycV]|refine aI ?_ fun _=>?_|refine oI fun _=>?_|refine nI ?_ ?_)
    refine⟨⟨j+1,by omega⟩,tle_chain rfl ?_,(by(try simp -dsimp only [hpx]); refine hle_hps ?_; simp -dsimp [allK,hL,cycV]<;>exact rz),by simp only; omega⟩
    simp [okAll,okv,hL]
  ·have hje:j=pn:=by omega
   have hjn:¬ (j:Int)<kd.places:=by omega
   simp -dsimp [hjn]
   repeat' (first|omega|simp -dsimp [E230,ri,cellp,ints,hjn,hkd,hkd',hk1,hki,Kd.row,wk]|refine aI ?_ fun _=>?_|refine oI fun _=>?_|refine nI ?_ ?_)
   refine⟨⟨k+1,by omega⟩,tle_kept (kept_upds rfl (kept_forget rfl (kept_upds rfl kept_base))) ?_,(by(try simp -dsimp only [hpx]); refine hle_hps ?_; simp -dsimp [allK,hT,hje]<;>exact rz),by simp only; omega⟩
   simp [okAll,okv,hT,hje]
 ·have hkn:¬ (k:Int)<r.kinds.length:=by omega
  have hke:k=r.kinds.length:=by omega
  subst hke
  have hla:(t.hi r).lacks m=x.lackTo m r.kinds.length:=by rw [←hx,HI.lacks,hxk]
  simp -dsimp [hkn]
  repeat' (first|omega|simp -dsimp [E230,ri,cellp,ints,hkn,hla,prs]|refine aI ?_ fun _=>?_|refine oI fun _=>?_|refine nI ?_ ?_)
theorem ok230:FO 230 rlacksS:=pf b230 (.cons ok178 .nil)
structure RS.LfP (r:Reg) (t:RS) (p:Int):Prop where
 wf:t.Wf r
 p0:0≤p
 p1:p<r.parts.length
abbrev rleftS:PSpec:=mkP ryE (fun d=>RS.LfP d.r d.t d.a) fun d=>.tup [.int .i64 ((d.t.hi d.r).leftT (d.t.pt d.r d.a.toNat)),.int .i64 ((d.t.hi d.r).leftC (d.t.pt d.r d.a.toNat))]
abbrev E231:Env:={P:=Tryz.prog,fn:=tbl [],own:=[],key:=23100,nt:=94}
theorem b231:PureBody E231 [] Tryz.f231 rleftS:=by
 refine pb ?_
 rintro⟨r,t,pi⟩ ⟨hwf,hp0,hp1⟩
 simp only at hwf hp0 hp1
 obtain⟨v1,v2,v3,v4,v5,v6,v7,v8⟩:=valid_facts hwf.val
 obtain⟨pn,rfl⟩:∃pn:Nat,pi=pn:=⟨pi.toNat,by omega⟩
 have hpn:pn<r.parts.length:=by omega
 obtain⟨p,hp,hp'⟩:=get_ex hpn
 have hpu:pn<t.used.length:=by rw [hwf.used]; exact hpn
 obtain⟨u,hu,hu'⟩:=get_ex hpu
 have hpb:=v7 p (hp' ▸ List.getElem_mem hpn)
 obtain⟨ki,hki⟩:∃ki:Nat,p.kind=ki:=⟨p.kind.toNat,by omega⟩
 have hk2:ki<r.kinds.length:=by omega
 obtain⟨kd,hkd,hkd'⟩:=get_ex hk2
 obtain⟨x,hx⟩:∃x,x=t.hi r:=⟨_,rfl⟩
 obtain⟨q,hq⟩:∃q,q=t.pt r pn:=⟨_,rfl⟩
 have hxr:x.r=r:=by rw [hx]; rfl
 have hxi:x.iss=t.iss:=by rw [hx]; rfl
 have q1:q.kind=ki:=by rw [hq]; simp [RS.pt,List.getD,hp,hki]
 have q2:q.hours=u.1:=by rw [hq]; simp [RS.pt,List.getD,hu]
 have q3:q.cycles=u.2:=by rw [hq]; simp [RS.pt,List.getD,hu]
 have q4:∀i,q.since.getD i 0=(t.since.getD i []).getD pn 0:=by
  intro i
  rw [hq]
  simp only [RS.pt,List.getD,List.getElem?_map]
  cases t.since[i]?<;>simp
 have q5:∀i,q.chk.getD i false=(t.done.getD i []).getD pn false:=by
  intro i
  rw [hq]
  simp only [RS.pt,List.getD,List.getElem?_map]
  cases t.done[i]?<;>simp
 have g1:x.r.kinds.getD ki default=kd:=by simp [hxr,List.getD,hkd]
 have hC:x.leftC q=IntKind.wrap .i64 (kd.cycles - u.2):=by simp only [HI.leftC,wsub,q1,q3,Int.toNat_natCast,g1]
 have hH:x.leftH q 0=IntKind.wrap .i64 (kd.hours - u.1):=by simp only [HI.leftH,wsub,q1,q2,Int.toNat_natCast,g1]
 have hTT:x.leftT q=x.leftH q r.orders.length:=by rw [HI.leftT,hxr]
 have r1:(t.hi r).leftT (t.pt r pn)=x.leftH q r.orders.length:=by rw [←hx,←hq,hTT]
 have r2:(t.hi r).leftC (t.pt r pn)=IntKind.wrap .i64 (kd.cycles - u.2):=by rw [←hx,←hq,hC]
 simp -dsimp [Tryz.f231,E231,Reg.row,RS.row]
 repeat' (first|omega|simp -dsimp [E231,ri,cellp,ints,RS.row,hp,hp',hpn,hp0,hp1,Pt.row,hki,hkd,hkd',hk2,Kd.row,hu,hu',hpu,cycV]|refine aI ?_ fun _=>?_|refine oI fun _=>?_|refine nI ?_ ?_)
 refine awp_loop [30,31,32,33,34,37,38,39,40,41,42,43,44,45,46,47,48,49,50,51,52,53,54,55,56,57,58,59,60,61,62,63,64,65,66,67,68,69,70,71,72,73,74,75,76,77,78,79,9,35,36,10] (fun k:Fin (r.orders.length+1)=>[(10,(true,.int .i64 (k.1:Nat))),(9,(true,.int .i64 (x.leftH q k.1)))]) (fun k=>hps [(23104,{base:=0,blks:=[{z:=5,els:=[[.sl 2 (t.used.map cycV),.sl 2 (t.whr.map cycV),.sl 1 (t.iss.map rb),snV t.since,dnV t.done]],ty:=198}]}),(23103,{base:=0,blks:=[{z:=4,els:=[[.sl 3 (r.kinds.map Kd.row),.sl 4 (r.parts.map Pt.row),.int .i64 r.machines,.sl 2 (r.orders.map Od.row)]],ty:=37}]})] noH) (fun k=>r.orders.length - k.1) ⟨0,by omega⟩ ?_ ?_ ?_
 ·simp [okAll,okv,hH]
 ·exact(by(try simp -dsimp only [hpx]); refine hle_hps ?_; simp -dsimp [allK]<;>exact rz)
 rintro⟨k,hk⟩
 simp only
 by_cases hk1:k<r.orders.length
 ·have hki2:(k:Int)<r.orders.length:=by omega
  have wk:IntKind.wrap .i64 ((k:Int)+1)=(k+1:Nat):=wrap_id (by omega) (by omega)
  have l1:k<t.iss.length:=by rw [hwf.iss]; exact hk1
  have l2:k<t.done.length:=by rw [hwf.done]; exact hk1
  have l3:k<t.since.length:=by rw [hwf.since]; exact hk1
  obtain⟨od,hod,hod'⟩:=get_ex hk1
  obtain⟨b1,hb1,hb1'⟩:=get_ex l1
  obtain⟨dr,hdr,hdr'⟩:=get_ex l2
  obtain⟨sr,hsr,hsr'⟩:=get_ex l3
  have l4:pn<dr.length:=by rw [hwf.doner dr (hdr' ▸ List.getElem_mem l2)]; exact hpn
  have l5:pn<sr.length:=by rw [hwf.sincer sr (hsr' ▸ List.getElem_mem l3)]; exact hpn
  obtain⟨b2,hb2,hb2'⟩:=get_ex l4
  obtain⟨sn,hsn,hsn'⟩:=get_ex l5
  have hs:x.leftH q (k+1)=if b1 && (od.kind == (ki:Int) && !b2)then imin (x.leftH q k) (wsub od.within sn)else x.leftH q k:=by
   simp only [HI.leftH,HI.leftI,q4,q5,q1,hxr,hxi]
   simp only [List.getD,hod,hb1,hdr,hsr,hb2,hsn,Option.getD_some]
  have hsv:=snV_ne (l:=t.since) (by omega)
  have hdv:=dnV_ne (l:=t.done) (by omega)
  generalize x.leftH q k=H at *
  by_cases hkk:od.kind=(ki:Int)
  case neg=>
   have hkk2:(od.kind == (ki:Int))=false:=by simpa using hkk
   have hkk':(od.kind=(ki:Int))=False:=eq_false hkk
   simp -dsimp [hki2]
   repeat' (first|omega|simp -dsimp [E231,ri,cellp,ints,hki2,hk1,hod,hod',wk,Od.row,hkk',hkk2]|refine aI ?_ fun _=>?_|refine oI fun _=>?_|refine nI ?_ ?_)
   refine⟨⟨k+1,by omega⟩,tle_chain rfl ?_,(by(try simp -dsimp only [hpx]); refine hle_hps ?_; simp -dsimp [allK]<;>exact rz),by simp only; omega⟩
   simp [okAll,okv,hs,hkk]
  cases b1
  ·simp -dsimp [hki2]
   repeat' (first|omega|simp -dsimp [E231,ri,cellp,ints,hki2,hk1,hod,hod',hb1,hb1',l1,wk,Od.row,rb,hkk]|refine aI ?_ fun _=>?_|refine oI fun _=>?_|refine nI ?_ ?_)
   refine⟨⟨k+1,by omega⟩,tle_chain rfl ?_,(by(try simp -dsimp only [hpx]); refine hle_hps ?_; simp -dsimp [allK]<;>exact rz),by simp only; omega⟩
   simp [okAll,okv,hs]
  cases b2
  ·simp -dsimp [hki2]
   repeat' (first|omega|simp -dsimp [E231,ri,cellp,ints,hki2,hk1,hod,hod',hb1,hb1',l1,l2,l3,l4,l5,hdr,hdr',hsr,hsr',hb2,hb2',hsn,hsn',hsv,hdv,bls,wk,Od.row,rb,hkk]|refine aI ?_ fun _=>?_|refine oI fun _=>?_|refine nI ?_ ?_)
   refine⟨⟨k+1,by omega⟩,tle_chain rfl ?_,(by(try simp -dsimp only [hpx]); refine hle_hps ?_; simp -dsimp [allK]<;>exact rz),by simp only; omega⟩
   by_cases hlt:IntKind.i64.wrap (od.within - sn)<H<;>simp [okAll,okv,hs,hkk,imin,wsub,hlt]
  ·simp -dsimp [hki2]
   repeat' (first|omega|simp -dsimp [E231,ri,cellp,ints,hki2,hk1,hod,hod',hb1,hb1',l1,l2,l4,hdr,hdr',hb2,hb2',hdv,bls,wk,Od.row,rb,hkk]|refine aI ?_ fun _=>?_|refine oI fun _=>?_|refine nI ?_ ?_)
   refine⟨⟨k+1,by omega⟩,tle_chain rfl ?_,(by(try simp -dsimp only [hpx]); refine hle_hps ?_; simp -dsimp [allK]<;>exact rz),by simp only; omega⟩
   simp [okAll,okv,hs,hkk]
 ·have hkn:¬ (k:Int)<r.orders.length:=by omega
  have hke:k=r.orders.length:=by omega
  subst hke
  simp -dsimp [hkn]
  repeat' (first|omega|simp -dsimp [E231,ri,cellp,ints,hkn,hki,hkd,hkd',hk2,Kd.row,hu,hu',hpu,cycV,r1,r2,hp0,hp1,hpn]|refine aI ?_ fun _=>?_|refine oI fun _=>?_|refine nI ?_ ?_)
theorem ok231:FO 231 rleftS:=pf b231 .nil
end Go.Sx
end
end
