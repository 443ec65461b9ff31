/- Tables: fractions, and the value at a point. No conditions. -/
import Derived.Test.YtfhdpblkdgmnfaaGreatDoorP52
set_option linter.unusedSimpArgs false
set_option linter.unusedVariables false
set_option linter.unusedSectionVars false
set_option maxRecDepth 100000
set_option maxHeartbeats 8000000
noncomputable section
namespace Go.Sx.y9
open Go.Proofs Go.Sx
attribute [local irreducible] bA
attribute [local simp] aG
structure Bd (m:Int):Prop where
 lo : -1000000000000000000≤m
 hi:m≤1000000000000000000
structure KD (d:Int × Int):Prop where
 n:Bd d.1
 w:0<d.2
@[simp] def vaE (d:Int × Int):List V:=[.agg [.int .i64 d.1,.int .i64 d.2]]
@[simp] def twE (d:Int × Int):List V:=[.sl 1 [[.int .i64 d.1],[.int .i64 d.2]]]
theorem Z1 (a b:Int × Int) (h:twE a=twE b):a=b:=by
 simp only [twE,List.cons.injEq,V.sl.injEq,V.int.injEq,true_and,and_true]at h
 exact Prod.ext h.1 h.2
theorem Z2 (a b:Int):aY twE [.sl 1 [[.int .i64 a],[.int .i64 b]]]=(a,b):=aA Z1 (a,b)
noncomputable abbrev orS:aB:=bS twE (fun _=>True) fun d=>.int .i64 (if d.1=0 then d.2 else d.1)
structure OrI (a b:Int) where
 k:Nat
 le:k≤2
 h1:1≤k→a=0
 h2:2≤k→b=0
noncomputable abbrev I9:Env:={P:=Tryz.prog,fn:=bf [],own:=[],key:=17200,nt:=18}
theorem apn:af I9 [] Tryz.f172 orS:=pb <| by
 rintro⟨a,b⟩ _
 have w1:IntKind.wrap .i64 1=1:=aK (by omega) (by omega)
 have w2:IntKind.wrap .i64 (1+1)=2:=aK (by omega) (by omega)
 have w3:IntKind.wrap .i64 2=2:=aK (by omega) (by omega)
 simp -dsimp [Tryz.f172,I9]
 refine ay [9,10,11,5,12,13,14,15,2,16,8] (fun s:OrI a b=>[(8,(true,.int .i64 (s.k:Nat)))]) (fun _=>cg) (fun s=>2 - s.k) ⟨0,by omega,fun h=>absurd h (by omega),fun h=>absurd h (by omega)⟩ ?_ (bA.refl _) ?_
 ·simp [aj,aT]
 rintro⟨k,le,h1,h2⟩
 simp only
 rcases(by omega:k=0∨k=1∨k=2)with rfl|rfl|rfl
 ·by_cases h:a=0
  ·subst h
   simp -dsimp []
   repeat' (first|omega|simp -dsimp [I9,ri,aa,ints,w1]|apply aI|refine oI fun _=>?_|apply nI)
   refine⟨⟨1,by omega,fun _=>rfl,fun h=>absurd h (by omega)⟩,ag rfl ?_,bA.refl _,by simp⟩
   simp [aj,aT]
  ·have h':(a=0)=False:=eq_false h
   simp -dsimp []
   repeat' (first|omega|simp -dsimp [I9,ri,aa,ints,w1,h']|apply aI|refine oI fun _=>?_|apply nI)
 ·have ha:=h1 (by omega)
  subst ha
  by_cases h:b=0
  ·subst h
   simp -dsimp []
   repeat' (first|omega|simp -dsimp [I9,ri,aa,ints,w1,w2,w3]|apply aI|refine oI fun _=>?_|apply nI)
   refine⟨⟨2,by omega,fun _=>rfl,fun _=>rfl⟩,ag rfl ?_,bA.refl _,by simp⟩
   simp [aj,aT]
  ·have h':(b=0)=False:=eq_false h
   simp -dsimp []
   repeat' (first|omega|simp -dsimp [I9,ri,aa,ints,w1,h']|apply aI|refine oI fun _=>?_|apply nI)
 ·have ha:=h1 (by omega)
  have hb:=h2 (by omega)
  subst ha hb
  simp -dsimp []
  repeat' (first|omega|simp -dsimp [I9,ri,aa,ints, *]|apply aI|refine oI fun _=>?_|apply nI)
theorem akv:FO 172 orS:=pf apn .nil
end Go.Sx.y9
end
