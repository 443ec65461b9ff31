/- A part of a proof; no conditions. -/
import Derived.Test.YtfhdpblkdgmnfaaGreatDoorP22
import Derived.Test.YtfhdpblkdgmnfaaGreatDoorP21
import Derived.Test.YtfhdpblkdgmnfaaGreatDoorP19
set_option linter.unusedSimpArgs false
set_option linter.unusedVariables false
set_option linter.unusedSectionVars false
set_option maxRecDepth 100000
set_option maxHeartbeats 8000000
noncomputable section
section
namespace Go.Sx
open Go.Proofs
attribute [local irreducible] HLe
theorem takeAny {α:Type} {l:List α} {p:α→Bool} {k:Nat} (hk:k<l.length) (h:(l.take k).any p=false) (hb:p l[k]=false):(l.take (k+1)).any p=false:=by
 rw [List.take_add_one,List.any_append,h]; simp [List.getElem?_eq_getElem hk,hb]
theorem anyF {α:Type} {l:List α} {p:α→Bool} (h:l.any p=false):∀x,x∈l→p x=false:=fun x hx=>Bool.eq_false_iff.2 (List.any_eq_false.1 h x hx)
abbrev E104:Env:={P:=Tryz.prog,fn:=tbl [(105,.pure rgS),(173,.pure skS),(174,.pure vwS)],own:=[],key:=10400,nt:=124,frz:=[(1,[1,50001])]}
theorem b104:PureBody E104 [] Tryz.f104 meS:=by
 refine pb ?_
 rintro m ⟨hf,hs⟩
 have hE:metE m=if m.ok=true then 0 else 40:=rfl
 rw [Met.ok]at hE
 cases h0:rgB m.n 1 8
 ·simp -dsimp only [h0,Bool.false_and]at hE
  simp -dsimp [Tryz.f104,E104]
  repeat' (first|omega|simp -dsimp [E104,ri,cellp,ints,h0,hE]|refine aI ?_ fun _=>?_|refine oI fun _=>?_|refine nI ?_ ?_)
 have hn:1≤m.n∧m.n≤8:=by simpa [rgB]using h0
 have wn:IntKind.wrap .i64 (m.n - 1)=m.n - 1:=wrap_id (by omega) (by omega)
 cases h1:m.any.ok
 ·simp -dsimp only [h0,h1,Bool.false_and,Bool.true_and]at hE
  simp -dsimp [Tryz.f104,E104]
  repeat' (first|omega|simp -dsimp [E104,ri,cellp,ints,h0,h1,skE_dec2,Sky.row,hE]|refine aI ?_ fun _=>?_|refine oI fun _=>?_|refine nI ?_ ?_)
 cases h2:rgB m.w 0 20000
 ·simp -dsimp only [h0,h1,h2,Bool.false_and,Bool.true_and]at hE
  simp -dsimp [Tryz.f104,E104]
  repeat' (first|omega|simp -dsimp [E104,ri,cellp,ints,h0,h1,h2,skE_dec2,Sky.row,hE]|refine aI ?_ fun _=>?_|refine oI fun _=>?_|refine nI ?_ ?_)
 cases h3:rgB m.s 0 20000
 ·simp -dsimp only [h0,h1,h2,h3,Bool.false_and,Bool.true_and]at hE
  simp -dsimp [Tryz.f104,E104]
  repeat' (first|omega|simp -dsimp [E104,ri,cellp,ints,h0,h1,h2,h3,skE_dec2,Sky.row,hE]|refine aI ?_ fun _=>?_|refine oI fun _=>?_|refine nI ?_ ?_)
 cases h4:rgB m.c 0 20000
 ·simp -dsimp only [h0,h1,h2,h3,h4,Bool.false_and,Bool.true_and]at hE
  simp -dsimp [Tryz.f104,E104]
  repeat' (first|omega|simp -dsimp [E104,ri,cellp,ints,h0,h1,h2,h3,h4,skE_dec2,Sky.row,hE]|refine aI ?_ fun _=>?_|refine oI fun _=>?_|refine nI ?_ ?_)
 simp -dsimp only [h0,h1,h2,h3,h4,Bool.true_and]at hE
 by_cases h5:m.fs.length≤40
 case neg=>
  have h5i:((40:Int)<m.fs.length)=True:=eq_true (by omega)
  simp -dsimp only [h5,decide_false,Bool.false_and]at hE
  simp -dsimp [Tryz.f104,E104]
  repeat' (first|omega|simp -dsimp [E104,ri,cellp,ints,h0,h1,h2,h3,h4,h5i,skE_dec2,Sky.row,hE]|refine aI ?_ fun _=>?_|refine oI fun _=>?_|refine nI ?_ ?_)
 have h5i:((40:Int)<m.fs.length)=False:=eq_false (by omega)
 by_cases h6:m.ss.length≤20
 case neg=>
  have h6i:((20:Int)<m.ss.length)=True:=eq_true (by omega)
  simp -dsimp only [h6,decide_false,Bool.false_and,Bool.and_false]at hE
  simp -dsimp [Tryz.f104,E104]
  repeat' (first|omega|simp -dsimp [E104,ri,cellp,ints,h0,h1,h2,h3,h4,h5i,h6i,skE_dec2,Sky.row,hE]|refine aI ?_ fun _=>?_|refine oI fun _=>?_|refine nI ?_ ?_)
 have h6i:((20:Int)<m.ss.length)=False:=eq_false (by omega)
 simp -dsimp only [h5,h6,decide_true,Bool.true_and]at hE
 simp -dsimp [Tryz.f104,E104]
 repeat' (first|omega|simp -dsimp [E104,ri,cellp,ints,h0,h1,h2,h3,h4,h5i,h6i,skE_dec2,Sky.row]|refine aI ?_ fun _=>?_|refine oI fun _=>?_|refine nI ?_ ?_)
 refine awp_loop [45,46,47,48,49,52,53,54,55,56,4,57,58,59,60,61,62,63,64,65,66,67,68,69,70,71,72,73,74,75,76,77,78,79,80,81,82,83,84,85,86,87,88,89,90,91,92,2,50,51,3] (fun k:{k:Nat // k≤m.fs.length∧(m.fs.take k).any (Fc.bad m.n)=false}=>[(3,(true,.int .i64 k.1))]) (fun k=>hps [(10404,{base:=k.1,blks:=[]}),(10401,mS m)] noH) (fun k=>m.fs.length - k.1) ⟨0,by omega,by simp⟩ ?_ ?_ ?_
 ·simp [okAll,okv]
 ·exact(by(try simp -dsimp only [hpx]); refine hle_hps ?_; simp -dsimp [allK,mS]<;>exact rz)
 rintro⟨k,hk,hall⟩
 dsimp only
 by_cases hk1:k<m.fs.length
 ·have hki:(k:Int)<m.fs.length:=by omega
  have wk:IntKind.wrap .i64 ((k:Int)+1)=(k+1:Nat):=wrap_id (by omega) (by omega)
  obtain⟨x,hx⟩:∃x,m.fs[k]?=some x:=⟨_,List.getElem?_eq_getElem hk1⟩
  have hx':m.fs[k]=x:=(List.getElem?_eq_some_iff.1 hx).2
  have hB:Fc.bad m.n x=true→metE m=40:=fun h=>by
   rw [hE,List.any_eq_true.2 ⟨x,hx' ▸ List.getElem_mem hk1,h⟩]; rfl
  have hG:Fc.bad m.n x=false→(m.fs.take (k+1)).any (Fc.bad m.n)=false:=fun h=>takeAny hk1 hall (by rw [hx']; exact h)
  have hb:Fc.bad m.n x=!(rgB x.pl 0 (m.n - 1) && decide (0≤x.a∧x.a<x.b∧x.b≤2000) && rgB x.iss 0 2000 && x.k.ok):=rfl
  by_cases c:Fc.bad m.n x=true
  ·have hB:=hB c
   rw [c]at hb
   obtain⟨pl,a,b,iss,kk⟩:=x
   simp only at hb
   cases g1:rgB pl 0 (m.n - 1)
   ·simp -dsimp [hki]
    repeat' (first|omega|simp -dsimp [E104,ri,cellp,ints,hki,hk1,hx,hx',Fc.row,wn,g1,hB]|refine aI ?_ fun _=>?_|refine oI fun _=>?_|refine nI ?_ ?_)
   by_cases g2:a<0
   ·simp -dsimp [hki]
    repeat' (first|omega|simp -dsimp [E104,ri,cellp,ints,hki,hk1,hx,hx',Fc.row,wn,g1,g2,hB]|refine aI ?_ fun _=>?_|refine oI fun _=>?_|refine nI ?_ ?_)
   by_cases g3:b≤a
   ·simp -dsimp [hki]
    repeat' (first|omega|simp -dsimp [E104,ri,cellp,ints,hki,hk1,hx,hx',Fc.row,wn,g1,g2,g3,hB]|refine aI ?_ fun _=>?_|refine oI fun _=>?_|refine nI ?_ ?_)
   by_cases g4:2000<b
   ·simp -dsimp [hki]
    repeat' (first|omega|simp -dsimp [E104,ri,cellp,ints,hki,hk1,hx,hx',Fc.row,wn,g1,g2,g3,g4,hB]|refine aI ?_ fun _=>?_|refine oI fun _=>?_|refine nI ?_ ?_)
   cases g5:rgB iss 0 2000
   ·simp -dsimp [hki]
    repeat' (first|omega|simp -dsimp [E104,ri,cellp,ints,hki,hk1,hx,hx',Fc.row,wn,g1,g2,g3,g4,g5,hB]|refine aI ?_ fun _=>?_|refine oI fun _=>?_|refine nI ?_ ?_)
   cases g6:kk.ok
   ·simp -dsimp [hki]
    repeat' (first|omega|simp -dsimp [E104,ri,cellp,ints,hki,hk1,hx,hx',Fc.row,Sky.row,skE_dec2,wn,g1,g2,g3,g4,g5,g6,hB]|refine aI ?_ fun _=>?_|refine oI fun _=>?_|refine nI ?_ ?_)
   rw [g1,g5,g6,decide_eq_true (by omega)]at hb
   cases hb
  ·have c':Fc.bad m.n x=false:=by simpa using c
   have hG1:=hG c'
   rw [c']at hb
   obtain⟨pl,a,b,iss,kk⟩:=x
   simp only at hb
   have hb':=hb.symm
   simp only [Bool.not_eq_false',Bool.and_eq_true,decide_eq_true_eq]at hb'
   obtain⟨⟨⟨g1,g2,g3,g4⟩,g5⟩,g6⟩:=hb'
   have g2':(a<0)=False:=eq_false (by omega)
   have g3':(b≤a)=False:=eq_false (by omega)
   have g4':(2000<b)=False:=eq_false (by omega)
   simp -dsimp [hki]
   repeat' (first|omega|simp -dsimp [E104,ri,cellp,ints,hki,hk1,hx,hx',Fc.row,Sky.row,skE_dec2,wn,g1,g2',g3',g4',g5,g6,wk]|refine aI ?_ fun _=>?_|refine oI fun _=>?_|refine nI ?_ ?_)
   refine⟨k+1,tle_chain rfl ?_,?_,⟨by omega,anyF hG1⟩,by omega⟩
   ·simp [okAll,okv]
   ·exact(by(try simp -dsimp only [hpx]); refine hle_hps ?_; simp -dsimp [allK,mS]<;>exact rz)
 have hkn:¬ (k:Int)<m.fs.length:=by omega
 have hke:k=m.fs.length:=by omega
 subst hke
 rw [List.take_length]at hall
 rw [hall]at hE
 clear hk hk1 hall
 simp -dsimp [hkn]
 repeat' (first|omega|simp -dsimp [E104,ri,cellp,ints,hkn]|refine aI ?_ fun _=>?_|refine oI fun _=>?_|refine nI ?_ ?_)
 refine awp_loop [93,94,95,96,97,100,101,102,103,104,6,105,106,107,108,109,110,111,112,113,114,115,116,117,118,119,120,121,122,123,2,98,99,5] (fun k:{k:Nat // k≤m.ss.length∧(m.ss.take k).any (Sg.bad m.n)=false}=>[(5,(true,.int .i64 k.1))]) (fun k=>hps [(10406,{base:=k.1,blks:=[]}),(10404,{base:=m.fs.length,blks:=[]}),(10401,mS m)] noH) (fun k=>m.ss.length - k.1) ⟨0,by omega,by simp⟩ ?_ ?_ ?_
 ·simp [okAll,okv]
 ·exact(by(try simp -dsimp only [hpx]); refine hle_hps ?_; simp -dsimp [allK,mS]<;>exact rz)
 rintro⟨k,hk,hall⟩
 dsimp only
 by_cases hk1:k<m.ss.length
 ·have hki:(k:Int)<m.ss.length:=by omega
  have wk:IntKind.wrap .i64 ((k:Int)+1)=(k+1:Nat):=wrap_id (by omega) (by omega)
  obtain⟨x,hx⟩:∃x,m.ss[k]?=some x:=⟨_,List.getElem?_eq_getElem hk1⟩
  have hx':m.ss[k]=x:=(List.getElem?_eq_some_iff.1 hx).2
  have hB:Sg.bad m.n x=true→metE m=40:=fun h=>by
   rw [hE,List.any_eq_true.2 ⟨x,hx' ▸ List.getElem_mem hk1,h⟩]; rfl
  have hG:Sg.bad m.n x=false→(m.ss.take (k+1)).any (Sg.bad m.n)=false:=fun h=>takeAny hk1 hall (by rw [hx']; exact h)
  have hb:Sg.bad m.n x=!(rgB x.pl 0 (m.n - 1) && rgB x.at' 0 2000 && x.k.ok):=rfl
  obtain⟨pl,t,⟨w,s,cc,i,st⟩⟩:=x
  simp only at hb
  cases g1:rgB pl 0 (m.n - 1)
  ·rw [g1]at hb
   have hB:=hB hb
   simp -dsimp [hki]
   repeat' (first|omega|simp -dsimp [E104,ri,cellp,ints,hki,hk1,hx,hx',Sg.row,wn,g1,hB]|refine aI ?_ fun _=>?_|refine oI fun _=>?_|refine nI ?_ ?_)
  cases g5:rgB t 0 2000
  ·rw [g1,g5]at hb
   have hB:=hB hb
   simp -dsimp [hki]
   repeat' (first|omega|simp -dsimp [E104,ri,cellp,ints,hki,hk1,hx,hx',Sg.row,wn,g1,g5,hB]|refine aI ?_ fun _=>?_|refine oI fun _=>?_|refine nI ?_ ?_)
  cases g6:Wt.ok ⟨w,s,cc,i,st⟩
  ·rw [g1,g5,g6]at hb
   have hB:=hB hb
   simp -dsimp [hki]
   repeat' (first|omega|simp -dsimp [E104,ri,cellp,ints,hki,hk1,hx,hx',Sg.row,wtE_dec,wn,g1,g5,g6,hB]|refine aI ?_ fun _=>?_|refine oI fun _=>?_|refine nI ?_ ?_)
  rw [g1,g5,g6]at hb
  have hG:=hG hb
  simp -dsimp [hki]
  repeat' (first|omega|simp -dsimp [E104,ri,cellp,ints,hki,hk1,hx,hx',Sg.row,wtE_dec,wn,g1,g5,g6,wk]|refine aI ?_ fun _=>?_|refine oI fun _=>?_|refine nI ?_ ?_)
  refine⟨k+1,tle_chain rfl ?_,?_,⟨by omega,anyF hG⟩,by omega⟩
  ·simp [okAll,okv]
  ·exact(by(try simp -dsimp only [hpx]); refine hle_hps ?_; simp -dsimp [allK,mS]<;>exact rz)
 have hkn:¬ (k:Int)<m.ss.length:=by omega
 have hke:k=m.ss.length:=by omega
 subst hke
 rw [List.take_length]at hall
 rw [hall]at hE
 have hE:metE m=0:=by rw [hE]; rfl
 simp -dsimp [hkn]
 repeat' (first|omega|simp -dsimp [E104,ri,cellp,ints,hkn,hE]|refine aI ?_ fun _=>?_|refine oI fun _=>?_|refine nI ?_ ?_)
theorem ok104:FO 104 meS:=pf b104 (.cons ok105 (.cons ok173 (.cons ok174 .nil)))
abbrev E184:Env:={P:=Tryz.prog,fn:=tbl [(234,.pure my4S),(236,.pure wsS),(235,.pure flyW)],own:=[],key:=18400,nt:=22}
theorem b184:PureBody E184 [(2,([],[[0,1,2,3,4],[2,0,1,3,4]]))] Tryz.f184 op1S:=by
 refine pb ?_
 rintro⟨m,l,p,t⟩ hP
 have hP:MayP (m,p,t):=hP
 have e:fly1 (wstK (mayK m p t)) l=opnB m l p t:=fly_wst _ _
 simp -dsimp [Tryz.f184,E184,Wt.row]
 repeat' (first|omega|simp -dsimp [E184,ri,cellp,ints,Wt.row,Sky.row,myE_dec,hP,skE_dec2,flyE_dec,e]|refine aI ?_ fun _=>?_|refine oI fun _=>?_|refine nI ?_ ?_)
theorem ok184:FO 184 op1S:=pf b184 (.cons ok234 (.cons ok236 (.cons ok235 .nil)))
abbrev E49:Env:={P:=Tryz.prog,fn:=tbl [(104,.pure meS),(105,.pure rgS)],own:=[],key:=4900,nt:=27}
theorem b49:PureBody E49 [] Tryz.f49 mmS:=by
 refine pb ?_
 rintro⟨m,l⟩ hP
 have hP:MetP m:=hP
 rcases metE_cases m with⟨h0,h1⟩|⟨h0,h1⟩
 ·have hE:mnE m l=if l.ok=true then 0 else 41:=by simp [mnE,h0]
  rw [Wt.ok]at hE
  generalize g1:rgB l.w 0 300=p1 at hE
  generalize g2:rgB l.s 0 20000=p2 at hE
  generalize g3:rgB l.c 0 20000=p3 at hE
  cases p1
  ·simp -dsimp [Tryz.f49,E49,Wt.row]
   repeat' (first|omega|simp -dsimp [E49,ri,cellp,ints,Wt.row,meE_dec,hP,h1,g1,hE]|refine aI ?_ fun _=>?_|refine oI fun _=>?_|refine nI ?_ ?_)
  cases p2
  ·simp -dsimp [Tryz.f49,E49,Wt.row]
   repeat' (first|omega|simp -dsimp [E49,ri,cellp,ints,Wt.row,meE_dec,hP,h1,g1,g2,hE]|refine aI ?_ fun _=>?_|refine oI fun _=>?_|refine nI ?_ ?_)
  cases p3
  ·simp -dsimp [Tryz.f49,E49,Wt.row]
   repeat' (first|omega|simp -dsimp [E49,ri,cellp,ints,Wt.row,meE_dec,hP,h1,g1,g2,g3,hE]|refine aI ?_ fun _=>?_|refine oI fun _=>?_|refine nI ?_ ?_)
  simp -dsimp [Tryz.f49,E49,Wt.row]
  repeat' (first|omega|simp -dsimp [E49,ri,cellp,ints,Wt.row,meE_dec,hP,h1,g1,g2,g3,hE]|refine aI ?_ fun _=>?_|refine oI fun _=>?_|refine nI ?_ ?_)
 ·have hE:mnE m l=40:=by simp [mnE,h0]
  simp -dsimp [Tryz.f49,E49,Wt.row]
  repeat' (first|omega|simp -dsimp [E49,ri,cellp,ints,Wt.row,meE_dec,hP,h1,hE]|refine aI ?_ fun _=>?_|refine oI fun _=>?_|refine nI ?_ ?_)
theorem ok49:FO 49 mmS:=pf b49 (.cons ok104 (.cons ok105 .nil))
end Go.Sx
end
section
namespace Go.Sx
open Go.Proofs
attribute [local irreducible] HLe
abbrev ctkS:PSpec:=mkP myE (fun d=>MetP d.1) fun d=>.int .i64 (catE d.1 d.2.1 d.2.2)
theorem okN {m:Met} (h:m.ok=true):1≤m.n∧m.n≤8:=by
 simp only [Met.ok,Bool.and_eq_true,rgB,decide_eq_true_eq]at h
 exact h.1.1.1.1.1.1
abbrev E233:Env:={P:=Tryz.prog,fn:=tbl [(104,.pure meS),(105,.pure rgS)],own:=[],key:=23300,nt:=24}
theorem b233:PureBody E233 [] Tryz.f233 ctkS:=by
 refine pb ?_
 rintro⟨m,p,t⟩ hP
 have hP:MetP m:=hP
 rcases metE_cases m with⟨h0,h1⟩|⟨h0,h1⟩
 ·have hn:=okN h0
  have wn:IntKind.wrap .i64 (m.n - 1)=m.n - 1:=wrap_id (by omega) (by omega)
  have hE:catE m p t=if atB m p t=true then 0 else 1:=by simp [catE,h0]
  rw [atB]at hE
  cases g1:rgB p 0 (m.n - 1)
  ·rw [g1]at hE
   have hE:catE m p t=1:=hE
   simp -dsimp [Tryz.f233,E233]
   repeat' (first|omega|simp -dsimp [E233,ri,cellp,ints,meE_dec,hP,h1,wn,g1,hE]|refine aI ?_ fun _=>?_|refine oI fun _=>?_|refine nI ?_ ?_)
  cases g2:rgB t 0 2000
  ·rw [g1,g2]at hE
   have hE:catE m p t=1:=hE
   simp -dsimp [Tryz.f233,E233]
   repeat' (first|omega|simp -dsimp [E233,ri,cellp,ints,meE_dec,hP,h1,wn,g1,g2,hE]|refine aI ?_ fun _=>?_|refine oI fun _=>?_|refine nI ?_ ?_)
  rw [g1,g2]at hE
  have hE:catE m p t=0:=hE
  simp -dsimp [Tryz.f233,E233]
  repeat' (first|omega|simp -dsimp [E233,ri,cellp,ints,meE_dec,hP,h1,wn,g1,g2,hE]|refine aI ?_ fun _=>?_|refine oI fun _=>?_|refine nI ?_ ?_)
 ·have hE:catE m p t=40:=by simp [catE,h0]
  simp -dsimp [Tryz.f233,E233]
  repeat' (first|omega|simp -dsimp [E233,ri,cellp,ints,meE_dec,hP,h1,hE]|refine aI ?_ fun _=>?_|refine oI fun _=>?_|refine nI ?_ ?_)
theorem ok233:FO 233 ctkS:=pf b233 (.cons ok104 (.cons ok105 .nil))
abbrev E183:Env:={P:=Tryz.prog,fn:=tbl [(49,.pure mmS),(233,.pure ctkS)],own:=[],key:=18300,nt:=20}
theorem b183:PureBody E183 [] Tryz.f183 coS:=by
 refine pb ?_
 rintro⟨m,l,p,t⟩ hP
 have hP:MetP m:=hP
 rcases mnE_cases m l with⟨h0,h1⟩|h1
 ·have hE:catE m p t=opnE m l p t:=by simp [catE,h0,opnE,h1]
  simp -dsimp [Tryz.f183,E183,Wt.row]
  repeat' (first|omega|simp -dsimp [E183,ri,cellp,ints,Wt.row,mmE_dec,myE_dec,hP,h1,hE]|refine aI ?_ fun _=>?_|refine oI fun _=>?_|refine nI ?_ ?_)
 ·have hE:opnE m l p t=mnE m l:=by simp [opnE,h1]
  simp -dsimp [Tryz.f183,E183,Wt.row]
  repeat' (first|omega|simp -dsimp [E183,ri,cellp,ints,Wt.row,mmE_dec,hP,h1,hE]|refine aI ?_ fun _=>?_|refine oI fun _=>?_|refine nI ?_ ?_)
theorem ok183:FO 183 coS:=pf b183 (.cons ok49 (.cons ok233 .nil))
abbrev E114:Env:={P:=Tryz.prog,fn:=tbl [(183,.pure coS),(184,.pure op1S)],own:=[],key:=11400,nt:=24}
theorem b114:PureBody E114 [] Tryz.f114 OpS:=by
 refine pb ?_
 rintro⟨m,l,p,t⟩ ⟨h1,h2,h3⟩
 simp only at h1 h2 h3
 have hM:=h1.met
 simp only at hM
 have hE:opnE m l p t=0:=by
  have h1':m.ok=true:=h1.ok
  have:mnE m l=0:=by simp [mnE,h1',h2]
  simp [opnE,this,h3]
 simp -dsimp [Tryz.f114,E114,Wt.row]
 repeat' (first|omega|simp -dsimp [E114,ri,cellp,ints,Wt.row,moE_dec,hM,hE,h1]|refine aI ?_ fun _=>?_|refine oI fun _=>?_|refine nI ?_ ?_)
theorem ok114:FO 114 OpS:=pf b114 (.cons ok183 (.cons ok184 .nil))
end Go.Sx
end
section
namespace Go.Sx
open Go.Proofs
attribute [local irreducible] HLe
abbrev E106:Env:={P:=Tryz.prog,fn:=tbl [],own:=[],key:=10600,nt:=15}
theorem b106:PureBody E106 [] Tryz.f106 rgS:=by
 refine pb ?_
 rintro⟨n,lo,hi⟩ _
 simp -dsimp [Tryz.f106,E106,rgB]
 repeat' (first|omega|simp -dsimp [E106,ri,cellp,ints,rgB]|refine aI ?_ fun _=>?_|refine oI fun _=>?_|refine nI ?_ ?_)
theorem ok106:FO 106 rgS:=pf b106 .nil
def legsR (n:Int) (l:List Leg) (k:Nat):Prop:=∀x∈l.take k,Leg.bad n x=false
abbrev nckS:PSpec:=mkP tiE (fun d=>MetP d.1∧d.2.length≤100000000000000) fun d=>.int .i64 (netE d.1 d.2)
abbrev E50:Env:={P:=Tryz.prog,fn:=tbl [(104,.pure meS),(106,.pure rgS)],own:=[],key:=5000,nt:=55,frz:=[(1,[2,50002])]}
theorem b50:PureBody E50 [] Tryz.f50 nckS:=by
 refine pb ?_
 rintro⟨m,l⟩ ⟨hMP,hlm⟩
 simp only at hMP hlm
 rcases metE_cases m with⟨h0,hE0⟩|⟨h0,hE0⟩
 case inr=>
  have hE:netE m l=40:=by simp [netE,h0]
  simp -dsimp [Tryz.f50,E50]
  repeat' (first|omega|simp -dsimp [E50,ri,cellp,ints,meE_dec,hMP,hE0,hE]|refine aI ?_ fun _=>?_|refine oI fun _=>?_|refine nI ?_ ?_)
 have hn:=okN h0
 have wn:IntKind.wrap .i64 (m.n - 1)=m.n - 1:=wrap_id (by omega) (by omega)
 have hE:netE m l=if netB m l=true then 0 else 50:=by simp [netE,h0]
 by_cases h20:(20:Int)<l.length
 ·have hb:netB m l=false:=by
   have:¬ l.length≤20:=by omega
   simp [netB,this]
  rw [hb]at hE
  have hE:netE m l=50:=hE
  simp -dsimp [Tryz.f50,E50]
  repeat' (first|omega|simp -dsimp [E50,ri,cellp,ints,meE_dec,hMP,hE0,h20,hE]|refine aI ?_ fun _=>?_|refine oI fun _=>?_|refine nI ?_ ?_)
 have hl:l.length≤20:=by omega
 have hl20:((20:Int)<l.length)=False:=eq_false h20
 have hbad:∀x∈l,Leg.bad m.n x=true→netE m l=50:=fun x hx h=>by
  have:netB m l=false:=by
   simp only [netB,Bool.and_eq_false_iff,Bool.not_eq_false']
   exact .inr (List.any_eq_true.2 ⟨x,hx,h⟩)
  rw [this]at hE; exact hE
 have hgood:(∀x∈l,Leg.bad m.n x=false)→netE m l=0:=fun h=>by
  have:netB m l=true:=by
   simp only [netB,Bool.and_eq_true,decide_eq_true_eq,Bool.not_eq_true',List.any_eq_false]
   exact⟨hl,fun x hx=>by rw [h x hx]; simp⟩
  rw [this]at hE; exact hE
 simp -dsimp [Tryz.f50,E50]
 repeat' (first|omega|simp -dsimp [E50,ri,cellp,ints,meE_dec,hMP,hE0,hl20]|refine aI ?_ fun _=>?_|refine oI fun _=>?_|refine nI ?_ ?_)
 refine awp_loop [16,17,18,19,22,23,24,25,7,26,27,28,29,30,31,32,33,34,35,36,37,38,39,40,41,42,43,44,45,46,47,48,49,50,51,52,53,54,4,20,21,6] (fun k:{k:Nat // k≤l.length∧legsR m.n l k}=>[(6,(true,.int .i64 k.1))]) (fun k=>hps [(5007,{base:=k.1,blks:=[]}),(5002,mS m)] noH) (fun k=>l.length - k.1) ⟨0,by omega,fun x hx=>by simp at hx⟩ ?_ ?_ ?_
 ·simp [okAll,okv]
 ·exact(by(try simp -dsimp only [hpx]); refine hle_hps ?_; simp -dsimp [allK,mS]<;>exact rz)
 rintro⟨k,hk,hall⟩
 dsimp only
 by_cases hk1:k<l.length
 ·have hki:(k:Int)<l.length:=by omega
  have wk:IntKind.wrap .i64 ((k:Int)+1)=(k+1:Nat):=wrap_id (by omega) (by omega)
  obtain⟨x,hx⟩:∃x,l[k]?=some x:=⟨_,List.getElem?_eq_getElem hk1⟩
  have hx':l[k]=x:=(List.getElem?_eq_some_iff.1 hx).2
  have hmem:x∈l:=hx' ▸ List.getElem_mem hk1
  have hb:=hbad x hmem
  obtain⟨a,b,t⟩:=x
  have hbd:Leg.bad m.n ⟨a,b,t⟩=!(rgB a 0 (m.n - 1) && rgB b 0 (m.n - 1) && decide (a≠b) && rgB t 1 200):=rfl
  have hnx:Leg.bad m.n ⟨a,b,t⟩=false→legsR m.n l (k+1):=fun h=>by
   have e:l.take (k+1)=l.take k++[⟨a,b,t⟩]:=by rw [List.take_add_one,hx]; rfl
   intro y hy
   rw [e]at hy
   rcases List.mem_append.1 hy with hy|hy
   ·exact hall y hy
   ·have:=List.mem_singleton.1 hy; subst this; exact h
  rw [hbd]at hb hnx
  rcases Classical.propComplete (a=b)with c|c<;>cases g1:rgB a 0 (m.n - 1)<;>cases g2:rgB b 0 (m.n - 1)<;>cases g4:rgB t 1 200
  all_goals
   simp only [g1,g2,g4,c,ne_eq,not_true,not_false_iff,decide_true,decide_false,Bool.and_true,Bool.and_false,Bool.true_and,Bool.false_and,Bool.not_true,Bool.not_false,true_implies,reduceCtorEq,false_implies]at hb hnx
   simp -dsimp [hki]
   repeat' (first|omega|simp -dsimp [E50,ri,cellp,ints,hki,hk1,hx,hx',Leg.row,wn,g1,g2,c,g4,wk,hb]|refine aI ?_ fun _=>?_|refine oI fun _=>?_|refine nI ?_ ?_)
  all_goals
   refine⟨k+1,tle_chain rfl ?_,?_,⟨by omega,hnx⟩,by omega⟩
   ·simp [okAll,okv]
   ·exact(by(try simp -dsimp only [hpx]); refine hle_hps ?_; simp -dsimp [allK,mS]<;>exact rz)
 have hkn:¬ (k:Int)<l.length:=by omega
 have hke:k=l.length:=by omega
 subst hke
 have hE:=hgood fun x hx=>hall x (by rw [List.take_length]; exact hx)
 simp -dsimp [hkn]
 repeat' (first|omega|simp -dsimp [E50,ri,cellp,ints,hkn,hE]|refine aI ?_ fun _=>?_|refine oI fun _=>?_|refine nI ?_ ?_)
theorem ok50:FO 50 nckS:=pf b50 (.cons ok104 (.cons ok106 .nil))
end Go.Sx
end
end
