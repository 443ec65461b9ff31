/- Fleet: the reference's errors of a fleet. No conditions. -/
import Derived.Test.YtfhdpblkdgmnfaaGreatDoorP24
import Derived.Test.YtfhdpblkdgmnfaaGreatDoorP31
import Derived.Test.YtfhdpblkdgmnfaaGreatDoorP37
set_option linter.unusedSimpArgs false
set_option linter.unusedVariables false
set_option linter.unusedSectionVars false
set_option maxRecDepth 100000
set_option maxHeartbeats 8000000
noncomputable section
namespace Go.Sx
open Go.Proofs
attribute [local irreducible] HLe
structure FlP (f:Fl):Prop where
 met:MetP f.met
 net:f.net.length≤100000000000000
 op:RL.Fine ⟨f.reg,f.wks⟩
 ch:ChP (f.ros,f.dus)
 bas:f.bas.length≤100000000000000
 cra:f.cra.length≤100000000000000
 jobs:f.jobs.length≤100000000000000
def okB (f:Fl) (k:Nat):Prop:=(∀x∈f.bas.take k,bey (f.met.n - 1) x=false)∧∀x∈f.cra.take k,bey 7 x=false
def okJ (f:Fl) (k:Nat):Prop:=∀x∈f.jobs.take k,Jb.bad f.met.n f.unt x=false
theorem all_snoc {α:Type} {p:α→Bool} {l:List α} {k:Nat} {x:α} (hx:l[k]?=some x) (h:∀y∈l.take k,p y=false) (h2:p x=false):∀y∈l.take (k+1),p y=false:=by
 intro y hy
 rw [List.take_add_one,hx]at hy
 rcases List.mem_append.1 hy with hy|hy
 ·exact h y hy
 ·have:y=x:=by simpa using hy
  rw [this]; exact h2
abbrev E53:Env:={P:=Tryz.prog,fn:=tbl [],own:=[],key:=5300,nt:=15}
theorem b53:PureBody E53 [] Tryz.f53 rgS:=by
 refine pb ?_
 rintro⟨n,lo,hi⟩ _
 simp -dsimp [Tryz.f53,E53,rgB]
 repeat' (first|omega|simp -dsimp [E53,ri,cellp,ints,rgB]|refine aI ?_ fun _=>?_|refine oI fun _=>?_|refine nI ?_ ?_)
theorem ok53:FO 53 rgS:=pf b53 .nil
abbrev fchS:PSpec:=mkP flOE FlP fun f=>.int .i64 (flE f)
abbrev E22:Env:={P:=Tryz.prog,fn:=tbl [(49,.pure mmS),(50,.pure nckS),(51,.pure checkFS),(52,.pure ckRS),(53,.pure rgS)],own:=[],key:=2200,nt:=178,frz:=[(1,[1,50001])]}
theorem b22:PureBody E22 [] Tryz.f22 fchS:=by
 refine pb ?_
 rintro f ⟨hMP,hnl,hop,hch,hbl,hcl,hjl⟩
 have hE:flE f=if mnE f.met f.mn≠0 then mnE f.met f.mn else if netE f.met f.net≠0 then netE f.met f.net else if opE f.reg f.wks≠0 then opE f.reg f.wks else if (chkE f.ros f.dus).2≠0 then (chkE f.ros f.dus).2 else if flB f=true then 0 else 110:=rfl
 by_cases e1:mnE f.met f.mn=0
 case neg=>
  rw [if_pos e1]at hE
  simp -dsimp [Tryz.f22,E22]
  repeat' (first|omega|simp -dsimp [E22,ri,cellp,ints,mmE_dec0,hMP,e1,hE]|refine aI ?_ fun _=>?_|refine oI fun _=>?_|refine nI ?_ ?_)
 rw [if_neg (by simp [e1])]at hE
 by_cases e2:netE f.met f.net=0
 case neg=>
  rw [if_pos e2]at hE
  simp -dsimp [Tryz.f22,E22]
  repeat' (first|omega|simp -dsimp [E22,ri,cellp,ints,mmE_dec0,tiE_dec,hMP,hnl,e1,e2,hE]|refine aI ?_ fun _=>?_|refine oI fun _=>?_|refine nI ?_ ?_)
 rw [if_neg (by simp [e2])]at hE
 by_cases e3:opE f.reg f.wks=0
 case neg=>
  rw [if_pos e3]at hE
  simp -dsimp [Tryz.f22,E22]
  repeat' (first|omega|simp -dsimp [E22,ri,cellp,ints,mmE_dec0,tiE_dec,rlE_dec,hMP,hnl,hop,e1,e2,e3,hE]|refine aI ?_ fun _=>?_|refine oI fun _=>?_|refine nI ?_ ?_)
 rw [if_neg (by simp [e3])]at hE
 by_cases e4:(chkE f.ros f.dus).2=0
 case neg=>
  rw [if_pos e4]at hE
  simp -dsimp [Tryz.f22,E22]
  repeat' (first|omega|simp -dsimp [E22,ri,cellp,ints,mmE_dec0,tiE_dec,rlE_dec,chE_dec0,hMP,hnl,hop,hch,e1,e2,e3,e4,hE]|refine aI ?_ fun _=>?_|refine oI fun _=>?_|refine nI ?_ ?_)
 rw [if_neg (by simp [e4])]at hE
 have hmo:=(mnE_zero.1 e1).1
 have hmn:=met_n hmo
 have wn:IntKind.wrap .i64 (f.met.n - 1)=f.met.n - 1:=wrap_id (by omega) (by omega)
 have hno:flB f=false→flE f=110:=fun h=>by rw [h]at hE; exact hE
 have hyes:flB f=true→flE f=0:=fun h=>by rw [if_pos h]at hE; exact hE
 have hBd:flB f=((decide ((f.bas.length:Int)=f.reg.machines) && decide ((f.cra.length:Int)=f.reg.machines) && !(f.bas.any (bey (f.met.n - 1))) && !(f.cra.any (bey 7))) &&
 (rgB f.turn 0 100 && rgB f.hour 1 100 && rgB f.cov 0 f.reg.machines && rgB f.unt 1 2000 && decide (f.jobs.length≤6)) && !(f.jobs.any (Jb.bad f.met.n f.unt))):=rfl
 clear hE
 rcases Classical.propComplete ((f.bas.length:Int)=f.reg.machines)with c1|c1
 case inr=>
  have hE:=hno (by rw [hBd]; simp [c1])
  simp -dsimp [Tryz.f22,E22]
  repeat' (first|omega|simp -dsimp [E22,ri,cellp,ints,mmE_dec0,tiE_dec,rlE_dec,chE_dec0,hMP,hnl,hop,hch,e1,e2,e3,e4,c1,hE]|refine aI ?_ fun _=>?_|refine oI fun _=>?_|refine nI ?_ ?_)
 rcases Classical.propComplete ((f.cra.length:Int)=f.reg.machines)with c2|c2
 case inr=>
  have hE:=hno (by rw [hBd]; simp [c2])
  simp -dsimp [Tryz.f22,E22]
  repeat' (first|omega|simp -dsimp [E22,ri,cellp,ints,mmE_dec0,tiE_dec,rlE_dec,chE_dec0,hMP,hnl,hop,hch,e1,e2,e3,e4,c1,c2,hE]|refine aI ?_ fun _=>?_|refine oI fun _=>?_|refine nI ?_ ?_)
 have c1':(f.bas.length:Int)=f.reg.machines:=of_eq_true c1
 have c2':(f.cra.length:Int)=f.reg.machines:=of_eq_true c2
 cases g1:rgB f.turn 0 100
 ·have hE:=hno (by rw [hBd]; simp [g1])
  simp -dsimp [Tryz.f22,E22]
  repeat' (first|omega|simp -dsimp [E22,ri,cellp,ints,mmE_dec0,tiE_dec,rlE_dec,chE_dec0,hMP,hnl,hop,hch,e1,e2,e3,e4,c1,c2,g1,hE]|refine aI ?_ fun _=>?_|refine oI fun _=>?_|refine nI ?_ ?_)
 cases g2:rgB f.hour 1 100
 ·have hE:=hno (by rw [hBd]; simp [g2])
  simp -dsimp [Tryz.f22,E22]
  repeat' (first|omega|simp -dsimp [E22,ri,cellp,ints,mmE_dec0,tiE_dec,rlE_dec,chE_dec0,hMP,hnl,hop,hch,e1,e2,e3,e4,c1,c2,g1,g2,hE]|refine aI ?_ fun _=>?_|refine oI fun _=>?_|refine nI ?_ ?_)
 cases g3:rgB f.cov 0 f.bas.length
 ·have hE:=hno (by rw [hBd,←c1',g3]; simp)
  simp -dsimp [Tryz.f22,E22]
  repeat' (first|omega|simp -dsimp [E22,ri,cellp,ints,mmE_dec0,tiE_dec,rlE_dec,chE_dec0,hMP,hnl,hop,hch,e1,e2,e3,e4,c1,c2,g1,g2,g3,hE]|refine aI ?_ fun _=>?_|refine oI fun _=>?_|refine nI ?_ ?_)
 cases g4:rgB f.unt 1 2000
 ·have hE:=hno (by rw [hBd]; simp [g4])
  simp -dsimp [Tryz.f22,E22]
  repeat' (first|omega|simp -dsimp [E22,ri,cellp,ints,mmE_dec0,tiE_dec,rlE_dec,chE_dec0,hMP,hnl,hop,hch,e1,e2,e3,e4,c1,c2,g1,g2,g3,g4,hE]|refine aI ?_ fun _=>?_|refine oI fun _=>?_|refine nI ?_ ?_)
 rcases Classical.propComplete ((6:Int)<f.jobs.length)with c3|c3
 ·have c3':=of_eq_true c3
  have hE:=hno (by rw [hBd,decide_eq_false (by omega:¬ f.jobs.length≤6)]; simp)
  simp -dsimp [Tryz.f22,E22]
  repeat' (first|omega|simp -dsimp [E22,ri,cellp,ints,mmE_dec0,tiE_dec,rlE_dec,chE_dec0,hMP,hnl,hop,hch,e1,e2,e3,e4,c1,c2,c3,g1,g2,g3,g4,hE]|refine aI ?_ fun _=>?_|refine oI fun _=>?_|refine nI ?_ ?_)
 have c3':=of_eq_false c3
 simp -dsimp [Tryz.f22,E22]
 repeat' (first|omega|simp -dsimp [E22,ri,cellp,ints,mmE_dec0,tiE_dec,rlE_dec,chE_dec0,hMP,hnl,hop,hch,e1,e2,e3,e4,c1,c2,c3,g1,g2,g3,g4]|refine aI ?_ fun _=>?_|refine oI fun _=>?_|refine nI ?_ ?_)
 refine awp_loop [99,100,101,102,103,106,107,108,109,110,111,112,113,114,115,116,117,118,119,120,121,122,123,124,125,2,104,105,9] (fun k:{k:Nat // k≤f.bas.length∧okB f k}=>[(9,(true,.int .i64 k.1))]) (fun _=>hps [(2201,fS f)] noH) (fun k=>f.bas.length - k.1) ⟨0,by omega,by simp [okB]⟩ ?_ ?_ ?_
 ·simp [okAll,okv]
 ·exact(by(try simp -dsimp only [hpx]); refine hle_hps ?_; simp -dsimp [allK,fS]<;>exact rz)
 rintro⟨k,hk,hall⟩
 dsimp only
 by_cases hk1:k<f.bas.length
 ·have hki:(k:Int)<f.bas.length:=by omega
  have hk2:k<f.cra.length:=by omega
  have hki2:(k:Int)<f.cra.length:=by omega
  have wk:IntKind.wrap .i64 ((k:Int)+1)=(k+1:Nat):=wrap_id (by omega) (by omega)
  obtain⟨x,hx⟩:∃x,f.bas[k]?=some x:=⟨_,List.getElem?_eq_getElem hk1⟩
  have hx':f.bas[k]=x:=(List.getElem?_eq_some_iff.1 hx).2
  obtain⟨y,hy⟩:∃y,f.cra[k]?=some y:=⟨_,List.getElem?_eq_getElem hk2⟩
  have hy':f.cra[k]=y:=(List.getElem?_eq_some_iff.1 hy).2
  cases d1:rgB x 0 (f.met.n - 1)
  ·have hE:=hno (by
    have:f.bas.any (bey (f.met.n - 1))=true:=List.any_eq_true.2 ⟨x,hx' ▸ List.getElem_mem hk1,by simp [bey,d1]⟩
    rw [hBd,this]; simp)
   simp -dsimp [hki]
   repeat' (first|omega|simp -dsimp [E22,ri,cellp,ints,hki,hk1,hki2,hk2,hx,hx',hy,hy',ri,wn,d1,hE]|refine aI ?_ fun _=>?_|refine oI fun _=>?_|refine nI ?_ ?_)
  cases d2:rgB y 0 7
  ·have hE:=hno (by
    have:f.cra.any (bey 7)=true:=List.any_eq_true.2 ⟨y,hy' ▸ List.getElem_mem hk2,by simp [bey,d2]⟩
    rw [hBd,this]; simp)
   simp -dsimp [hki]
   repeat' (first|omega|simp -dsimp [E22,ri,cellp,ints,hki,hk1,hki2,hk2,hx,hx',hy,hy',ri,wn,d1,d2,hE]|refine aI ?_ fun _=>?_|refine oI fun _=>?_|refine nI ?_ ?_)
  have hnx:okB f (k+1):=⟨all_snoc hx hall.1 (by simp [bey,d1]),all_snoc hy hall.2 (by simp [bey,d2])⟩
  simp -dsimp [hki]
  repeat' (first|omega|simp -dsimp [E22,ri,cellp,ints,hki,hk1,hki2,hk2,hx,hx',hy,hy',ri,wn,d1,d2,wk]|refine aI ?_ fun _=>?_|refine oI fun _=>?_|refine nI ?_ ?_)
  refine⟨k+1,tle_chain rfl ?_,HLe.refl _,⟨by omega,hnx⟩,by omega⟩
  simp [okAll,okv]
 have hkn:¬ (k:Int)<f.bas.length:=by omega
 have hke:k=f.bas.length:=by omega
 have hkc:k=f.cra.length:=by omega
 obtain⟨ha1,ha2⟩:=hall
 have hb1:f.bas.any (bey (f.met.n - 1))=false:=List.any_eq_false.2 fun x hx=>by rw [ha1 x (by rw [hke,List.take_length]; exact hx)]; simp
 have hb2:f.cra.any (bey 7)=false:=List.any_eq_false.2 fun x hx=>by rw [ha2 x (by rw [hkc,List.take_length]; exact hx)]; simp
 clear ha1 ha2
 simp -dsimp [hkn]
 repeat' (first|omega|simp -dsimp [E22,ri,cellp,ints,hkn]|refine aI ?_ fun _=>?_|refine oI fun _=>?_|refine nI ?_ ?_)
 refine awp_loop [126,127,128,129,130,133,134,135,136,137,11,138,139,140,141,142,143,144,145,146,147,148,149,150,151,152,153,154,155,156,157,158,159,160,161,162,163,164,165,166,167,168,169,170,171,172,173,174,175,176,177,2,131,132,10] (fun k:{k:Nat // k≤f.jobs.length∧okJ f k}=>[(10,(true,.int .i64 k.1))]) (fun k=>hps [(2211,{base:=k.1,blks:=[]}),(2201,fS f)] noH) (fun k=>f.jobs.length - k.1) ⟨0,by omega,by simp [okJ]⟩ ?_ ?_ ?_
 ·simp [okAll,okv]
 ·exact(by(try simp -dsimp only [hpx]); refine hle_hps ?_; simp -dsimp [allK,fS]<;>exact rz)
 rintro⟨k,hk,hall⟩
 dsimp only
 by_cases hk1:k<f.jobs.length
 ·have hki:(k:Int)<f.jobs.length:=by omega
  have wk:IntKind.wrap .i64 ((k:Int)+1)=(k+1:Nat):=wrap_id (by omega) (by omega)
  obtain⟨x,hx⟩:∃x,f.jobs[k]?=some x:=⟨_,List.getElem?_eq_getElem hk1⟩
  have hx':f.jobs[k]=x:=(List.getElem?_eq_some_iff.1 hx).2
  have hun:1≤f.unt∧f.unt≤2000:=by simpa [rgB]using g4
  have wu:IntKind.wrap .i64 (f.unt - 1)=f.unt - 1:=wrap_id (by omega) (by omega)
  have hbad:Jb.bad f.met.n f.unt x=true→flE f=110:=fun h=>hno (by
   have:f.jobs.any (Jb.bad f.met.n f.unt)=true:=List.any_eq_true.2 ⟨x,hx' ▸ List.getElem_mem hk1,h⟩
   rw [hBd,this]; simp)
  have hnx:Jb.bad f.met.n f.unt x=false→okJ f (k+1):=fun h=>all_snoc hx hall h
  have hbd:Jb.bad f.met.n f.unt x=!(rgB x.a 0 (f.met.n - 1) && rgB x.b 0 (f.met.n - 1) && decide (x.a≠x.b) && rgB x.dep 0 (f.unt - 1) && rgB x.val 0 1000000):=rfl
  rw [hbd]at hbad hnx
  obtain⟨a,b,d,v,w⟩:=x
  simp only at hbad hnx
  rcases Classical.propComplete (a=b)with c|c<;>cases d1:rgB a 0 (f.met.n - 1)<;>cases d2:rgB b 0 (f.met.n - 1)<;>cases d3:rgB d 0 (f.unt - 1)<;>cases d4:rgB v 0 1000000
  all_goals
   simp only [d1,d2,d3,d4,c,ne_eq,not_true,not_false_iff,decide_true,decide_false,Bool.and_true,Bool.and_false,Bool.true_and,Bool.false_and,Bool.not_true,Bool.not_false,true_implies,reduceCtorEq,false_implies]at hbad hnx
   simp -dsimp [hki]
   repeat' (first|omega|simp -dsimp [E22,ri,cellp,ints,hki,hk1,hx,hx',Jb.row,wn,wu,d1,d2,d3,d4,c,wk,hbad]|refine aI ?_ fun _=>?_|refine oI fun _=>?_|refine nI ?_ ?_)
  all_goals
   refine⟨k+1,tle_chain rfl ?_,?_,⟨by omega,hnx⟩,by omega⟩
   ·simp [okAll,okv]
   ·exact(by(try simp -dsimp only [hpx]); refine hle_hps ?_; simp -dsimp [allK,fS]<;>exact rz)
 have hkn:¬ (k:Int)<f.jobs.length:=by omega
 have hke:k=f.jobs.length:=by omega
 have hb3:f.jobs.any (Jb.bad f.met.n f.unt)=false:=List.any_eq_false.2 fun x hx=>by rw [hall x (by rw [hke,List.take_length]; exact hx)]; simp
 have hE:=hyes (by rw [hBd,hb1,hb2,hb3,g1,g2,g4,←c1',g3,decide_eq_true (by omega:f.jobs.length≤6),c2',←c1']; simp)
 simp -dsimp [hkn]
 repeat' (first|omega|simp -dsimp [E22,ri,cellp,ints,hkn,hE]|refine aI ?_ fun _=>?_|refine oI fun _=>?_|refine nI ?_ ?_)
theorem ok22:FO 22 fchS:=pf b22 (.cons ok49 (.cons ok50 (.cons ok51 (.cons ok52 (.cons ok53 .nil)))))
end Go.Sx
end
