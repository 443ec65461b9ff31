/- Fleet: the reference's errors of a fleet. No conditions. -/
import Derived.Test.YtfhdpblkdgmnfaaGreatDoorP25
import Derived.Test.YtfhdpblkdgmnfaaGreatDoorP32
import Derived.Test.YtfhdpblkdgmnfaaGreatDoorP37
set_option linter.unusedSimpArgs false
set_option linter.unusedVariables false
set_option linter.unusedSectionVars false
set_option maxRecDepth 100000
set_option maxHeartbeats 8000000
noncomputable section
namespace Go.Sx
open Go.Proofs
attribute [local irreducible] bA
structure KD (f:Fl):Prop where
 met:qQ f.met
 Ah:f.Ah.length≤100000000000000
 op:RL.oW ⟨f.eH,f.ko⟩
 ch:MG (f.gv,f.wF)
 dU:f.dU.length≤100000000000000
 lz:f.lz.length≤100000000000000
 jobs:f.jobs.length≤100000000000000
def okB (f:Fl) (k:Nat):Prop:=(∀x∈f.dU.take k,s8 (f.met.n - 1) x=false)∧∀x∈f.lz.take k,s8 7 x=false
def okJ (f:Fl) (k:Nat):Prop:=∀x∈f.jobs.take k,Jb.bad f.met.n f.gF x=false
theorem ug {α:Type} {p:α→Bool} {l:List α} {k:Nat} {x:α} (hx:l[k]?=some x) (h:∀y∈l.take k,p y=false) (h2:p x=false):∀y∈l.take (k+1),p y=false:=by
 intro y hy
 rw [List.take_add_one,hx]at hy
 rcases List.mem_append.1 hy with hy|hy
 ·exact h y hy
 ·have:y=x:=by simpa using hy
  rw [this]; exact h2
noncomputable abbrev E53:Env:={P:=Tryz.prog,fn:=bf [],own:=[],key:=5300,nt:=15}
theorem b53:af E53 [] Tryz.f53 nA:=pb <| by
 rintro⟨n,lo,hi⟩ _
 simp -dsimp [Tryz.f53,E53,bQ]
 repeat' (first|omega|simp -dsimp [E53,ri,aa,ints,bQ]|apply aI|refine oI fun _=>?_|apply nI)
theorem akH:FO 53 nA:=pf b53 .nil
noncomputable abbrev afl:aB:=bS Hj KD fun f=>.int .i64 (Nr f)
noncomputable abbrev sM:Env:={P:=Tryz.prog,fn:=bf [(49,.pure mmS),(50,.pure Xm),(51,.pure mc),(52,.pure Vj),(53,.pure nA)],own:=[],key:=2200,nt:=178,jQ:=[(1,[1,50001])]}
theorem b22:af sM [] Tryz.f22 afl:=pb <| by
 rintro f ⟨s9,hnl,hop,hch,ry,cZ,hjl⟩
 have hE:Nr f=if uz f.met f.mn≠0 then uz f.met f.mn else if pq f.met f.Ah≠0 then pq f.met f.Ah else if jA f.eH f.ko≠0 then jA f.eH f.ko else if (fL f.gv f.wF).2≠0 then (fL f.gv f.wF).2 else if flB f=true then 0 else 110:=rfl
 by_cases e1:uz f.met f.mn=0
 case neg=>
  rw [if_pos e1]at hE
  simp -dsimp [Tryz.f22,sM]
  repeat' (first|omega|simp -dsimp [sM,ri,aa,ints,fF,s9,e1,hE]|apply aI|refine oI fun _=>?_|apply nI)
 rw [if_neg (by simp [e1])]at hE
 by_cases e2:pq f.met f.Ah=0
 case neg=>
  rw [if_pos e2]at hE
  simp -dsimp [Tryz.f22,sM]
  repeat' (first|omega|simp -dsimp [sM,ri,aa,ints,fF,eC,s9,hnl,e1,e2,hE]|apply aI|refine oI fun _=>?_|apply nI)
 rw [if_neg (by simp [e2])]at hE
 by_cases e3:jA f.eH f.ko=0
 case neg=>
  rw [if_pos e3]at hE
  simp -dsimp [Tryz.f22,sM]
  repeat' (first|omega|simp -dsimp [sM,ri,aa,ints,fF,eC,gr,s9,hnl,hop,e1,e2,e3,hE]|apply aI|refine oI fun _=>?_|apply nI)
 rw [if_neg (by simp [e3])]at hE
 by_cases e4:(fL f.gv f.wF).2=0
 case neg=>
  rw [if_pos e4]at hE
  simp -dsimp [Tryz.f22,sM]
  repeat' (first|omega|simp -dsimp [sM,ri,aa,ints,fF,eC,gr,dw,s9,hnl,hop,hch,e1,e2,e3,e4,hE]|apply aI|refine oI fun _=>?_|apply nI)
 rw [if_neg (by simp [e4])]at hE
 have hmo:=(uj.1 e1).1
 have hmn:=yd hmo
 have wn:=wi (f.met.n - 1)
 have hno:flB f=false→Nr f=110:=fun h=>by rw [h]at hE; exact hE
 have hyes:flB f=true→Nr f=0:=fun h=>by rw [if_pos h]at hE; exact hE
 have We:flB f=((decide ((f.dU.length:Int)=f.eH.ax) && decide ((f.lz.length:Int)=f.eH.ax) && !(f.dU.any (s8 (f.met.n - 1))) && !(f.lz.any (s8 7))) &&
 (bQ f.turn 0 100 && bQ f.hour 1 100 && bQ f.rU 0 f.eH.ax && bQ f.gF 1 2000 && decide (f.jobs.length≤6)) && !(f.jobs.any (Jb.bad f.met.n f.gF))):=rfl
 clear hE
 rcases Classical.propComplete ((f.dU.length:Int)=f.eH.ax)with c1|c1
 case inr=>
  have hE:=hno (by rw [We]; simp [c1])
  simp -dsimp [Tryz.f22,sM]
  repeat' (first|omega|simp -dsimp [sM,ri,aa,ints,fF,eC,gr,dw,s9,hnl,hop,hch,e1,e2,e3,e4,c1,hE]|apply aI|refine oI fun _=>?_|apply nI)
 rcases Classical.propComplete ((f.lz.length:Int)=f.eH.ax)with c2|c2
 case inr=>
  have hE:=hno (by rw [We]; simp [c2])
  simp -dsimp [Tryz.f22,sM]
  repeat' (first|omega|simp -dsimp [sM,ri,aa,ints,fF,eC,gr,dw,s9,hnl,hop,hch,e1,e2,e3,e4,c1,c2,hE]|apply aI|refine oI fun _=>?_|apply nI)
 have Kv:(f.dU.length:Int)=f.eH.ax:=of_eq_true c1
 have HC:(f.lz.length:Int)=f.eH.ax:=of_eq_true c2
 cases g1:bQ f.turn 0 100
 ·have hE:=hno (by rw [We]; simp [g1])
  simp -dsimp [Tryz.f22,sM]
  repeat' (first|omega|simp -dsimp [sM,ri,aa,ints,fF,eC,gr,dw,s9,hnl,hop,hch,e1,e2,e3,e4,c1,c2,g1,hE]|apply aI|refine oI fun _=>?_|apply nI)
 cases g2:bQ f.hour 1 100
 ·have hE:=hno (by rw [We]; simp [g2])
  simp -dsimp [Tryz.f22,sM]
  repeat' (first|omega|simp -dsimp [sM,ri,aa,ints,fF,eC,gr,dw,s9,hnl,hop,hch,e1,e2,e3,e4,c1,c2,g1,g2,hE]|apply aI|refine oI fun _=>?_|apply nI)
 cases g3:bQ f.rU 0 f.dU.length
 ·have hE:=hno (by rw [We,←Kv,g3]; simp)
  simp -dsimp [Tryz.f22,sM]
  repeat' (first|omega|simp -dsimp [sM,ri,aa,ints,fF,eC,gr,dw,s9,hnl,hop,hch,e1,e2,e3,e4,c1,c2,g1,g2,g3,hE]|apply aI|refine oI fun _=>?_|apply nI)
 cases g4:bQ f.gF 1 2000
 ·have hE:=hno (by rw [We]; simp [g4])
  simp -dsimp [Tryz.f22,sM]
  repeat' (first|omega|simp -dsimp [sM,ri,aa,ints,fF,eC,gr,dw,s9,hnl,hop,hch,e1,e2,e3,e4,c1,c2,g1,g2,g3,g4,hE]|apply aI|refine oI fun _=>?_|apply nI)
 rcases Classical.propComplete ((6:Int)<f.jobs.length)with c3|c3
 ·have c3':=of_eq_true c3
  have hE:=hno (by rw [We,decide_eq_false (by omega:¬ f.jobs.length≤6)]; simp)
  simp -dsimp [Tryz.f22,sM]
  repeat' (first|omega|simp -dsimp [sM,ri,aa,ints,fF,eC,gr,dw,s9,hnl,hop,hch,e1,e2,e3,e4,c1,c2,c3,g1,g2,g3,g4,hE]|apply aI|refine oI fun _=>?_|apply nI)
 have c3':=of_eq_false c3
 simp -dsimp [Tryz.f22,sM]
 repeat' (first|omega|simp -dsimp [sM,ri,aa,ints,fF,eC,gr,dw,s9,hnl,hop,hch,e1,e2,e3,e4,c1,c2,c3,g1,g2,g3,g4]|apply aI|refine oI fun _=>?_|apply nI)
 refine ay [99,100,101,102,103,106,107,108,109,110,111,112,113,114,115,116,117,118,119,120,121,122,123,124,125,2,104,105,9] (fun k:{k:Nat // k≤f.dU.length∧okB f k}=>[(9,(true,.int .i64 k.1))]) (fun _=>hps [(2201,fS f)] cg) (fun k=>f.dU.length - k.1) ⟨0,by omega,by simp [okB]⟩ ?_ ?_ ?_
 ·simp [aj,aT]
 ·(try simp -dsimp only [hpx]); refine ai ?_; simp -dsimp [aC,fS]<;>exact rz
 rintro⟨k,hk,hall⟩
 dsimp only
 by_cases aH:k<f.dU.length
 ·have hki:(k:Int)<f.dU.length:=by omega
  have hk2:k<f.lz.length:=by omega
  have iB:(k:Int)<f.lz.length:=by omega
  have wk:=wx k
  obtain⟨x,hx,hx'⟩:=gx aH
  obtain⟨y,hy,hy'⟩:=gx hk2
  cases d1:bQ x 0 (f.met.n - 1)
  ·have hE:=hno (by
    have:f.dU.any (s8 (f.met.n - 1))=true:=List.any_eq_true.2 ⟨x,hx' ▸ List.getElem_mem aH,by simp [s8,d1]⟩
    rw [We,this]; simp)
   simp -dsimp [hki]
   repeat' (first|omega|simp -dsimp [sM,ri,aa,ints,hki,aH,iB,hk2,hx,hx',hy,hy',ri,wn,d1,hE]|apply aI|refine oI fun _=>?_|apply nI)
  cases d2:bQ y 0 7
  ·have hE:=hno (by
    have:f.lz.any (s8 7)=true:=List.any_eq_true.2 ⟨y,hy' ▸ List.getElem_mem hk2,by simp [s8,d2]⟩
    rw [We,this]; simp)
   simp -dsimp [hki]
   repeat' (first|omega|simp -dsimp [sM,ri,aa,ints,hki,aH,iB,hk2,hx,hx',hy,hy',ri,wn,d1,d2,hE]|apply aI|refine oI fun _=>?_|apply nI)
  have sQ:okB f (k+1):=⟨ug hx hall.1 (by simp [s8,d1]),ug hy hall.2 (by simp [s8,d2])⟩
  simp -dsimp [hki]
  repeat' (first|omega|simp -dsimp [sM,ri,aa,ints,hki,aH,iB,hk2,hx,hx',hy,hy',ri,wn,d1,d2,wk]|apply aI|refine oI fun _=>?_|apply nI)
  refine⟨k+1,ag rfl ?_,bA.refl _,⟨by omega,sQ⟩,by omega⟩
  simp [aj,aT]
 have hkn:¬ (k:Int)<f.dU.length:=by omega
 have hke:k=f.dU.length:=by omega
 have hkc:k=f.lz.length:=by omega
 obtain⟨ha1,ha2⟩:=hall
 have ez:f.dU.any (s8 (f.met.n - 1))=false:=List.any_eq_false.2 fun x hx=>by rw [ha1 x (by rw [hke,List.take_length]; exact hx)]; simp
 have kJ:f.lz.any (s8 7)=false:=List.any_eq_false.2 fun x hx=>by rw [ha2 x (by rw [hkc,List.take_length]; exact hx)]; simp
 clear ha1 ha2
 simp -dsimp [hkn]
 repeat' (first|omega|simp -dsimp [sM,ri,aa,ints,hkn]|apply aI|refine oI fun _=>?_|apply nI)
 refine ay [126,127,128,129,130,133,134,135,136,137,11,138,139,140,141,142,143,144,145,146,147,148,149,150,151,152,153,154,155,156,157,158,159,160,161,162,163,164,165,166,167,168,169,170,171,172,173,174,175,176,177,2,131,132,10] (fun k:{k:Nat // k≤f.jobs.length∧okJ f k}=>[(10,(true,.int .i64 k.1))]) (fun k=>hps [(2211,{base:=k.1,ah:=[]}),(2201,fS f)] cg) (fun k=>f.jobs.length - k.1) ⟨0,by omega,by simp [okJ]⟩ ?_ ?_ ?_
 ·simp [aj,aT]
 ·(try simp -dsimp only [hpx]); refine ai ?_; simp -dsimp [aC,fS]<;>exact rz
 rintro⟨k,hk,hall⟩
 dsimp only
 by_cases aH:k<f.jobs.length
 ·have hki:(k:Int)<f.jobs.length:=by omega
  have wk:=wx k
  obtain⟨x,hx,hx'⟩:=gx aH
  have hun:1≤f.gF∧f.gF≤2000:=by simpa [bQ]using g4
  have wu:=wi (f.gF - 1)
  have l7:Jb.bad f.met.n f.gF x=true→Nr f=110:=fun h=>hno (by
   have:f.jobs.any (Jb.bad f.met.n f.gF)=true:=List.any_eq_true.2 ⟨x,hx' ▸ List.getElem_mem aH,h⟩
   rw [We,this]; simp)
  have sQ:Jb.bad f.met.n f.gF x=false→okJ f (k+1):=fun h=>ug hx hall h
  have hbd:Jb.bad f.met.n f.gF x=!(bQ x.a 0 (f.met.n - 1) && bQ x.b 0 (f.met.n - 1) && decide (x.a≠x.b) && bQ x.dep 0 (f.gF - 1) && bQ x.val 0 1000000):=rfl
  rw [hbd]at l7 sQ
  obtain⟨a,b,d,v,w⟩:=x
  simp only at l7 sQ
  rcases Classical.propComplete (a=b)with c|c<;>cases d1:bQ a 0 (f.met.n - 1)<;>cases d2:bQ b 0 (f.met.n - 1)<;>cases d3:bQ d 0 (f.gF - 1)<;>cases d4:bQ v 0 1000000
  all_goals
   simp only [d1,d2,d3,d4,c,ne_eq,not_true,not_false_iff,decide_true,decide_false,Bool.and_true,Bool.and_false,Bool.true_and,Bool.false_and,Bool.not_true,Bool.not_false,true_implies,reduceCtorEq,false_implies]at l7 sQ
   simp -dsimp [hki]
   repeat' (first|omega|simp -dsimp [sM,ri,aa,ints,hki,aH,hx,hx',Jb.row,wn,wu,d1,d2,d3,d4,c,wk,l7]|apply aI|refine oI fun _=>?_|apply nI)
  all_goals
   refine⟨k+1,ag rfl ?_,?_,⟨by omega,sQ⟩,by omega⟩
   ·simp [aj,aT]
   ·(try simp -dsimp only [hpx]); refine ai ?_; simp -dsimp [aC,fS]<;>exact rz
 have hkn:¬ (k:Int)<f.jobs.length:=by omega
 have hke:k=f.jobs.length:=by omega
 have Hl:f.jobs.any (Jb.bad f.met.n f.gF)=false:=List.any_eq_false.2 fun x hx=>by rw [hall x (by rw [hke,List.take_length]; exact hx)]; simp
 have hE:=hyes (by rw [We,ez,kJ,Hl,g1,g2,g4,←Kv,g3,decide_eq_true (by omega:f.jobs.length≤6),HC,←Kv]; simp)
 simp -dsimp [hkn]
 repeat' (first|omega|simp -dsimp [sM,ri,aa,ints,hkn,hE]|apply aI|refine oI fun _=>?_|apply nI)
theorem apQ:FO 22 afl:=pf b22 (.cons alf (.cons ahH (.cons aiy (.cons afk (.cons akH .nil)))))
end Go.Sx
end
