/- A part of a proof; no conditions. -/
import Derived.Test.YtfhdpblkdgmnfaaGreatDoorP11
import Derived.Test.YtfhdpblkdgmnfaaGreatDoorP08
import Derived.Test.YtfhdpblkdgmnfaaGreatDoorP07
import Derived.Shelf.GgSortFunc.RowK
import Derived.Sort.Grow
import Derived.Shelf.Sort.Plain
import Derived.Shelf.Slices.In.SortNone
set_option linter.unusedSimpArgs false
set_option linter.unusedVariables false
set_option linter.unusedSectionVars false
set_option maxRecDepth 100000
set_option maxHeartbeats 8000000
noncomputable section
section
namespace Go.Sx
open Go.Proofs
attribute [local irreducible] HLe
@[simp] def mmE (d:Met × Mn):List V:=[.agg d.1.row,.agg d.2.row]
theorem mmE_inj (a b:Met × Mn) (h:mmE a=mmE b):a=b:=by
 obtain⟨a1,a2⟩:=a; obtain⟨b1,b2⟩:=b
 simp only [mmE,List.cons.injEq,V.agg.injEq,and_true]at h
 rw [Met.row_inj _ _ h.1,Wt.row_inj _ _ h.2]
theorem mmE_dec (m:Met) (l:Mn):decC mmE [.agg m.row,.agg [.int .i64 l.w,.int .i64 l.s,.int .i64 l.c,.bool l.ice,.bool l.sto]]=(m,l):=decC_eq mmE_inj (m,l)
abbrev mmS:PSpec:=mkP mmE (fun d=>MetP d.1) fun d=>.int .i64 (mnE d.1 d.2)
theorem metE_cases (m:Met):m.ok=true∧metE m=0∨m.ok=false∧metE m=40:=by
 unfold metE; cases m.ok<;>simp
abbrev E192:Env:={P:=Tryz.prog,fn:=tbl [(61,.pure meS),(121,.pure rgS)],own:=[],key:=19200,nt:=27}
theorem b192:PureBody E192 [] Tryz.f192 mmS:=by
 refine pb ?_
 rintro⟨m,l⟩ hP
 have hP:MetP m:=hP
 rcases metE_cases m with⟨h0,h1⟩|⟨h0,h1⟩
 ·have hE:mnE m l=if l.ok=true then 0 else 41:=by simp [mnE,h0]
  rw [Wt.ok]at hE
  generalize g1:rgB l.w 0 300=p1 at hE
  generalize g2:rgB l.s 0 20000=p2 at hE
  generalize g3:rgB l.c 0 20000=p3 at hE
  simp -dsimp [Tryz.f192,E192,Wt.row]
  repeat' (first|omega|simp -dsimp [E192,ri,cellp,ints,Wt.row,meE_dec,hP,h1,g1,g2,g3]|refine aI ?_ fun _=>?_|refine oI fun _=>?_|refine nI ?_ ?_)
  all_goals (clear g1 g2 g3; cases p1<;>cases p2<;>cases p3<;>simp_all)
 ·have hE:mnE m l=40:=by simp [mnE,h0]
  simp -dsimp [Tryz.f192,E192,Wt.row]
  repeat' (first|omega|simp -dsimp [E192,ri,cellp,ints,Wt.row,meE_dec,hP,h1,hE]|refine aI ?_ fun _=>?_|refine oI fun _=>?_|refine nI ?_ ?_)
theorem ok192:FO 192 mmS:=pf b192 (.cons ok61 (.cons ok121 .nil))
abbrev atW:PSpec:={dom:=Int × Int,enc:=fun d=>[.int .i64 d.1,.int .i64 d.2],dec:=fun l=>((l.getD 0 .top).toInt,(l.getD 1 .top).toInt),pre:=fun _=>True,res:=fun d=>.agg [.int .i64 d.1,.int .i64 d.2,.int .i64 d.2]}
abbrev E194:Env:={P:=Tryz.prog,fn:=tbl [],own:=[],key:=19400,nt:=9}
theorem b194:PureBody E194 [] Tryz.f194 atW:=by
 refine pb ?_
 rintro⟨a,b⟩ _
 simp -dsimp [Tryz.f194,E194]
theorem ok194:FO 194 atW:=pf b194 .nil
@[simp] def caE (d:Met × Int × Int):List V:=[.agg d.1.row,.agg [.int .i64 d.2.1,.int .i64 d.2.2,.int .i64 d.2.2]]
theorem caE_inj (a b:Met × Int × Int) (h:caE a=caE b):a=b:=by
 obtain⟨a1,a2,a3⟩:=a; obtain⟨b1,b2,b3⟩:=b
 simp only [caE,List.cons.injEq,V.agg.injEq,V.int.injEq,true_and,and_true]at h
 rw [Met.row_inj _ _ h.1,h.2.1,h.2.2.1]
theorem caE_dec (m:Met) (p t:Int):decC caE [.agg m.row,.agg [.int .i64 p,.int .i64 t,.int .i64 t]]=(m,p,t):=decC_eq caE_inj (m,p,t)
def catE (m:Met) (p t:Int):Int:=if m.ok=true then (if atB m p t=true then 0 else 1)else 40
abbrev caS:PSpec:=mkP caE (fun d=>MetP d.1) fun d=>.int .i64 (catE d.1 d.2.1 d.2.2)
theorem met_w1 {m:Met} (h:m.ok=true):IntKind.wrap .i64 (m.n - 1)=m.n - 1:=by
 simp only [Met.ok,Bool.and_eq_true,rgB,decide_eq_true_eq]at h
 exact wrap_id (by omega) (by omega)
abbrev E193:Env:={P:=Tryz.prog,fn:=tbl [(61,.pure meS),(121,.pure rgS)],own:=[],key:=19300,nt:=24}
theorem b193:PureBody E193 [] Tryz.f193 caS:=by
 refine pb ?_
 rintro⟨m,p,t⟩ hP
 have hP:MetP m:=hP
 rcases metE_cases m with⟨h0,h1⟩|⟨h0,h1⟩
 ·have hE:catE m p t=if atB m p t=true then 0 else 1:=by simp [catE,h0]
  rw [atB]at hE
  have w:=met_w1 h0
  generalize g1:rgB p 0 (m.n - 1)=p1 at hE
  generalize g2:rgB t 0 2000=p2 at hE
  simp -dsimp [Tryz.f193,E193]
  repeat' (first|omega|simp -dsimp [E193,ri,cellp,ints,meE_dec,hP,h1,g1,g2,w]|refine aI ?_ fun _=>?_|refine oI fun _=>?_|refine nI ?_ ?_)
  all_goals (clear g1 g2; cases p1<;>cases p2<;>simp_all)
 ·have hE:catE m p t=40:=by simp [catE,h0]
  simp -dsimp [Tryz.f193,E193]
  repeat' (first|omega|simp -dsimp [E193,ri,cellp,ints,meE_dec,hP,h1,hE]|refine aI ?_ fun _=>?_|refine oI fun _=>?_|refine nI ?_ ?_)
theorem ok193:FO 193 caS:=pf b193 (.cons ok61 (.cons ok121 .nil))
@[simp] def moE (d:Met × Mn × Int × Int):List V:=[.agg d.1.row,.agg d.2.1.row,.int .i64 d.2.2.1,.int .i64 d.2.2.2]
theorem moE_inj (a b:Met × Mn × Int × Int) (h:moE a=moE b):a=b:=by
 obtain⟨a1,a2,a3,a4⟩:=a; obtain⟨b1,b2,b3,b4⟩:=b
 simp only [moE,List.cons.injEq,V.agg.injEq,V.int.injEq,true_and,and_true]at h
 rw [Met.row_inj _ _ h.1,Wt.row_inj _ _ h.2.1,h.2.2.1,h.2.2.2]
theorem moE_dec (m:Met) (l:Mn) (p t:Int):decC moE [.agg m.row,.agg [.int .i64 l.w,.int .i64 l.s,.int .i64 l.c,.bool l.ice,.bool l.sto],.int .i64 p,.int .i64 t]=(m,l,p,t):=decC_eq moE_inj (m,l,p,t)
abbrev coS:PSpec:=mkP moE (fun d=>MetP d.1) fun d=>.int .i64 (opnE d.1 d.2.1 d.2.2.1 d.2.2.2)
theorem mnE_cases (m:Met) (l:Mn):m.ok=true∧mnE m l=0∨mnE m l≠0:=by
 unfold mnE; cases m.ok<;>cases l.ok<;>simp
abbrev E130:Env:={P:=Tryz.prog,fn:=tbl [(192,.pure mmS),(194,.pure atW),(193,.pure caS)],own:=[],key:=13000,nt:=21}
theorem b130:PureBody E130 [] Tryz.f130 coS:=by
 refine pb ?_
 rintro⟨m,l,p,t⟩ hP
 have hP:MetP m:=hP
 rcases mnE_cases m l with⟨h0,h1⟩|h1
 ·have hE:catE m p t=opnE m l p t:=by simp [catE,h0,opnE,h1]
  simp -dsimp [Tryz.f130,E130,Wt.row]
  repeat' (first|omega|simp -dsimp [E130,ri,cellp,ints,Wt.row,mmE_dec,caE_dec,hP,h1,hE]|refine aI ?_ fun _=>?_|refine oI fun _=>?_|refine nI ?_ ?_)
 ·have hE:opnE m l p t=mnE m l:=by simp [opnE,h1]
  simp -dsimp [Tryz.f130,E130,Wt.row]
  repeat' (first|omega|simp -dsimp [E130,ri,cellp,ints,Wt.row,mmE_dec,hP,h1,hE]|refine aI ?_ fun _=>?_|refine oI fun _=>?_|refine nI ?_ ?_)
theorem ok130:FO 130 coS:=pf b130 (.cons ok192 (.cons ok194 (.cons ok193 .nil)))
def wstK (k:Sky):Wt:=⟨k.w.hi,k.s.lo,k.c.lo,k.ice,k.sto⟩
abbrev wsS:PSpec:=mkP skE (fun _=>True) fun k=>.agg (wstK k).row
abbrev E197:Env:={P:=Tryz.prog,fn:=tbl [],own:=[],key:=19700,nt:=22}
theorem b197:PureBody E197 [] Tryz.f197 wsS:=by
 refine pb ?_
 rintro⟨⟨a,b⟩,⟨c,d⟩,⟨e,f⟩,x,y⟩ _
 simp -dsimp [Tryz.f197,E197,Sky.row,wstK,Wt.row]
 repeat' (first|omega|simp -dsimp [E197,ri,cellp,ints,Sky.row,wstK,Wt.row]|refine aI ?_ fun _=>?_|refine oI fun _=>?_|refine nI ?_ ?_)
theorem ok197:FO 197 wsS:=pf b197 .nil
@[simp] def flyE (d:Wt × Mn):List V:=[.agg d.1.row,.agg d.2.row]
theorem flyE_inj (a b:Wt × Mn) (h:flyE a=flyE b):a=b:=by
 obtain⟨a1,a2⟩:=a; obtain⟨b1,b2⟩:=b
 simp only [flyE,List.cons.injEq,V.agg.injEq,and_true]at h
 rw [Wt.row_inj _ _ h.1,Wt.row_inj _ _ h.2]
theorem flyE_dec (k l:Wt):decC flyE [.agg [.int .i64 k.w,.int .i64 k.s,.int .i64 k.c,.bool k.ice,.bool k.sto],.agg [.int .i64 l.w,.int .i64 l.s,.int .i64 l.c,.bool l.ice,.bool l.sto]]=(k,l):=decC_eq flyE_inj (k,l)
def fly1 (w l:Wt):Bool:=decide (w.w≤l.w) && decide (l.s≤w.s) && decide (l.c≤w.c) && (!w.ice || l.ice) && (!w.sto || l.sto)
abbrev flyW:PSpec:=mkP flyE (fun _=>True) fun d=>.bool (fly1 d.1 d.2)
abbrev E196:Env:={P:=Tryz.prog,fn:=tbl [],own:=[],key:=19600,nt:=42}
theorem b196:PureBody E196 [] Tryz.f196 flyW:=by
 refine pb ?_
 rintro⟨⟨a,b,c,x,y⟩,⟨d,e,f,u,v⟩⟩ _
 have e1:fly1 ⟨a,b,c,x,y⟩ ⟨d,e,f,u,v⟩=(decide (a≤d) && decide (e≤b) && decide (f≤c) && (!x || u) && (!y || v)):=rfl
 by_cases h1:a≤d<;>by_cases h2:e≤b<;>by_cases h3:f≤c<;>cases x<;>cases u
 all_goals
  simp -dsimp only [h1,h2,h3,decide_true,decide_false,Bool.true_and,Bool.false_and,Bool.not_true,Bool.not_false,Bool.true_or,Bool.false_or,Bool.and_true,Bool.and_false]at e1
  simp -dsimp [Tryz.f196,E196,Wt.row]
  repeat' (first|omega|simp -dsimp [E196,ri,cellp,ints,Wt.row,h1,h2,h3,e1]|refine aI ?_ fun _=>?_|refine oI fun _=>?_|refine nI ?_ ?_)
theorem ok196:FO 196 flyW:=pf b196 .nil
end Go.Sx
end
section
namespace Go.Sx
open Go.Proofs
attribute [local irreducible] HLe
abbrev nanW:PSpec:={dom:=Int,enc:=fun d=>[.int .i64 d],dec:=fun l=>(l.getD 0 .top).toInt,pre:=fun _=>True,res:=fun _=>.bool false}
abbrev E263:Env:={P:=Tryz.prog,fn:=tbl [],own:=[],key:=26300,nt:=6}
theorem b263:PureBody E263 [] Tryz.f263 nanW:=by
 refine pb ?_
 rintro n _
 simp -dsimp [Tryz.f263,E263]
theorem ok263:FO 263 nanW:=pf b263 .nil
def cmI (a b:Int):Int:=if a<b then -1 else if b<a then 1 else 0
abbrev cmW:PSpec:={dom:=Int × Int,enc:=fun d=>[.int .i64 d.1,.int .i64 d.2],dec:=fun l=>((l.getD 0 .top).toInt,(l.getD 1 .top).toInt),pre:=fun _=>True,res:=fun d=>.int .i64 (cmI d.1 d.2)}
abbrev E241:Env:={P:=Tryz.prog,fn:=tbl [(263,.pure nanW)],own:=[],key:=24100,nt:=20}
theorem b241:PureBody E241 [] Tryz.f241 cmW:=by
 refine pb ?_
 rintro⟨a,b⟩ _
 by_cases h1:a<b
 ·have e:cmI a b = -1:=by simp [cmI,h1]
  simp -dsimp [Tryz.f241,E241]
  repeat' (first|omega|simp -dsimp [E241,ri,cellp,ints,h1,e]|refine aI ?_ fun _=>?_|refine oI fun _=>?_|refine nI ?_ ?_)
 ·by_cases h2:b<a
  ·have e:cmI a b=1:=by simp [cmI,h1,h2]
   simp -dsimp [Tryz.f241,E241]
   repeat' (first|omega|simp -dsimp [E241,ri,cellp,ints,h1,h2,e]|refine aI ?_ fun _=>?_|refine oI fun _=>?_|refine nI ?_ ?_)
  ·have e:cmI a b=0:=by simp [cmI,h1,h2]
   simp -dsimp [Tryz.f241,E241]
   repeat' (first|omega|simp -dsimp [E241,ri,cellp,ints,h1,h2,e]|refine aI ?_ fun _=>?_|refine oI fun _=>?_|refine nI ?_ ?_)
theorem ok241:FO 241 cmW:=pf b241 (.cons ok263 .nil)
@[simp] def kcE (d:Nat × Nat × Met):List V:=[.int .i64 d.1,.int .i64 d.2.1,metI d.2.2]
theorem kcE_inj (a b:Nat × Nat × Met) (h:kcE a=kcE b):a=b:=by
 obtain⟨a1,a2,a3⟩:=a; obtain⟨b1,b2,b3⟩:=b
 simp only [kcE,List.cons.injEq,V.int.injEq,true_and,and_true]at h
 rw [metI_inj _ _ h.2.2,Int.ofNat.inj h.1,Int.ofNat.inj h.2.1]
theorem kcE_dec (a b:Nat) (m:Met):decC kcE [.int .i64 a,.int .i64 b,.ip 14 [m.row] 0 0]=(a,b,m):=decC_eq kcE_inj (a,b,m)
abbrev kfS:PSpec:=mkP kcE (fun d=>d.1<d.2.2.fs.length∧d.2.1<d.2.2.fs.length) fun d=>.int .i64 (cmI (fcAt d.2.2 d.1).iss (fcAt d.2.2 d.2.1).iss)
abbrev kgS:PSpec:=mkP kcE (fun d=>d.1<d.2.2.ss.length∧d.2.1<d.2.2.ss.length) fun d=>.int .i64 (cmI (sgAt d.2.2 d.1).at' (sgAt d.2.2 d.2.1).at')
abbrev E240:Env:={P:=Tryz.prog,fn:=tbl [(241,.pure cmW)],own:=[],key:=24000,nt:=19}
theorem b240:PureBody E240 [] Tryz.f240 kfS:=by
 refine pb ?_
 rintro⟨a,b,m⟩ ⟨ha,hb⟩
 simp only at ha hb
 have hai:(a:Int)<m.fs.length:=by omega
 have hbi:(b:Int)<m.fs.length:=by omega
 obtain⟨x,hx⟩:∃x,m.fs[a]?=some x:=⟨_,List.getElem?_eq_getElem ha⟩
 have hx':m.fs[a]=x:=(List.getElem?_eq_some_iff.1 hx).2
 obtain⟨y,hy⟩:∃x,m.fs[b]?=some x:=⟨_,List.getElem?_eq_getElem hb⟩
 have hy':m.fs[b]=y:=(List.getElem?_eq_some_iff.1 hy).2
 have e1:fcAt m a=x:=by simp [fcAt,List.getD,hx]
 have e2:fcAt m b=y:=by simp [fcAt,List.getD,hy]
 simp -dsimp [Tryz.f240,E240]
 repeat' (first|omega|simp -dsimp [E240,ri,cellp,ints,ha,hb,hai,hbi,hx,hx',hy,hy',e1,e2,Fc.row]|refine aI ?_ fun _=>?_|refine oI fun _=>?_|refine nI ?_ ?_)
theorem ok240:FO 240 kfS:=pf b240 (.cons ok241 .nil)
abbrev E243:Env:={P:=Tryz.prog,fn:=tbl [(241,.pure cmW)],own:=[],key:=24300,nt:=19}
theorem b243:PureBody E243 [] Tryz.f243 kgS:=by
 refine pb ?_
 rintro⟨a,b,m⟩ ⟨ha,hb⟩
 simp only at ha hb
 have hai:(a:Int)<m.ss.length:=by omega
 have hbi:(b:Int)<m.ss.length:=by omega
 obtain⟨x,hx⟩:∃x,m.ss[a]?=some x:=⟨_,List.getElem?_eq_getElem ha⟩
 have hx':m.ss[a]=x:=(List.getElem?_eq_some_iff.1 hx).2
 obtain⟨y,hy⟩:∃x,m.ss[b]?=some x:=⟨_,List.getElem?_eq_getElem hb⟩
 have hy':m.ss[b]=y:=(List.getElem?_eq_some_iff.1 hy).2
 have e1:sgAt m a=x:=by simp [sgAt,List.getD,hx]
 have e2:sgAt m b=y:=by simp [sgAt,List.getD,hy]
 simp -dsimp [Tryz.f243,E243]
 repeat' (first|omega|simp -dsimp [E243,ri,cellp,ints,ha,hb,hai,hbi,hx,hx',hy,hy',e1,e2,Sg.row]|refine aI ?_ fun _=>?_|refine oI fun _=>?_|refine nI ?_ ?_)
theorem ok243:FO 243 kgS:=pf b243 (.cons ok241 .nil)
inductive SrC where
 | fc (m:Met)
 | sg (m:Met)
instance:Inhabited SrC:=⟨.fc default⟩
def SrC.v:SrC→V
 | .fc m=>.fn 240 [.ip 14 [m.row] 0 0]
 | .sg m=>.fn 243 [.ip 14 [m.row] 0 0]
def SrC.key:SrC→Nat→Int
 | .fc m,i=>(fcAt m i).iss
 | .sg m,i=>(sgAt m i).at'
def SrC.n:SrC→Nat
 | .fc m=>m.fs.length
 | .sg m=>m.ss.length
theorem SrC.v_inj (a b:SrC) (h:a.v=b.v):a=b:=by
 cases a<;>cases b<;>simp only [SrC.v,V.fn.injEq,List.cons.injEq,V.ip.injEq,true_and,and_true]at h
 ·rw [Met.row_inj _ _ h]
 ·exact absurd h.1 (by decide)
 ·exact absurd h.1 (by decide)
 ·rw [Met.row_inj _ _ h]
def nR (k:Nat):List V:=[.int .i64 (k:Int)]
theorem nR_inj (a b:Nat) (h:nR a=nR b):a=b:=Int.ofNat.inj (by simpa [nR]using h)
def srB (L:List Nat):Blk:={z:=1,els:=L.map nR,ty:=3}
theorem srB_inj {a b:List Nat} (h:srB a=srB b):a=b:=by
 simp only [srB,Blk.mk.injEq,and_true,true_and]at h; exact mapRow_inj nR_inj h
structure SrD where
 s:Nat
 i:Nat
 L:List Nat
 c:SrC
structure SrP (d:SrD):Prop where
 l:d.L.length<20
 b:∀x∈d.L,x<d.c.n
theorem SrD.inj {d d':SrD} {h:Hp} (hs:d.s=d'.s) (hi:d.i=d'.i) (hc:d.c=d'.c) (h1:hget h d.s d.i=some (srB d.L)) (h2:hget h d'.s d'.i=some (srB d'.L)):d=d':=by
 obtain⟨s,i,L,c⟩:=d; obtain⟨s',i',L',c'⟩:=d'
 simp only at *
 subst hs hi hc
 rw [h1]at h2
 rw [srB_inj (Option.some.inj h2)]
@[simp] def inE5 (d:SrD):List V:=[.bsl d.s d.i d.L.length,.int .i64 0,.int .i64 d.L.length,d.c.v]
abbrev insS:HSpec:=mkH inE5 (fun d h=>hget h d.s d.i=some (srB d.L)) SrP (fun _=>.tup []) (fun d h=>hset h d.s d.i (srB (srtK d.c.key d.L)))
theorem ins_go {s i:Nat} {L:List Nat} {c:SrC} {h:Hp} (hB:hget h s i=some (srB L)):insS.go [.bsl s i L.length,.int .i64 0,.int .i64 L.length,c.v] h=⟨SrP ⟨s,i,L,c⟩,.tup [],hset h s i (srB (srtK c.key L))⟩:=
 mkH_at (enc:=inE5) (HP:=fun d h=>hget h d.s d.i=some (srB d.L)) (fun d d' h e h1 h2=>by
  simp only [inE5,List.cons.injEq,V.bsl.injEq,and_true,true_and]at e
  exact SrD.inj e.1.1 e.1.2.1 (SrC.v_inj _ _ e.2.2) h1 h2) (d:=⟨s,i,L,c⟩) hB
structure InJ (c:SrC) (T:List Nat) (n b:Nat) where
 M:List Nat
 j:Nat
 t:sink c.key M j=T
 l:M.length=n
 hj:j≤b
 hb:∀x∈M,x<c.n
theorem srtK_one (key:Nat→Int) (L:List Nat):srtK key (L.take 1)++L.drop 1=L:=by
 cases L with
 | nil=>rfl
 | cons x l=>rfl
theorem getD_mem0 {M:List Nat} {k:Nat} (h:k<M.length):M.getD k 0∈M:=by
 rw [List.getD_eq_getElem?_getD,List.getElem?_eq_getElem h]; exact List.getElem_mem _
theorem mem_set2 {M:List Nat} {i j x:Nat} (hi:i<M.length) (hj:j<M.length) (h:x∈(M.set i (M.getD j 0)).set j (M.getD i 0)):x∈M:=by
 rcases List.mem_or_eq_of_mem_set h with h|rfl
 ·rcases List.mem_or_eq_of_mem_set h with h|rfl
  ·exact h
  ·exact getD_mem0 hj
 ·exact getD_mem0 hi
theorem cmI_neg (a b:Int):(cmI a b<0)=(a<b):=by
 unfold cmI; split
 ·simp [*]
 ·split<;>simp<;>omega
theorem hset_self {h:Hp} {s i:Nat} {B:Blk} (hB:hget h s i=some B):hset h s i B=h:=by
 funext k
 unfold hset
 unfold hget at hB
 split at hB
 ·cases hB
 ·by_cases e:k=s
  ·subst e
   rw [if_pos rfl]
   have:(h k).blks.set (i - (h k).base) B=(h k).blks:=by
    refine List.ext_getElem? fun j=>?_
    rw [List.getElem?_set]
    split
    ·rename_i e2; subst e2
     rw [hB]; split
     ·rfl
     ·rename_i g; rw [List.getElem?_eq_none (by omega)]at hB; cases hB
    ·rfl
   rw [this]
  ·rw [if_neg e]
abbrev E272:Env:={P:=Tryz.prog,fn:=tbl [(240,.pure kfS),(243,.pure kgS)],own:=[],key:=27200,nt:=53}
theorem b272:HeapBody E272 [] Tryz.f272 insS:=by
 intro args h hc
 obtain⟨⟨s,i0,L,c⟩,rfl,hB,⟨hL,hb⟩,hgo⟩:=mkH_inv hc
 rw [hgo]; clear hgo hc
 simp only at hB hL hb
 have hg:=fun B=>hget_set_same (B':=B) hB
 simp -dsimp [Tryz.f272,E272]
 refine awp_loop [12,13,14,17,9,18,19,20,21,22,23,24,25,26,27,28,29,30,31,32,33,34,37,38,39,40,41,42,43,44,45,46,47,48,49,50,51,52,35,36,15,16,8] (fun i:{i:Nat // 1≤i∧(i≤L.length∨i=1)}=>[(8,(true,.int .i64 i.1))]) (fun i=>hset h s i0 (srB (srtK c.key (L.take i.1)++L.drop i.1))) (fun i=>L.length - i.1) ⟨1,by omega,.inr rfl⟩ ?_ ?_ ?_
 ·simp [okAll,okv,wrap_id]
 ·rw [srtK_one,hset_self hB]; exact HLe.refl _
 rintro⟨i,hi1,hi2⟩
 dsimp only
 by_cases hi:i<L.length
 case neg=>
  have hin:¬ (i:Int)<L.length:=by omega
  have hlast:srtK c.key (L.take i)++L.drop i=srtK c.key L:=by
   rcases hi2 with e|e
   ·rw [List.take_of_length_le (by omega),List.drop_of_length_le (by omega),List.append_nil]
   ·subst e
    rw [srtK_one]
    cases L with
    | nil=>rfl
    | cons x l=>cases l with
     | nil=>rfl
     | cons y l=>simp at hi
  rw [hlast]
  simp -dsimp [hin]
  repeat' (first|omega|simp -dsimp [E272,ri,cellp,ints,hin,hle_refl]|refine aI ?_ fun _=>?_|refine oI fun _=>?_|refine nI ?_ ?_)
 have hii:(i:Int)<L.length:=by omega
 have wi:IntKind.wrap .i64 ((i:Int)+1)=(i+1:Nat):=wrap_id (by omega) (by omega)
 have hstep:=srtK_step c.key L hi
 have hlen:(srtK c.key (L.take i)++L.drop i).length=L.length:=by simp [srtK_len]; omega
 have hbd:∀x∈srtK c.key (L.take i)++L.drop i,x<c.n:=fun x hx=>by
  rcases List.mem_append.1 hx with hx|hx
  ·exact hb x (List.mem_of_mem_take (srtK_mem.1 hx))
  ·exact hb x (List.mem_of_mem_drop hx)
 generalize srtK c.key (L.take i)++L.drop i=M0 at *
 generalize hT:srtK c.key (L.take (i+1))++L.drop (i+1)=T at *
 simp -dsimp [hii]
 refine awp_loop [18,19,20,21,22,23,24,25,26,27,28,29,30,31,32,33,34,37,38,39,40,41,42,43,44,45,46,47,48,49,50,51,52,35,36,9] (fun q:InJ c T L.length i=>[(9,(true,.int .i64 q.j))]) (fun q=>hset h s i0 (srB q.M)) (fun q=>q.j) ⟨M0,i,hstep,hlen,Nat.le_refl i,hbd⟩ ?_ (HLe.refl _) ?_
 ·simp [okAll,okv]
 rintro⟨M,j,ht,hl,hj,hbM⟩
 dsimp only
 cases j with
 | zero=>
  have e:M=T:=ht
  subst e
  simp -dsimp [hii]
  repeat' (first|omega|simp -dsimp [E272,ri,cellp,ints,hii,wi,SrC.v]|refine aI ?_ fun _=>?_|refine oI fun _=>?_|refine nI ?_ ?_)
  refine⟨i+1,tle_kept (kept_upds rfl (kept_forget rfl (kept_upds rfl kept_base))) ?_,by rw [hT]; exact HLe.refl _,⟨by omega,.inl (by omega)⟩,by omega⟩
  simp [okAll,okv]
 | succ k=>
  have hk1:k+1<M.length:=by omega
  have hk0:k<M.length:=by omega
  have hki:((k:Int)+1)<L.length:=by omega
  have hki0:(k:Int)<L.length:=by omega
  obtain⟨x,hx⟩:∃x,M[k+1]?=some x:=⟨_,List.getElem?_eq_getElem hk1⟩
  obtain⟨y,hy⟩:∃x,M[k]?=some x:=⟨_,List.getElem?_eq_getElem hk0⟩
  have hxd:M.getD (k+1) 0=x:=by simp [List.getD,hx]
  have hyd:M.getD k 0=y:=by simp [List.getD,hy]
  have hxn:x<c.n:=hxd ▸ hbM _ (getD_mem0 hk1)
  have hyn:y<c.n:=hyd ▸ hbM _ (getD_mem0 hk0)
  have wk:IntKind.wrap .i64 (k:Int)=(k:Nat):=wrap_id (by omega) (by omega)
  have hM':∀z∈(M.set (k+1) y).set k x,z<c.n:=fun z hz=>hbM z (mem_set2 hk1 hk0 (by rw [hxd,hyd]; exact hz))
  have hsk:sink c.key M (k+1)=if c.key x<c.key y then sink c.key ((M.set (k+1) y).set k x) k else M:=by rw [sink,hxd,hyd]
  have hcn:=cmI_neg (c.key x) (c.key y)
  by_cases hlt:c.key x<c.key y
  ·rw [hsk,if_pos hlt]at ht
   have hlt':(c.key x<c.key y)=True:=eq_true hlt
   rw [hlt']at hcn
   cases c
   all_goals
    simp only [SrC.key,SrC.n]at hcn hxn hyn
    simp -dsimp [hii]
    repeat' (first|omega|simp -dsimp [E272,ri,cellp,ints,hii,hki,hki0,hk1,hk0,hx,hy,hg,wk,hl,SrC.v,srB,nR,kcE_dec,hxn,hyn,hcn,hset_hset,hle_refl]|refine aI ?_ fun _=>?_|refine oI fun _=>?_|refine nI ?_ ?_)
    refine⟨⟨(M.set (k+1) y).set k x,k,ht,by simp [hl],by omega,hM'⟩,tle_chain rfl ?_,?_,by simp only; omega⟩
    ·simp [okAll,okv]
    ·simp [srB,nR,hle_refl]
  ·rw [hsk,if_neg hlt]at ht
   subst ht
   have hlt':(c.key x<c.key y)=False:=eq_false hlt
   rw [hlt']at hcn
   cases c
   all_goals
    simp only [SrC.key,SrC.n]at hcn hxn hyn
    simp -dsimp [hii]
    repeat' (first|omega|simp -dsimp [E272,ri,cellp,ints,hii,hki,hki0,hk1,hk0,hx,hy,hg,wk,wi,hl,SrC.v,srB,nR,kcE_dec,hxn,hyn,hcn,hset_hset,hle_refl]|refine aI ?_ fun _=>?_|refine oI fun _=>?_|refine nI ?_ ?_)
    refine⟨i+1,tle_kept (kept_upds rfl (kept_forget rfl (kept_upds rfl kept_base))) ?_,by have e:=congrArg (List.map nR) hT; rw [List.map_append,List.map_drop]at e; rw [e]; exact HLe.refl _,⟨by omega,.inl (by omega)⟩,by omega⟩
    simp [okAll,okv]
theorem ok272:FnOK Tryz.prog 272 (.heap insS):=pfH b272 (.cons ok240 (.cons ok243 .nil)) (fun args h hc=>by obtain⟨d,rfl,_⟩:=mkH_inv hc; simp)
@[simp] def stW (d:SrD):List V:=[.bsl d.s d.i d.L.length,.int .i64 d.L.length,d.c.v]
abbrev stS:HSpec:=mkH stW (fun d h=>hget h d.s d.i=some (srB d.L)) SrP (fun _=>.tup []) (fun d h=>hset h d.s d.i (srB (srtK d.c.key d.L)))
theorem st_go {s i:Nat} {L:List Nat} {c:SrC} {h:Hp} (hB:hget h s i=some (srB L)):stS.go [.bsl s i L.length,.int .i64 L.length,c.v] h=⟨SrP ⟨s,i,L,c⟩,.tup [],hset h s i (srB (srtK c.key L))⟩:=
 mkH_at (enc:=stW) (HP:=fun d h=>hget h d.s d.i=some (srB d.L)) (fun d d' h e h1 h2=>by
  simp only [stW,List.cons.injEq,V.bsl.injEq,and_true,true_and]at e
  exact SrD.inj e.1.1 e.1.2.1 (SrC.v_inj _ _ e.2.2) h1 h2) (d:=⟨s,i,L,c⟩) hB
abbrev E262:Env:={P:=Tryz.prog,fn:=tbl [(272,.heap insS)],own:=[],key:=26200,nt:=63}
theorem b262:HeapBody E262 [] Tryz.f262 stS:=by
 intro args h hc
 obtain⟨⟨s,i0,L,c⟩,rfl,hB,hP,hgo⟩:=mkH_inv hc
 rw [hgo]; clear hgo hc
 have hL:L.length<20:=hP.l
 simp only at hB
 have hgo:=ins_go (c:=c) hB
 have h20:((20:Int)≤L.length)=False:=eq_false (by omega)
 have h20':((20:Int)<L.length)=False:=eq_false (by omega)
 generalize hcv:c.v=cv at *
 simp -dsimp [Tryz.f262,E262,hcv]
 refine awp_loop [] (fun _:Unit=>[]) (fun _=>h) (fun _=>0) () ?_ (HLe.refl _) ?_
 ·simp [okAll,okv]
 rintro⟨⟩
 simp -dsimp [h20]
 repeat' (first|omega|simp -dsimp [E262,ri,cellp,ints,h20,h20',hgo,hP,hle_refl]|refine aI ?_ fun _=>?_|refine oI fun _=>?_|refine nI ?_ ?_)
 refine awp_loop [] (fun _:Unit=>[]) (fun _=>hset h s i0 (srB (srtK c.key L))) (fun _=>0) () ?_ (HLe.refl _) ?_
 ·simp [okAll,okv]
 rintro⟨⟩
 simp -dsimp [h20']
 repeat' (first|omega|simp -dsimp [E262,ri,cellp,ints,h20,h20',hgo,hP,hle_refl]|refine aI ?_ fun _=>?_|refine oI fun _=>?_|refine nI ?_ ?_)
theorem ok262:FnOK Tryz.prog 262 (.heap stS):=pfH b262 (.cons ok272 .nil) (fun args h hc=>by obtain⟨d,rfl,_⟩:=mkH_inv hc; simp)
@[simp] def s2E (d:SrD):List V:=[.bsl d.s d.i d.L.length,d.c.v]
abbrev s2S:HSpec:=mkH s2E (fun d h=>hget h d.s d.i=some (srB d.L)) SrP (fun _=>.tup []) (fun d h=>hset h d.s d.i (srB (srtK d.c.key d.L)))
theorem s2_go {s i:Nat} {L:List Nat} {c:SrC} {h:Hp} (hB:hget h s i=some (srB L)):s2S.go [.bsl s i L.length,c.v] h=⟨SrP ⟨s,i,L,c⟩,.tup [],hset h s i (srB (srtK c.key L))⟩:=
 mkH_at (enc:=s2E) (HP:=fun d h=>hget h d.s d.i=some (srB d.L)) (fun d d' h e h1 h2=>by
  simp only [s2E,List.cons.injEq,V.bsl.injEq,and_true,true_and]at e
  exact SrD.inj e.1.1 e.1.2.1 (SrC.v_inj _ _ e.2) h1 h2) (d:=⟨s,i,L,c⟩) hB
abbrev E239:Env:={P:=Tryz.prog,fn:=tbl [(262,.heap stS)],own:=[],key:=23900,nt:=9}
theorem b239:HeapBody E239 [] Tryz.f239 s2S:=by
 intro args h hc
 obtain⟨⟨s,i0,L,c⟩,rfl,hB,hP,hgo⟩:=mkH_inv hc
 rw [hgo]; clear hgo hc
 simp only at hB
 have hgo:=st_go (c:=c) hB
 generalize hcv:c.v=cv at *
 simp -dsimp [Tryz.f239,E239,hcv]
 repeat' (first|omega|simp -dsimp [E239,ri,cellp,ints,hgo,hP,hle_refl]|refine aI ?_ fun _=>?_|refine oI fun _=>?_|refine nI ?_ ?_)
theorem ok239:FnOK Tryz.prog 239 (.heap s2S):=pfH b239 (.cons ok262 .nil) (fun args h hc=>by obtain⟨d,rfl,_⟩:=mkH_inv hc; simp)
end Go.Sx
end
section
namespace Go.Sx
open Go.Proofs
attribute [local irreducible] HLe
def meeT (a b:Sp):Sp × Int:=if (spN' a || spN' b)=true then (⟨0,0⟩,10)else if min a.hi b.hi<max a.lo b.lo then (⟨0,0⟩,3)else (⟨max a.lo b.lo,min a.hi b.hi⟩,0)
theorem cutS_mee (a b:Sp):cutS a b=if (meeT a b).2=0 then ((meeT a b).1,false)else (b,true):=by
 unfold cutS meeT
 split
 ·simp
 ·split<;>simp
@[simp] def s2pE (d:Sp × Sp):List V:=[.agg d.1.row,.agg d.2.row]
theorem s2pE_inj (a b:Sp × Sp) (h:s2pE a=s2pE b):a=b:=by
 obtain⟨a1,a2⟩:=a; obtain⟨b1,b2⟩:=b
 simp only [s2pE,List.cons.injEq,V.agg.injEq,and_true]at h
 rw [Sp.row_inj _ _ h.1,Sp.row_inj _ _ h.2]
theorem s2pE_dec (a b c d:Int):decC s2pE [.agg [.int .i64 a,.int .i64 b],.agg [.int .i64 c,.int .i64 d]]=(⟨a,b⟩,⟨c,d⟩):=decC_eq s2pE_inj (⟨a,b⟩,⟨c,d⟩)
abbrev meeS:PSpec:=mkP s2pE (fun _=>True) fun d=>.tup [.agg (meeT d.1 d.2).1.row,.int .i64 (meeT d.1 d.2).2]
theorem slE_dec22 (a b c d:Int):decC slE [.sl 2 [[.int .i64 a,.int .i64 b],[.int .i64 c,.int .i64 d]]]=[⟨a,b⟩,⟨c,d⟩]:=decC_eq slE_inj [⟨a,b⟩,⟨c,d⟩]
theorem spN_N (p:Sp):spN p=spN' p:=spN_eq p
theorem max_ite (a b:Int):(if a<b then b else a)=max a b:=by split<;>omega
theorem min_ite (a b:Int):(if b<a then b else a)=min a b:=by split<;>omega
abbrev E274:Env:={P:=Tryz.prog,fn:=tbl [(99,.pure spdS)],own:=[],key:=27400,nt:=34}
theorem b274:PureBody E274 [] Tryz.f274 meeS:=by
 refine pb ?_
 rintro⟨⟨a,b⟩,⟨c,d⟩⟩ _
 have hE:meeT ⟨a,b⟩ ⟨c,d⟩=if (spN' ⟨a,b⟩ || spN' ⟨c,d⟩)=true then (⟨0,0⟩,10)else if min b d<max a c then (⟨0,0⟩,3)else (⟨max a c,min b d⟩,0):=rfl
 have e1:=spN_N ⟨a,b⟩
 have e2:=spN_N ⟨c,d⟩
 generalize spN' ⟨a,b⟩=p at *
 generalize spN' ⟨c,d⟩=q at *
 generalize hM:max a c=x at *
 generalize hN:min b d=y at *
 have g1:=max_ite a c
 have g2:=min_ite b d
 rw [hM]at g1
 rw [hN]at g2
 have key:(p=false∧q=false)∨(p || q)=true:=by cases p<;>cases q<;>simp
 rcases key with⟨rfl,rfl⟩|hpq
 ·rw [if_neg (by simp)]at hE
  by_cases hxy:y<x
  ·rw [if_pos hxy]at hE
   simp -dsimp [Tryz.f274,E274,Sp.row]
   repeat' (first|omega|simp -dsimp [E274,ri,cellp,ints,Sp.row,slE_dec22,e1,e2,g1,g2,hxy,hE]|refine aI ?_ fun _=>?_|refine oI fun _=>?_|refine nI ?_ ?_)
  ·rw [if_neg hxy]at hE
   simp -dsimp [Tryz.f274,E274,Sp.row]
   repeat' (first|omega|simp -dsimp [E274,ri,cellp,ints,Sp.row,slE_dec22,e1,e2,g1,g2,hxy,hE]|refine aI ?_ fun _=>?_|refine oI fun _=>?_|refine nI ?_ ?_)
 ·rw [hpq,if_pos rfl]at hE
  have hpq':(p=true∨q=true)=True:=eq_true (by simpa using hpq)
  simp -dsimp [Tryz.f274,E274,Sp.row]
  repeat' (first|omega|simp -dsimp [E274,ri,cellp,ints,Sp.row,slE_dec22,e1,e2,hpq',hE]|refine aI ?_ fun _=>?_|refine oI fun _=>?_|refine nI ?_ ?_)
theorem ok274:FO 274 meeS:=pf b274 (.cons ok99 .nil)
abbrev neaS:PSpec:={dom:=Int × Int × Int,enc:=fun d=>[.int .i64 d.1,.int .i64 d.2.1,.int .i64 d.2.2],dec:=fun l=>((l.getD 0 .top).toInt,(l.getD 1 .top).toInt,(l.getD 2 .top).toInt),pre:=fun d=>(0≤d.1∧d.1≤d.2.2)∧(0≤d.2.1∧d.2.1≤1000000000000)∧d.2.2≤1000000,res:=fun d=>.agg (arS d.1 d.2.1 d.2.2).row}
abbrev E244:Env:={P:=Tryz.prog,fn:=tbl [],own:=[],key:=24400,nt:=20}
theorem b244:PureBody E244 [] Tryz.f244 neaS:=by
 refine pb ?_
 rintro⟨n,b,m⟩ ⟨h1,h2,h3⟩
 simp only at h1 h2 h3
 have w1:IntKind.wrap .i64 (n - b)=n - b:=wrap_id (by omega) (by omega)
 have w2:IntKind.wrap .i64 (n+b)=n+b:=wrap_id (by omega) (by omega)
 have e1:(if (m:Int)<(if (0:Int) > n - b then 0 else n - b)then m else (if (0:Int) > n - b then 0 else n - b))=max 0 (n - b):=by
  split<;>split<;>omega
 simp -dsimp [Tryz.f244,E244,arS,Sp.row]
 repeat' (first|omega|simp -dsimp [E244,ri,cellp,ints,w1,w2,arS,Sp.row]|refine aI ?_ fun _=>?_|refine oI fun _=>?_|refine nI ?_ ?_)
 all_goals (repeat' split)<;>omega
theorem ok244:FO 244 neaS:=pf b244 .nil
def skB (k:Sky):Site:={base:=0,blks:=[{z:=8,els:=[k.row],ty:=272}]}
theorem skB_inj {a b:Sky} (h:skB a=skB b):a=b:=by
 simp only [skB,Site.mk.injEq,List.cons.injEq,Blk.mk.injEq,and_true,true_and]at h
 exact Sky.row_inj _ _ h
open Classical in
def decS (S:Site):Sky:=if x:∃k,S=skB k then x.choose else default
theorem decS_eq (k:Sky):decS (skB k)=k:=by
 have x:∃k',skB k=skB k':=⟨k,rfl⟩
 unfold decS
 rw [dif_pos x]
 exact(skB_inj x.choose_spec).symm
def cutJ (k:Sky) (j:Nat) (b:Sp):Sky × Bool:=if j=0 then (⟨(cutS k.w b).1,k.s,k.c,k.ice,k.sto⟩,(cutS k.w b).2)else if j=2 then (⟨k.w,(cutS k.s b).1,k.c,k.ice,k.sto⟩,(cutS k.s b).2)else (⟨k.w,k.s,(cutS k.c b).1,k.ice,k.sto⟩,(cutS k.c b).2)
structure CuP (s i n e j:Nat) (h:Hp):Prop where
 a:s=19506∧i=0∧n=1∧e=0∧(j=0∨j=2∨j=4)
 k:h 19506=skB (decS (h 19506))
 b:Blank [26403,26405] h
def bm (h:Hp) (k n:Nat):Nat × Site:=(k,{base:=(h k).base+n,blks:=[]})
def cutHS:HSpec where
 go args h:=match args with
  | [.bptr s i n e j,.agg [.int .i64 lo,.int .i64 hi]]=>⟨CuP s i n e j h,.bool (cutJ (decS (h 19506)) j ⟨lo,hi⟩).2,hps [(19506,skB (cutJ (decS (h 19506)) j ⟨lo,hi⟩).1),bm h 26403 1,bm h 26405 1] h⟩
  | _=>bad h
theorem cut_go (s i n e j:Nat) (lo hi:Int) (h:Hp):cutHS.go [.bptr s i n e j,.agg [.int .i64 lo,.int .i64 hi]] h=⟨CuP s i n e j h,.bool (cutJ (decS (h 19506)) j ⟨lo,hi⟩).2,hps [(19506,skB (cutJ (decS (h 19506)) j ⟨lo,hi⟩).1),bm h 26403 1,bm h 26405 1] h⟩:=rfl
theorem cut_inv {args:List V} {h:Hp} (hc:(cutHS.go args h).c):∃j lo hi,args=[.bptr 19506 0 1 0 j,.agg [.int .i64 lo,.int .i64 hi]]∧CuP 19506 0 1 0 j h:=by
 unfold cutHS at hc
 simp only at hc
 split at hc
 ·obtain⟨⟨rfl,rfl,rfl,rfl,hj⟩,hk,hb⟩:=hc
  exact⟨_,_,_,rfl,⟨rfl,rfl,rfl,rfl,hj⟩,hk,hb⟩
 ·exact hc.elim
abbrev E264:Env:={P:=Tryz.prog,fn:=tbl [(274,.pure meeS)],own:=[],key:=26400,nt:=23}
theorem b264:HeapBody E264 [(1,([4,2002,2003],[[0,1,2,3,4,5,6,7,8,9,10]]))] Tryz.f264 cutHS:=by
 intro args h hc
 obtain⟨j,lo,hi,rfl,⟨_,_,_,_,hj⟩,hk,hb⟩:=cut_inv hc
 rw [cut_go]
 generalize hK:decS (h 19506)=k at *
 have h1:=hb 26403 (by simp)
 have h2:=hb 26405 (by simp)
 have hH:h=hps [(19506,skB k),(26403,{base:=(h 26403).base,blks:=[]}),(26405,{base:=(h 26405).base,blks:=[]})] h:=by
  refine(hps_self fun q hq=>?_).symm
  simp only [List.map_cons,List.map_nil,List.mem_cons,List.not_mem_nil,or_false]at hq
  rcases hq with rfl|rfl|rfl
  ·exact hk
  ·exact h1
  ·exact h2
 rw [hH]
 generalize (h 26403).base=b1 at *
 generalize (h 26405).base=b2 at *
 generalize h=h0 at *
 clear hH hb hk h1 h2 hK hc
 obtain⟨⟨w1,w2⟩,⟨s1,s2⟩,⟨c1,c2⟩,x,y⟩:=k
 rcases hj with rfl|rfl|rfl
 ·have e:=cutS_mee ⟨w1,w2⟩ ⟨lo,hi⟩
  have eJ:cutJ ⟨⟨w1,w2⟩,⟨s1,s2⟩,⟨c1,c2⟩,x,y⟩ 0 ⟨lo,hi⟩=(⟨(cutS ⟨w1,w2⟩ ⟨lo,hi⟩).1,⟨s1,s2⟩,⟨c1,c2⟩,x,y⟩,(cutS ⟨w1,w2⟩ ⟨lo,hi⟩).2):=rfl
  rw [eJ,e]
  by_cases he:(meeT ⟨w1,w2⟩ ⟨lo,hi⟩).2=0
  ·simp -dsimp [Tryz.f264,E264,skB,bm,Sky.row,Sp.row,FoOk,FreeAt,he]
   repeat' (first|omega|simp -dsimp [E264,ri,cellp,ints,skB,bm,Sky.row,Sp.row,FoOk,FreeAt,s2pE_dec,he]|refine aI ?_ fun _=>?_|refine oI fun _=>?_|refine nI ?_ ?_)
   simp -dsimp only [hps_app,List.cons_append,List.nil_append]
   exact(by(try simp -dsimp only [hpx]); refine hle_hpsb ?_; simp -dsimp [allK]<;>exact rz)
  ·simp -dsimp [Tryz.f264,E264,skB,bm,Sky.row,Sp.row,FoOk,FreeAt,he]
   repeat' (first|omega|simp -dsimp [E264,ri,cellp,ints,skB,bm,Sky.row,Sp.row,FoOk,FreeAt,s2pE_dec,he]|refine aI ?_ fun _=>?_|refine oI fun _=>?_|refine nI ?_ ?_)
   simp -dsimp only [hps_app,List.cons_append,List.nil_append]
   exact(by(try simp -dsimp only [hpx]); refine hle_hpsb ?_; simp -dsimp [allK]<;>exact rz)
 ·have e:=cutS_mee ⟨s1,s2⟩ ⟨lo,hi⟩
  have eJ:cutJ ⟨⟨w1,w2⟩,⟨s1,s2⟩,⟨c1,c2⟩,x,y⟩ 2 ⟨lo,hi⟩=(⟨⟨w1,w2⟩,(cutS ⟨s1,s2⟩ ⟨lo,hi⟩).1,⟨c1,c2⟩,x,y⟩,(cutS ⟨s1,s2⟩ ⟨lo,hi⟩).2):=rfl
  rw [eJ,e]
  by_cases he:(meeT ⟨s1,s2⟩ ⟨lo,hi⟩).2=0
  ·simp -dsimp [Tryz.f264,E264,skB,bm,Sky.row,Sp.row,FoOk,FreeAt,he]
   repeat' (first|omega|simp -dsimp [E264,ri,cellp,ints,skB,bm,Sky.row,Sp.row,FoOk,FreeAt,s2pE_dec,he]|refine aI ?_ fun _=>?_|refine oI fun _=>?_|refine nI ?_ ?_)
   simp -dsimp only [hps_app,List.cons_append,List.nil_append]
   exact(by(try simp -dsimp only [hpx]); refine hle_hpsb ?_; simp -dsimp [allK]<;>exact rz)
  ·simp -dsimp [Tryz.f264,E264,skB,bm,Sky.row,Sp.row,FoOk,FreeAt,he]
   repeat' (first|omega|simp -dsimp [E264,ri,cellp,ints,skB,bm,Sky.row,Sp.row,FoOk,FreeAt,s2pE_dec,he]|refine aI ?_ fun _=>?_|refine oI fun _=>?_|refine nI ?_ ?_)
   simp -dsimp only [hps_app,List.cons_append,List.nil_append]
   exact(by(try simp -dsimp only [hpx]); refine hle_hpsb ?_; simp -dsimp [allK]<;>exact rz)
 ·have e:=cutS_mee ⟨c1,c2⟩ ⟨lo,hi⟩
  have eJ:cutJ ⟨⟨w1,w2⟩,⟨s1,s2⟩,⟨c1,c2⟩,x,y⟩ 4 ⟨lo,hi⟩=(⟨⟨w1,w2⟩,⟨s1,s2⟩,(cutS ⟨c1,c2⟩ ⟨lo,hi⟩).1,x,y⟩,(cutS ⟨c1,c2⟩ ⟨lo,hi⟩).2):=rfl
  rw [eJ,e]
  by_cases he:(meeT ⟨c1,c2⟩ ⟨lo,hi⟩).2=0
  ·simp -dsimp [Tryz.f264,E264,skB,bm,Sky.row,Sp.row,FoOk,FreeAt,he]
   repeat' (first|omega|simp -dsimp [E264,ri,cellp,ints,skB,bm,Sky.row,Sp.row,FoOk,FreeAt,s2pE_dec,he]|refine aI ?_ fun _=>?_|refine oI fun _=>?_|refine nI ?_ ?_)
   simp -dsimp only [hps_app,List.cons_append,List.nil_append]
   exact(by(try simp -dsimp only [hpx]); refine hle_hpsb ?_; simp -dsimp [allK]<;>exact rz)
  ·simp -dsimp [Tryz.f264,E264,skB,bm,Sky.row,Sp.row,FoOk,FreeAt,he]
   repeat' (first|omega|simp -dsimp [E264,ri,cellp,ints,skB,bm,Sky.row,Sp.row,FoOk,FreeAt,s2pE_dec,he]|refine aI ?_ fun _=>?_|refine oI fun _=>?_|refine nI ?_ ?_)
   simp -dsimp only [hps_app,List.cons_append,List.nil_append]
   exact(by(try simp -dsimp only [hpx]); refine hle_hpsb ?_; simp -dsimp [allK]<;>exact rz)
theorem ok264:FnOK Tryz.prog 264 (.heap cutHS):=pfH b264 (.cons ok274 .nil) (fun args h hc=>by obtain⟨j,lo,hi,rfl,_⟩:=cut_inv hc; simp)
structure C3P (s i n e j:Nat) (h:Hp):Prop where
 a:s=19506∧i=0∧n=1∧e=0∧j=0
 k:h 19506=skB (decS (h 19506))
 b:Blank [26403,26405,24203] h
def cut3S:HSpec where
 go args h:=match args with
  | [.bptr s i n e j,.agg [.int .i64 a,.int .i64 b,.int .i64 c,.int .i64 d,.int .i64 u,.int .i64 v,.bool x,.bool y]]=>⟨C3P s i n e j h,.bool (cutK (decS (h 19506)) ⟨⟨a,b⟩,⟨c,d⟩,⟨u,v⟩,x,y⟩).2,
    hps [(19506,skB {(cutK (decS (h 19506)) ⟨⟨a,b⟩,⟨c,d⟩,⟨u,v⟩,x,y⟩).1 with ice:=(decS (h 19506)).ice,sto:=(decS (h 19506)).sto}),bm h 26403 3,bm h 26405 3,bm h 24203 1] h⟩
  | _=>bad h
theorem cut3_go (s i n e j : Nat) (a b c d u v : Int) (x y : Bool) (h : Hp) : cut3S.go [.bptr s i n e j, .agg [.int .i64 a, .int .i64 b, .int .i64 c, .int .i64 d, .int .i64 u, .int .i64 v, .bool x, .bool y]] h = ⟨C3P s i n e j h, .bool (cutK (decS (h 19506)) ⟨⟨a, b⟩, ⟨c, d⟩, ⟨u, v⟩, x, y⟩).2,
        hps [(19506,skB {(cutK (decS (h 19506)) ⟨⟨a,b⟩,⟨c,d⟩,⟨u,v⟩,x,y⟩).1 with ice:=(decS (h 19506)).ice,sto:=(decS (h 19506)).sto}),bm h 26403 3,bm h 26405 3,bm h 24203 1] h⟩:=rfl
theorem cut3_inv {args:List V} {h:Hp} (hc:(cut3S.go args h).c):∃a b c d u v x y,args=[.bptr 19506 0 1 0 0,.agg [.int .i64 a,.int .i64 b,.int .i64 c,.int .i64 d,.int .i64 u,.int .i64 v,.bool x,.bool y]]∧C3P 19506 0 1 0 0 h:=by
 unfold cut3S at hc
 simp only at hc
 split at hc
 ·obtain⟨⟨rfl,rfl,rfl,rfl,rfl⟩,hk,hb⟩:=hc
  exact⟨_,_,_,_,_,_,_,_,rfl,⟨rfl,rfl,rfl,rfl,rfl⟩,hk,hb⟩
 ·exact hc.elim
theorem cuP_of {s i n e j:Nat} {h:Hp} {k:Sky} {b1 b2:Nat} (ha:s=19506∧i=0∧n=1∧e=0∧(j=0∨j=2∨j=4)) (h0:h 19506=skB k) (h1:h 26403={base:=b1,blks:=[]}) (h2:h 26405={base:=b2,blks:=[]}):CuP s i n e j h:=
 ⟨ha,by rw [h0,decS_eq],by
  intro q hq
  simp only [List.mem_cons,List.not_mem_nil,or_false]at hq
  rcases hq with rfl|rfl
  ·rw [h1]
  ·rw [h2]⟩
abbrev E242:Env:={P:=Tryz.prog,fn:=tbl [(264,.heap cutHS)],own:=[],key:=24200,nt:=36,frz:=[(1,[3,50003])]}
theorem b242:HeapBody E242 [(1,([5,12,19],[[0,1,2,3,4,5,6,7,8,9,10,11,12,13,14,15,16,17,18,19,20,21,22,23]]))] Tryz.f242 cut3S:=by
 intro args h hc
 obtain⟨a,b,c,d,u,v,p,q,rfl,_,hk,hb⟩:=cut3_inv hc
 rw [cut3_go]
 generalize hK:decS (h 19506)=k at *
 have h1:=hb 26403 (by simp)
 have h2:=hb 26405 (by simp)
 have h3:=hb 24203 (by simp)
 have hH:h=hps [(19506,skB k),(26403,{base:=(h 26403).base,blks:=[]}),(26405,{base:=(h 26405).base,blks:=[]}),(24203,{base:=(h 24203).base,blks:=[]})] h:=by
  refine(hps_self fun q hq=>?_).symm
  simp only [List.map_cons,List.map_nil,List.mem_cons,List.not_mem_nil,or_false]at hq
  rcases hq with rfl|rfl|rfl|rfl
  ·exact hk
  ·exact h1
  ·exact h2
  ·exact h3
 rw [hH]
 generalize (h 26403).base=b1 at *
 generalize (h 26405).base=b2 at *
 generalize (h 24203).base=b3 at *
 generalize h=h0 at *
 clear hH hb hk h1 h2 h3 hK hc
 obtain⟨⟨w1,w2⟩,⟨s1,s2⟩,⟨c1,c2⟩,x,y⟩:=k
 have eJ:∀k:Sky,cutJ k 0 ⟨a,b⟩=(⟨(cutS k.w ⟨a,b⟩).1,k.s,k.c,k.ice,k.sto⟩,(cutS k.w ⟨a,b⟩).2):=fun _=>rfl
 have eJ2:∀k:Sky,cutJ k 2 ⟨c,d⟩=(⟨k.w,(cutS k.s ⟨c,d⟩).1,k.c,k.ice,k.sto⟩,(cutS k.s ⟨c,d⟩).2):=fun _=>rfl
 have eJ4:∀k:Sky,cutJ k 4 ⟨u,v⟩=(⟨k.w,k.s,(cutS k.c ⟨u,v⟩).1,k.ice,k.sto⟩,(cutS k.c ⟨u,v⟩).2):=fun _=>rfl
 simp -dsimp [Tryz.f242,E242,bm,FreeAt]
 repeat' (first|omega|simp -dsimp [E242,ri,cellp,ints,bm,FreeAt,cut_go,decS_eq,eJ,eJ2,eJ4,cutK]|refine aI ?_ fun _=>?_|refine oI fun _=>?_|refine nI ?_ ?_)
 ·exact cuP_of (by simp) rfl rfl rfl
 ·exact cuP_of (by simp) rfl rfl rfl
 ·exact cuP_of (by simp) rfl rfl rfl
 simp -dsimp only [hps_app,List.cons_append,List.nil_append]
 exact(by(try simp -dsimp only [hpx]); refine hle_hpsb ?_; simp -dsimp [allK]<;>exact rz)
theorem ok242:FnOK Tryz.prog 242 (.heap cut3S):=pfH b242 (.cons ok264 .nil) (fun args h hc=>by obtain⟨a,b,c,d,u,v,p,q,rfl,_⟩:=cut3_inv hc; simp)
end Go.Sx
end
section
namespace Go.Sx
open Go.RowKit Go.Proofs Go.Sort
variable [Gls]
section
variable {α:Type} [Inhabited α] (l:α→List Int)
def intR (x:α):List V:=(l x).map (V.int .i64)
def intE (x:α):List Value:=(l x).map (Value.int .i64)
open Classical in
def unR (row:List V):α:=if h:∃x,intR l x=row then h.choose else default
omit [Gls]in
variable {l}in
theorem unR_R (hinj:∀x y,l x=l y→x=y) (x:α):unR l (intR l x)=x:=by
 unfold unR
 have h:∃y,intR l y=intR l x:=⟨x,rfl⟩
 rw [dif_pos h]
 have hc:=h.choose_spec
 refine hinj _ _ ?_
 unfold intR at hc
 have hm:∀a b:List Int,a.map (V.int .i64)=b.map (V.int .i64)→a=b:=by
  intro a
  induction a with
  | nil=>intro b h; cases b with
   | nil=>rfl
   | cons=>simp at h
  | cons x a ih=>intro b h; cases b with
   | nil=>simp at h
   | cons y b=>simp only [List.map_cons,List.cons.injEq,V.int.injEq,true_and]at h; rw [h.1,ih b h.2]
 exact hm _ _ hc
def sortS (k:Nat) (ty:TypeId) (srt:Array α→Array α) (ex:List V):HSpec where
 go args h:=match args with
  | .bsl s i n::r=>match hget h s i with
   | some B=>⟨r=ex∧B.fz=false∧B.z=k∧B.ty=ty∧n=B.els.length∧1≤n∧n<4611686018427387904∧∃d:List α,B.els=d.map (intR l),.tup [],hset h s i {B with els:=(srt (B.els.map (unR l)).toArray).toList.map (intR l)}⟩
   | none=>⟨False,.top,h⟩
  | _=>⟨False,.top,h⟩
omit [Gls]in
theorem intR_get {α:Type} (l:α→List Int) {x:α} {j:Nat} {c:V} (h:(intR l x)[j]?=some c):∃n,c=.int .i64 n∧(intE l x)[j]! = .int .i64 n∧j<(l x).length:=by
 unfold intR at h
 rw [List.getElem?_map]at h
 cases hj:(l x)[j]? with
 | none=>simp [hj]at h
 | some n=>
  rw [hj]at h
  simp only [Option.map_some,Option.some.injEq]at h
  refine⟨n,h.symm,?_,(List.getElem?_eq_some_iff.1 hj).1⟩
  unfold intE
  rw [List.getElem!_eq_getElem?_getD,List.getElem?_map,hj]; rfl
theorem sort_ok {P:Program} {f:FuncId} {k:Nat} {ty:TypeId} {srt:Array α→Array α} {ex:List V} {exv:List Value}
  (hcall:∀(args:Array Value) (w:World),(callFunc f args).run P w=.ok (.enter f args) w) (hk:∀x,(l x).length=k) (hk0:0<k) (hinj:∀x y,l x=l y→x=y) (hsize:∀d,(srt d).size=d.size)
  (hexv:∀(w:World) (A:Nat→Prop) (X:Refs) (u:List Value),u.length=ex.length→(∀i c,ex[i]?=some c→RV w A X c (u.getD i und))→u=exv)
  (hsort:∀(blk off cap:Nat) (d:Array α) (w:World),HoldsK (intE l) k w blk off d→blk<w.heap.size→1≤d.size→d.size<4611686018427387904→
   Calls P f (Value.slice (some ⟨blk,off,none⟩) d.size cap::exv).toArray w fun e w'=>e=.returned (.tuple #[])∧∃n os,w'=Go.Sort.grow (putRowK (intE l) k (Sort.ahead w n) blk off (srt d)) os) :
  FnOK P f (.heap (sortS l k ty srt ex)):=by
 refine {call:=hcall,iter:=fun S' h=>(by cases h),pure:=fun S' hS=>(by cases hS),heap:=fun S' hS=>?_}
 cases hS
 intro args h hc w A X vals hI hsz hargs
 match args,hc with
 | [],hc=>exact hc.elim
 | x::r,hc=>
 cases x with
 | bsl s i n=>
  cases hB:hget h s i with
  | none=>simp [sortS,hB]at hc
  | some B=>
   have hgo:(sortS l k ty srt ex).go (.bsl s i n::r) h=⟨r=ex∧B.fz=false∧B.z=k∧B.ty=ty∧n=B.els.length∧1≤n∧n<4611686018427387904∧∃d:List α,B.els=d.map (intR l),.tup [],hset h s i {B with els:=(srt (B.els.map (unR l)).toArray).toList.map (intR l)}⟩:=by simp only [sortS,hB]
   rw [hgo]at hc ⊢
   obtain⟨hr,hfz,hz,hty,hn,h1,h62,d,hd⟩:=hc
   subst hr
   have hun:B.els.map (unR l)=d:=by
    rw [hd,List.map_map]
    have:(unR l ∘ intR l)=id:=funext fun x=>unR_R hinj x
    rw [this,List.map_id]
   simp only [hun]
   have hdl:d.length=n:=by rw [hn,hd,List.length_map]
   obtain⟨a,c,e0,hN,hnl,hv⟩:=(hargs 0 (.bsl s i n) rfl).bsl_inv
   have hb:=hI.blk s i B hB
   have hv':=hv (by rw [hb.hlen,hn])
   rcases hb.mem with⟨_,hnil⟩|⟨arr,cap,g1,g2,g3,g4,g5,g6,g7,g8⟩
   ·rw [hnil]at hn; simp at hn; omega
   have hvals:vals=(Value.slice (some ⟨(X.D s i).b,(X.D s i).o,none⟩) d.toArray.size cap::exv).toArray:=by
    have hx:=hexv w A X (vals.toList.drop 1) (by simp at hsz ⊢; omega) (fun j c hj=>by
     have:=hargs (j+1) c (by simpa using hj)
     rw [List.getD_eq_getElem?_getD,List.getElem?_drop,Array.getElem?_toList,Nat.add_comm 1 j]
     rwa [Array.getD_eq_getD_getElem?]at this)
    have h0:vals.getD 0 und=Value.slice (some ⟨(X.D s i).b,(X.D s i).o,none⟩) d.toArray.size cap:=by
     rw [e0,hv',g2]; simp only [List.size_toArray,hdl,hn]
    apply Array.toList_inj.1
    rw [←hx]
    cases hvl:vals.toList with
    | nil=>have:=congrArg List.length hvl; simp at this hsz; simp [this]at hsz
    | cons y ys=>
     have:vals.getD 0 und=y:=by rw [Array.getD_eq_getD_getElem?,←Array.getElem?_toList,hvl]; rfl
     rw [←h0,this]; simp
   have hdsz:d.toArray.size=n:=by simpa using hdl
   have hlt:(X.D s i).b<w.heap.size:=(Array.getElem?_eq_some_iff.1 g1).1
   have hH:HoldsK (intE l) k w (X.D s i).b (X.D s i).o d.toArray:=by
    intro j hj
    rw [size_flatK]at hj
    have hj':=hj
    rw [get_flatK _ _ _ _ hj']
    have he:j / k<d.length:=by rw [hdl,←hdsz]; exact Nat.div_lt_of_lt_mul (by rw [Nat.mul_comm]; exact hj)
    have hm:j % k<k:=Nat.mod_lt _ hk0
    have e1:B.els[j / k]?=some (intR l d[j / k]):=by rw [hd,List.getElem?_map,List.getElem?_eq_getElem he]; rfl
    have e2:(intR l d[j / k])[j % k]?=some (.int .i64 ((l d[j / k])[j % k]'(by rw [hk]; exact hm))):=by
     unfold intR; rw [List.getElem?_map,List.getElem?_eq_getElem (by rw [hk]; exact hm)]; rfl
    obtain⟨u,u1,u2,u3,u4⟩:=g6 _ _ _ _ e1 e2
    have u5:=u3.int_inv
    have hjk:(X.D s i).o+j / k * k+j % k=(X.D s i).o+j:=by have:=Nat.div_add_mod j k; rw [Nat.mul_comm]at this; omega
    rw [hz,hjk]at u1
    obtain⟨m,m1,m2,_⟩:=intR_get l e2
    have e3:d.toArray[j / k]! = d[j / k]:=by simp [he]
    refine⟨?_,?_⟩
    ·unfold World.cell?
     simp only [g1,Option.isSome_none,Bool.false_eq_true,if_false]
     injection m1 with _ m3
     rw [u1,u5,e3,m2,m3]; rfl
    ·unfold World.frozen?
     simp [g1]
   rw [hvals]
   refine(hsort _ _ _ d.toArray w hH hlt (by omega) (by omega)).mono ?_
   rintro e w' ⟨rfl,q,os,rfl⟩
   have hs':=hsize d.toArray
   generalize hdd:srt d.toArray=d' at *
   have hd'n:d'.size=n:=by omega
   have hB':({B with els:=d'.toList.map (intR l)}:Blk)={B with els:=d'.toList.map (intR l)}:=rfl
   have hw1:(putRowK (intE l) k w (X.D s i).b (X.D s i).o d').heap[(X.D s i).b]?=some (.cells (putCells id (X.D s i).o (flatK (intE l) k d') arr) B.ty (0,0)):=by
    simp only [putRowK,putRow,mapBlock,Array.getElem?_modify,if_true,g1,Option.map_some,onCells]
   obtain⟨hL,hI1⟩:=hI.turn (B':={B with els:=d'.toList.map (intR l)}) hB (w':=putRowK (intE l) k w (X.D s i).b (X.D s i).o d') (by simp [putRowK,putRow,mapBlock]) rfl rfl rfl hfz (by rw [Hd.real,g2]; simp)
    (fun b hne=>by simp only [putRowK,putRow,mapBlock,Array.getElem?_modify]; rw [if_neg (fun e=>hne e.symm)])
    (fun hL => { hN := hN, hz := hb.hz, hlen := by rw [hb.hlen]; simp; omega, rows := fun row hrow => by
                   obtain⟨x,_,rfl⟩:=List.mem_map.1 hrow
                   simp [intR,hk,hz]
                 mem:=.inr ⟨_,cap,hw1,by rw [g2]; simp; omega,by simp; omega,g4,by
                   have:(putCells id (X.D s i).o (flatK (intE l) k d') arr).size=arr.size:=by simp [putCells]
                   rw [this]; exact g5,fun e j row c he hj=>by
                     simp only at he
                     rw [List.getElem?_map]at he
                     cases hx:d'.toList[e]? with
                     | none=>simp [hx]at he
                     | some x=>
                     rw [hx]at he
                     simp only [Option.map_some,Option.some.injEq]at he
                     subst he
                     obtain⟨m,m1,m2,m3⟩:=intR_get l hj
                     rw [hk]at m3
                     have hel:e<d'.size:=by have:=(List.getElem?_eq_some_iff.1 hx).1; simpa using this
                     have hbnd:e * k+j<d'.size * k:=by
                       have:=Nat.mul_le_mul_right k (show e+1≤d'.size from hel); rw [Nat.add_mul,Nat.one_mul]at this; omega
                     have hin:(X.D s i).o+e * k+j<arr.size:=by
                       have hcz:=g5
                       rw [hz]at hcz
                       have:d'.size * k≤cap * k:=Nat.mul_le_mul_right k (by omega)
                       omega
                     refine⟨.int .i64 m,?_,rfl,?_,fun _=>?_⟩
                     · rw [hz]
                       simp only [putCells,Array.getElem?_mapIdx,Array.getElem?_eq_getElem hin,Option.map_some,size_flatK]
                       rw [if_pos ⟨by omega,by omega⟩,show(X.D s i).o+e * k+j - (X.D s i).o=e * k+j by omega,get_flatK _ _ _ _ hbnd]
                       have e1:(e * k+j) / k=e:=(blk_iff k e _ hk0).1 ⟨by omega,by omega⟩
                       have e2:(e * k+j) % k=j:=by rw [Nat.mod_eq_sub_div_mul,e1]; omega
                       rw [e1,e2]
                       have e3:d'[e]! = x:=by
                         rw [Array.getElem?_toList]at hx
                         rw [getElem!_def,hx]
                       rw [e3,m2]; rfl
                     · rw [m1]; exact .pure (.int _ _)
                     · rw [m1]; exact .int _ _,g7,g8⟩})
   obtain⟨_,hI2⟩:=hI1.below (w':=Go.Sort.grow (putRowK (intE l) k (Sort.ahead w q) (X.D s i).b (X.D s i).o d') os) {os:=rfl,tape:=rfl,output:=rfl,size:=by simp [Go.Sort.grow,putRowK,putRow,mapBlock,Sort.ahead],block:=(fun b hlt=>by
    simp only [Go.Sort.grow,putRowK,putRow,mapBlock,Sort.ahead]at hlt ⊢
    rw [Array.getElem?_append_left hlt])}
   exact⟨_,A,X,rfl,hI2,.pure (.tup [] #[] rfl (fun i c h=>by simp at h))⟩
 | _=>exact hc.elim
end
end Go.Sx
end
section
namespace Go.Sx
open Go.RowKit Go.Proofs Go.Sort
variable [Gls]
def inL (n:Int):List Int:=[n]
def inSrt (d:Array Int):Array Int:=(d.toList.mergeSort fun x y=>decide (x≤y)).toArray
def srtZ (l:List Int):List Int:=l.mergeSort fun x y=>decide (x≤y)
omit [Gls]in
theorem srtZ_len (l:List Int):(srtZ l).length=l.length:=by simp [srtZ]
def srt0S:HSpec where
 go args h:=match args with
  | [.nil]=>⟨True,.tup [],h⟩
  | [.bsl s i n]=>if n=0 then ⟨True,.tup [],h⟩else (sortS inL 1 3 inSrt []).go [.bsl s i n] h
  | _=>⟨False,.top,h⟩
theorem putRow_map (w:World) (blk off:Nat) (S:Array Int):putRow (Value.int .i64) w blk off S=putRow id w blk off (S.map (Value.int .i64)):=by
 unfold putRow
 refine mapBlock_congr _ _ _ _ fun c e fr hc=>?_
 unfold putCells
 apply Array.ext (by simp)
 intro i h1 h2
 simp only [Array.getElem_mapIdx,Array.size_map,id]
 split
 ·rename_i hin
  rw [getElem!_pos S (i - off) (by omega),getElem!_pos (S.map (Value.int .i64)) (i - off) (by simp; omega)]
  simp
 ·rfl
theorem srtI_ok {P:Program} {f:FuncId} (hcall:∀(args:Array Value) (w:World),(callFunc f args).run P w=.ok (.enter f args) w)
  (h:∀(blk off cap:Nat) (zs:List Int) (w:World),Holds (Value.int .i64) w blk off zs.toArray→blk<w.heap.size→zs.length<4611686018427387904→
   Calls P f #[.slice (some ⟨blk,off,none⟩) zs.length cap] w fun e w'=>e=.returned (.tuple #[])∧∃n os,w'=grow (putRow (Value.int .i64) (Sort.ahead w n) blk off (zs.mergeSort fun x y=>decide (x≤y)).toArray) os) :
  FnOK P f (.heap (sortS inL 1 3 inSrt [])):=sort_ok inL (exv:=[]) hcall (fun _=>rfl) (by decide) (fun x y h=>by simpa [inL]using h) (fun d=>by simp [inSrt])
 (fun w A X u hl hu=>by
  match u,hl with
  | [],_=>rfl)
 (fun blk off cap d w hH hblk h1 h62=>by
  have hf:∀d:Array Int,flatK (intE inL) 1 d=d.map (Value.int .i64):=fun d=>by
   apply Array.ext (by simp)
   intro i h1 h2
   simp [flatK,intE,inL,Nat.mod_one]
   rw [getElem!_pos d i (by simpa using h2)]
  have hH':Holds (Value.int .i64) w blk off d.toList.toArray:=fun j hj=>by
   have:=hH j (by rw [size_flatK]; simpa using hj)
   rw [hf]at this
   simpa [getElem!_pos d j (by simpa using hj),getElem!_pos (d.map (Value.int .i64)) j (by simpa using hj)]using this
  have:=h blk off cap d.toList w hH' hblk (by simpa using h62)
  rw [Array.length_toList]at this
  refine this.mono ?_
  rintro e w' ⟨rfl,n,os,rfl⟩
  refine⟨rfl,n,os,?_⟩
  congr 1
  show putRow (Value.int .i64) _ blk off (inSrt d)=putRow id _ blk off (flatK (intE inL) 1 (inSrt d))
  rw [hf]
  exact putRow_map _ _ _ _)
theorem srt0_ok {P:Program} {f:FuncId} (h1:FnOK P f (.heap (sortS inL 1 3 inSrt []))) (h0:∀(p:Option Addr) (cap:Nat) (w:World),Calls P f #[.slice p 0 cap] w fun e w'=>e=.returned (.tuple #[])∧w'=w):FnOK P f (.heap srt0S):=by
 refine {call:=h1.call,iter:=fun S' h=>(by cases h),pure:=fun S' hS=>(by cases hS),heap:=fun S' hS=>?_}
 cases hS
 intro args h hc w A X vals hI hsz hargs
 have one:∀{x:Value},vals.getD 0 und=x→vals.size=1→vals = #[x]:=by
  intro x hx hs
  apply Array.ext (by simpa using hs)
  intro i h1 h2
  have:i=0:=by omega
  subst this
  rw [Array.getD_eq_getD_getElem?,Array.getElem?_eq_getElem (by omega)]at hx
  simpa using hx
 match args,hc with
 | [],hc=>exact hc.elim
 | _::_::_,hc=>exact absurd hc (by simp [srt0S])
 | [x],hc=>
 cases x with
 | nil=>
  have e:=one (hargs 0 .nil rfl).nil_inv (by simpa using hsz)
  rw [e]
  refine(h0 _ _ _).mono ?_
  rintro e w' ⟨rfl,rfl⟩
  exact⟨_,A,X,rfl,hI,.pure (.tup [] #[] rfl (fun i c h=>by simp at h))⟩
 | bsl s i n=>
  by_cases hn:n=0
  ·subst hn
   obtain⟨a,c,e0,_⟩:=(hargs 0 (.bsl s i 0) rfl).bsl_inv
   have e:=one e0 (by simpa using hsz)
   rw [e]
   refine(h0 _ _ _).mono ?_
   rintro e w' ⟨rfl,rfl⟩
   exact⟨_,A,X,rfl,hI,.pure (.tup [] #[] rfl (fun i c h=>by simp at h))⟩
  ·have e:srt0S.go [.bsl s i n] h=(sortS inL 1 3 inSrt []).go [.bsl s i n] h:=by simp only [srt0S,if_neg hn]
   rw [e]at hc ⊢
   exact h1.heap _ rfl _ h hc w A X vals hI hsz hargs
 | _=>exact hc.elim
omit [Gls]in
theorem srt0_go {h:Hp} {s i:Nat} {l:List Int} {cl:Bool} (hB:hget h s i=some {z:=1,els:=l.map ri,ty:=3,cl:=cl}) (h2:l.length<4611686018427387904) :
  srt0S.go [.bsl s i l.length] h=⟨True,.tup [],hset h s i {z:=1,els:=(srtZ l).map ri,ty:=3,cl:=cl}⟩:=by
 by_cases h0:l.length=0
 ·have:l=[]:=List.eq_nil_of_length_eq_zero h0
  subst this
  have e:srtZ []=[]:=by simp [srtZ]
  simp only [srt0S,List.length_nil,if_true,e,hset_get hB]
 ·have hR:∀x:Int,intR inL x=ri x:=fun x=>rfl
  have hd:l.map ri=l.map (intR inL):=rfl
  have hun:(l.map ri).map (unR inL)=l:=by
   rw [hd,List.map_map]
   have:(unR inL ∘ intR inL)=id:=funext fun x=>unR_R (fun x y h=>by simpa [inL]using h) x
   rw [this,List.map_id]
  have he:(inSrt l.toArray).toList.map (intR inL)=(srtZ l).map ri:=by simp only [inSrt,srtZ]; rfl
  simp only [srt0S,if_neg h0,sortS,hB,hun,he]
  congr 1
  exact eq_true ⟨trivial,trivial,trivial,trivial,by rw [List.length_map],by omega,h2,l,hd⟩
end Go.Sx
end
section
namespace Go.Proofs
open Go.Shelf
def Tryz.lays189_ren:Go.Shelf.Ren:=⟨fun|189=>245|125=>139|257=>265|128=>212|129=>213|294=>275|295=>276|296=>277|297=>278|298=>279|299=>280|216=>268|300=>281|301=>282|328=>287|329=>249|330=>250|331=>288|332=>289|215=>263|343=>291|n=>n,fun|28=>43|3=>3|46=>229|0=>0|51=>292|53=>294|4=>4|183=>285|182=>284|131=>289|5=>5|9=>9|218=>328|222=>332|228=>349|229=>178|n=>n,fun|n=>n⟩
theorem Tryz.lays189:Go.Proofs.Lays.n189 Tryz.prog Tryz.lays189_ren:={
 mixed:=by kernel_rfl
 f125:=Tryz.func139.trans (congrArg some (by kernel_rfl))
 f128:=Tryz.func212.trans (congrArg some (by kernel_rfl))
 f129:=Tryz.func213.trans (congrArg some (by kernel_rfl))
 f189:=Tryz.func245.trans (congrArg some (by kernel_rfl))
 f215:=Tryz.func263.trans (congrArg some (by kernel_rfl))
 f216:=Tryz.func268.trans (congrArg some (by kernel_rfl))
 f257:=Tryz.func265.trans (congrArg some (by kernel_rfl))
 f294:=Tryz.func275.trans (congrArg some (by kernel_rfl))
 f295:=Tryz.func276.trans (congrArg some (by kernel_rfl))
 f296:=Tryz.func277.trans (congrArg some (by kernel_rfl))
 f297:=Tryz.func278.trans (congrArg some (by kernel_rfl))
 f298:=Tryz.func279.trans (congrArg some (by kernel_rfl))
 f299:=Tryz.func280.trans (congrArg some (by kernel_rfl))
 f300:=Tryz.func281.trans (congrArg some (by kernel_rfl))
 f301:=Tryz.func282.trans (congrArg some (by kernel_rfl))
 f328:=Tryz.func287.trans (congrArg some (by kernel_rfl))
 f329:=Tryz.func249.trans (congrArg some (by kernel_rfl))
 f330:=Tryz.func250.trans (congrArg some (by kernel_rfl))
 f331:=Tryz.func288.trans (congrArg some (by kernel_rfl))
 f332:=Tryz.func289.trans (congrArg some (by kernel_rfl))
 f343:=Tryz.func291.trans (congrArg some (by kernel_rfl))
 t0:=Tryz.underlying0
 a0:=Tryz.isAgg0
 z0:=Tryz.sizeOf0
 v0:=Tryz.zeroValue0
 t3:=Tryz.underlying3
 a3:=Tryz.isAgg3
 z3:=Tryz.sizeOf3
 v3:=Tryz.zeroValue3
 t4:=Tryz.underlying4
 a4:=Tryz.isAgg4
 z4:=Tryz.sizeOf4
 v4:=Tryz.zeroValue4
 t5:=Tryz.underlying5
 a5:=Tryz.isAgg5
 z5:=Tryz.sizeOf5
 v5:=Tryz.zeroValue5
 t9:=Tryz.underlying9
 a9:=Tryz.isAgg9
 z9:=Tryz.sizeOf9
 v9:=Tryz.zeroValue9
 t28:=Tryz.underlying43
 a28:=Tryz.isAgg43
 z28:=Tryz.sizeOf43
 v28:=Tryz.zeroValue43
 t46:=Tryz.underlying229
 a46:=Tryz.isAgg229
 z46:=Tryz.sizeOf229
 v46:=Tryz.zeroValue229
 t51:=Tryz.underlying292
 a51:=Tryz.isAgg292
 z51:=Tryz.sizeOf292
 v51:=Tryz.zeroValue292
 t53:=Tryz.underlying294
 a53:=Tryz.isAgg294
 z53:=Tryz.sizeOf294
 v53:=Tryz.zeroValue294
 t131:=Tryz.underlying289
 a131:=Tryz.isAgg289
 z131:=Tryz.sizeOf289
 v131:=Tryz.zeroValue289
 t182:=Tryz.underlying284
 a182:=Tryz.isAgg284
 z182:=Tryz.sizeOf284
 v182:=Tryz.zeroValue284
 t183:=Tryz.underlying285
 a183:=Tryz.isAgg285
 z183:=Tryz.sizeOf285
 v183:=Tryz.zeroValue285
 t218:=Tryz.underlying328
 a218:=Tryz.isAgg328
 z218:=Tryz.sizeOf328
 v218:=Tryz.zeroValue328
 t222:=Tryz.underlying332
 a222:=Tryz.isAgg332
 z222:=Tryz.sizeOf332
 v222:=Tryz.zeroValue332
 t228:=Tryz.underlying349
 a228:=Tryz.isAgg349
 z228:=Tryz.sizeOf349
 v228:=Tryz.zeroValue349
 t229:=Tryz.underlying178
 a229:=Tryz.isAgg178
 z229:=Tryz.sizeOf178
 v229:=Tryz.zeroValue178}
open Go.Sort Go.RowKit in
theorem Tryz.slices_Sort_int (blk off cap:Nat) (zs:List Int) (w:World) (hH:Holds (Value.int .i64) w blk off zs.toArray) (hblk:blk<w.heap.size) (hsz:zs.length<4611686018427387904) :
  Calls Tryz.prog 245 #[.slice (some ⟨blk,off,none⟩) zs.length cap] w fun e w'=>
   e=.returned (.tuple #[])∧∃n os,w'=grow (putRow (Value.int .i64) (Sort.ahead w n) blk off (zs.mergeSort fun x y=>decide (x≤y)).toArray) os:=Any.slices_Sort_int Tryz.lays189 blk off cap zs w hH hblk hsz
open Go.RowKit Go.Sort in
theorem Tryz.slices_Sort_int_none (p:Option Addr) (cap:Nat) (w:World) :
  Calls Tryz.prog 245 #[.slice p 0 cap] w fun e w'=>e=.returned (.tuple #[])∧w'=w:=Any.slices_Sort_int_none Tryz.lays189 p cap w
end Go.Proofs
namespace Go.Sx
open Go.Proofs
theorem ok245:FnOK Tryz.prog 245 (.heap srt0S):=srt0_ok (srtI_ok (fun args w=>run_call (fn:=Tryz.f245) (by kernel_rfl) (by kernel_rfl) rfl args w) Tryz.slices_Sort_int) Tryz.slices_Sort_int_none
end Go.Sx
end
end
