/- A part of a proof; no conditions. -/
import Derived.Test.YtfhdpblkdgmnfaaGreatDoorP07
import Derived.Test.YtfhdpblkdgmnfaaGreatDoorP08
import Derived.Test.YtfhdpblkdgmnfaaGreatDoorP09
set_option linter.unusedSimpArgs false
set_option linter.unusedVariables false
set_option linter.unusedSectionVars false
set_option maxRecDepth 100000
set_option maxHeartbeats 8000000
noncomputable section
section
namespace Go.Sx
open Go.Proofs
instance:Gls:=⟨fun g=>if g=0 then some (.ip 2 [[.int .i64 (-1),.int .i64 (-1)]] 0 0)else if g=1 then some (.ip 2 [[.int .i64 (-2),.int .i64 (-2)]] 0 0)else none⟩
def withinB (n lo hi:Int):Bool:=decide (lo≤n∧n≤hi)
abbrev withinS:PSpec:={dom:=Int × Int × Int,enc:=fun d=>[.int .i64 d.1,.int .i64 d.2.1,.int .i64 d.2.2],dec:=fun l=>((l.getD 0 .top).toInt,(l.getD 1 .top).toInt,(l.getD 2 .top).toInt),pre:=fun _=>True,res:=fun d=>.bool (withinB d.1 d.2.1 d.2.2)}
abbrev E40:Env:={P:=Tryz.prog,fn:=tbl [],own:=[],key:=4000,nt:=15}
theorem b40:PureBody E40 [] Tryz.f40 withinS:=by
 refine pb ?_
 rintro⟨n,lo,hi⟩ _
 simp -dsimp [Tryz.f40,E40,withinB]
 repeat' (first|omega|simp -dsimp [E40,ri,cellp,ints,withinB]|refine aI ?_ fun _=>?_|refine oI fun _=>?_|refine nI ?_ ?_)
theorem ok40:FO 40 withinS:=pf b40 .nil
abbrev E175:Env:={P:=Tryz.prog,fn:=tbl [],own:=[],key:=17500,nt:=15}
theorem b175:PureBody E175 [] Tryz.f175 withinS:=by
 refine pb ?_
 rintro⟨n,lo,hi⟩ _
 simp -dsimp [Tryz.f175,E175,withinB]
 repeat' (first|omega|simp -dsimp [E175,ri,cellp,ints,withinB]|refine aI ?_ fun _=>?_|refine oI fun _=>?_|refine nI ?_ ?_)
theorem ok175:FO 175 withinS:=pf b175 .nil
def cellp (n:Int):V:=.ip 1 [[.int .i64 n]] 0 0
end Go.Sx
end
section
namespace Go.Sx
open Go.Proofs
attribute [local irreducible] HLe
@[simp] def spE (f:Sp):List V:=[.agg f.row]
theorem spE_inj (a b:Sp) (h:spE a=spE b):a=b:=Sp.row_inj _ _ (by simpa using h)
theorem spE_dec (f:Sp):decC spE [.agg [.int .i64 f.lo,.int .i64 f.hi]]=f:=decC_eq spE_inj f
abbrev E162:Env:={P:=Tryz.prog,fn:=tbl [],own:=[],key:=16200,nt:=15}
theorem b162:PureBody E162 [] Tryz.f162 withinS:=by
 refine pb ?_
 rintro⟨n,a,b⟩ _
 simp -dsimp [Tryz.f162,E162,withinB]
 repeat' (first|omega|simp -dsimp [E162,ri,cellp,ints, *]|refine aI ?_ fun _=>?_|refine oI fun _=>?_|refine nI ?_ ?_)
theorem ok162:FO 162 withinS:=pf b162 .nil
def spN (f:Sp):Bool:=!(withinB f.lo (-1000000) f.hi && decide (f.hi≤1000000))
abbrev spvS:PSpec:=mkP spE (fun _=>True) fun f=>.bool (!spN f)
abbrev spnS:PSpec:=mkP spE (fun _=>True) fun f=>.bool (spN f)
abbrev E168:Env:={P:=Tryz.prog,fn:=tbl [(162,.pure withinS)],own:=[],key:=16800,nt:=13}
theorem b168:PureBody E168 [] Tryz.f168 spvS:=by
 refine pb ?_
 rintro f _
 simp -dsimp [Tryz.f168,E168,Sp.row,spN]
 repeat' (first|omega|simp -dsimp [E168,ri,cellp,ints,Sp.row,spN]|refine aI ?_ fun _=>?_|refine oI fun _=>?_|refine nI ?_ ?_)
theorem ok168:FO 168 spvS:=pf b168 (.cons ok162 .nil)
abbrev E167:Env:={P:=Tryz.prog,fn:=tbl [(168,.pure spvS)],own:=[],key:=16700,nt:=6}
theorem b167:PureBody E167 [] Tryz.f167 spnS:=by
 refine pb ?_
 rintro f _
 simp -dsimp [Tryz.f167,E167,Sp.row]
 repeat' (first|omega|simp -dsimp [E167,ri,cellp,ints,Sp.row,spE_dec]|refine aI ?_ fun _=>?_|refine oI fun _=>?_|refine nI ?_ ?_)
theorem ok167:FO 167 spnS:=pf b167 (.cons ok168 .nil)
@[simp] def spssE (d:List Sp):List V:=[.sl 2 (d.map Sp.row),.fn 167 []]
theorem spssE_inj (a b:List Sp) (h:spssE a=spssE b):a=b:=by
 simp only [spssE,List.cons.injEq,V.sl.injEq,true_and,and_true]at h
 exact mapRow_inj Sp.row_inj h
theorem spssE_dec (l:List Sp):decC spssE [.sl 2 (l.map Sp.row),.fn 167 []]=l:=decC_eq spssE_inj l
abbrev spsixS:PSpec:=mkP spssE (fun d=>d.length≤1000000) fun d=>.int .i64 (idxZ d spN)
abbrev spsanS:PSpec:=mkP spssE (fun d=>d.length≤1000000) fun d=>.bool (d.any spN)
abbrev E227:Env:={P:=Tryz.prog,fn:=tbl [(167,.pure spnS)],own:=[],key:=22700,nt:=19}
theorem b227:PureBody E227 [] Tryz.f227 spsixS:=by
 refine pb ?_
 rintro l hl
 have hl:l.length≤1000000:=hl
 simp -dsimp [Tryz.f227,E227]
 refine awp_loop [9,10,5,11,12,13,14,15,16,17,4,18,8] (fun k:{k:Nat // k≤l.length∧∀j (h:j<l.length),j<k→spN l[j]=false}=>[(8,(true,.int .i64 k.1))]) (fun _=>noH) (fun k=>l.length - k.1) ⟨0,by omega,fun _ _ h=>by omega⟩ ?_ (HLe.refl _) ?_
 ·simp [okAll,okv]
 rintro⟨k,hk,hall⟩
 by_cases hk1:k<l.length
 ·have hki:(k:Int)<l.length:=by omega
  have wk:IntKind.wrap .i64 ((k:Int)+1)=(k+1:Nat):=wrap_id (by omega) (by omega)
  cases hw:spN l[k]
  ·simp -dsimp [hki]
   repeat' (first|omega|simp -dsimp [E227,ri,cellp,ints,hki,hk1,hl,hw,wk,Sp.row,spE_dec]|refine aI ?_ fun _=>?_|refine oI fun _=>?_|refine nI ?_ ?_)
   refine⟨k+1,tle_chain rfl ?_,HLe.refl _,⟨by omega,fun j h hj=>?_⟩,by omega⟩
   ·simp [okAll,okv]
   ·by_cases hjk:j=k
    ·subst hjk; exact hw
    ·exact hall j h (by omega)
  ·have hz:=idxZ_at l spN hk1 hw hall
   simp -dsimp [hki]
   repeat' (first|omega|simp -dsimp [E227,ri,cellp,ints,hki,hk1,hl,hw,wk,hz,Sp.row,spE_dec]|refine aI ?_ fun _=>?_|refine oI fun _=>?_|refine nI ?_ ?_)
 ·have hkn:¬ (k:Int)<l.length:=by omega
  have hz:=idxZ_none l spN (fun j h=>hall j h (by omega))
  simp -dsimp [hkn]
  repeat' (first|omega|simp -dsimp [E227,ri,cellp,ints,hkn,hz]|refine aI ?_ fun _=>?_|refine oI fun _=>?_|refine nI ?_ ?_)
theorem ok227:FO 227 spsixS:=pf b227 (.cons ok167 .nil)
abbrev E166:Env:={P:=Tryz.prog,fn:=tbl [(227,.pure spsixS)],own:=[],key:=16600,nt:=9}
theorem b166:PureBody E166 [] Tryz.f166 spsanS:=by
 refine pb ?_
 rintro l hl
 have hl:l.length≤1000000:=hl
 have hz:=idxZ_any l spN
 simp -dsimp [Tryz.f166,E166]
 repeat' (first|omega|simp -dsimp [E166,ri,cellp,ints,hl,spssE_dec,hz]|refine aI ?_ fun _=>?_|refine oI fun _=>?_|refine nI ?_ ?_)
theorem ok166:FO 166 spsanS:=pf b166 (.cons ok227 .nil)
@[simp] def slE (d:List Sp):List V:=[.sl 2 (d.map Sp.row)]
theorem slE_inj (a b:List Sp) (h:slE a=slE b):a=b:=by
 simp only [slE,List.cons.injEq,V.sl.injEq,true_and,and_true]at h
 exact mapRow_inj Sp.row_inj h
theorem slE_dec (l:List Sp):decC slE [.sl 2 (l.map Sp.row)]=l:=decC_eq slE_inj l
abbrev spdS:PSpec:=mkP slE (fun d=>d.length≤1000000) fun d=>.int .i64 (if d.any spN=true then 10 else 0)
abbrev E99:Env:={P:=Tryz.prog,fn:=tbl [(166,.pure spsanS)],own:=[],key:=9900,nt:=5}
theorem b99:PureBody E99 [] Tryz.f99 spdS:=by
 refine pb ?_
 rintro l hl
 have hl:l.length≤1000000:=hl
 generalize h1:l.any spN=b
 cases b
 ·simp -dsimp [Tryz.f99,E99]
  repeat' (first|omega|simp -dsimp [E99,ri,cellp,ints,hl,h1,spssE_dec]|refine aI ?_ fun _=>?_|refine oI fun _=>?_|refine nI ?_ ?_)
 ·simp -dsimp [Tryz.f99,E99]
  repeat' (first|omega|simp -dsimp [E99,ri,cellp,ints,hl,h1,spssE_dec]|refine aI ?_ fun _=>?_|refine oI fun _=>?_|refine nI ?_ ?_)
theorem ok99:FO 99 spdS:=pf b99 (.cons ok166 .nil)
abbrev bxkS:PSpec:=mkP slE (fun d=>d.length≤1000000) fun d=>.int .i64 (if withinB d.length 1 3=true∧d.any spN=false then 0 else 10)
end Go.Sx
end
section
namespace Go.Sx
structure Sky where
 w:Sp
 s:Sp
 c:Sp
 ice:Bool
 sto:Bool
 deriving DecidableEq,Inhabited
def Sky.row (k:Sky):List V:=[.int .i64 k.w.lo,.int .i64 k.w.hi,.int .i64 k.s.lo,.int .i64 k.s.hi,.int .i64 k.c.lo,.int .i64 k.c.hi,.bool k.ice,.bool k.sto]
theorem Sky.row_inj (a b:Sky) (h:a.row=b.row):a=b:=by
 obtain⟨⟨a1,a2⟩,⟨a3,a4⟩,⟨a5,a6⟩,a7,a8⟩:=a; obtain⟨⟨b1,b2⟩,⟨b3,b4⟩,⟨b5,b6⟩,b7,b8⟩:=b
 simp [Sky.row]at h; simp [h]
structure Fc where
 pl:Int
 a:Int
 b:Int
 iss:Int
 k:Sky
 deriving DecidableEq,Inhabited
def Fc.row (f:Fc):List V:=[.int .i64 f.pl,.int .i64 f.a,.int .i64 f.b,.int .i64 f.iss,.int .i64 f.k.w.lo,.int .i64 f.k.w.hi,.int .i64 f.k.s.lo,.int .i64 f.k.s.hi,.int .i64 f.k.c.lo,.int .i64 f.k.c.hi,.bool f.k.ice,.bool f.k.sto]
theorem Fc.row_inj (a b:Fc) (h:a.row=b.row):a=b:=by
 obtain⟨x1,x2,x3,x4,⟨a1,a2⟩,⟨a3,a4⟩,⟨a5,a6⟩,a7,a8⟩:=a; obtain⟨y1,y2,y3,y4,⟨b1,b2⟩,⟨b3,b4⟩,⟨b5,b6⟩,b7,b8⟩:=b
 simp [Fc.row]at h; simp [h]
structure Wt where
 w:Int
 s:Int
 c:Int
 ice:Bool
 sto:Bool
 deriving DecidableEq,Inhabited
def Wt.row (k:Wt):List V:=[.int .i64 k.w,.int .i64 k.s,.int .i64 k.c,.bool k.ice,.bool k.sto]
theorem Wt.row_inj (a b:Wt) (h:a.row=b.row):a=b:=by
 cases a; cases b; simp [Wt.row]at h; simp [h]
structure Sg where
 pl:Int
 at':Int
 k:Wt
 deriving DecidableEq,Inhabited
def Sg.row (x:Sg):List V:=[.int .i64 x.pl,.int .i64 x.at',.int .i64 x.k.w,.int .i64 x.k.s,.int .i64 x.k.c,.bool x.k.ice,.bool x.k.sto]
theorem Sg.row_inj (a b:Sg) (h:a.row=b.row):a=b:=by
 obtain⟨x1,x2,⟨a1,a2,a3,a4,a5⟩⟩:=a; obtain⟨y1,y2,⟨b1,b2,b3,b4,b5⟩⟩:=b
 simp [Sg.row]at h; simp [h]
structure Met where
 n:Int
 any:Sky
 w:Int
 s:Int
 c:Int
 fs:List Fc
 ss:List Sg
 deriving DecidableEq,Inhabited
def Met.row (m:Met):List V:=[.int .i64 m.n,.int .i64 m.any.w.lo,.int .i64 m.any.w.hi,.int .i64 m.any.s.lo,.int .i64 m.any.s.hi,.int .i64 m.any.c.lo,.int .i64 m.any.c.hi,.bool m.any.ice,.bool m.any.sto,
 .int .i64 m.w,.int .i64 m.s,.int .i64 m.c,.sl 12 (m.fs.map Fc.row),.sl 7 (m.ss.map Sg.row)]
theorem map_injR {α:Type} {f:α→List V} (hf:∀a b,f a=f b→a=b):∀{l m:List α},l.map f=m.map f→l=m
 | [],[],_=>rfl
 | [],_::_,h=>by simp at h
 | _::_,[],h=>by simp at h
 | x::a,y::b,h=>by
  simp only [List.map_cons,List.cons.injEq]at h
  rw [hf _ _ h.1,map_injR hf h.2]
theorem Met.row_inj (a b:Met) (h:a.row=b.row):a=b:=by
 obtain⟨x1,⟨⟨a1,a2⟩,⟨a3,a4⟩,⟨a5,a6⟩,a7,a8⟩,x3,x4,x5,x6,x7⟩:=a; obtain⟨y1,⟨⟨b1,b2⟩,⟨b3,b4⟩,⟨b5,b6⟩,b7,b8⟩,y3,y4,y5,y6,y7⟩:=b
 simp only [Met.row,List.cons.injEq,V.int.injEq,V.bool.injEq,V.sl.injEq,true_and,and_true]at h
 obtain⟨h1,h2,h3,h4,h5,h6,h7,h8,h9,h10,h11,h12,h13,h14⟩:=h
 rw [map_injR Fc.row_inj h13,map_injR Sg.row_inj h14]; simp [*]
abbrev Mn:=Wt
def rgB (n a b:Int):Bool:=decide (a≤n∧n≤b)
def inB (p:Sp) (most:Int):Bool:=decide (0≤p.lo∧p.lo≤p.hi∧p.hi≤most)
def Sky.ok (k:Sky):Bool:=inB k.w 300 && inB k.s 20000 && inB k.c 20000
def Wt.ok (k:Wt):Bool:=rgB k.w 0 300 && rgB k.s 0 20000 && rgB k.c 0 20000
def Fc.bad (n:Int) (f:Fc):Bool:=!(rgB f.pl 0 (n - 1) && decide (0≤f.a∧f.a<f.b∧f.b≤2000) && rgB f.iss 0 2000 && f.k.ok)
def Sg.bad (n:Int) (x:Sg):Bool:=!(rgB x.pl 0 (n - 1) && rgB x.at' 0 2000 && x.k.ok)
def Met.ok (m:Met):Bool:=(rgB m.n 1 8 && m.any.ok && rgB m.w 0 20000 && rgB m.s 0 20000 && rgB m.c 0 20000) && (decide (m.fs.length≤40) && !(m.fs.any (Fc.bad m.n))) && (decide (m.ss.length≤20) && !(m.ss.any (Sg.bad m.n)))
def metE (m:Met):Int:=if m.ok=true then 0 else 40
def mnE (m:Met) (l:Mn):Int:=if m.ok=true then (if l.ok=true then 0 else 41)else 40
def spN' (p:Sp):Bool:=!decide (-1000000≤p.lo∧p.lo≤p.hi∧p.hi≤1000000)
def cutS (a b:Sp):Sp × Bool:=if (spN' a || spN' b)=true then (b,true)else if min a.hi b.hi<max a.lo b.lo then (b,true)else (⟨max a.lo b.lo,min a.hi b.hi⟩,false)
def cutK (k b:Sky):Sky × Bool:=(⟨(cutS k.w b.w).1,(cutS k.s b.s).1,(cutS k.c b.c).1,k.ice && b.ice,k.sto && b.sto⟩,(cutS k.w b.w).2 || (cutS k.s b.s).2 || (cutS k.c b.c).2)
def arS (n by' most:Int):Sp:=⟨max 0 (n - by'),min most (n+by')⟩
def sink (key:Nat→Int) (l:List Nat):Nat→List Nat
 | 0=>l
 | j+1=>if key (l.getD (j+1) 0)<key (l.getD j 0)then sink key ((l.set (j+1) (l.getD j 0)).set j (l.getD (j+1) 0)) j else l
def srtK (key:Nat→Int) (l:List Nat):List Nat:=l.foldl (fun acc x=>sink key (acc++[x]) acc.length) []
def fcAt (m:Met) (i:Nat):Fc:=m.fs.getD i default
def sgAt (m:Met) (i:Nat):Sg:=m.ss.getD i default
def fcOn (m:Met) (p t:Int) (i:Nat):Bool:=decide ((fcAt m i).pl=p∧(fcAt m i).a≤t∧t<(fcAt m i).b)
def sgOn (m:Met) (p t:Int) (i:Nat):Bool:=decide ((sgAt m i).pl=p∧(sgAt m i).at'≤t)
def covs (m:Met) (p t:Int) (n:Nat):List Nat:=(List.range n).filter (fcOn m p t)
def seen (m:Met) (p t:Int) (n:Nat):List Nat:=(List.range n).filter (sgOn m p t)
def covK (m:Met) (p t:Int) (n:Nat):List Nat:=srtK (fun i=>(fcAt m i).iss) (covs m p t n)
def seeK (m:Met) (p t:Int) (n:Nat):List Nat:=srtK (fun i=>(sgAt m i).at') (seen m p t n)
def fcTo (m:Met) (l:List Nat):Nat→Sky × List Nat
 | 0=>(m.any,[])
 | k+1=>((cutK (fcTo m l k).1 (fcAt m (l.getD k 0)).k).1,(fcTo m l k).2++if (cutK (fcTo m l k).1 (fcAt m (l.getD k 0)).k).2=true then [l.getD k 0]else [])
def sgCut (m:Met) (t:Int) (k:Sky) (x:Sg):Sky:=
 ⟨(cutS k.w (arS x.k.w ((t - x.at') * m.w) 300)).1,(cutS k.s (arS x.k.s ((t - x.at') * m.s) 20000)).1,(cutS k.c (arS x.k.c ((t - x.at') * m.c) 20000)).1,if t - x.at'=0 then x.k.ice else k.ice,if t - x.at'=0 then x.k.sto else k.sto⟩
def sgTo (m:Met) (t:Int) (l:List Nat) (k0:Sky):Nat→Sky
 | 0=>k0
 | k+1=>sgCut m t (sgTo m t l k0 k) (sgAt m (l.getD k 0))
def mayF (m:Met) (p t:Int):Sky × List Nat:=fcTo m (covK m p t m.fs.length) (covK m p t m.fs.length).length
def mayK (m:Met) (p t:Int):Sky:=sgTo m t (seeK m p t m.ss.length) (mayF m p t).1 (seeK m p t m.ss.length).length
def flyB (k:Sky) (l:Mn):Bool:=decide (k.w.hi≤l.w) && decide (l.s≤k.s.lo) && decide (l.c≤k.c.lo) && (!k.ice || l.ice) && (!k.sto || l.sto)
def opnB (m:Met) (l:Mn) (p t:Int):Bool:=flyB (mayK m p t) l
def atB (m:Met) (p t:Int):Bool:=rgB p 0 (m.n - 1) && rgB t 0 2000
def opnE (m:Met) (l:Mn) (p t:Int):Int:=if mnE m l=0 then (if atB m p t=true then 0 else 1)else mnE m l
theorem sink_len (key:Nat→Int):∀(j:Nat) (l:List Nat),(sink key l j).length=l.length
 | 0,l=>rfl
 | j+1,l=>by
  unfold sink; split
  ·rw [sink_len key j]; simp
  ·rfl
theorem sink_app (key:Nat→Int) (r:List Nat):∀(j:Nat) (l:List Nat),j<l.length→sink key (l++r) j=sink key l j++r
 | 0,l,_=>rfl
 | j+1,l,h=>by
  have e1:(l++r).getD (j+1) 0=l.getD (j+1) 0:=by simp [List.getD,List.getElem?_append_left h]
  have e2:(l++r).getD j 0=l.getD j 0:=by simp [List.getD,List.getElem?_append_left (by omega:j<l.length)]
  unfold sink
  rw [e1,e2]
  split
  ·rw [List.set_append_left _ _ h,List.set_append_left _ _ (by simp; omega),sink_app key r j _ (by simp; omega)]
  ·rfl
theorem srtK_snoc (key:Nat→Int) (l:List Nat) (x:Nat):srtK key (l++[x])=sink key (srtK key l++[x]) (srtK key l).length:=by
 simp [srtK,List.foldl_append]
theorem srtK_len (key:Nat→Int) (l:List Nat):(srtK key l).length=l.length:=by
 have:∀(l acc:List Nat),(l.foldl (fun acc x=>sink key (acc++[x]) acc.length) acc).length=acc.length+l.length:=by
  intro l
  induction l with
  | nil=>intro acc; rfl
  | cons x l ih=>intro acc; rw [List.foldl_cons,ih,sink_len]; simp; omega
 have:=this l []
 simpa [srtK]using this
theorem sink_perm (key:Nat→Int):∀(j:Nat) (l:List Nat),j<l.length→(sink key l j).Perm l
 | 0,l,_=>.refl _
 | j+1,l,h=>by
  unfold sink; split
  ·refine(sink_perm key j _ (by simp; omega)).trans ?_
   have h1:l.getD (j+1) 0=l[j+1]:=by simp [List.getD,h]
   have h2:l.getD j 0=l[j]'(by omega):=by simp [List.getD,(by omega:j<l.length)]
   rw [h1,h2]
   refine List.perm_iff_count.2 fun a=>?_
   rw [List.count_set (by simp; omega),List.count_set (by omega)]
   have g1:0<l.count l[j+1]:=List.count_pos_iff.2 (List.getElem_mem _)
   have g2:0<l.count (l[j]'(by omega)):=List.count_pos_iff.2 (List.getElem_mem _)
   rw [List.getElem_set_ne (by omega)]
   by_cases e1:l[j+1]=a<;>by_cases e2:(l[j]'(by omega))=a<;>simp [e1,e2]<;>(try rw [e1]at g1)<;>(try rw [e2]at g2)<;>omega
  ·exact .refl _
theorem srtK_perm (key:Nat→Int) (l:List Nat):(srtK key l).Perm l:=by
 have:∀(l acc:List Nat),(l.foldl (fun acc x=>sink key (acc++[x]) acc.length) acc).Perm (acc++l):=by
  intro l
  induction l with
  | nil=>intro acc; simp
  | cons x l ih=>
   intro acc; rw [List.foldl_cons]
   refine(ih _).trans ?_
   have:=(sink_perm key acc.length (acc++[x]) (by simp)).append_right l
   simpa using this
 simpa [srtK]using this l []
theorem srtK_mem {key:Nat→Int} {l:List Nat} {x:Nat}:x∈srtK key l↔x∈l:=(srtK_perm key l).mem_iff
theorem srtK_step (key:Nat→Int) (l:List Nat) {k:Nat} (h:k<l.length):sink key (srtK key (l.take k)++l.drop k) k=srtK key (l.take (k+1))++l.drop (k+1):=by
 have e:l.drop k=[l[k]]++l.drop (k+1):=by rw [List.drop_eq_getElem_cons h]; rfl
 have e2:l.take (k+1)=l.take k++[l[k]]:=by rw [List.take_add_one]; simp [h]
 have hlen:(srtK key (l.take k)).length=k:=by rw [srtK_len]; simp; omega
 rw [e,←List.append_assoc,sink_app _ _ _ _ (by simp [hlen]),e2,srtK_snoc,hlen]
theorem covs_succ (m:Met) (p t:Int) (n:Nat):covs m p t (n+1)=covs m p t n++if fcOn m p t n=true then [n]else []:=by
 unfold covs; rw [List.range_succ,List.filter_append]; congr 1; simp [List.filter_cons]
theorem seen_succ (m:Met) (p t:Int) (n:Nat):seen m p t (n+1)=seen m p t n++if sgOn m p t n=true then [n]else []:=by
 unfold seen; rw [List.range_succ,List.filter_append]; congr 1; simp [List.filter_cons]
theorem covs_lt {m:Met} {p t:Int} {n i:Nat} (h:i∈covs m p t n):i<n∧fcOn m p t i=true:=by
 simpa [covs]using h
theorem seen_lt {m:Met} {p t:Int} {n i:Nat} (h:i∈seen m p t n):i<n∧sgOn m p t i=true:=by
 simpa [seen]using h
theorem covs_len (m:Met) (p t:Int) (n:Nat):(covs m p t n).length≤n:=by
 unfold covs; exact Nat.le_trans (List.length_filter_le _ _) (by simp)
theorem seen_len (m:Met) (p t:Int) (n:Nat):(seen m p t n).length≤n:=by
 unfold seen; exact Nat.le_trans (List.length_filter_le _ _) (by simp)
end Go.Sx
end
section
namespace Go.Sx
structure Leg where
 a:Int
 b:Int
 t:Int
 deriving DecidableEq,Inhabited
def Leg.row (x:Leg):List V:=[.int .i64 x.a,.int .i64 x.b,.int .i64 x.t]
theorem Leg.row_inj (a b:Leg) (h:a.row=b.row):a=b:=by
 cases a; cases b; simp [Leg.row]at h; simp [h]
def Leg.bad (n:Int) (x:Leg):Bool:=!(rgB x.a 0 (n - 1) && rgB x.b 0 (n - 1) && decide (x.a≠x.b) && rgB x.t 1 200)
def netB (m:Met) (l:List Leg):Bool:=decide (l.length≤20) && !(l.any (Leg.bad m.n))
def netE (m:Met) (l:List Leg):Int:=if m.ok=true then (if netB m l=true then 0 else 50)else 40
abbrev T2:=List (List Int)
def g2 (t:T2) (a b:Nat):Int:=(t.getD a []).getD b 0
def s2 (t:T2) (a b:Nat) (x:Int):T2:=t.set a ((t.getD a []).set b x)
def Sq (n:Nat) (t:T2):Prop:=t.length=n∧∀r∈t,r.length=n
theorem Sq.row {n:Nat} {t:T2} (h:Sq n t) {a:Nat} (ha:a<n):(t.getD a []).length=n:=by
 have:a<t.length:=by rw [h.1]; exact ha
 rw [List.getD_eq_getElem?_getD,List.getElem?_eq_getElem this]; exact h.2 _ (List.getElem_mem _)
theorem Sq.s2 {n:Nat} {t:T2} (h:Sq n t) {a:Nat} (ha:a<n) (b:Nat) (x:Int):Sq n (s2 t a b x):=by
 refine⟨by simp [Sx.s2,h.1],fun r hr=>?_⟩
 rcases List.mem_or_eq_of_mem_set hr with hr|rfl
 ·exact h.2 r hr
 ·rw [List.length_set]; exact h.row ha
theorem g2_s2 {n:Nat} {t:T2} (h:Sq n t) {a b:Nat} (ha:a<n) (hb:b<n) (x:Int) (c d:Nat):g2 (s2 t a b x) c d=if c=a∧d=b then x else g2 t c d:=by
 have hl:a<t.length:=by rw [h.1]; exact ha
 have hr:=h.row ha
 unfold g2 Sx.s2
 by_cases hc:c=a
 ·subst hc
  have e:(t.set c ((t.getD c []).set b x)).getD c []=(t.getD c []).set b x:=by simp [List.getD,hl]
  rw [e]
  by_cases hd:d=b
  ·subst hd; simp only [and_self,if_true]; rw [List.getD_eq_getElem?_getD,List.getElem?_set_self (by omega)]; rfl
  ·rw [if_neg (by simp [hd])]; rw [List.getD_eq_getElem?_getD,List.getElem?_set_ne (Ne.symm hd),←List.getD_eq_getElem?_getD]
 ·rw [if_neg (by simp [hc])]
  have e:(t.set a ((t.getD a []).set b x)).getD c []=t.getD c []:=by simp [List.getD,List.getElem?_set_ne (Ne.symm hc)]
  rw [e]
def sh (t:T2) (a b:Nat) (x:Int):T2:=if g2 t a b<0∨x<g2 t a b then s2 t a b x else t
theorem Sq.sh {n:Nat} {t:T2} (h:Sq n t) {a:Nat} (ha:a<n) (b:Nat) (x:Int):Sq n (sh t a b x):=by
 unfold Sx.sh; split
 ·exact h.s2 ha b x
 ·exact h
theorem g2_sh {n:Nat} {t:T2} (h:Sq n t) {a b:Nat} (ha:a<n) (hb:b<n) (x:Int) (c d:Nat):g2 (sh t a b x) c d=if (c=a∧d=b)∧(g2 t a b<0∨x<g2 t a b)then x else g2 t c d:=by
 unfold Sx.sh
 by_cases hx:g2 t a b<0∨x<g2 t a b
 ·rw [if_pos hx,g2_s2 h ha hb]; simp [hx]
 ·rw [if_neg hx,if_neg (fun h=>hx h.2)]
def lgAt (l:List Leg) (k:Nat):Leg:=l.getD k default
def lgTo (n:Nat) (l:List Leg):Nat→T2
 | 0=>List.replicate n (List.replicate n (-1))
 | k+1=>sh (sh (lgTo n l k) (lgAt l k).a.toNat (lgAt l k).b.toNat (lgAt l k).t) (lgAt l k).b.toNat (lgAt l k).a.toNat (lgAt l k).t
def dgTo (t:T2):Nat→T2
 | 0=>t
 | k+1=>s2 (dgTo t k) k k 0
def fwA (t:T2) (y a:Nat):Nat→T2
 | 0=>t
 | b+1=>if 0≤g2 (fwA t y a b) a y∧0≤g2 (fwA t y a b) y b then sh (fwA t y a b) a b (g2 (fwA t y a b) a y+g2 (fwA t y a b) y b)else fwA t y a b
def fwB (t:T2) (n y:Nat):Nat→T2
 | 0=>t
 | a+1=>fwA (fwB t n y a) y a n
def fwC (t:T2) (n:Nat):Nat→T2
 | 0=>t
 | y+1=>fwB (fwC t n y) n y n
def tim0 (n:Nat) (l:List Leg):T2:=dgTo (lgTo n l l.length) n
def timT (n:Nat) (l:List Leg):T2:=fwC (tim0 n l) n n
structure Stg (n y:Nat) (B:Int) (t:T2):Prop where
 sq:Sq n t
 dg:∀a,a<n→g2 t a a=0
 lo:∀a b,a<n→b<n→-1≤g2 t a b
 hi:∀a b,a<n→b<n→g2 t a b≤2 * B
 ro:∀b,b<n→g2 t y b≤B
 co:∀a,a<n→g2 t a y≤B
theorem Stg.step {n y:Nat} {B:Int} {t:T2} (h:Stg n y B t) (hy:y<n) {a b:Nat} (ha:a<n) (hb:b<n):Stg n y B (if 0≤g2 t a y∧0≤g2 t y b then sh t a b (g2 t a y+g2 t y b)else t):=by
 split
 case isFalse=>exact h
 rename_i hc
 have e:=g2_sh h.sq ha hb (g2 t a y+g2 t y b)
 have h1:=h.co a ha
 have h2:=h.ro b hb
 have hd:=h.dg y hy
 refine⟨h.sq.sh ha b _,fun c hc'=>?_,fun c d hc' hd'=>?_,fun c d hc' hd'=>?_,fun d hd'=>?_,fun c hc'=>?_⟩
 ·rw [e]; split
  ·rename_i g; obtain⟨⟨rfl,rfl⟩,g⟩:=g
   rw [h.dg c hc']at g; omega
  ·exact h.dg c hc'
 ·rw [e]; split
  ·omega
  ·exact h.lo c d hc' hd'
 ·rw [e]; split
  ·omega
  ·exact h.hi c d hc' hd'
 ·rw [e]; split
  ·rename_i g; obtain⟨⟨rfl,rfl⟩,g⟩:=g
   rw [hd]at hc g ⊢; omega
  ·exact h.ro d hd'
 ·rw [e]; split
  ·rename_i g; obtain⟨⟨rfl,rfl⟩,g⟩:=g
   rw [hd]at hc g ⊢; omega
  ·exact h.co c hc'
theorem Stg.fwA {n y:Nat} {B:Int} {t:T2} (h:Stg n y B t) (hy:y<n) {a:Nat} (ha:a<n):∀{b:Nat},b≤n→Stg n y B (fwA t y a b)
 | 0,_=>h
 | b+1,hb=>(Stg.fwA h hy ha (b:=b) (by omega)).step hy ha (by omega)
theorem Stg.fwB {n y:Nat} {B:Int} {t:T2} (h:Stg n y B t) (hy:y<n):∀{a:Nat},a≤n→Stg n y B (fwB t n y a)
 | 0,_=>h
 | a+1,ha=>(Stg.fwB h hy (a:=a) (by omega)).fwA hy (by omega) (Nat.le_refl n)
theorem Stg.of {n y:Nat} {B:Int} {t:T2} (sq:Sq n t) (dg:∀a,a<n→g2 t a a=0) (lo:∀a b,a<n→b<n→-1≤g2 t a b) (hi:∀a b,a<n→b<n→g2 t a b≤B) (hB:0≤B) (hy:y<n):Stg n y B t:=
 ⟨sq,dg,lo,fun a b ha hb=>by have:=hi a b ha hb; omega,fun b hb=>hi y b hy hb,fun a ha=>hi a y ha hy⟩
structure Tim (n:Nat) (B:Int) (t:T2):Prop where
 sq:Sq n t
 dg:∀a,a<n→g2 t a a=0
 lo:∀a b,a<n→b<n→-1≤g2 t a b
 hi:∀a b,a<n→b<n→g2 t a b≤B
theorem Tim.stg {n y:Nat} {B:Int} {t:T2} (h:Tim n B t) (hB:0≤B) (hy:y<n):Stg n y B t:=.of h.sq h.dg h.lo h.hi hB hy
theorem Stg.tim {n y:Nat} {B:Int} {t:T2} (h:Stg n y B t):Tim n (2 * B) t:=⟨h.sq,h.dg,h.lo,h.hi⟩
theorem Tim.fwC {n:Nat} {t:T2} (h:Tim n 200 t):∀{y:Nat},y≤n→Tim n (200 * 2 ^ y) (fwC t n y)
 | 0,_=>by simpa [Sx.fwC]using h
 | y+1,hy=>by
  have ih:=Tim.fwC h (y:=y) (by omega)
  have:=((ih.stg (y:=y) (by have:(0:Int)<2 ^ y:=Int.pow_pos (by decide); omega) (by omega)).fwB (by omega) (a:=n) (Nat.le_refl n)).tim
  rw [show(200:Int) * 2 ^ (y+1)=2 * (200 * 2 ^ y) by rw [Int.pow_succ]; omega]
  exact this
theorem pow_le8 {y:Nat} (h:y≤8):(2:Int) ^ y≤256:=by
 have:(2:Nat) ^ y≤2 ^ 8:=Nat.pow_le_pow_right (by decide) h
 have e:((2 ^ y:Nat):Int)=(2:Int) ^ y:=by norm_cast
 omega
theorem Tim.le {n:Nat} {B C:Int} {t:T2} (h:Tim n B t) (hBC:B≤C):Tim n C t:=⟨h.sq,h.dg,h.lo,fun a b ha hb=>by have:=h.hi a b ha hb; omega⟩
def rightL (n:Nat) (l:List Leg):Prop:=∀x∈l,(0≤x.a∧x.a<n)∧(0≤x.b∧x.b<n)∧x.a≠x.b∧1≤x.t∧x.t≤200
theorem rightL_of {m:Met} {l:List Leg} (hm:0≤m.n) (h:netB m l=true):rightL m.n.toNat l:=by
 intro x hx
 simp only [netB,Bool.and_eq_true,Bool.not_eq_true',List.any_eq_false]at h
 have:=h.2 x hx
 simp [Leg.bad,rgB]at this
 omega
theorem lgAt_mem {l:List Leg} {k:Nat} (h:k<l.length):lgAt l k∈l:=by
 simp [lgAt,List.getD,h]
theorem lgTo_sq {n:Nat} {l:List Leg} (h:rightL n l):∀{k:Nat},k≤l.length→Sq n (lgTo n l k)
 | 0,_=>⟨by simp [lgTo],fun r hr=>by simp [lgTo]at hr; simp [hr.2]⟩
 | k+1,hk=>by
  have hx:=h _ (lgAt_mem (l:=l) (k:=k) (by omega))
  exact((lgTo_sq h (k:=k) (by omega)).sh (by omega) _ _).sh (by omega) _ _
def legR (l:List Leg) (a b:Nat):Nat→Int
 | 0=>-1
 | k+1=>if (((lgAt l k).a=a∧(lgAt l k).b=b)∨((lgAt l k).a=b∧(lgAt l k).b=a))∧(legR l a b k<0∨(lgAt l k).t<legR l a b k)then (lgAt l k).t else legR l a b k
theorem legR_bd {n:Nat} {l:List Leg} (h:rightL n l) (a b:Nat):∀{k:Nat},k≤l.length→-1≤legR l a b k∧legR l a b k≤200
 | 0,_=>by simp [legR]
 | k+1,hk=>by
  have hx:=h _ (lgAt_mem (l:=l) (k:=k) (by omega))
  have ih:=legR_bd h a b (k:=k) (by omega)
  unfold legR; split<;>omega
theorem lgTo_get {n:Nat} {l:List Leg} (h:rightL n l):∀{k:Nat},k≤l.length→∀a b,a<n→b<n→g2 (lgTo n l k) a b=legR l a b k
 | 0,_,a,b,ha,hb=>by simp [lgTo,g2,legR,List.getD,ha,hb]
 | k+1,hk,a,b,ha,hb=>by
  have hx:=h _ (lgAt_mem (l:=l) (k:=k) (by omega))
  have ih:=lgTo_get h (k:=k) (by omega)
  have s1:=lgTo_sq h (k:=k) (by omega)
  rw [lgTo,legR]
  generalize lgAt l k=x at *
  obtain⟨xa,xb,xt⟩:=x
  simp only at hx ⊢
  obtain⟨a',rfl⟩:=Int.eq_ofNat_of_zero_le hx.1.1
  obtain⟨b',rfl⟩:=Int.eq_ofNat_of_zero_le hx.2.1.1
  have ha':a'<n:=by omega
  have hb':b'<n:=by omega
  have hne:a'≠b':=by omega
  simp only [Int.toNat_natCast]
  have q1:=g2_sh s1 ha' hb' xt
  rw [g2_sh (s1.sh ha' b' xt) hb' ha' xt a b,q1 b' a',q1 a b,if_neg (by omega:¬ ((b'=a'∧a'=b')∧_)),ih b' a' hb' ha',ih a' b' ha' hb',ih a b ha hb]
  by_cases e1:a=a'∧b=b'
  ·obtain⟨rfl,rfl⟩:=e1
   rw [if_neg (by omega:¬ ((a=b∧b=a)∧_))]
   simp
  ·by_cases e2:a=b'∧b=a'
   ·obtain⟨rfl,rfl⟩:=e2
    rw [if_neg (by omega:¬ ((a=b∧b=a)∧_))]
    simp
   ·rw [if_neg (by omega),if_neg (by omega),if_neg (by omega)]
end Go.Sx
end
section
namespace Go.Sx
def cycV (p:Int × Int):List V:=[.int .i64 p.1,.int .i64 p.2]
theorem cycV_inj {a b:List (Int × Int)} (h:a.map cycV=b.map cycV):a=b:=by
 induction a generalizing b with
 | nil=>cases b with
  | nil=>rfl
  | cons=>simp at h
 | cons x a ih=>
  cases b with
  | nil=>simp at h
  | cons y b=>
   simp only [List.map_cons,List.cons.injEq,cycV,V.int.injEq,true_and,and_true]at h
   rw [ih h.2,Prod.ext h.1.1 h.1.2]
theorem ints_inj {a b:List Int} (h:ints a=ints b):a=b:=by
 simp only [ints,V.sl.injEq,true_and]at h; exact map_ri_inj h
def prs (l:List (Int × Int)):V:=.sl 2 (l.map cycV)
end Go.Sx
end
end
