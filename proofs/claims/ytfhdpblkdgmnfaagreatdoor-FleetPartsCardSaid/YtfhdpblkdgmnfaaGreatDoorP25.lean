/- A part of a proof; no conditions. -/
import Derived.Test.YtfhdpblkdgmnfaaGreatDoorP08
import Derived.Test.YtfhdpblkdgmnfaaGreatDoorP10
set_option linter.unusedSimpArgs false
set_option linter.unusedVariables false
set_option linter.unusedSectionVars false
set_option maxRecDepth 100000
set_option maxHeartbeats 8000000
noncomputable section
section
namespace Go.Sx
open Go.Proofs
abbrev E28:Env:={P:=Tryz.prog,fn:=tbl [],own:=[],key:=2800,nt:=15}
theorem b28:PureBody E28 [] Tryz.f28 withinS:=by
 refine pb ?_
 rintro⟨n,lo,hi⟩ _
 simp -dsimp [Tryz.f28,E28,withinB]
 repeat' (first|omega|simp -dsimp [E28,ri,cellp,ints,withinB]|refine aI ?_ fun _=>?_|refine oI fun _=>?_|refine nI ?_ ?_)
theorem ok28:FO 28 withinS:=pf b28 .nil
abbrev int1S (f:Int→Bool):PSpec:={dom:=Int,enc:=fun d=>[.int .i64 d],dec:=fun l=>(l.getD 0 .top).toInt,pre:=fun _=>True,res:=fun d=>.bool (f d)}
abbrev timeS:PSpec:=int1S fun n=>withinB n 0 2000
abbrev E73:Env:={P:=Tryz.prog,fn:=tbl [(28,.pure withinS)],own:=[],key:=7300,nt:=5}
theorem b73:PureBody E73 [] Tryz.f73 timeS:=by
 refine pb ?_
 rintro n _
 simp -dsimp [Tryz.f73,E73]
 repeat' (first|omega|simp -dsimp [E73,ri,cellp,ints, *]|refine aI ?_ fun _=>?_|refine oI fun _=>?_|refine nI ?_ ?_)
theorem ok73:FO 73 timeS:=pf b73 (.cons ok28 .nil)
abbrev E74:Env:={P:=Tryz.prog,fn:=tbl [(28,.pure withinS)],own:=[],key:=7400,nt:=5}
theorem b74:PureBody E74 [] Tryz.f74 (int1S fun n=>withinB n 1 2000):=by
 refine pb ?_
 rintro n _
 simp -dsimp [Tryz.f74,E74]
 repeat' (first|omega|simp -dsimp [E74,ri,cellp,ints, *]|refine aI ?_ fun _=>?_|refine oI fun _=>?_|refine nI ?_ ?_)
theorem ok74:FnOK Tryz.prog 74 (.pure (int1S fun n=>withinB n 1 2000)):=pf b74 (.cons ok28 .nil)
abbrev strS:PSpec:={dom:=Int × Int,enc:=fun d=>[.int .i64 d.1,.int .i64 d.2],dec:=fun l=>((l.getD 0 .top).toInt,(l.getD 1 .top).toInt),pre:=fun _=>True,res:=fun d=>.bool (strW d.1 d.2)}
abbrev E32:Env:={P:=Tryz.prog,fn:=tbl [(28,.pure withinS)],own:=[],key:=3200,nt:=13}
theorem b32:PureBody E32 [] Tryz.f32 strS:=by
 refine pb ?_
 rintro⟨a,b⟩ _
 have e:strW a b=(withinB a 0 (wr (b - 1)) && decide (b≤2000)):=rfl
 simp -dsimp [Tryz.f32,E32,e,wr]
theorem ok32:FO 32 strS:=pf b32 (.cons ok28 .nil)
@[simp] def pnE (p:Pn):List V:=[.agg p.row]
theorem pnE_inj (a b:Pn) (h:pnE a=pnE b):a=b:=Pn.row_inj _ _ (by simpa using h)
theorem pnE_dec (p:Pn):decC pnE [.agg [.int .i64 p.rat,.int .i64 p.rank,.int .i64 p.dive]]=p:=decC_eq pnE_inj p
def Pn.bad (p:Pn):Bool:=!p.ok
abbrev pnS:PSpec:=mkP pnE (fun _=>True) fun p=>.bool p.bad
theorem pn_ok (p:Pn):p.bad=!(withinB p.rat 0 255 && withinB p.rank 0 3 && withinB p.dive 0 2000):=rfl
abbrev E72:Env:={P:=Tryz.prog,fn:=tbl [(28,.pure withinS),(73,.pure timeS)],own:=[],key:=7200,nt:=19}
theorem b72:PureBody E72 [] Tryz.f72 pnS:=by
 refine pb ?_
 rintro⟨a,b,c⟩ _
 simp -dsimp [Tryz.f72,E72,pn_ok,Pn.row]
theorem ok72:FO 72 pnS:=pf b72 (.cons ok28 (.cons ok73 .nil))
@[simp] def pnsE (d:List Pn):List V:=[.sl 3 (d.map Pn.row),.fn 72 []]
theorem pnsE_inj (a b:List Pn) (h:pnsE a=pnsE b):a=b:=by
 simp only [pnsE,List.cons.injEq,V.sl.injEq,true_and,and_true]at h
 exact mapRow_inj Pn.row_inj h
theorem pnsE_dec (l:List Pn):decC pnsE [.sl 3 (l.map Pn.row),.fn 72 []]=l:=decC_eq pnsE_inj l
abbrev pnixS:PSpec:=mkP pnsE (fun d=>d.length≤100000000000000) fun d=>.int .i64 (idxZ d Pn.bad)
abbrev pnanS:PSpec:=mkP pnsE (fun d=>d.length≤100000000000000) fun d=>.bool (d.any Pn.bad)
abbrev E135:Env:={P:=Tryz.prog,fn:=tbl [(72,.pure pnS)],own:=[],key:=13500,nt:=19}
theorem b135:PureBody E135 [] Tryz.f135 pnixS:=by
 refine pb ?_
 rintro l hl
 have hl:l.length≤100000000000000:=hl
 simp -dsimp [Tryz.f135,E135]
 refine awp_loop [9,10,5,11,12,13,14,15,16,17,4,18,8] (fun k:{k:Nat // k≤l.length∧∀j (h:j<l.length),j<k→Pn.bad l[j]=false}=>[(8,(true,.int .i64 k.1))]) (fun _=>noH) (fun k=>l.length - k.1) ⟨0,by omega,fun _ _ h=>by omega⟩ ?_ (HLe.refl _) ?_
 ·simp [okAll,okv]
 rintro⟨k,hk,hall⟩
 by_cases hk1:k<l.length
 ·have hki:(k:Int)<l.length:=by omega
  have wk:IntKind.wrap .i64 ((k:Int)+1)=(k+1:Nat):=wrap_id (by omega) (by omega)
  cases hw:Pn.bad l[k]
  ·simp -dsimp [hki]
   repeat' (first|omega|simp -dsimp [E135,ri,cellp,ints,hki,hk1,hl,hw,wk,Pn.row,pnE_dec]|refine aI ?_ fun _=>?_|refine oI fun _=>?_|refine nI ?_ ?_)
   refine⟨k+1,tle_chain rfl ?_,HLe.refl _,⟨by omega,fun j h hj=>?_⟩,by omega⟩
   ·simp [okAll,okv]
   ·by_cases hjk:j=k
    ·subst hjk; exact hw
    ·exact hall j h (by omega)
  ·have hz:=idxZ_at l Pn.bad hk1 hw hall
   simp -dsimp [hki]
   repeat' (first|omega|simp -dsimp [E135,ri,cellp,ints,hki,hk1,hl,hw,wk,hz,Pn.row,pnE_dec]|refine aI ?_ fun _=>?_|refine oI fun _=>?_|refine nI ?_ ?_)
 ·have hkn:¬ (k:Int)<l.length:=by omega
  have hz:=idxZ_none l Pn.bad (fun j h=>hall j h (by omega))
  simp -dsimp [hkn]
  repeat' (first|omega|simp -dsimp [E135,ri,cellp,ints,hkn,hz]|refine aI ?_ fun _=>?_|refine oI fun _=>?_|refine nI ?_ ?_)
theorem ok135:FO 135 pnixS:=pf b135 (.cons ok72 .nil)
abbrev E75:Env:={P:=Tryz.prog,fn:=tbl [(135,.pure pnixS)],own:=[],key:=7500,nt:=9}
theorem b75:PureBody E75 [] Tryz.f75 pnanS:=by
 refine pb ?_
 rintro l hl
 have hl:l.length≤100000000000000:=hl
 have hz:=idxZ_any l Pn.bad
 simp -dsimp [Tryz.f75,E75]
 repeat' (first|omega|simp -dsimp [E75,ri,cellp,ints,hl,pnsE_dec,hz]|refine aI ?_ fun _=>?_|refine oI fun _=>?_|refine nI ?_ ?_)
theorem ok75:FO 75 pnanS:=pf b75 (.cons ok135 .nil)
@[simp] def roE (r:Ro):List V:=[.agg r.row]
theorem roE_inj (a b:Ro) (h:roE a=roE b):a=b:=Ro.row_inj _ _ (by simpa using h)
theorem roE_dec (r:Ro):decC roE [.agg [.sl 3 (r.ppl.map Pn.row),.int .i64 r.lng,.int .i64 r.rst,.int .i64 r.win,.int .i64 r.tot,.int .i64 r.rcn]]=r:=decC_eq roE_inj r
abbrev rosS:PSpec:=mkP roE (fun d=>d.ppl.length≤100000000000000) fun d=>.int .i64 (if d.ok=true then 0 else 100)
theorem ro_ok (r:Ro):r.ok=(decide (r.ppl.length≤12) && !(r.ppl.any Pn.bad) && withinB r.lng 1 2000 && withinB r.rst 0 2000 && withinB r.win 1 2000 && withinB r.rcn 1 2000 && withinB r.tot 1 r.win):=by
 have h:r.ppl.all Pn.ok=!(r.ppl.any Pn.bad):=by rw [List.not_any_eq_all_not]; congr 1; funext p; simp [Pn.bad]
 rw [Ro.ok,h]; rfl
abbrev E31:Env:={P:=Tryz.prog,fn:=tbl [(28,.pure withinS),(73,.pure timeS),(74,.pure (int1S fun n=>withinB n 1 2000)),(75,.pure pnanS)],own:=[],key:=3100,nt:=50}
theorem b31:PureBody E31 [] Tryz.f31 rosS:=by
 refine pb ?_
 rintro r hl
 have hl:r.ppl.length≤100000000000000:=hl
 have hr:=ro_ok r
 generalize hA:r.ppl.any Pn.bad=a at hr
 generalize h2:withinB r.lng 1 2000=b at hr
 generalize h3:withinB r.rst 0 2000=c at hr
 generalize h4:withinB r.win 1 2000=d at hr
 generalize h5:withinB r.rcn 1 2000=e at hr
 generalize h6:withinB r.tot 1 r.win=f at hr
 by_cases h0:r.ppl.length≤12
 ·have e0:((12:Int)<r.ppl.length)=False:=eq_false (by omega)
  have e1:(r.ppl.length≤12)=True:=eq_true h0
  simp -dsimp only [e1,decide_true,Bool.true_and]at hr
  simp -dsimp [Tryz.f31,E31,Ro.row,pplV]
  repeat' (first|omega|simp -dsimp [E31,ri,cellp,ints,e0,hA,hl,pnsE_dec,h2,h3,h4,h5,h6,hr]|refine aI ?_ fun _=>?_|refine oI fun _=>?_|refine nI ?_ ?_)
  all_goals (clear hr hA h2 h3 h4 h5 h6 hl; cases a<;>cases b<;>cases c<;>cases d<;>cases e<;>cases f<;>simp_all)
 ·have e0:((12:Int)<r.ppl.length)=True:=eq_true (by omega)
  have e1:(r.ppl.length≤12)=False:=eq_false h0
  simp -dsimp only [e1,decide_false,Bool.false_and]at hr
  simp -dsimp [Tryz.f31,E31,Ro.row,pplV]
  repeat' (first|omega|simp -dsimp [E31,ri,cellp,ints,e0,hA,hl,pnsE_dec,hr]|refine aI ?_ fun _=>?_|refine oI fun _=>?_|refine nI ?_ ?_)
theorem ok31:FO 31 rosS:=pf b31 (.cons ok28 (.cons ok73 (.cons ok74 (.cons ok75 .nil))))
end Go.Sx
end
section
namespace Go.Sx
open Go.Proofs
def bkRow (r:Ro) (o:List Du):List V:=[.sl 3 (r.ppl.map Pn.row),.int .i64 r.lng,.int .i64 r.rst,.int .i64 r.win,.int .i64 r.tot,.int .i64 r.rcn,.sl 3 (o.map Du.row)]
theorem bkRow_inj {r r':Ro} {o o':List Du} (h:bkRow r o=bkRow r' o'):r=r'∧o=o':=by
 cases r; cases r'
 simp only [bkRow,List.cons.injEq,V.sl.injEq,V.int.injEq,true_and,and_true]at h
 obtain⟨h1,h2,h3,h4,h5,h6,h7⟩:=h
 rw [mapRow_inj Pn.row_inj h1,h2,h3,h4,h5,h6,mapRow_inj Du.row_inj h7]; exact⟨rfl,rfl⟩
inductive Clo where
 | oth (n:Int)
 | rst (r:Ro) (o:List Du) (x:Du)
 | rcn (r:Ro) (o:List Du) (x:Du)
instance:Inhabited Clo:=⟨.oth 0⟩
def Clo.v:Clo→V
 | .oth n=>.fn 78 [cellp n]
 | .rst r o x=>.fn 81 [.ip 7 [bkRow r o] 0 0,.ip 3 [x.row] 0 0]
 | .rcn r o x=>.fn 137 [.ip 3 [x.row] 0 0,.ip 7 [bkRow r o] 0 0]
theorem Clo.v_inj (a b:Clo) (h:a.v=b.v):a=b:=by
 cases a<;>cases b<;>simp only [Clo.v,cellp,V.fn.injEq,List.cons.injEq,V.ip.injEq,V.int.injEq,true_and,and_true]at h
 ·rw [h]
 ·exact absurd h.1 (by decide)
 ·exact absurd h.1 (by decide)
 ·exact absurd h.1 (by decide)
 ·obtain⟨h1,h2⟩:=h
  obtain⟨rfl,rfl⟩:=bkRow_inj h1
  obtain rfl:=Du.row_inj _ _ h2
  rfl
 ·exact absurd h.1 (by decide)
 ·exact absurd h.1 (by decide)
 ·exact absurd h.1 (by decide)
 ·obtain⟨h2,h1⟩:=h
  obtain⟨rfl,rfl⟩:=bkRow_inj h1
  obtain rfl:=Du.row_inj _ _ h2
  rfl
def Clo.t:Clo→Du→Bool
 | .oth n,d=>d.p != n
 | .rst r _ x,d=>!restW r d x
 | .rcn r _ x,d=>nearW r x d
@[simp] def rsE (d:Ro × List Du × Du × Du):List V:=[.agg (bkRow d.1 d.2.1),.agg d.2.2.1.row,.agg d.2.2.2.row]
theorem rsE_inj (a b:Ro × List Du × Du × Du) (h:rsE a=rsE b):a=b:=by
 obtain⟨a1,a2,a3,a4⟩:=a; obtain⟨b1,b2,b3,b4⟩:=b
 simp only [rsE,List.cons.injEq,V.agg.injEq,and_true]at h
 obtain⟨h1,h2,h3⟩:=h
 obtain⟨rfl,rfl⟩:=bkRow_inj h1
 rw [Du.row_inj _ _ h2,Du.row_inj _ _ h3]
theorem rsE_dec (r:Ro) (o:List Du) (x y:Du):decC rsE [.agg [.sl 3 (r.ppl.map Pn.row),.int .i64 r.lng,.int .i64 r.rst,.int .i64 r.win,.int .i64 r.tot,.int .i64 r.rcn,.sl 3 (o.map Du.row)],.agg [.int .i64 x.p,.int .i64 x.a,.int .i64 x.b],.agg [.int .i64 y.p,.int .i64 y.a,.int .i64 y.b]]=(r,o,x,y):=decC_eq rsE_inj (r,o,x,y)
abbrev restS:PSpec:=mkP rsE (fun _=>True) fun d=>.bool (restW d.1 d.2.2.1 d.2.2.2)
abbrev E82:Env:={P:=Tryz.prog,fn:=tbl [],own:=[],key:=8200,nt:=23}
theorem b82:PureBody E82 [] Tryz.f82 restS:=by
 refine pb ?_
 rintro⟨r,o,x,y⟩ _
 by_cases h:y.a<x.a
 ·simp -dsimp [Tryz.f82,E82,bkRow,Du.row,restW,h]
  repeat' (first|omega|simp -dsimp [E82,ri,cellp,ints,h,bkRow,Du.row]|refine aI ?_ fun _=>?_|refine oI fun _=>?_|refine nI ?_ ?_)
 ·simp -dsimp [Tryz.f82,E82,bkRow,Du.row,restW,h]
  repeat' (first|omega|simp -dsimp [E82,ri,cellp,ints,h,bkRow,Du.row]|refine aI ?_ fun _=>?_|refine oI fun _=>?_|refine nI ?_ ?_)
theorem ok82:FO 82 restS:=pf b82 .nil
@[simp] def othE (d:Du × Int):List V:=[.agg d.1.row,cellp d.2]
theorem othE_inj (a b:Du × Int) (h:othE a=othE b):a=b:=by
 obtain⟨a1,a2⟩:=a; obtain⟨b1,b2⟩:=b
 simp only [othE,cellp,List.cons.injEq,V.agg.injEq,V.ip.injEq,V.int.injEq,true_and,and_true]at h
 rw [Du.row_inj _ _ h.1,h.2]
theorem othE_dec (x:Du) (n:Int):decC othE [.agg [.int .i64 x.p,.int .i64 x.a,.int .i64 x.b],.ip 1 [[.int .i64 n]] 0 0]=(x,n):=decC_eq othE_inj (x,n)
abbrev othS:PSpec:=mkP othE (fun _=>True) fun d=>.bool (d.1.p != d.2)
abbrev E78:Env:={P:=Tryz.prog,fn:=tbl [],own:=[],key:=7800,nt:=8}
theorem b78:PureBody E78 [] Tryz.f78 othS:=by
 refine pb ?_
 rintro⟨x,n⟩ _
 simp -dsimp [Tryz.f78,E78,Du.row,cellp]
 repeat' (first|omega|simp -dsimp [E78,ri,cellp,ints, *]|refine aI ?_ fun _=>?_|refine oI fun _=>?_|refine nI ?_ ?_)
theorem ok78:FO 78 othS:=pf b78 .nil
@[simp] def rstE (d:Du × Ro × List Du × Du):List V:=[.agg d.1.row,.ip 7 [bkRow d.2.1 d.2.2.1] 0 0,.ip 3 [d.2.2.2.row] 0 0]
theorem rstE_inj (a b:Du × Ro × List Du × Du) (h:rstE a=rstE b):a=b:=by
 obtain⟨a1,a2,a3,a4⟩:=a; obtain⟨b1,b2,b3,b4⟩:=b
 simp only [rstE,List.cons.injEq,V.agg.injEq,V.ip.injEq,true_and,and_true]at h
 obtain⟨h1,h2,h3⟩:=h
 obtain⟨rfl,rfl⟩:=bkRow_inj h2
 rw [Du.row_inj _ _ h1,Du.row_inj _ _ h3]
theorem rstE_dec (r:Ro) (o:List Du) (x y:Du):decC rstE [.agg [.int .i64 x.p,.int .i64 x.a,.int .i64 x.b],.ip 7 [[.sl 3 (r.ppl.map Pn.row),.int .i64 r.lng,.int .i64 r.rst,.int .i64 r.win,.int .i64 r.tot,.int .i64 r.rcn,.sl 3 (o.map Du.row)]] 0 0,.ip 3 [[.int .i64 y.p,.int .i64 y.a,.int .i64 y.b]] 0 0]=(x,r,o,y):=decC_eq rstE_inj (x,r,o,y)
abbrev rstS:PSpec:=mkP rstE (fun _=>True) fun d=>.bool (!restW d.2.1 d.1 d.2.2.2)
abbrev E81:Env:={P:=Tryz.prog,fn:=tbl [(82,.pure restS)],own:=[],key:=8100,nt:=10}
theorem b81:PureBody E81 [] Tryz.f81 rstS:=by
 refine pb ?_
 rintro⟨x,r,o,y⟩ _
 simp -dsimp [Tryz.f81,E81,Du.row,bkRow]
 repeat' (first|omega|simp -dsimp [E81,ri,cellp,ints,rsE_dec,bkRow,Du.row]|refine aI ?_ fun _=>?_|refine oI fun _=>?_|refine nI ?_ ?_)
theorem ok81:FO 81 rstS:=pf b81 (.cons ok82 .nil)
@[simp] def rcnE (d:Du × Ro × List Du × Du):List V:=[.agg d.1.row,.ip 3 [d.2.2.2.row] 0 0,.ip 7 [bkRow d.2.1 d.2.2.1] 0 0]
theorem rcnE_inj (a b:Du × Ro × List Du × Du) (h:rcnE a=rcnE b):a=b:=by
 obtain⟨a1,a2,a3,a4⟩:=a; obtain⟨b1,b2,b3,b4⟩:=b
 simp only [rcnE,List.cons.injEq,V.agg.injEq,V.ip.injEq,true_and,and_true]at h
 obtain⟨h1,h3,h2⟩:=h
 obtain⟨rfl,rfl⟩:=bkRow_inj h2
 rw [Du.row_inj _ _ h1,Du.row_inj _ _ h3]
theorem rcnE_dec (r:Ro) (o:List Du) (x y:Du):decC rcnE [.agg [.int .i64 x.p,.int .i64 x.a,.int .i64 x.b],.ip 3 [[.int .i64 y.p,.int .i64 y.a,.int .i64 y.b]] 0 0,.ip 7 [[.sl 3 (r.ppl.map Pn.row),.int .i64 r.lng,.int .i64 r.rst,.int .i64 r.win,.int .i64 r.tot,.int .i64 r.rcn,.sl 3 (o.map Du.row)]] 0 0]=(x,r,o,y):=decC_eq rcnE_inj (x,r,o,y)
abbrev rcnS:PSpec:=mkP rcnE (fun _=>True) fun d=>.bool (nearW d.2.1 d.2.2.2 d.1)
abbrev E137:Env:={P:=Tryz.prog,fn:=tbl [(28,.pure withinS)],own:=[],key:=13700,nt:=14}
theorem b137:PureBody E137 [] Tryz.f137 rcnS:=by
 refine pb ?_
 rintro⟨x,r,o,y⟩ _
 simp -dsimp [Tryz.f137,E137,Du.row,bkRow]
 repeat' (first|omega|simp -dsimp [E137,ri,cellp,ints,withinB,nearW,wr]|refine aI ?_ fun _=>?_|refine oI fun _=>?_|refine nI ?_ ?_)
theorem ok137:FO 137 rcnS:=pf b137 (.cons ok28 .nil)
@[simp] def duxE (d:List Du × Clo):List V:=[.sl 3 (d.1.map Du.row),d.2.v]
theorem duxE_inj (a b:List Du × Clo) (h:duxE a=duxE b):a=b:=by
 obtain⟨a1,a2⟩:=a; obtain⟨b1,b2⟩:=b
 simp only [duxE,List.cons.injEq,V.sl.injEq,true_and,and_true]at h
 rw [mapRow_inj Du.row_inj h.1,Clo.v_inj _ _ h.2]
theorem duxE_oth (l:List Du) (n:Int):decC duxE [.sl 3 (l.map Du.row),.fn 78 [.ip 1 [[.int .i64 n]] 0 0]]=(l,.oth n):=decC_eq duxE_inj (l,.oth n)
theorem duxE_rst (l:List Du) (r:Ro) (o:List Du) (y:Du):decC duxE [.sl 3 (l.map Du.row),.fn 81 [.ip 7 [[.sl 3 (r.ppl.map Pn.row),.int .i64 r.lng,.int .i64 r.rst,.int .i64 r.win,.int .i64 r.tot,.int .i64 r.rcn,.sl 3 (o.map Du.row)]] 0 0,.ip 3 [[.int .i64 y.p,.int .i64 y.a,.int .i64 y.b]] 0 0]]=(l,.rst r o y):=decC_eq duxE_inj (l,.rst r o y)
theorem duxE_rcn (l:List Du) (r:Ro) (o:List Du) (y:Du):decC duxE [.sl 3 (l.map Du.row),.fn 137 [.ip 3 [[.int .i64 y.p,.int .i64 y.a,.int .i64 y.b]] 0 0,.ip 7 [[.sl 3 (r.ppl.map Pn.row),.int .i64 r.lng,.int .i64 r.rst,.int .i64 r.win,.int .i64 r.tot,.int .i64 r.rcn,.sl 3 (o.map Du.row)]] 0 0]]=(l,.rcn r o y):=decC_eq duxE_inj (l,.rcn r o y)
abbrev duixS:PSpec:=mkP duxE (fun d=>d.1.length≤1000000) fun d=>.int .i64 (idxZ d.1 d.2.t)
abbrev duanS:PSpec:=mkP duxE (fun d=>d.1.length≤1000000) fun d=>.bool (d.1.any d.2.t)
abbrev E136:Env:={P:=Tryz.prog,fn:=tbl [(78,.pure othS),(81,.pure rstS),(137,.pure rcnS)],own:=[],key:=13600,nt:=19}
theorem b136:PureBody E136 [] Tryz.f136 duixS:=by
 refine pb ?_
 rintro⟨l,c⟩ hl
 have hl:l.length≤1000000:=hl
 rcases c with n|⟨r,o,y⟩|⟨r,o,y⟩
 ·simp -dsimp [Tryz.f136,E136,Clo.v,cellp,bkRow,Du.row]
  refine awp_loop [9,10,5,11,12,13,14,15,16,17,4,18,8] (fun k:{k:Nat // k≤l.length∧∀j (h:j<l.length),j<k→(Clo.oth n).t l[j]=false}=>[(8,(true,.int .i64 k.1))]) (fun _=>noH) (fun k=>l.length - k.1) ⟨0,by omega,fun _ _ h=>by omega⟩ ?_ (HLe.refl _) ?_
  ·simp [okAll,okv]
  rintro⟨k,hk,hall⟩
  by_cases hk1:k<l.length
  ·have hki:(k:Int)<l.length:=by omega
   have wk:IntKind.wrap .i64 ((k:Int)+1)=(k+1:Nat):=wrap_id (by omega) (by omega)
   cases hw:(Clo.oth n).t l[k]
   ·have hw':=hw
    simp only [Clo.t]at hw'
    simp -dsimp [hki]
    repeat' (first|omega|simp -dsimp [E136,ri,cellp,ints,hki,hk1,hl,hw',wk,Du.row,bkRow,othE_dec]|refine aI ?_ fun _=>?_|refine oI fun _=>?_|refine nI ?_ ?_)
    refine⟨k+1,tle_chain rfl ?_,HLe.refl _,⟨by omega,fun j h hj=>?_⟩,by omega⟩
    ·simp [okAll,okv]
    ·by_cases hjk:j=k
     ·subst hjk; exact hw
     ·exact hall j h (by omega)
   ·have hz:=idxZ_at l (Clo.oth n).t hk1 hw hall
    have hw':=hw
    simp only [Clo.t]at hw'
    simp -dsimp [hki]
    repeat' (first|omega|simp -dsimp [E136,ri,cellp,ints,hki,hk1,hl,hw',wk,hz,Du.row,bkRow,othE_dec]|refine aI ?_ fun _=>?_|refine oI fun _=>?_|refine nI ?_ ?_)
  ·have hkn:¬ (k:Int)<l.length:=by omega
   have hz:=idxZ_none l (Clo.oth n).t (fun j h=>hall j h (by omega))
   simp -dsimp [hkn]
   repeat' (first|omega|simp -dsimp [E136,ri,cellp,ints,hkn,hz]|refine aI ?_ fun _=>?_|refine oI fun _=>?_|refine nI ?_ ?_)
 ·simp -dsimp [Tryz.f136,E136,Clo.v,cellp,bkRow,Du.row]
  refine awp_loop [9,10,5,11,12,13,14,15,16,17,4,18,8] (fun k:{k:Nat // k≤l.length∧∀j (h:j<l.length),j<k→(Clo.rst r o y).t l[j]=false}=>[(8,(true,.int .i64 k.1))]) (fun _=>noH) (fun k=>l.length - k.1) ⟨0,by omega,fun _ _ h=>by omega⟩ ?_ (HLe.refl _) ?_
  ·simp [okAll,okv]
  rintro⟨k,hk,hall⟩
  by_cases hk1:k<l.length
  ·have hki:(k:Int)<l.length:=by omega
   have wk:IntKind.wrap .i64 ((k:Int)+1)=(k+1:Nat):=wrap_id (by omega) (by omega)
   cases hw:(Clo.rst r o y).t l[k]
   ·have hw':=hw
    simp only [Clo.t]at hw'
    simp -dsimp [hki]
    repeat' (first|omega|simp -dsimp [E136,ri,cellp,ints,hki,hk1,hl,hw',wk,Du.row,bkRow,rstE_dec]|refine aI ?_ fun _=>?_|refine oI fun _=>?_|refine nI ?_ ?_)
    refine⟨k+1,tle_chain rfl ?_,HLe.refl _,⟨by omega,fun j h hj=>?_⟩,by omega⟩
    ·simp [okAll,okv]
    ·by_cases hjk:j=k
     ·subst hjk; exact hw
     ·exact hall j h (by omega)
   ·have hz:=idxZ_at l (Clo.rst r o y).t hk1 hw hall
    have hw':=hw
    simp only [Clo.t]at hw'
    simp -dsimp [hki]
    repeat' (first|omega|simp -dsimp [E136,ri,cellp,ints,hki,hk1,hl,hw',wk,hz,Du.row,bkRow,rstE_dec]|refine aI ?_ fun _=>?_|refine oI fun _=>?_|refine nI ?_ ?_)
  ·have hkn:¬ (k:Int)<l.length:=by omega
   have hz:=idxZ_none l (Clo.rst r o y).t (fun j h=>hall j h (by omega))
   simp -dsimp [hkn]
   repeat' (first|omega|simp -dsimp [E136,ri,cellp,ints,hkn,hz]|refine aI ?_ fun _=>?_|refine oI fun _=>?_|refine nI ?_ ?_)
 ·simp -dsimp [Tryz.f136,E136,Clo.v,cellp,bkRow,Du.row]
  refine awp_loop [9,10,5,11,12,13,14,15,16,17,4,18,8] (fun k:{k:Nat // k≤l.length∧∀j (h:j<l.length),j<k→(Clo.rcn r o y).t l[j]=false}=>[(8,(true,.int .i64 k.1))]) (fun _=>noH) (fun k=>l.length - k.1) ⟨0,by omega,fun _ _ h=>by omega⟩ ?_ (HLe.refl _) ?_
  ·simp [okAll,okv]
  rintro⟨k,hk,hall⟩
  by_cases hk1:k<l.length
  ·have hki:(k:Int)<l.length:=by omega
   have wk:IntKind.wrap .i64 ((k:Int)+1)=(k+1:Nat):=wrap_id (by omega) (by omega)
   cases hw:(Clo.rcn r o y).t l[k]
   ·have hw':=hw
    simp only [Clo.t]at hw'
    simp -dsimp [hki]
    repeat' (first|omega|simp -dsimp [E136,ri,cellp,ints,hki,hk1,hl,hw',wk,Du.row,bkRow,rcnE_dec]|refine aI ?_ fun _=>?_|refine oI fun _=>?_|refine nI ?_ ?_)
    refine⟨k+1,tle_chain rfl ?_,HLe.refl _,⟨by omega,fun j h hj=>?_⟩,by omega⟩
    ·simp [okAll,okv]
    ·by_cases hjk:j=k
     ·subst hjk; exact hw
     ·exact hall j h (by omega)
   ·have hz:=idxZ_at l (Clo.rcn r o y).t hk1 hw hall
    have hw':=hw
    simp only [Clo.t]at hw'
    simp -dsimp [hki]
    repeat' (first|omega|simp -dsimp [E136,ri,cellp,ints,hki,hk1,hl,hw',wk,hz,Du.row,bkRow,rcnE_dec]|refine aI ?_ fun _=>?_|refine oI fun _=>?_|refine nI ?_ ?_)
  ·have hkn:¬ (k:Int)<l.length:=by omega
   have hz:=idxZ_none l (Clo.rcn r o y).t (fun j h=>hall j h (by omega))
   simp -dsimp [hkn]
   repeat' (first|omega|simp -dsimp [E136,ri,cellp,ints,hkn,hz]|refine aI ?_ fun _=>?_|refine oI fun _=>?_|refine nI ?_ ?_)
theorem ok136:FO 136 duixS:=pf b136 (.cons ok78 (.cons ok81 (.cons ok137 .nil)))
abbrev E80:Env:={P:=Tryz.prog,fn:=tbl [(136,.pure duixS)],own:=[],key:=8000,nt:=9}
theorem b80:PureBody E80 [] Tryz.f80 duanS:=by
 refine pb ?_
 rintro⟨l,c⟩ hl
 have hl:l.length≤1000000:=hl
 have hz:=idxZ_any l c.t
 rcases c with n|⟨r,o,y⟩|⟨r,o,y⟩
 all_goals
  simp -dsimp [Tryz.f80,E80,Clo.v,cellp,bkRow,Du.row]
  repeat' (first|omega|simp -dsimp [E80,ri,cellp,ints,hl,duxE_oth,duxE_rst,duxE_rcn,hz]|refine aI ?_ fun _=>?_|refine oI fun _=>?_|refine nI ?_ ?_)
theorem ok80:FO 80 duanS:=pf b80 (.cons ok136 .nil)
end Go.Sx
end
section
namespace Go.Sx
open Go.Proofs
attribute [local irreducible] HLe
def cloS:HSpec where
 go args h:=match args with
  | [.sl z els]=>⟨z=3∧els.length≤1000000,.bsl 7705 (hnext h 7705) els.length,hpush h 7705 {z:=3,els:=els,ty:=65}⟩
  | _=>⟨False,.top,h⟩
abbrev E77:Env:={P:=Tryz.prog,fn:=tbl [],own:=[5],key:=7700,nt:=8}
theorem b77:HeapBodyG E77 [] Tryz.f77 cloS:=by
 intro args h hc
 match args,hc with
 | [.sl z els],hc=>
  obtain⟨rfl,hb⟩:=hc
  have hn:=fun B=>hget_push_new h 7705 B
  cases els with
  | nil=>
   simp -dsimp [Tryz.f77,E77,cloS]
   repeat' (first|omega|simp -dsimp [E77,ri,cellp,ints,hn,hset_push]|refine aI ?_ fun _=>?_|refine oI fun _=>?_|refine nI ?_ ?_)
   ·exact⟨_,.nil _ _ 2 7705 3 65 rfl (by decide) (by decide) (.refl _),rfl,rfl,HLe.refl _⟩
   ·exact⟨_,.refl _,rfl,rfl,HLe.refl _⟩
  | cons x els=>
   have hb':els.length+1≤1000000:=hb
   simp -dsimp [Tryz.f77,E77,cloS]
   repeat' (first|omega|simp -dsimp [E77,ri,cellp,ints,hn,hb',hset_push]|refine aI ?_ fun _=>?_|refine oI fun _=>?_|refine nI ?_ ?_)
   exact⟨_,.refl _,rfl,rfl,HLe.refl _⟩
theorem ok77:FnOK Tryz.prog 77 (.heap cloS):=heap_fnG (E:=E77) rfl LOK.nil (ok:=[]) (fn:=Tryz.f77) (by kernel_rfl) (by kernel_rfl) (by kernel_rfl) (by kernel_rfl) rfl (fun args h hc=>by match args,hc with | [.sl z els],hc=>simp) b77
theorem cloS_go (els:List (List V)) (h:Hp):cloS.go [.sl 3 els] h=⟨els.length≤1000000,.bsl 7705 (hnext h 7705) els.length,hpush h 7705 {z:=3,els:=els,ty:=65}⟩:=by simp [cloS]
def ofT (r:Ro) (n:Int):List (Nat × Site):=[(3303,{base:=0,blks:=[{z:=6,els:=[[.sl 3 (r.ppl.map Pn.row),.int .i64 r.lng,.int .i64 r.rst,.int .i64 r.win,.int .i64 r.tot,.int .i64 r.rcn]],ty:=41,fz:=true}]}),(3306,{base:=0,blks:=[{z:=7,els:=[[.nil,.int .i64 0,.int .i64 0,.int .i64 0,.int .i64 0,.int .i64 0,.nil]],ty:=100}]}),(3305,{base:=0,blks:=[{z:=1,els:=[[.int .i64 n]],ty:=3}]})]
def ofH (d:Ro × List Du × Int):Hp:=hps ((7705,{base:=0,blks:=[{z:=3,els:=d.2.1.map Du.row,ty:=65}]})::ofT d.1 d.2.2) noH
open Classical in
def dfV (l:List Du) (n:Int):V:=if idxZ l (Clo.oth n).t = -1 then .bsl 7705 0 l.length else .bsl 7641 0 (own l n).length
open Classical in
def dfH (d:Ro × List Du × Int):Hp:=if idxZ d.2.1 (Clo.oth d.2.2).t = -1 then ofH d else hps ((7641,{base:=0,blks:=[{z:=3,els:=(own d.2.1 d.2.2).map Du.row,ty:=65}]})::(7607,{base:=d.2.1.length,blks:=[]})::(7705,{base:=1,blks:=[]})::ofT d.1 d.2.2) noH
def dfE (d:Ro × List Du × Int):List V:=[.bsl 7705 0 d.2.1.length,.fn 78 [.bptr 3305 0 1 0 0]]
theorem df_inj (d d':Ro × List Du × Int) (h:Hp) (_:dfE d=dfE d') (h1:h=ofH d) (h2:h=ofH d'):d=d':=by
 obtain⟨r,l,n⟩:=d; obtain⟨r',l',n'⟩:=d'
 rw [h1]at h2
 have a1:=congrArg Site.blks (congrFun h2 3303)
 have a2:=congrArg Site.blks (congrFun h2 3305)
 have a3:=congrArg Site.blks (congrFun h2 7705)
 simp [ofH,ofT]at a1 a2
 simp only [ofH,hps_cons,if_true,List.cons.injEq,Blk.mk.injEq,and_true,true_and]at a3
 have e1:=Ro.row_inj r r' (by simpa [Ro.row,pplV]using a1)
 rw [e1,a2,mapRow_inj Du.row_inj a3]
abbrev delS:HSpec:=mkH dfE (fun d h=>h=ofH d) (fun d=>d.2.1.length≤1000000) (fun d=>dfV d.2.1 d.2.2) (fun d _=>dfH d)
theorem delS_go (r:Ro) (l:List Du) (n:Int):delS.go [.bsl 7705 0 l.length,.fn 78 [.bptr 3305 0 1 0 0]] (hps [(7705,{base:=0,blks:=[{z:=3,els:=l.map Du.row,ty:=65}]}),(3303,{base:=0,blks:=[{z:=6,els:=[[.sl 3 (r.ppl.map Pn.row),.int .i64 r.lng,.int .i64 r.rst,.int .i64 r.win,.int .i64 r.tot,.int .i64 r.rcn]],ty:=41,fz:=true}]}),(3306,{base:=0,blks:=[{z:=7,els:=[[.nil,.int .i64 0,.int .i64 0,.int .i64 0,.int .i64 0,.int .i64 0,.nil]],ty:=100}]}),(3305,{base:=0,blks:=[{z:=1,els:=[[.int .i64 n]],ty:=3}]})] noH)=⟨l.length≤1000000,dfV l n,dfH (r,l,n)⟩:=mkH_at df_inj (d:=(r,l,n)) rfl
theorem hps_d4 (a b c d:Site):hps [(3303,a),(3306,b),(3305,c),(3303,d)] noH=hps [(3303,a),(3306,b),(3305,c)] noH:=by
 funext k
 by_cases h:k=3303
 ·simp [h]
 ·simp [h]
structure DfO (l:List Du) (n:Int) where
 j:Nat
 els:List Du
 hj:(own (l.take j) n).length<j∧j≤l.length
 hl:els.length=l.length
 ht:els.take (own (l.take j) n).length=own (l.take j) n
 hd:els.drop j=l.drop j
theorem own_all {l:List Du} {n:Int} (h:∀d∈l,d.p=n):own l n=l:=List.filter_eq_self.2 fun d hd=>by simp [h d hd]
abbrev E76:Env:={P:=Tryz.prog,fn:=tbl [(78,.pure othS),(136,.pure duixS)],own:=[41],key:=7600,nt:=42}
theorem b76:HeapBody E76 [] Tryz.f76 delS:=by
 intro args h hc
 obtain⟨⟨r,l,n⟩,rfl,rfl,hl,hgo⟩:=mkH_inv hc
 rw [hgo]
 clear hgo hc
 have hl:l.length≤1000000:=hl
 ·by_cases hi:idxZ l (Clo.oth n).t = -1
  ·simp -dsimp [Tryz.f76,E76,dfE,ofH,ofT,dfV,dfH,hi]
   repeat' (first|omega|simp -dsimp [E76,ri,cellp,ints,duxE_oth,hi,cellp,Clo.v,hl,hle_refl]|refine aI ?_ fun _=>?_|refine oI fun _=>?_|refine nI ?_ ?_)
  ·obtain⟨k,hk,hz,hp,hbef⟩:=idxZ_some hi
   have hkn:((k:Int) = -1)=False:=eq_false (by omega)
   have wk1:IntKind.wrap .i64 ((k:Int)+1)=(k+1:Nat):=wrap_id (by omega) (by omega)
   have ho1:own (l.take k) n=l.take k:=own_all fun d hd=>by
    obtain⟨j,hj,rfl⟩:=List.getElem_of_mem hd
    have hjl:j<k:=by rw [List.length_take]at hj; omega
    have:=hbef j (by omega) hjl
    simpa [Clo.t]using this
   have ho2:own (l.take (k+1)) n=l.take k:=by
    rw [take_snoc l hk,own,List.filter_append]
    have e:l.getD k default=l[k]:=by simp [List.getD,hk]
    have hp':¬ l[k].p=n:=by simpa [Clo.t]using hp
    rw [e]; simp only [List.filter_cons,hp',decide_false,Bool.false_eq_true,if_false,List.filter_nil,List.append_nil]; exact ho1
   have ho3:(l.take k).length=k:=by simp; omega
   have hn0:0<l.length:=by omega
   have hne:l≠[]:=List.length_pos_iff.1 hn0
   have htk:List.take l.length (l.map Du.row)=l.map Du.row:=List.take_of_length_le (by simp)
   have e1:dfV l n=.bsl 7641 0 (own l n).length:=if_neg hi
   have e2:dfH (r,l,n)=hps ((7641,{base:=0,blks:=[{z:=3,els:=(own l n).map Du.row,ty:=65}]})::(7607,{base:=l.length,blks:=[]})::(7705,{base:=1,blks:=[]})::ofT r n) noH:=if_neg hi
   rw [e1,e2]
   simp -dsimp [Tryz.f76,E76,dfE,ofH,ofT]
   repeat' (first|omega|simp -dsimp [E76,ri,cellp,ints,duxE_oth,hz,hkn,wk1,cellp,Clo.v,hne,hl,hn0,htk]|refine aI ?_ fun _=>?_|refine oI fun _=>?_|refine nI ?_ ?_)
   refine awp_loop [16,17,18,19,22,23,24,25,7,26,27,28,29,30,31,32,33,34,35,5,20,21,6] (fun q:DfO l n=>[(5,(true,.int .i64 ((own (l.take q.j) n).length:Nat))),(6,(true,.int .i64 (q.j:Nat)))])
    (fun q:DfO l n=>hps [(7607,{base:=q.j,blks:=[]}),(7705,{base:=0,blks:=[{z:=3,els:=q.els.map Du.row,ty:=65}]}),(3303,{base:=0,blks:=[{z:=6,els:=[[.sl 3 (r.ppl.map Pn.row),.int .i64 r.lng,.int .i64 r.rst,.int .i64 r.win,.int .i64 r.tot,.int .i64 r.rcn]],ty:=41,fz:=true}]}),(3306,{base:=0,blks:=[{z:=7,els:=[[.nil,.int .i64 0,.int .i64 0,.int .i64 0,.int .i64 0,.int .i64 0,.nil]],ty:=100}]}),(3305,{base:=0,blks:=[{z:=1,els:=[[.int .i64 n]],ty:=3}]})] noH)
    (fun q:DfO l n=>l.length - q.j) ⟨k+1,l,by rw [ho2,ho3]; omega,rfl,by rw [ho2,ho3],rfl⟩ ?_ ?_ ?_
   ·simp [okAll,okv,ho2,ho3]
   ·exact(by(try simp -dsimp only [hpx]); refine hle_hps ?_; simp -dsimp [allK,Ro.row,pplV]<;>exact rz)
   rintro⟨j,els,⟨hj1,hj2⟩,hel,hta,hdr⟩
   dsimp only
   by_cases hj:j<l.length
   ·have hji:(j:Int)<l.length:=by omega
    have wj:IntKind.wrap .i64 ((j:Int)+1)=(j+1:Nat):=wrap_id (by omega) (by omega)
    obtain⟨x,hx⟩:∃x,els[j]?=some x:=⟨_,List.getElem?_eq_getElem (by omega)⟩
    have hx':els[j]'(by omega)=x:=get_of hx (by omega)
    have hxl:l[j]?=some x:=by
     have:=congrArg (fun q=>q[0]?) hdr
     simpa [hx]using this.symm
    have hts:own (l.take (j+1)) n=own (l.take j) n++(if x.p=n then [x]else []):=by
     rw [take_snoc l hj,own,List.filter_append]
     have e:l.getD j default=x:=by simp [List.getD,hxl]
     rw [e,own]; by_cases hxn:x.p=n<;>simp [hxn]
    by_cases hxn:x.p=n
    ·rw [if_pos hxn]at hts
     have hbe:(x.p != n)=false:=by simp [hxn]
     generalize hio:(own (l.take j) n).length=i at *
     have wi:IntKind.wrap .i64 ((i:Int)+1)=(i+1:Nat):=wrap_id (by omega) (by omega)
     have hii:i<l.length:=by omega
     have hiI:(i:Int)<l.length:=by omega
     obtain⟨y,hy⟩:∃y,els[i]?=some y:=⟨_,List.getElem?_eq_getElem (by omega)⟩
     have hy':els[i]'(by omega)=y:=get_of hy (by omega)
     simp -dsimp [hji]
     repeat' (first|omega|simp -dsimp [E76,ri,cellp,ints,hji,hj,hx,hx',hy,hy',hel,hii,hiI,wj,wi,Du.row,othE_dec,hbe]|refine aI ?_ fun _=>?_|refine oI fun _=>?_|refine nI ?_ ?_)
     have hset:List.set (els.map Du.row) i [V.int .i64 x.p,V.int .i64 x.a,V.int .i64 x.b]=(els.set i x).map Du.row:=by rw [List.map_set]; rfl
     refine⟨⟨j+1,els.set i x,?_,?_,?_,?_⟩,tle_chain rfl ?_,?_,?_⟩
     ·rw [hts]; simp; omega
     ·simp; exact hel
     ·rw [hts]; simp only [List.length_append,hio,List.length_singleton]
      rw [List.take_add_one,List.take_set_of_le (by omega),hta]
      simp [show i<els.length by omega]
     ·rw [List.drop_set_of_lt (by omega),←List.drop_drop,hdr,List.drop_drop]
     ·simp [okAll,okv,hts,hio]
     ·rw [hset]; exact(by(try simp -dsimp only [hpx]); refine hle_hps ?_; simp -dsimp [allK]<;>exact rz)
     ·dsimp only; omega
    ·rw [if_neg hxn,List.append_nil]at hts
     have hbe:(x.p != n)=true:=by simp [hxn]
     simp -dsimp [hji]
     repeat' (first|omega|simp -dsimp [E76,ri,cellp,ints,hji,hj,hx,hx',hel,wj,Du.row,othE_dec,hbe]|refine aI ?_ fun _=>?_|refine oI fun _=>?_|refine nI ?_ ?_)
     refine⟨⟨j+1,els,?_,hel,?_,?_⟩,tle_chain rfl ?_,?_,?_⟩
     ·rw [hts]; omega
     ·rw [hts]; exact hta
     ·rw [←List.drop_drop,hdr,List.drop_drop]
     ·simp [okAll,okv,hts]
     ·exact(by(try simp -dsimp only [hpx]); refine hle_hps ?_; simp -dsimp [allK]<;>exact rz)
     ·dsimp only; omega
   ·have hjn:¬ (j:Int)<l.length:=by omega
    have hje:j=l.length:=by omega
    subst hje
    rw [List.take_length]at hta hj1
    simp -dsimp [hjn]
    have hol:=own_len l n
    have hfin:∀X:List (List V),List.take (own l n).length (List.take (own l n).length (els.map Du.row)++X)=(own l n).map Du.row:=fun X=>by
     rw [←List.map_take,hta,List.take_left' (by simp)]
    have hne':¬ els=[]:=by intro e; rw [e]at hel; simp at hel; omega
    repeat' (first|omega|simp -dsimp [E76,ri,cellp,ints,hel,hne,hne',hfin]|refine aI ?_ fun _=>?_|refine oI fun _=>?_|refine nI ?_ ?_)
    exact(by(try simp -dsimp only [hpx]); refine hle_hps ?_; simp -dsimp [allK,Ro.row,pplV]<;>exact rz)
theorem ok76:FnOK Tryz.prog 76 (.heap delS):=pfH b76 (.cons ok78 (.cons ok136 .nil)) (fun args h hc=>by obtain⟨d,rfl,_⟩:=mkH_inv hc; simp [dfE])
@[simp] def ofE (d:Ro × List Du × Int):List V:=[.agg d.1.row,.sl 3 (d.2.1.map Du.row),.int .i64 d.2.2]
theorem ofE_inj (a b:Ro × List Du × Int) (h:ofE a=ofE b):a=b:=by
 obtain⟨a1,a2,a3⟩:=a; obtain⟨b1,b2,b3⟩:=b
 simp only [ofE,List.cons.injEq,V.agg.injEq,V.sl.injEq,V.int.injEq,true_and,and_true]at h
 rw [Ro.row_inj _ _ h.1,mapRow_inj Du.row_inj h.2.1,h.2.2]
theorem ofE_dec (r:Ro) (l:List Du) (n:Int):decC ofE [.agg [.sl 3 (r.ppl.map Pn.row),.int .i64 r.lng,.int .i64 r.rst,.int .i64 r.win,.int .i64 r.tot,.int .i64 r.rcn],.sl 3 (l.map Du.row),.int .i64 n]=(r,l,n):=decC_eq ofE_inj (r,l,n)
abbrev ofS:PSpec:=mkP ofE (fun d=>d.2.1.length≤1000000) fun d=>.agg (bkRow d.1 (own d.2.1 d.2.2))
abbrev E33:Env:={P:=Tryz.prog,fn:=tbl [(77,.heap cloS),(76,.heap delS)],own:=[],key:=3300,nt:=13,frz:=[(1,[3,50003])]}
theorem b33:PureBody E33 [(1,([0],[[0,1,2,3,4,5,6]]))] Tryz.f33 ofS:=by
 refine pb ?_
 rintro⟨r,l,n⟩ hl
 have hl:l.length≤1000000:=hl
 have hd:=delS_go r l n
 by_cases hi:idxZ l (Clo.oth n).t = -1
 ·have hall:own l n=l:=own_all fun d hd=>by
   have hz:=idxZ_any l (Clo.oth n).t
   rw [hi]at hz
   have:=List.any_eq_false.1 hz.symm d hd
   simpa [Clo.t]using this
  simp -dsimp [Tryz.f33,E33,Ro.row,pplV,bkRow,hps_d4]
  repeat' (first|omega|simp -dsimp [E33,ri,cellp,ints,FreeAt,cloS_go,hd,hl,hps_d4,dfV,dfH,ofH,ofT,hi,hall,bkRow]|refine aI ?_ fun _=>?_|refine oI fun _=>?_|refine nI ?_ ?_)
 ·simp -dsimp [Tryz.f33,E33,Ro.row,pplV,bkRow,hps_d4]
  repeat' (first|omega|simp -dsimp [E33,ri,cellp,ints,FreeAt,cloS_go,hd,hl,hps_d4,dfV,dfH,ofH,ofT,hi,bkRow]|refine aI ?_ fun _=>?_|refine oI fun _=>?_|refine nI ?_ ?_)
theorem ok33:FO 33 ofS:=pf b33 (.cons ok77 (.cons ok76 .nil))
end Go.Sx
end
end
