/- A part of a proof; no conditions. -/
import Derived.Test.YtfhdpblkdgmnfaaGreatDoorP42
import Derived.Test.YtfhdpblkdgmnfaaGreatDoorP30
set_option linter.unusedSimpArgs false
set_option linter.unusedVariables false
set_option linter.unusedSectionVars false
set_option maxRecDepth 100000
set_option maxHeartbeats 8000000
noncomputable section
section
namespace Go.Sx
open Go.Proofs
attribute [local irreducible] HLe
abbrev E18:Env:={P:=Tryz.prog,fn:=tbl [(38,.pure openS)],own:=[],key:=1800,nt:=15}
theorem b18:PureBody E18 [] Tryz.f18 checkFS:=by
 refine pb ?_
 rintro⟨r,l⟩ hfn
 by_cases hE:opE r l=0
 ·simp -dsimp [Tryz.f18,E18,Reg.row]
  repeat' (first|omega|simp -dsimp [E18,ri,cellp,ints,rlE_dec',Reg.row,hfn,hE,HI.v]|refine aI ?_ fun _=>?_|refine oI fun _=>?_|refine nI ?_ ?_)
 ·simp -dsimp [Tryz.f18,E18,Reg.row]
  repeat' (first|omega|simp -dsimp [E18,ri,cellp,ints,rlE_dec',Reg.row,hfn,hE]|refine aI ?_ fun _=>?_|refine oI fun _=>?_|refine nI ?_ ?_)
theorem ok18:FO 18 checkFS:=pf b18 (.cons ok38 .nil)
def beyV (q:Int):V:=.fn 65 [.ip 1 [[.int .i64 q]] 0 0]
theorem beyV_inj (a b:Int) (h:beyV a=beyV b):a=b:=by simpa [beyV]using h
@[simp] def bcE (d:Int × Int):List V:=[.int .i64 d.1,.ip 1 [[.int .i64 d.2]] 0 0]
theorem bcE_inj (a b:Int × Int) (h:bcE a=bcE b):a=b:=by
 obtain⟨a1,a2⟩:=a; obtain⟨b1,b2⟩:=b
 simp [bcE]at h
 rw [h.1,h.2]
theorem bcE_dec (n q:Int):decC bcE [.int .i64 n,.ip 1 [[.int .i64 q]] 0 0]=(n,q):=decC_eq bcE_inj (n,q)
abbrev beS:PSpec:=mkP bcE (fun _=>True) fun d=>.bool (bey d.2 d.1)
abbrev E65:Env:={P:=Tryz.prog,fn:=tbl [(43,.pure rgS)],own:=[],key:=6500,nt:=8}
theorem b65:PureBody E65 [] Tryz.f65 beS:=by
 refine pb ?_
 rintro⟨n,q⟩ _
 simp -dsimp [Tryz.f65,E65,bey]
 repeat' (first|omega|simp -dsimp [E65,ri,cellp,ints,bey]|refine aI ?_ fun _=>?_|refine oI fun _=>?_|refine nI ?_ ?_)
theorem ok65:FO 65 beS:=pf b65 (.cons ok43 .nil)
@[simp] def be1E (d:Int):List V:=[.int .i64 d]
theorem be1E_inj (a b:Int) (h:be1E a=be1E b):a=b:=by simpa using h
theorem be1E_dec (n:Int):decC be1E [.int .i64 n]=n:=decC_eq be1E_inj n
abbrev be1S:PSpec:=mkP be1E (fun _=>True) fun d=>beyV d
abbrev E64:Env:={P:=Tryz.prog,fn:=tbl [],own:=[],key:=6400,nt:=4,frz:=[(1,[1,50001])]}
theorem b64:PureBody E64 [] Tryz.f64 be1S:=by
 refine pb ?_
 rintro n _
 simp -dsimp [Tryz.f64,E64,beyV]
 repeat' (first|omega|simp -dsimp [E64,ri,cellp,ints,beyV]|refine aI ?_ fun _=>?_|refine oI fun _=>?_|refine nI ?_ ?_)
theorem ok64:FO 64 be1S:=pf b64 .nil
@[simp] def ppE (d:Int × Fl):List V:=[.int .i64 d.1,.ip 39 [d.2.row] 0 0]
theorem flIp_inj {a b:Fl} (h:V.ip 39 [a.row] 0 0=.ip 39 [b.row] 0 0):a=b:=by
 simp only [V.ip.injEq,List.cons.injEq,true_and,and_true]at h
 exact Fl.row_inj _ _ h
theorem ppE_inj (a b:Int × Fl) (h:ppE a=ppE b):a=b:=by
 obtain⟨a1,a2⟩:=a; obtain⟨b1,b2⟩:=b
 simp only [ppE,List.cons.injEq,V.int.injEq,true_and,and_true]at h
 rw [h.1,flIp_inj h.2]
theorem ppE_dec (n:Int) (f:Fl):decC ppE [.int .i64 n,.ip 39 [f.row] 0 0]=(n,f):=decC_eq ppE_inj (n,f)
abbrev ppS:PSpec:=mkP ppE (fun d=>1≤d.2.met.n∧d.2.met.n≤8) fun d=>.bool (rgB d.1 0 (d.2.met.n - 1))
abbrev E67:Env:={P:=Tryz.prog,fn:=tbl [(43,.pure rgS)],own:=[],key:=6700,nt:=10}
theorem b67:PureBody E67 [] Tryz.f67 ppS:=by
 refine pb ?_
 rintro⟨n,f⟩ ⟨h1,h2⟩
 simp only at h1 h2
 have w:IntKind.wrap .i64 (f.met.n - 1)=f.met.n - 1:=wrap_id (by omega) (by omega)
 simp -dsimp [Tryz.f67,E67]
 repeat' (first|omega|simp -dsimp [E67,ri,cellp,ints,w]|refine aI ?_ fun _=>?_|refine oI fun _=>?_|refine nI ?_ ?_)
theorem ok67:FO 67 ppS:=pf b67 (.cons ok43 .nil)
def jbsV (f:Fl):V:=.fn 69 [.ip 1 [[.fn 67 [.ip 39 [f.row] 0 0]]] 0 0,.ip 39 [f.row] 0 0]
theorem jbsV_inj (a b:Fl) (h:jbsV a=jbsV b):a=b:=by
 simp only [jbsV,V.fn.injEq,List.cons.injEq,true_and,and_true]at h
 exact flIp_inj h.2
def jbP (f:Fl) (x:Jb):Bool:=Jb.bad f.met.n f.unt x
@[simp] def jcE (d:Jb × Fl):List V:=[.agg d.1.row,.ip 1 [[.fn 67 [.ip 39 [d.2.row] 0 0]]] 0 0,.ip 39 [d.2.row] 0 0]
theorem jcE_inj (a b:Jb × Fl) (h:jcE a=jcE b):a=b:=by
 obtain⟨a1,a2⟩:=a; obtain⟨b1,b2⟩:=b
 simp only [jcE,List.cons.injEq,V.agg.injEq,true_and,and_true]at h
 rw [Jb.row_inj _ _ h.1,flIp_inj h.2.2]
theorem jcE_dec2 (x:Jb) (f:Fl):decC jcE [.agg [.int .i64 x.a,.int .i64 x.b,.int .i64 x.dep,.int .i64 x.val,.bool x.wat],.ip 1 [[.fn 67 [.ip 39 [f.row] 0 0]]] 0 0,.ip 39 [f.row] 0 0]=(x,f):=decC_eq jcE_inj (x,f)
def jbQ (f:Fl):Prop:=(1≤f.met.n∧f.met.n≤8)∧1≤f.unt∧f.unt≤2000
abbrev jcS:PSpec:=mkP jcE (fun d=>jbQ d.2) fun d=>.bool (jbP d.2 d.1)
abbrev E69:Env:={P:=Tryz.prog,fn:=tbl [(67,.pure ppS),(43,.pure rgS)],own:=[],key:=6900,nt:=39}
theorem b69:PureBody E69 [] Tryz.f69 jcS:=by
 refine pb ?_
 rintro⟨⟨a,b,d,v,w⟩,f⟩ ⟨h1,h2⟩
 simp only at h1 h2
 have wu:IntKind.wrap .i64 (f.unt - 1)=f.unt - 1:=wrap_id (by omega) (by omega)
 have hbd:jbP f ⟨a,b,d,v,w⟩=!(rgB a 0 (f.met.n - 1) && rgB b 0 (f.met.n - 1) && decide (a≠b) && rgB d 0 (f.unt - 1) && rgB v 0 1000000):=rfl
 rcases Classical.propComplete (a=b)with c|c<;>cases d1:rgB a 0 (f.met.n - 1)<;>cases d2:rgB b 0 (f.met.n - 1)<;>cases d3:rgB d 0 (f.unt - 1)<;>cases d4:rgB v 0 1000000
 all_goals
  simp only [d1,d2,d3,d4,c,ne_eq,not_true,not_false_iff,decide_true,decide_false,Bool.and_true,Bool.and_false,Bool.true_and,Bool.false_and,Bool.not_true,Bool.not_false]at hbd
  simp -dsimp [Tryz.f69,E69,Jb.row]
  repeat' (first|omega|simp -dsimp [E69,ri,cellp,ints,Jb.row,ppE_dec,h1,wu,d1,d2,d3,d4,c,hbd]|refine aI ?_ fun _=>?_|refine oI fun _=>?_|refine nI ?_ ?_)
theorem ok69:FO 69 jcS:=pf b69 (.cons ok67 (.cons ok43 .nil))
@[simp] def jbssE (d:Fl × List Jb):List V:=[.sl 5 (d.2.map Jb.row),jbsV d.1]
theorem jbssE_inj (a b:Fl × List Jb) (h:jbssE a=jbssE b):a=b:=by
 obtain⟨a1,a2⟩:=a; obtain⟨b1,b2⟩:=b
 simp only [jbssE,List.cons.injEq,V.sl.injEq,true_and,and_true]at h
 rw [mapRow_inj Jb.row_inj h.1,jbsV_inj _ _ h.2]
theorem jbssE_dec (q:Fl) (l:List Jb):decC jbssE [.sl 5 (l.map Jb.row),jbsV q]=(q,l):=decC_eq jbssE_inj (q,l)
structure jbssP (d:Fl × List Jb):Prop where
 l:d.2.length≤1000000
 q:(fun q:Fl=>jbQ q) d.1
abbrev jbsixS:PSpec:=mkP jbssE jbssP fun d=>.int .i64 (idxZ d.2 (jbP d.1))
abbrev jbsanS:PSpec:=mkP jbssE jbssP fun d=>.bool (d.2.any (jbP d.1))
abbrev E134:Env:={P:=Tryz.prog,fn:=tbl [(69,.pure jcS)],own:=[],key:=13400,nt:=19}
theorem b134:PureBody E134 [] Tryz.f134 jbsixS:=by
 refine pb ?_
 rintro⟨q,l⟩ ⟨hl,hq⟩
 have hl:l.length≤1000000:=hl
 try dsimp only at hq
 simp -dsimp [Tryz.f134,E134]
 refine awp_loop [9,10,5,11,12,13,14,15,16,17,4,18,8] (fun k:{k:Nat // k≤l.length∧∀j (h:j<l.length),j<k→jbP q l[j]=false}=>[(8,(true,.int .i64 k.1))]) (fun _=>noH) (fun k=>l.length - k.1) ⟨0,by omega,fun _ _ h=>by omega⟩ ?_ (HLe.refl _) ?_
 ·simp [okAll,okv]
 rintro⟨k,hk,hall⟩
 by_cases hk1:k<l.length
 ·have hki:(k:Int)<l.length:=by omega
  have wk:IntKind.wrap .i64 ((k:Int)+1)=(k+1:Nat):=wrap_id (by omega) (by omega)
  obtain⟨x,hx⟩:∃x,l[k]?=some x:=⟨_,List.getElem?_eq_getElem hk1⟩
  have hx':l[k]=x:=(List.getElem?_eq_some_iff.1 hx).2
  cases hw:jbP q x
  ·simp -dsimp [hki]
   repeat' (first|omega|simp -dsimp [E134,ri,cellp,ints,hki,hk1,hl,hx,hx',hw,wk,hq,jbsV,jcE_dec2,Jb.row]|refine aI ?_ fun _=>?_|refine oI fun _=>?_|refine nI ?_ ?_)
   refine⟨k+1,tle_chain rfl ?_,HLe.refl _,⟨by omega,fun j h hj=>?_⟩,by omega⟩
   ·simp [okAll,okv]
   ·by_cases hjk:j=k
    ·subst hjk; rw [hx']; exact hw
    ·exact hall j h (by omega)
  ·have hz:=idxZ_at l (jbP q) hk1 (by rw [hx']; exact hw) hall
   simp -dsimp [hki]
   repeat' (first|omega|simp -dsimp [E134,ri,cellp,ints,hki,hk1,hl,hx,hx',hw,wk,hz,hq,jbsV,jcE_dec2,Jb.row]|refine aI ?_ fun _=>?_|refine oI fun _=>?_|refine nI ?_ ?_)
 ·have hkn:¬ (k:Int)<l.length:=by omega
  have hz:=idxZ_none l (jbP q) (fun j h=>hall j h (by omega))
  simp -dsimp [hkn]
  repeat' (first|omega|simp -dsimp [E134,ri,cellp,ints,hkn,hz]|refine aI ?_ fun _=>?_|refine oI fun _=>?_|refine nI ?_ ?_)
theorem ok134:FO 134 jbsixS:=pf b134 (.cons ok69 .nil)
abbrev E68:Env:={P:=Tryz.prog,fn:=tbl [(134,.pure jbsixS)],own:=[],key:=6800,nt:=9}
theorem b68:PureBody E68 [] Tryz.f68 jbsanS:=by
 refine pb ?_
 rintro⟨q,l⟩ hP
 have hz:=idxZ_any l (jbP q)
 have hd:=jbssE_dec q l
 simp -dsimp only [jbsV]at hd
 simp -dsimp [Tryz.f68,E68,jbsV]
 repeat' (first|omega|simp -dsimp [E68,ri,cellp,ints,hP,hd,hz,jbsV]|refine aI ?_ fun _=>?_|refine oI fun _=>?_|refine nI ?_ ?_)
theorem ok68:FO 68 jbsanS:=pf b68 (.cons ok134 .nil)
namespace Fb
@[simp] def beysE (d:Int × List Int):List V:=[.sl 1 (d.2.map ri),beyV d.1]
theorem beysE_inj (a b:Int × List Int) (h:beysE a=beysE b):a=b:=by
 obtain⟨a1,a2⟩:=a; obtain⟨b1,b2⟩:=b
 simp only [beysE,List.cons.injEq,V.sl.injEq,true_and,and_true]at h
 rw [mapRow_inj ri_injR h.1,beyV_inj _ _ h.2]
theorem beysE_dec (q:Int) (l:List Int):decC beysE [.sl 1 (l.map ri),beyV q]=(q,l):=decC_eq beysE_inj (q,l)
structure beysP (d:Int × List Int):Prop where
 l:d.2.length≤1000000
 q:(fun q:Int=>True) d.1
abbrev beyixS:PSpec:=mkP beysE beysP fun d=>.int .i64 (idxZ d.2 (bey d.1))
abbrev beyanS:PSpec:=mkP beysE beysP fun d=>.bool (d.2.any (bey d.1))
abbrev E133:Env:={P:=Tryz.prog,fn:=tbl [(65,.pure beS)],own:=[],key:=13300,nt:=19}
theorem b133:PureBody E133 [] Tryz.f133 beyixS:=by
 refine pb ?_
 rintro⟨q,l⟩ ⟨hl,hq⟩
 have hl:l.length≤1000000:=hl
 try dsimp only at hq
 simp -dsimp [Tryz.f133,E133]
 refine awp_loop [9,10,5,11,12,13,14,15,16,17,4,18,8] (fun k:{k:Nat // k≤l.length∧∀j (h:j<l.length),j<k→bey q l[j]=false}=>[(8,(true,.int .i64 k.1))]) (fun _=>noH) (fun k=>l.length - k.1) ⟨0,by omega,fun _ _ h=>by omega⟩ ?_ (HLe.refl _) ?_
 ·simp [okAll,okv]
 rintro⟨k,hk,hall⟩
 by_cases hk1:k<l.length
 ·have hki:(k:Int)<l.length:=by omega
  have wk:IntKind.wrap .i64 ((k:Int)+1)=(k+1:Nat):=wrap_id (by omega) (by omega)
  obtain⟨x,hx⟩:∃x,l[k]?=some x:=⟨_,List.getElem?_eq_getElem hk1⟩
  have hx':l[k]=x:=(List.getElem?_eq_some_iff.1 hx).2
  cases hw:bey q x
  ·simp -dsimp [hki]
   repeat' (first|omega|simp -dsimp [E133,ri,cellp,ints,hki,hk1,hl,hx,hx',hw,wk,hq,beyV,bcE_dec,ri]|refine aI ?_ fun _=>?_|refine oI fun _=>?_|refine nI ?_ ?_)
   refine⟨k+1,tle_chain rfl ?_,HLe.refl _,⟨by omega,fun j h hj=>?_⟩,by omega⟩
   ·simp [okAll,okv]
   ·by_cases hjk:j=k
    ·subst hjk; rw [hx']; exact hw
    ·exact hall j h (by omega)
  ·have hz:=idxZ_at l (bey q) hk1 (by rw [hx']; exact hw) hall
   simp -dsimp [hki]
   repeat' (first|omega|simp -dsimp [E133,ri,cellp,ints,hki,hk1,hl,hx,hx',hw,wk,hz,hq,beyV,bcE_dec,ri]|refine aI ?_ fun _=>?_|refine oI fun _=>?_|refine nI ?_ ?_)
 ·have hkn:¬ (k:Int)<l.length:=by omega
  have hz:=idxZ_none l (bey q) (fun j h=>hall j h (by omega))
  simp -dsimp [hkn]
  repeat' (first|omega|simp -dsimp [E133,ri,cellp,ints,hkn,hz]|refine aI ?_ fun _=>?_|refine oI fun _=>?_|refine nI ?_ ?_)
theorem ok133:FO 133 beyixS:=pf b133 (.cons ok65 .nil)
abbrev E66:Env:={P:=Tryz.prog,fn:=tbl [(133,.pure beyixS)],own:=[],key:=6600,nt:=9}
theorem b66:PureBody E66 [] Tryz.f66 beyanS:=by
 refine pb ?_
 rintro⟨q,l⟩ hP
 have hz:=idxZ_any l (bey q)
 have hd:=beysE_dec q l
 simp -dsimp only [beyV]at hd
 simp -dsimp [Tryz.f66,E66,beyV]
 repeat' (first|omega|simp -dsimp [E66,ri,cellp,ints,hP,hd,hz,beyV]|refine aI ?_ fun _=>?_|refine oI fun _=>?_|refine nI ?_ ?_)
theorem ok66:FO 66 beyanS:=pf b66 (.cons ok133 .nil)
end Fb
theorem fx_tk (f:Fl) (l:List V):(f.row++l).take 39=f.row:=rfl
theorem fx_tk1 (f:Fl) (x:V) (l:List V):(f.row++x::l).take 40=f.row++[x]:=rfl
theorem fx_dr (f:Fl) (x:V) (l:List V):(f.row++x::l).drop 40=l:=rfl
theorem fx_dr1 (f:Fl) (x y:V) (l:List V):(f.row++x::y::l).drop 41=l:=rfl
theorem fx_39 (f:Fl) (x:V) (l:List V):(f.row++x::l)[39]?=some x:=rfl
theorem fx_39' (f:Fl) (x:V) (l:List V) (h:39<(f.row++x::l).length):(f.row++x::l)[39]=x:=rfl
theorem fx_40' (f:Fl) (x y:V) (l:List V) (h:40<(f.row++x::y::l).length):(f.row++x::y::l)[40]=y:=rfl
theorem fx_40 (f:Fl) (x y:V) (l:List V):(f.row++x::y::l)[40]?=some y:=rfl
def leV (k:Nat):V:=if k=0 then .nil else .bsl 2568 0 k
def lfSt (f:Fl) (k:Nat):Site:=if k=0 then {base:=0,blks:=[]}else {base:=0,blks:=[{z:=1,els:=(lfL f k).map ri,ty:=3}]}
def nfB (f:Fl) (k:Nat):Site:={base:=0,blks:=[{z:=41,els:=[f.row++[tbV (tmF f),leV k]],ty:=143,cl:=decide (k=0)}]}
def plB (f:Fl):Site:={base:=0,blks:=[{z:=1,els:=[[.fn 67 [.ip 39 [f.row] 0 0]]],ty:=109}]}
theorem lend_fl {h:Hp} {f:Fl} {n:Nat} (hn:n=f.reg.machines.toNat) (h1:n≠0→h 2568={base:=0,blks:=[{z:=1,els:=(lfL f n).map ri,ty:=3}]}) (h2:h 2541=nfB f n):lendN 3 h (.bptr 2541 0 1 0 0)=(True,.ip 41 [flR f] 0 0):=by
 have t1:lendN 2 h (leV n)=(True,lftV (lfL f n)):=by
  unfold leV lftV
  by_cases e:n=0
  ·subst e; rfl
  ·have hne:lfL f n≠[]:=fun h=>e (by have:=congrArg List.length h; simpa [lfL_len]using this)
   have hg:hget h 2568 0=some {z:=1,els:=(lfL f n).map ri,ty:=3}:=by simp [hget,h1 e]
   rw [if_neg e,if_neg hne,lendN,hg]
   simp [lendB,lfL_len]
 have hg:hget h 2541 0=some {z:=41,els:=[f.row++[tbV (tmF f),leV n]],ty:=143,cl:=decide (n=0)}:=by simp [hget,h2,nfB]
 have hcs:∀l,lendCs (lendN 2 h) (f.row++l)=((lendCs (lendN 2 h) l).1,f.row++(lendCs (lendN 2 h) l).2):=fun l=>by
  simp only [Fl.row,Met.row,Wt.row,Reg.row,Ro.row,pplV,List.cons_append,List.nil_append,lendCs,lendN,V.leaf,true_and]
 rw [lendN,hg]
 by_cases e:n=0
 ·simp only [lendB,lendRs,hcs,lendCs,t1,V.leaf]
  subst e
  simp [lendN,flR,←hn,leV,tbV,lfL,lftV]
 ·simp only [lendB,lendRs,hcs,lendCs,t1,V.leaf]
  simp [lendN,flR,←hn,e,tbV,lftV,leV]
abbrev nfS:PSpec:=mkP flOE FlK fun f=>.tup [.ip 41 [flR f] 0 0,.int .i64 0]
abbrev E24:Env:={P:=Tryz.prog,fn:=tbl [(61,.pure meS),(62,.pure OpS),(63,.pure timS),(18,.pure checkFS),(13,.pure chS),(64,.pure be1S),(66,.pure Fb.beyanS),(43,.pure rgS),(67,.pure ppS),(68,.pure jbsanS),(17,.pure longFS)],own:=[],key:=2400,nt:=173,frz:=[(1,[1,50001])]}
theorem b24:PureBody E24 [(18,([14,25],[[0,1,2,3,4,5,6,7,8,9,10,11,12,13,14,15,16,17,18,19,20,21,22,23,24,25,26,27,28,29]]))] Tryz.f24 nfS:=by
 refine pb ?_
 rintro f hK
 have hK:FlK f:=hK
 have hf:=hK.ok
 have hMP:=met_P hf.met
 have hE0:metE f.met=0:=by simp [metE,hf.met]
 have hn8:=met_n hf.met
 have o1:=hK.op (p:=0) (t:=0) ⟨by omega,by omega⟩ ⟨by omega,by omega⟩
 have hNP:=hf.net'
 have hfn:=fineF hf.op
 have hop:=hf.op
 obtain⟨hrf,hd60,_⟩:=chkE_zero.1 hf.du
 have hCP:ChP (f.ros,f.dus):=⟨by have:=hrf.n; simp only; omega,by simp only; omega⟩
 have hck:=chkEW_of srtD_ok hf.du
 have hb0:=hf.bas
 have hc0:=hf.cra
 have hm4:=hf.mach4
 have wn:IntKind.wrap .i64 (f.met.n - 1)=f.met.n - 1:=wrap_id (by omega) (by omega)
 have hb1:f.bas.any (bey (f.met.n - 1))=false:=List.any_eq_false.2 fun x hx=>by
  have:=hf.bas1 x hx; simp [bey,rgB]; omega
 have hb2:f.cra.any (bey 7)=false:=List.any_eq_false.2 fun x hx=>by
  have:=hf.cra1 x hx; simp [bey,rgB]; omega
 have hb3:f.jobs.any (jbP f)=false:=List.any_eq_false.2 fun x hx=>by
  have:=hf.job x hx; simp [jbP,Jb.bad,rgB]; omega
 have hP1:Fb.beysP (f.met.n - 1,f.bas):=⟨by simp only; omega,trivial⟩
 have hP2:Fb.beysP (7,f.cra):=⟨by simp only; omega,trivial⟩
 have hP3:jbssP (f,f.jobs):=⟨by have:=hf.jobs; simp only; omega,hn8,hf.unt⟩
 have hd1:=Fb.beysE_dec (f.met.n - 1) f.bas
 have hd2:=Fb.beysE_dec 7 f.cra
 have hd3:=jbssE_dec f f.jobs
 simp -dsimp only [beyV]at hd1 hd2
 simp -dsimp only [jbsV]at hd3
 have g1:rgB f.turn 0 100=true:=by have:=hf.turn; simp [rgB]; omega
 have g2:rgB f.hour 1 100=true:=by have:=hf.hour; simp [rgB]; omega
 have g3:rgB f.cov 0 f.reg.machines=true:=by have:=hf.cov; simp [rgB]; omega
 have g4:rgB f.unt 1 2000=true:=by have:=hf.unt; simp [rgB]; omega
 have g5:((6:Int)<f.jobs.length)=False:=eq_false (by have:=hf.jobs; omega)
 have hTT:timT f.met.n.toNat f.net=tmF f:=rfl
 obtain⟨n,hn⟩:∃n:Nat,f.reg.machines=n:=⟨f.reg.machines.toNat,by omega⟩
 have hnm:n=f.reg.machines.toNat:=by omega
 rw [hn]at hb0 hc0 g3
 simp -dsimp [Tryz.f24,E24]
 repeat' (first|omega|simp -dsimp [E24,ri,cellp,ints,meE_dec,moE_dec0,tiE_dec,rlE_dec,chE_dec0,be1E_dec,beyV,jbsV,hMP,hE0,o1,hNP,hTT,hfn,hop,hCP,hck,hb0,hc0,hn,wn,hb1,hb2,hb3,hP1,hP2,hP3,hd1,hd2,hd3,g1,g2,g3,g4,g5,FreeAt,FoOk,fx_tk,fx_tk1,fx_dr,fx_dr1,tbV]|refine aI ?_ fun _=>?_|refine oI fun _=>?_|refine nI ?_ ?_)
 refine awp_loop [144,145,17,147,148,149,150,151,152,146,153,154,18,19,155,156,157,158,20,159,160,161,162,163,164,165,166,167,168,169,170,171,143] (fun k:{k:Nat // k≤n}=>[(143,(true,.int .i64 k.1))]) (fun k=>hps [(2568,lfSt f k.1),(2541,nfB f k.1),(2415,plB f),(2401,fS f)] noH) (fun k=>n - k.1) ⟨0,by omega⟩ ?_ ?_ ?_
 ·simp [okAll,okv]
 ·exact(by(try simp -dsimp only [hpx]); refine hle_hps ?_; simp -dsimp [allK,lfSt,leV,nfB,plB,fS,tbV,hTT]<;>exact rz)
 rintro⟨k,hk⟩
 dsimp only
 by_cases hk1:k<n
 ·have hki:(k:Int)<n:=by omega
  have wk:IntKind.wrap .i64 ((k:Int)+1)=(k+1:Nat):=wrap_id (by omega) (by omega)
  have hfm:RLM.Fine ⟨f.reg,f.wks,k,0⟩:=hfn
  have hL:lfA f k=if longE f.reg f.wks k 0=0 then longF f.reg f.wks k 0 * f.hour else -1:=rfl
  have hs:=lfL_succ f k
  have hln:=lfL_len f k
  have hbd:0≤longF f.reg f.wks k 0∧longF f.reg f.wks k 0≤100:=by
   have h0:=hrF_bd (f:=f) k
   unfold hrF at h0
   by_cases e:longE f.reg f.wks k 0=0
   ·rw [if_pos e]at h0
    exact⟨by have:=(longE_inv e).2.2.2; omega,h0.2⟩
   ·unfold longF; rw [if_neg e]; omega
  have hho:=hf.hour
  have hmu:0≤longF f.reg f.wks k 0 * f.hour∧longF f.reg f.wks k 0 * f.hour≤100 * 100:=⟨Int.mul_nonneg hbd.1 (by omega),Int.mul_le_mul hbd.2 (by omega) (by omega) (by omega)⟩
  have wl:IntKind.wrap .i64 (longF f.reg f.wks k 0 * f.hour)=longF f.reg f.wks k 0 * f.hour:=wrap_id (by omega) (by omega)
  have hle1:leV (k+1)=.bsl 2568 0 (k+1):=if_neg (by omega)
  have hls1:lfSt f (k+1)={base:=0,blks:=[{z:=1,els:=(lfL f k).map ri++[ri (lfA f k)],ty:=3}]}:=by rw [lfSt,if_neg (by omega),hs,List.map_append]; rfl
  have hnf1:nfB f (k+1)={base:=0,blks:=[{z:=41,els:=[f.row++[tbV (tmF f),.bsl 2568 0 (k+1)]],ty:=143,cl:=false}]}:=by rw [nfB,hle1]; rfl
  generalize hLg:longF f.reg f.wks k 0=F at *
  generalize hLF:F * f.hour=FH at *
  generalize lfA f k=A at *
  by_cases k0:k=0
  ·have hls0:lfSt f k={base:=0,blks:=[]}:=by rw [k0]; rfl
   have hnf0:nfB f k={base:=0,blks:=[{z:=41,els:=[f.row++[tbV (tmF f),.nil]],ty:=143,cl:=true}]}:=by rw [k0]; rfl
   have hl0:(lfL f k).map ri=[]:=by rw [k0]; rfl
   have hnf1:nfB f (k+1)={base:=0,blks:=[{z:=41,els:=[f.row++[tbV (tmF f),.bsl 2568 0 1]],ty:=143,cl:=false}]}:=by rw [hnf1,k0]
   rw [hl0]at hls1
   rw [hls0,hnf0]
   rcases Classical.propComplete (longE f.reg f.wks k 0=0)with c|c
   all_goals
    simp only [c,if_true,if_false]at hL
    simp -dsimp [hki,plB,fS,tbV]
    repeat' (first|omega|simp -dsimp [E24,ri,cellp,ints,hki,hn,rmE_dec0,hfm,c,hLF,wl,wk,fx_tk,fx_tk1,fx_dr,fx_dr1,fx_39,fx_40,fx_39',fx_40',hLg,tbV,plB,fS]|refine aI ?_ fun _=>?_|refine oI fun _=>?_|refine nI ?_ ?_)
    all_goals
     refine⟨k+1,tle_chain rfl ?_,?_,by omega,by omega⟩
     ·simp [okAll,okv]
     ·rw [hls1,hnf1,hL]; exact(by(try simp -dsimp only [hpx]); refine hle_hps ?_; simp -dsimp [allK,plB,fS,tbV,ri]<;>exact rz)
  ·have hls0:lfSt f k={base:=0,blks:=[{z:=1,els:=(lfL f k).map ri,ty:=3}]}:=if_neg k0
   have hnf0:nfB f k={base:=0,blks:=[{z:=41,els:=[f.row++[tbV (tmF f),.bsl 2568 0 k]],ty:=143,cl:=false}]}:=by rw [nfB,leV,if_neg k0,decide_eq_false k0]
   rw [hls0,hnf0]
   generalize lfL f k=L at *
   have hbb:(L.length+1) * 8≤140737488355328:=by omega
   have hlk:L.length=k:=hln
   rcases Classical.propComplete (longE f.reg f.wks k 0=0)with c|c
   all_goals
    simp only [c,if_true,if_false]at hL
    simp -dsimp [hki,plB,fS,tbV]
    repeat' (first|omega|simp -dsimp [E24,ri,cellp,ints,hki,hn,rmE_dec0,hfm,c,hLF,wl,wk,hlk,hbb,fx_tk,fx_tk1,fx_dr,fx_dr1,fx_39,fx_40,fx_39',fx_40',hLg,tbV,plB,fS]|refine aI ?_ fun _=>?_|refine oI fun _=>?_|refine nI ?_ ?_)
    all_goals
     refine⟨k+1,tle_chain rfl ?_,?_,by omega,by omega⟩
     ·simp [okAll,okv]
     ·rw [hls1,hnf1,hL]; exact(by(try simp -dsimp only [hpx]); refine hle_hps ?_; simp -dsimp [allK,plB,fS,tbV,ri]<;>exact rz)
 have hkn:¬ (k:Int)<n:=by omega
 have hke:k=n:=by omega
 have hle:∀h:Hp,h 2568=lfSt f k→h 2541=nfB f k→lendN 3 h (.bptr 2541 0 1 0 0)=(True,.ip 41 [flR f] 0 0):=fun h h1 h2=>lend_fl (hke.trans hnm) (fun e=>by rw [h1,lfSt,if_neg e]) h2
 have hli:∀h:Hp,lendN 3 h (.int .i64 0)=(True,.int .i64 0):=fun _=>rfl
 simp -dsimp [hkn,-lendN]
 repeat' (first|omega|simp -dsimp [E24,ri,cellp,ints,hkn,-lendN,hle,hli]|refine aI ?_ fun _=>?_|refine oI fun _=>?_|refine nI ?_ ?_)
theorem ok24:FO 24 nfS:=pf b24 (.cons ok61 (.cons ok62 (.cons ok63 (.cons ok18 (.cons ok13 (.cons ok64 (.cons Fb.ok66 (.cons ok43 (.cons ok67 (.cons ok68 (.cons ok17 .nil)))))))))))
end Go.Sx
end
section
namespace Go.Sx
open Go.Proofs
attribute [local irreducible] HLe
structure BlP (d:Fl × Int × Int):Prop where
 jm:JmP d
 can:canB d.1 d.2.1.toNat d.2.2.toNat=true
 oa:oaB d.1 d.2.1.toNat d.2.2.toNat=true
abbrev BloS:PSpec:=mkP fl2E BlP fun d=>.tup [.int .i64 (bkV d.1 d.2.1.toNat d.2.2.toNat).lv,.int .i64 (bkV d.1 d.2.1.toNat d.2.2.toNat).hm,.int .i64 (bkV d.1 d.2.1.toNat d.2.2.toNat).air,.int .i64 0]
abbrev E11:Env:={P:=Tryz.prog,fn:=tbl [(24,.pure nfS),(25,.pure theS),(26,.pure canS)],own:=[],key:=1100,nt:=41,frz:=[(1,[3,50003])]}
theorem b11:PureBody E11 [] Tryz.f11 BloS:=by
 refine pb ?_
 rintro⟨f,j,m⟩ ⟨hJ,hc,ho⟩
 simp only at hc ho
 have hK:=hJ.ok
 have hj:=hJ.j
 have hm:=hJ.m
 simp only at hK hj hm
 have hth:thB f j m=true:=th_iff.2 ⟨hj,hm⟩
 have hq:bkQ f j.toNat m.toNat=true:=by
  simp only [canB,Bool.and_eq_true]at hc; exact hc.1.1.1
 have hO:=bkO_eq hq
 have hCn:CnP (f,j,m,false):=⟨hJ⟩
 generalize hB:bkV f j.toNat m.toNat=B at *
 obtain⟨b1,b2,b3,b4⟩:=B
 simp -dsimp [Tryz.f11,E11,Bk.row]
 repeat' (first|omega|simp -dsimp [E11,ri,cellp,ints,Bk.row,flOE_dec,fpE_dec,fpbE_dec,hK,hth,hCn,hB,hO,hc,ho]|refine aI ?_ fun _=>?_|refine oI fun _=>?_|refine nI ?_ ?_)
theorem ok11:FO 11 BloS:=pf b11 (.cons ok24 (.cons ok25 (.cons ok26 .nil)))
end Go.Sx
end
end
