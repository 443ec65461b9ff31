/- A part of a proof; no conditions. -/
import Derived.Test.YtfhdpblkdgmnfaaGreatDoorP43
set_option linter.unusedSimpArgs false
set_option linter.unusedVariables false
set_option linter.unusedSectionVars false
set_option maxRecDepth 100000
set_option maxHeartbeats 8000000
noncomputable section
section
namespace Go.Sx
open Go.Proofs
attribute [local irreducible] HLe
def apW (f:Fl) (a b:Bk):Bool:=decide (wr (b.hm+f.turn)≤a.lv) || decide (wr (a.hm+f.turn)≤b.lv)
def apV (f:Fl):V:=.fn 214 [.ip 1 [[.ip 41 [flR f] 0 0]] 0 0]
@[simp] def apE (d:Bk × Bk × Fl):List V:=[.agg d.1.row,.agg d.2.1.row,.ip 1 [[.ip 41 [flR d.2.2] 0 0]] 0 0]
theorem apE_inj (a b:Bk × Bk × Fl) (h:apE a=apE b):a=b:=by
 obtain⟨a1,a2,a3⟩:=a; obtain⟨b1,b2,b3⟩:=b
 simp only [apE,List.cons.injEq,V.agg.injEq,V.ip.injEq,true_and,and_true]at h
 rw [Bk.row_inj _ _ h.1,Bk.row_inj _ _ h.2.1,Fl.row_inj _ _ (List.append_inj h.2.2 rfl).1]
theorem apE_dec (a1 a2 a3 a4 b1 b2 b3 b4:Int) (f:Fl):decC apE [.agg [.int .i64 a1,.int .i64 a2,.int .i64 a3,.int .i64 a4],.agg [.int .i64 b1,.int .i64 b2,.int .i64 b3,.int .i64 b4],.ip 1 [[.ip 41 [flR f] 0 0]] 0 0]=(⟨a1,a2,a3,a4⟩,⟨b1,b2,b3,b4⟩,f):=decC_eq apE_inj (⟨a1,a2,a3,a4⟩,⟨b1,b2,b3,b4⟩,f)
abbrev apS:PSpec:=mkP apE (fun _=>True) fun d=>.bool (apW d.2.2 d.1 d.2.1)
abbrev E214:Env:={P:=Tryz.prog,fn:=tbl [],own:=[],key:=21400,nt:=30}
theorem b214:PureBody E214 [] Tryz.f214 apS:=by
 refine pb ?_
 rintro⟨⟨a1,a2,a3,a4⟩,⟨b1,b2,b3,b4⟩,f⟩ _
 have e:apW f ⟨a1,a2,a3,a4⟩ ⟨b1,b2,b3,b4⟩=(decide (IntKind.wrap .i64 (b3+f.turn)≤a1) || decide (IntKind.wrap .i64 (a3+f.turn)≤b1)):=rfl
 rcases Classical.propComplete (IntKind.wrap .i64 (b3+f.turn)≤a1)with c1|c1<;>rcases Classical.propComplete (IntKind.wrap .i64 (a3+f.turn)≤b1)with c2|c2
 all_goals
  simp only [c1,c2,decide_true,decide_false,Bool.or_true,Bool.or_false,Bool.true_or,Bool.false_or]at e
  simp -dsimp [Tryz.f214,E214,Bk.row]
  repeat' (first|omega|simp -dsimp [E214,ri,cellp,ints,Bk.row,c1,c2,e]|refine aI ?_ fun _=>?_|refine oI fun _=>?_|refine nI ?_ ?_)
theorem ok214:FO 214 apS:=pf b214 .nil
abbrev FB:=Fl × Bk
def nbP (q:FB) (x:Bk):Bool:=!apW q.1 q.2 x
def nbV (q:FB):V:=.fn 216 [.ip 1 [[apV q.1]] 0 0,.ip 4 [q.2.row] 0 0]
theorem nbV_inj (a b:FB) (h:nbV a=nbV b):a=b:=by
 obtain⟨a1,a2⟩:=a; obtain⟨b1,b2⟩:=b
 simp only [nbV,apV,V.fn.injEq,List.cons.injEq,V.ip.injEq,true_and,and_true]at h
 rw [Fl.row_inj _ _ (List.append_inj h.1 rfl).1,Bk.row_inj _ _ h.2]
@[simp] def nbE (d:Bk × Fl × Bk):List V:=[.agg d.1.row,.ip 1 [[.fn 214 [.ip 1 [[.ip 41 [flR d.2.1] 0 0]] 0 0]]] 0 0,.ip 4 [d.2.2.row] 0 0]
theorem nbE_inj (a b:Bk × Fl × Bk) (h:nbE a=nbE b):a=b:=by
 obtain⟨a1,a2,a3⟩:=a; obtain⟨b1,b2,b3⟩:=b
 simp only [nbE,List.cons.injEq,V.agg.injEq,V.fn.injEq,V.ip.injEq,true_and,and_true]at h
 rw [Bk.row_inj _ _ h.1,Fl.row_inj _ _ (List.append_inj h.2.1 rfl).1,Bk.row_inj _ _ h.2.2]
theorem nbE_dec (x:Bk) (q:Fl × Bk):decC nbE [.agg [.int .i64 x.lv,.int .i64 x.ar,.int .i64 x.hm,.int .i64 x.air],.ip 1 [[.fn 214 [.ip 1 [[.ip 41 [flR q.1] 0 0]] 0 0]]] 0 0,.ip 4 [[.int .i64 q.2.lv,.int .i64 q.2.ar,.int .i64 q.2.hm,.int .i64 q.2.air]] 0 0]=(x,q.1,q.2):=decC_eq nbE_inj (x,q.1,q.2)
abbrev nbS:PSpec:=mkP nbE (fun _=>True) fun d=>.bool (nbP (d.2.1,d.2.2) d.1)
abbrev E216:Env:={P:=Tryz.prog,fn:=tbl [(214,.pure apS)],own:=[],key:=21600,nt:=10}
theorem b216:PureBody E216 [] Tryz.f216 nbS:=by
 refine pb ?_
 rintro⟨⟨a1,a2,a3,a4⟩,f,⟨b1,b2,b3,b4⟩⟩ _
 cases c:apW f ⟨b1,b2,b3,b4⟩ ⟨a1,a2,a3,a4⟩
 all_goals
  simp -dsimp [Tryz.f216,E216,Bk.row,nbP]
  repeat' (first|omega|simp -dsimp [E216,ri,cellp,ints,Bk.row,apE_dec,c,nbP]|refine aI ?_ fun _=>?_|refine oI fun _=>?_|refine nI ?_ ?_)
theorem ok216:FO 216 nbS:=pf b216 (.cons ok214 .nil)
@[simp] def nbssE (d:FB × List Bk):List V:=[.sl 4 (d.2.map Bk.row),nbV d.1]
theorem nbssE_inj (a b:FB × List Bk) (h:nbssE a=nbssE b):a=b:=by
 obtain⟨a1,a2⟩:=a; obtain⟨b1,b2⟩:=b
 simp only [nbssE,List.cons.injEq,V.sl.injEq,true_and,and_true]at h
 rw [mapRow_inj Bk.row_inj h.1,nbV_inj _ _ h.2]
theorem nbssE_dec (q:FB) (l:List Bk):decC nbssE [.sl 4 (l.map Bk.row),nbV q]=(q,l):=decC_eq nbssE_inj (q,l)
structure nbssP (d:FB × List Bk):Prop where
 l:d.2.length≤1000000
 q:(fun q:FB=>True) d.1
abbrev nbsixS:PSpec:=mkP nbssE nbssP fun d=>.int .i64 (idxZ d.2 (nbP d.1))
abbrev nbsanS:PSpec:=mkP nbssE nbssP fun d=>.bool (d.2.any (nbP d.1))
abbrev E253:Env:={P:=Tryz.prog,fn:=tbl [(216,.pure nbS)],own:=[],key:=25300,nt:=19}
theorem b253:PureBody E253 [] Tryz.f253 nbsixS:=by
 refine pb ?_
 rintro⟨q,l⟩ ⟨hl,hq⟩
 have hl:l.length≤1000000:=hl
 try dsimp only at hq
 simp -dsimp [Tryz.f253,E253]
 refine awp_loop [9,10,5,11,12,13,14,15,16,17,4,18,8] (fun k:{k:Nat // k≤l.length∧∀j (h:j<l.length),j<k→nbP q l[j]=false}=>[(8,(true,.int .i64 k.1))]) (fun _=>noH) (fun k=>l.length - k.1) ⟨0,by omega,fun _ _ h=>by omega⟩ ?_ (HLe.refl _) ?_
 ·simp [okAll,okv]
 rintro⟨k,hk,hall⟩
 by_cases hk1:k<l.length
 ·have hki:(k:Int)<l.length:=by omega
  have wk:IntKind.wrap .i64 ((k:Int)+1)=(k+1:Nat):=wrap_id (by omega) (by omega)
  obtain⟨x,hx⟩:∃x,l[k]?=some x:=⟨_,List.getElem?_eq_getElem hk1⟩
  have hx':l[k]=x:=(List.getElem?_eq_some_iff.1 hx).2
  cases hw:nbP q x
  ·simp -dsimp [hki]
   repeat' (first|omega|simp -dsimp [E253,ri,cellp,ints,hki,hk1,hl,hx,hx',hw,wk,hq,nbV,apV,nbE_dec,Bk.row]|refine aI ?_ fun _=>?_|refine oI fun _=>?_|refine nI ?_ ?_)
   refine⟨k+1,tle_chain rfl ?_,HLe.refl _,⟨by omega,fun j h hj=>?_⟩,by omega⟩
   ·simp [okAll,okv]
   ·by_cases hjk:j=k
    ·subst hjk; rw [hx']; exact hw
    ·exact hall j h (by omega)
  ·have hz:=idxZ_at l (nbP q) hk1 (by rw [hx']; exact hw) hall
   simp -dsimp [hki]
   repeat' (first|omega|simp -dsimp [E253,ri,cellp,ints,hki,hk1,hl,hx,hx',hw,wk,hz,hq,nbV,apV,nbE_dec,Bk.row]|refine aI ?_ fun _=>?_|refine oI fun _=>?_|refine nI ?_ ?_)
 ·have hkn:¬ (k:Int)<l.length:=by omega
  have hz:=idxZ_none l (nbP q) (fun j h=>hall j h (by omega))
  simp -dsimp [hkn]
  repeat' (first|omega|simp -dsimp [E253,ri,cellp,ints,hkn,hz]|refine aI ?_ fun _=>?_|refine oI fun _=>?_|refine nI ?_ ?_)
theorem ok253:FO 253 nbsixS:=pf b253 (.cons ok216 .nil)
abbrev E215:Env:={P:=Tryz.prog,fn:=tbl [(253,.pure nbsixS)],own:=[],key:=21500,nt:=9}
theorem b215:PureBody E215 [] Tryz.f215 nbsanS:=by
 refine pb ?_
 rintro⟨q,l⟩ hP
 have hz:=idxZ_any l (nbP q)
 have hd:=nbssE_dec q l
 simp -dsimp only [nbV,apV]at hd
 simp -dsimp [Tryz.f215,E215,nbV,apV]
 repeat' (first|omega|simp -dsimp [E215,ri,cellp,ints,hP,hd,hz,nbV,apV]|refine aI ?_ fun _=>?_|refine oI fun _=>?_|refine nI ?_ ?_)
theorem ok215:FO 215 nbsanS:=pf b215 (.cons ok253 .nil)
end Go.Sx
end
section
namespace Go.Sx
open Go.Proofs
attribute [local irreducible] HLe
def prcB (n:Int):Bool:=!rgB n 0 1000000
abbrev E140:Env:={P:=Tryz.prog,fn:=tbl [(43,.pure rgS)],own:=[],key:=14000,nt:=6}
theorem b140:PureBody E140 [] Tryz.f140 (i1S prcB):=by
 refine pb ?_
 rintro n _
 simp -dsimp [Tryz.f140,E140,prcB]
 repeat' (first|omega|simp -dsimp [E140,ri,cellp,ints,prcB]|refine aI ?_ fun _=>?_|refine oI fun _=>?_|refine nI ?_ ?_)
theorem ok140:FnOK Tryz.prog 140 (.pure (i1S prcB)):=pf b140 (.cons ok43 .nil)
namespace Fc
@[simp] def prcsE (d:List Int):List V:=[.sl 1 (d.map ri),.fn 140 []]
theorem prcsE_inj (a b:List Int) (h:prcsE a=prcsE b):a=b:=by
 simp only [prcsE,List.cons.injEq,V.sl.injEq,true_and,and_true]at h
 exact mapRow_inj ri_injR h
theorem prcsE_dec (l:List Int):decC prcsE [.sl 1 (l.map ri),.fn 140 []]=l:=decC_eq prcsE_inj l
abbrev prcixS:PSpec:=mkP prcsE (fun d=>d.length≤1000000) fun d=>.int .i64 (idxZ d prcB)
abbrev prcanS:PSpec:=mkP prcsE (fun d=>d.length≤1000000) fun d=>.bool (d.any prcB)
abbrev E133:Env:={P:=Tryz.prog,fn:=tbl [(140,.pure (i1S prcB))],own:=[],key:=13300,nt:=19}
theorem b133:PureBody E133 [] Tryz.f133 prcixS:=by
 refine pb ?_
 rintro l hl
 have hl:l.length≤1000000:=hl
 simp -dsimp [Tryz.f133,E133]
 refine awp_loop [9,10,5,11,12,13,14,15,16,17,4,18,8] (fun k:{k:Nat // k≤l.length∧∀j (h:j<l.length),j<k→prcB l[j]=false}=>[(8,(true,.int .i64 k.1))]) (fun _=>noH) (fun k=>l.length - k.1) ⟨0,by omega,fun _ _ h=>by omega⟩ ?_ (HLe.refl _) ?_
 ·simp [okAll,okv]
 rintro⟨k,hk,hall⟩
 by_cases hk1:k<l.length
 ·have hki:(k:Int)<l.length:=by omega
  have wk:IntKind.wrap .i64 ((k:Int)+1)=(k+1:Nat):=wrap_id (by omega) (by omega)
  cases hw:prcB l[k]
  ·simp -dsimp [hki]
   repeat' (first|omega|simp -dsimp [E133,ri,cellp,ints,hki,hk1,hl,hw,wk,ri]|refine aI ?_ fun _=>?_|refine oI fun _=>?_|refine nI ?_ ?_)
   refine⟨k+1,tle_chain rfl ?_,HLe.refl _,⟨by omega,fun j h hj=>?_⟩,by omega⟩
   ·simp [okAll,okv]
   ·by_cases hjk:j=k
    ·subst hjk; exact hw
    ·exact hall j h (by omega)
  ·have hz:=idxZ_at l prcB hk1 hw hall
   simp -dsimp [hki]
   repeat' (first|omega|simp -dsimp [E133,ri,cellp,ints,hki,hk1,hl,hw,wk,hz,ri]|refine aI ?_ fun _=>?_|refine oI fun _=>?_|refine nI ?_ ?_)
 ·have hkn:¬ (k:Int)<l.length:=by omega
  have hz:=idxZ_none l prcB (fun j h=>hall j h (by omega))
  simp -dsimp [hkn]
  repeat' (first|omega|simp -dsimp [E133,ri,cellp,ints,hkn,hz]|refine aI ?_ fun _=>?_|refine oI fun _=>?_|refine nI ?_ ?_)
theorem ok133:FO 133 prcixS:=pf b133 (.cons ok140 .nil)
abbrev E66:Env:={P:=Tryz.prog,fn:=tbl [(133,.pure prcixS)],own:=[],key:=6600,nt:=9}
theorem b66:PureBody E66 [] Tryz.f66 prcanS:=by
 refine pb ?_
 rintro l hl
 have hl:l.length≤1000000:=hl
 have hz:=idxZ_any l prcB
 simp -dsimp [Tryz.f66,E66]
 repeat' (first|omega|simp -dsimp [E66,ri,cellp,ints,hl,prcsE_dec,hz]|refine aI ?_ fun _=>?_|refine oI fun _=>?_|refine nI ?_ ?_)
theorem ok66:FO 66 prcanS:=pf b66 (.cons ok133 .nil)
end Fc
@[simp] def fqE (d:Fl × List Int):List V:=[flI d.1,.sl 1 (d.2.map ri)]
theorem fqE_inj (a b:Fl × List Int) (h:fqE a=fqE b):a=b:=by
 obtain⟨a1,a2⟩:=a; obtain⟨b1,b2⟩:=b
 simp only [fqE,List.cons.injEq,V.sl.injEq,true_and,and_true]at h
 rw [flI_inj _ _ h.1,map_ri_inj h.2]
theorem fqE_dec (f:Fl) (l:List Int):decC fqE [.ip 41 [flR f] 0 0,.sl 1 (l.map ri)]=(f,l):=decC_eq fqE_inj (f,l)
structure PrP (f:Fl) (l:List Int):Prop where
 ok:FlK f
 n:l.length=f.jobs.length
 a:l.any prcB=false
abbrev prcS:PSpec:=mkP fqE (fun d=>PrP d.1 d.2) fun _=>.int .i64 0
abbrev E87:Env:={P:=Tryz.prog,fn:=tbl [(66,.pure Fc.prcanS)],own:=[],key:=8700,nt:=18}
theorem b87:PureBody E87 [] Tryz.f87 prcS:=by
 refine pb ?_
 rintro⟨f,l⟩ ⟨hK,hn,ha⟩
 simp only at hK hn ha
 have hj:=hK.ok.jobs
 have hl:l.length≤1000000:=by omega
 have hd:=Fc.prcsE_dec l
 simp -dsimp [Tryz.f87,E87]
 repeat' (first|omega|simp -dsimp [E87,ri,cellp,ints,hn,hl,hd,ha]|refine aI ?_ fun _=>?_|refine oI fun _=>?_|refine nI ?_ ?_)
theorem ok87:FO 87 prcS:=pf b87 (.cons Fc.ok66 .nil)
structure Er where
 bl:List Bk
 sum:Int
 air:Int
 ok:Bool
structure Er2 where
 a:Nat
 b:Nat
def erJ (f:Fl) (m:Nat) (ps:List Int) (s:Nat):Nat→Er
 | 0=>⟨[],0,0,true⟩
 | j+1=>if bit1 s j=true then ⟨(erJ f m ps s j).bl++[bkO f j m],wr ((erJ f m ps s j).sum+wr ((jbA f j).val - ps.getD j 0)),wr ((erJ f m ps s j).air+(bkO f j m).air),((erJ f m ps s j).ok && (canB f j m && oaB f j m)) && !((erJ f m ps s j).bl.any (nbP (f,bkO f j m)))⟩else erJ f m ps s j
def erM (f:Fl) (m:Nat) (ps:List Int):Nat→Int
 | 0=>0
 | s+1=>if ((erJ f m ps s f.jobs.length).ok && decide ((erJ f m ps s f.jobs.length).air≤max (lfA f m) 0))=true then max (erM f m ps s) (erJ f m ps s f.jobs.length).sum else erM f m ps s
theorem erJ_len (f:Fl) (m:Nat) (ps:List Int) (s:Nat):∀j,(erJ f m ps s j).bl.length≤j
 | 0=>by simp [erJ]
 | j+1=>by
  have:=erJ_len f m ps s j
  rw [erJ]; split
  ·simp; omega
  ·omega
@[simp] def eqE (d:Fl × Int × List Int):List V:=[flI d.1,.int .i64 d.2.1,.sl 1 (d.2.2.map ri)]
theorem eqE_inj (a b:Fl × Int × List Int) (h:eqE a=eqE b):a=b:=by
 obtain⟨a1,a2,a3⟩:=a; obtain⟨b1,b2,b3⟩:=b
 simp only [eqE,List.cons.injEq,V.sl.injEq,V.int.injEq,true_and,and_true]at h
 rw [flI_inj _ _ h.1,h.2.1,map_ri_inj h.2.2]
theorem eqE_dec (f:Fl) (m:Int) (l:List Int):decC eqE [.ip 41 [flR f] 0 0,.int .i64 m,.sl 1 (l.map ri)]=(f,m,l):=decC_eq eqE_inj (f,m,l)
structure ErP (d:Fl × Int × List Int):Prop where
 ok:FlK d.1
 m:0≤d.2.1∧d.2.1<d.1.bas.length
 n:d.2.2.length=d.1.jobs.length
abbrev erS:PSpec:=mkP eqE ErP fun d=>.int .i64 (erM d.1 d.2.1.toNat d.2.2 (2 ^ d.1.jobs.length))
theorem p2_le {n:Nat} (h:n≤6):1≤2 ^ n∧2 ^ n≤64:=⟨Nat.one_le_two_pow,by
 have:2 ^ n≤2 ^ 6:=Nat.pow_le_pow_right (by decide) h
 omega⟩
def fpB (f:Fl):Site:={base:=0,blks:=[{z:=1,els:=[[.ip 41 [flR f] 0 0]],ty:=86,fz:=true}]}
def apB (f:Fl):Site:={base:=0,blks:=[{z:=1,els:=[[.fn 214 [.ip 1 [[.ip 41 [flR f] 0 0]] 0 0]]],ty:=295}]}
abbrev E141:Env:={P:=Tryz.prog,fn:=tbl [(26,.pure canS),(215,.pure nbsanS)],own:=[],key:=14100,nt:=101,frz:=[(1,[3,50003])]}
theorem b141:PureBody E141 [] Tryz.f141 erS:=by
 refine pb ?_
 rintro⟨f,m,ps⟩ ⟨hK,hm,hn⟩
 simp only at hK hm hn
 have hf:=hK.ok
 obtain⟨m,rfl⟩:=Int.eq_ofNat_of_zero_le hm.1
 have hm1:m<f.bas.length:=by omega
 have hj6:=hf.jobs
 obtain⟨J,hJ⟩:∃J,f.jobs.length=J:=⟨_,rfl⟩
 have hsh:=bit_shl J (by omega)
 have hpw:pw J=2 ^ J:=rfl
 have hp2:=p2_le (n:=J) (by omega)
 have hlne:lfL f f.reg.machines.toNat≠[]:=fun h=>by
  have:=congrArg List.length h
  rw [lfL_len,hf.mach,List.length_nil]at this
  omega
 have hV:lftV (lfL f f.reg.machines.toNat)=.sl 1 ((lfL f f.reg.machines.toNat).map ri):=by rw [lftV,if_neg hlne]
 have hLl:(lfL f f.reg.machines.toNat).length=f.bas.length:=by rw [lfL_len,hf.mach]
 have hLm:(lfL f f.reg.machines.toNat)[m]?=some (lfA f m):=by
  rw [hf.mach]; simp [lfL,hm1]
 have hLm':∀h,(lfL f f.reg.machines.toNat)[m]'h=lfA f m:=fun h=>by
  rw [List.getElem?_eq_getElem h]at hLm; exact Option.some.inj hLm
 generalize hLL:lfL f f.reg.machines.toNat=L at *
 have hmL:m<L.length:=by omega
 have hmLi:(m:Int)<L.length:=by omega
 have hLm':=hLm' hmL
 rw [hpw]at hsh
 generalize hNN:2 ^ J=N at *
 simp -dsimp [Tryz.f141,E141]
 repeat' (first|omega|simp -dsimp [E141,ri,cellp,ints,hJ,hsh]|refine aI ?_ fun _=>?_|refine oI fun _=>?_|refine nI ?_ ?_)
 refine awp_loop [25,26,8,9,10,11,12,27,28,29,30,31,32,33,34,35,13,36,37,38,39,40,42,43,44,45,41,46,47,14,15,48,49,50,51,52,53,54,55,56,57,58,59,60,61,62,63,64,65,66,67,68,69,70,71,72,73,74,75,76,77,78,79,80,81,82,83,84,85,86,87,88,89,90,91,92,93,94,95,96,97,98,6,99,24] (fun p:{p:Er2 // p.a≤N}=>[(24,(true,.int .i64 p.1.a)),(6,(true,.int .i64 (erM f m ps p.1.a)))]) (fun p=>hps [(14161,{base:=p.1.a,blks:=[]}),(14114,{base:=p.1.b,blks:=[]}),(14107,apB f),(14103,fpB f)] noH) (fun p=>N - p.1.a) ⟨⟨0,0⟩,by simp⟩ ?_ ?_ ?_
 ·simp [okAll,okv,erM]
 ·exact(by(try simp -dsimp only [hpx]); refine hle_hps ?_; simp -dsimp [allK,apB,fpB]<;>exact rz)
 rintro⟨⟨s,c⟩,hs⟩
 dsimp only at hs ⊢
 by_cases hs1:s<N
 case neg=>
  have hsn:¬ (s:Int)<N:=by omega
  have hse:s=N:=by omega
  subst hse
  simp -dsimp [hsn]
  repeat' (first|omega|simp -dsimp [E141,ri,cellp,ints,hsn,hJ,hNN]|refine aI ?_ fun _=>?_|refine oI fun _=>?_|refine nI ?_ ?_)
 have hsi:(s:Int)<N:=by omega
 have ws:IntKind.wrap .i64 ((s:Int)+1)=(s+1:Nat):=wrap_id (by omega) (by omega)
 have hbit:∀j:Nat,j<J→bitw .and .i64 (shrV .i64 (s:Int) (j:Int)) 1=if bit1 s j=true then 1 else 0:=fun j hj=>bit_of (by omega) (by omega)
 have hM:erM f m ps (s+1)=if ((erJ f m ps s f.jobs.length).ok && decide ((erJ f m ps s f.jobs.length).air≤max (lfA f m) 0))=true then max (erM f m ps s) (erJ f m ps s f.jobs.length).sum else erM f m ps s:=rfl
 simp -dsimp [hsi,apB,fpB]
 repeat' (first|omega|simp -dsimp [E141,ri,cellp,ints,hsi,hJ]|refine aI ?_ fun _=>?_|refine oI fun _=>?_|refine nI ?_ ?_)
 refine awp_loop_g [(9,14161,4,91)] rfl (by simp) [34,35,13,36,37,38,39,40,42,43,44,45,41,46,47,14,15,48,49,50,51,52,53,54,55,56,57,12,58,59,60,61,9,62,63,64,65,11,66,67,68,69,70,71,72,73,74,75,76,77,78,79,80,81,10,82,33] (fun q:{q:Er2 // q.a≤J}=>[(33,(true,.int .i64 q.1.a)),(12,(true,.bool (erJ f m ps s q.1.a).ok)),(11,(true,.int .i64 (erJ f m ps s q.1.a).air)),(10,(true,.int .i64 (erJ f m ps s q.1.a).sum)),(9,(true,.bsl 14161 s (erJ f m ps s q.1.a).bl.length))]) (fun q=>hps [(14161,{base:=s,blks:=[{z:=4,els:=(erJ f m ps s q.1.a).bl.map Bk.row,ty:=91}]}),(14114,{base:=q.1.b,blks:=[]}),(14107,apB f),(14103,fpB f)] noH) (fun q=>J - q.1.a) ⟨⟨0,c⟩,by simp⟩ ?_ ?_ ?_
 ·simp [okAll,okv,erJ]
 ·exact(by(try simp -dsimp only [hpx]); refine hle_hps ?_; simp -dsimp [allK,apB,fpB,erJ]<;>exact rz)
 rintro⟨⟨j,c⟩,hj⟩
 dsimp only at hj ⊢
 have hel:=erJ_len f m ps s j
 by_cases hj1:j<J
 ·have hji:(j:Int)<J:=by omega
  have wj:IntKind.wrap .i64 ((j:Int)+1)=(j+1:Nat):=wrap_id (by omega) (by omega)
  have hb:=hbit j hj1
  have hE:erJ f m ps s (j+1)=if bit1 s j=true then ⟨(erJ f m ps s j).bl++[bkO f j m],wr ((erJ f m ps s j).sum+wr ((jbA f j).val - ps.getD j 0)),wr ((erJ f m ps s j).air+(bkO f j m).air),((erJ f m ps s j).ok && (canB f j m && oaB f j m)) && !((erJ f m ps s j).bl.any (nbP (f,bkO f j m)))⟩else erJ f m ps s j:=rfl
  have hj2:j<f.jobs.length:=by omega
  have hj3:j<ps.length:=by omega
  have hji3:(j:Int)<ps.length:=by omega
  obtain⟨x,hx⟩:∃x,f.jobs[j]?=some x:=⟨_,List.getElem?_eq_getElem hj2⟩
  have hx':f.jobs[j]=x:=(List.getElem?_eq_some_iff.1 hx).2
  have hxa:jbA f j=x:=by simp [jbA,List.getD,hx]
  obtain⟨p,hp⟩:∃x,ps[j]?=some x:=⟨_,List.getElem?_eq_getElem hj3⟩
  have hp':ps[j]=p:=(List.getElem?_eq_some_iff.1 hp).2
  have hpd:ps.getD j 0=p:=by simp [List.getD,hp]
  have hCn:CnP (f,(j:Int),(m:Int),false):=⟨⟨hK,by simp only; omega,by simp only; omega⟩⟩
  rw [hxa,hpd]at hE
  generalize hEj:erJ f m ps s (j+1)=E1 at *
  generalize erJ f m ps s j=E0 at *
  obtain⟨bl,sm,air,ok⟩:=E0
  obtain⟨xa,xc,xd,xv,xw⟩:=x
  simp only at hE hel
  cases hbt:bit1 s j
  ·rw [hbt]at hb hE
   have hE:E1=⟨bl,sm,air,ok⟩:=hE
   have hb:bitw .and .i64 (shrV .i64 (s:Int) (j:Int)) 1=0:=hb
   simp -dsimp [hji,apB,fpB]
   repeat' (first|omega|simp -dsimp [E141,ri,cellp,ints,hji,hb,wj]|refine aI ?_ fun _=>?_|refine oI fun _=>?_|refine nI ?_ ?_)
   refine⟨⟨j+1,c⟩,?_,?_,by simp only; omega,by simp only; omega⟩
   ·refine tle_chain rfl ?_
    simp [okAll,okv,hEj,hE]
   ·rw [hEj,hE]; exact(by(try simp -dsimp only [hpx]); refine hle_hps ?_; simp -dsimp [allK,apB,fpB]<;>exact rz)
  ·rw [hbt]at hb hE
   have hb:bitw .and .i64 (shrV .i64 (s:Int) (j:Int)) 1=1:=hb
   generalize hB:bkO f j m=B at *
   obtain⟨b1,b2,b3,b4⟩:=B
   have hnd:=nbssE_dec (f,⟨b1,b2,b3,b4⟩) bl
   simp -dsimp only [nbV,apV,Bk.row]at hnd
   have hnp:nbssP ((f,⟨b1,b2,b3,b4⟩),bl):=⟨by simp only; omega,trivial⟩
   have hbb:(bl.length+1) * 32≤140737488355328:=by omega
   cases ok<;>cases hc1:(canB f j m && oaB f j m)<;>cases ha:bl.any (nbP (f,⟨b1,b2,b3,b4⟩))
   all_goals
    simp only [hc1,ha,if_true,Bool.and_true,Bool.and_false,Bool.true_and,Bool.false_and,Bool.not_true,Bool.not_false]at hE
    simp -dsimp [hji,apB,fpB]
    repeat' (first|omega|simp -dsimp [E141,ri,cellp,ints,hji,hb,hB,hc1,ha,hx,hx',hp,hp',hj2,hj3,hji3,Bk.row,Jb.row,ri,fpbE_dec,hCn,hnd,hnp,nbV,apV,hbb,wj]|refine aI ?_ fun _=>?_|refine oI fun _=>?_|refine nI ?_ ?_)
    all_goals
     refine⟨⟨j+1,c+1⟩,?_,?_,by simp only; omega,by simp only; omega⟩
     ·refine tle_chain rfl ?_
      simp [okAll,okv,hEj,hE]
     ·rw [hEj,hE]; exact(by(try simp -dsimp only [hpx]); refine hle_hps ?_; simp -dsimp [allK,apB,fpB,Bk.row]<;>exact rz)
 have hjn:¬ (j:Int)<J:=by omega
 have hje:j=J:=by omega
 subst hje
 rw [hJ]at hM
 generalize hM1:erM f m ps (s+1)=M1 at *
 generalize erM f m ps s=M0 at *
 generalize erJ f m ps s j=E0 at *
 obtain⟨bl,sm,air,ok⟩:=E0
 simp only at hM
 cases ok
 ·have hM:M1=M0:=by rw [hM]; simp
  simp -dsimp [hjn,apB,fpB]
  repeat' (first|omega|simp -dsimp [E141,ri,cellp,ints,hjn,ws]|refine aI ?_ fun _=>?_|refine oI fun _=>?_|refine nI ?_ ?_)
  refine⟨⟨s+1,c⟩,?_,?_,by simp only; omega,by simp only; omega⟩
  ·refine tle_kept (kept_upds rfl (kept_forget rfl (kept_upds rfl kept_base))) ?_
   simp [okAll,okv,hM1,hM]
  ·exact(by(try simp -dsimp only [hpx]); refine hle_hps ?_; simp -dsimp [allK,apB,fpB]<;>exact rz)
 have hM:M1=if air≤max (lfA f m) 0 then max M0 sm else M0:=by rw [hM]; by_cases h:air≤max (lfA f m) 0<;>simp [h]
 generalize lfA f m=Y at *
 have hmx:max Y 0=if Y<0 then 0 else Y:=by split<;>omega
 have hmm:max M0 sm=if M0<sm then sm else M0:=by split<;>omega
 rw [hmx,hmm]at hM
 rcases Classical.propComplete (air≤if Y<0 then 0 else Y)with hx|hx
 all_goals
  simp only [hx,if_true,if_false]at hM
  simp -dsimp [hjn,apB,fpB]
  repeat' (first|omega|simp -dsimp [E141,ri,cellp,ints,hjn,ws,hLL,hV,hmL,hmLi,hLm,hLm',ri,hx]|refine aI ?_ fun _=>?_|refine oI fun _=>?_|refine nI ?_ ?_)
  refine⟨⟨s+1,c⟩,?_,?_,by simp only; omega,by simp only; omega⟩
  ·refine tle_kept (kept_upds rfl (kept_forget rfl (kept_upds rfl kept_base))) ?_
   simp [okAll,okv,hM1,hM]
  ·exact(by(try simp -dsimp only [hpx]); refine hle_hps ?_; simp -dsimp [allK,apB,fpB]<;>exact rz)
theorem ok141:FO 141 erS:=pf b141 (.cons ok26 (.cons ok215 .nil))
def boP (ps:List Int):Nat→Int
 | 0=>0
 | j+1=>wr (boP ps j+ps.getD j 0)
def boM (f:Fl) (ps:List Int):Nat→Int
 | 0=>boP ps ps.length
 | m+1=>wr (boM f ps m+erM f m ps (2 ^ f.jobs.length))
abbrev bouS:PSpec:=mkP fqE (fun d=>PrP d.1 d.2) fun d=>.int .i64 (boM d.1 d.2 d.1.bas.length)
abbrev E88:Env:={P:=Tryz.prog,fn:=tbl [(141,.pure erS)],own:=[],key:=8800,nt:=35}
theorem b88:PureBody E88 [] Tryz.f88 bouS:=by
 refine pb ?_
 rintro⟨f,ps⟩ ⟨hK,hn,ha⟩
 simp only at hK hn ha
 have hf:=hK.ok
 have hj6:=hf.jobs
 obtain⟨N,hN⟩:∃N,f.bas.length=N:=⟨_,rfl⟩
 have hmm:f.reg.machines=(N:Int):=by have:=hf.bas; omega
 have hm8:=hf.mach4
 simp -dsimp [Tryz.f88,E88]
 repeat' (first|omega|simp -dsimp [E88,ri,cellp,ints,hn]|refine aI ?_ fun _=>?_|refine oI fun _=>?_|refine nI ?_ ?_)
 refine awp_loop [11,12,13,6,14,15,16,4,17,10] (fun k:{k:Nat // k≤ps.length}=>[(10,(true,.int .i64 k.1)),(4,(true,.int .i64 (boP ps k.1)))]) (fun _=>_) (fun k=>ps.length - k.1) ⟨0,by omega⟩ ?_ (HLe.refl _) ?_
 ·simp [okAll,okv,boP]
 rintro⟨k,hk⟩
 dsimp only
 by_cases hk1:k<ps.length
 ·have hki:(k:Int)<ps.length:=by omega
  have wk:IntKind.wrap .i64 ((k:Int)+1)=(k+1:Nat):=wrap_id (by omega) (by omega)
  obtain⟨p,hp⟩:∃x,ps[k]?=some x:=⟨_,List.getElem?_eq_getElem hk1⟩
  have hp':ps[k]=p:=(List.getElem?_eq_some_iff.1 hp).2
  have hB:boP ps (k+1)=wr (boP ps k+p):=by simp [boP,List.getD,hp]
  simp -dsimp [hki]
  repeat' (first|omega|simp -dsimp [E88,ri,cellp,ints,hki,hk1,wk,hp,hp',ri]|refine aI ?_ fun _=>?_|refine oI fun _=>?_|refine nI ?_ ?_)
  refine⟨k+1,tle_chain rfl ?_,HLe.refl _,by omega,by omega⟩
  simp [okAll,okv,hB]
 have hkn:¬ (k:Int)<ps.length:=by omega
 have hke:k=ps.length:=by omega
 subst hke
 have hB0:boM f ps 0=boP ps ps.length:=rfl
 simp -dsimp [hkn]
 repeat' (first|omega|simp -dsimp [E88,ri,cellp,ints,hkn]|refine aI ?_ fun _=>?_|refine oI fun _=>?_|refine nI ?_ ?_)
 refine awp_loop [25,26,7,27,28,29,30,31,32,4,33,24] (fun m:{m:Nat // m≤N}=>[(24,(true,.int .i64 m.1)),(4,(true,.int .i64 (boM f ps m.1)))]) (fun _=>_) (fun m=>N - m.1) ⟨0,by omega⟩ ?_ (HLe.refl _) ?_
 ·simp [okAll,okv,hB0]
 rintro⟨m,hm⟩
 dsimp only
 by_cases hm1:m<N
 ·have hmi:(m:Int)<N:=by omega
  have wm:IntKind.wrap .i64 ((m:Int)+1)=(m+1:Nat):=wrap_id (by omega) (by omega)
  have hE:ErP (f,(m:Int),ps):=⟨hK,⟨by simp only; omega,by simp only; omega⟩,hn⟩
  have hB:boM f ps (m+1)=wr (boM f ps m+erM f m ps (2 ^ f.jobs.length)):=rfl
  generalize hX:erM f m ps (2 ^ f.jobs.length)=X at *
  have hX':erM f (m:Int).toNat ps (2 ^ f.jobs.length)=X:=by rw [Int.toNat_natCast]; exact hX
  simp -dsimp [hmi]
  repeat' (first|omega|simp -dsimp [E88,ri,cellp,ints,hmi,hmm,wm,hE,hX',hX,eqE_dec]|refine aI ?_ fun _=>?_|refine oI fun _=>?_|refine nI ?_ ?_)
  refine⟨m+1,tle_chain rfl ?_,HLe.refl _,by omega,by omega⟩
  simp [okAll,okv,hB]
 have hmn:¬ (m:Int)<N:=by omega
 have hme:m=N:=by omega
 subst hme
 simp -dsimp [hmn]
 repeat' (first|omega|simp -dsimp [E88,ri,cellp,ints,hmn,hN]|refine aI ?_ fun _=>?_|refine oI fun _=>?_|refine nI ?_ ?_)
theorem ok88:FO 88 bouS:=pf b88 (.cons ok141 .nil)
end Go.Sx
end
end
