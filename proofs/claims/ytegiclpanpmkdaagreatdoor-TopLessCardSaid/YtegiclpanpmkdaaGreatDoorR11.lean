/- A part of a proof; no conditions. -/
import Derived.Test.YtegiclpanpmkdaaGreatDoorR10
set_option linter.all false
set_option maxRecDepth 100000
set_option maxHeartbeats 8000000
noncomputable section
section
namespace Go.Sx
open Go.Proofs
attribute [local simp] ri aa ints
attribute [local irreducible] bA
abbrev rgS:aB:={dom:=Int × Int × Int,enc:=fun d=>[.int .i64 d.1,.int .i64 d.2.1,.int .i64 d.2.2],dec:=fun l=>((l.getD 0 .top).toInt,(l.getD 1 .top).toInt,(l.getD 2 .top).toInt),pre:=fun _=>True,res:=fun d=>.bool (bQ d.1 d.2.1 d.2.2)}
noncomputable abbrev FT:=EV [] [] 6100 15
theorem b61:af FT [] Tryz.f61 rgS:=pb <| by rintro⟨n,lo,hi⟩ _;simp -dsimp [Tryz.f61,FT,bQ];repeat' first|omega|simp -dsimp [FT,bQ]|apply aI|apply nI|intro
theorem W8:FO 61 rgS:=pf b61 .nil
theorem SY(p:Sp):wQ p=!decide (-1000000<=p.lo/\p.lo<=p.hi/\p.hi<=1000000):=by
 unfold wQ au;congr 1;by_cases h : -1000000<=p.lo/\p.lo<=p.hi/\p.hi<=1000000
 ·rw [decide_eq_true h,decide_eq_true (by omega),decide_eq_true (by omega)];rfl
 ·rw [decide_eq_false h];by_cases h2 : -1000000<=p.lo/\p.lo<=p.hi
  ·rw [decide_eq_true h2,decide_eq_false (by omega)];rfl
  ·rw [decide_eq_false h2];rfl
def sA(p:Sp)(n:Int):Bool:=!wQ p && (bQ p.lo 0 n && decide (p.hi<=n))
theorem Dz{p:Sp}{n:Int}(h:n<=1000000):sA p n=inB p n:=by unfold sA;rw [SY,Bool.not_not,Bool.eq_iff_iff];simp [inB,bQ];omega
@[simp] def inW(d:Sp × Int):List V:=[.agg d.1.row,.int .i64 d.2]
theorem ZA(a b:Sp × Int)(h:inW a=inW b):a=b:=by obtain⟨a1,a2⟩:=a;obtain⟨b1,b2⟩:=b;simp only [inW,List.cons.injEq,V.agg.injEq,V.int.injEq,true_and,and_true]at h;rw [Sp.aq _ _ h.1,h.2]
theorem asP(a b n:Int):aY inW [.agg [.int .i64 a,.int .i64 b],.int .i64 n]=(⟨a,b⟩,n):=aA ZA (⟨a,b⟩,n)
noncomputable abbrev inS:aB:=bS inW (fun _=>True) fun d=>.bool (sA d.1 d.2)
noncomputable abbrev Uk:=EV [(236,.pure bF),(183,.pure SZ)] [] 18800 9
theorem aoS:af Uk [] Tryz.f188 aeu:=pb <| by
 rintro l hl;have hl:l.length<=1000000:=hl;generalize h1:l.any wQ=b;generalize h2:au l.length 1 3=c;cases b<;>cases c
 all_goals
  simp -dsimp [Tryz.f188,Uk];repeat' first|omega|simp -dsimp [Uk,hl,h1,h2,ZB]|apply aI|apply nI|intro
theorem aj2:FO 188 aeu:=pf aoS (.cons akR (.cons alh .nil))
theorem BD(a b:Int):aY Ys [.sl 2 [[.int .i64 a,.int .i64 b]]]=[⟨a,b⟩]:=aA xF [⟨a,b⟩]
noncomputable abbrev aeG:=EV [(188,.pure aeu),(61,.pure rgS)] [] 12800 21
theorem ao9:af aeG [] Tryz.f128 inS:=pb <| by
 rintro⟨⟨a,b⟩,n⟩ _;have e:sA ⟨a,b⟩ n=(!wQ ⟨a,b⟩ && (bQ a 0 n && decide (b<=n))):=rfl;generalize h1:wQ ⟨a,b⟩=p at e;cases p
 ·simp -dsimp [Tryz.f128,aeG,Sp.row];repeat' first|omega|simp -dsimp [aeG,Sp.row,BD,au,h1,e]|apply aI|apply nI|intro
 ·simp -dsimp [Tryz.f128,aeG,Sp.row];repeat' first|omega|simp -dsimp [aeG,Sp.row,BD,au,h1,e]|apply aI|apply nI|intro
theorem aki:FO 128 inS:=pf ao9 (.cons aj2 (.cons W8 .nil))
@[simp] def skE(d:cR):List V:=[.agg d.row]
theorem LG(a b:cR)(h:skE a=skE b):a=b:=cR.aq _ _ (by simpa using h)
theorem LH(a b c d e f:Int)(x y:Bool):aY skE [.agg [.int .i64 a,.int .i64 b,.int .i64 c,.int .i64 d,.int .i64 e,.int .i64 f,.bool x,.bool y]]=⟨⟨a,b⟩,⟨c,d⟩,⟨e,f⟩,x,y⟩:=aA LG ⟨⟨a,b⟩,⟨c,d⟩,⟨e,f⟩,x,y⟩
noncomputable abbrev skS:aB:=bS skE (fun _=>True) fun d=>.bool d.ok
theorem Ul(k:cR):k.ok=(sA k.w 300 && sA k.s 20000 && sA k.c 20000):=by rw [Dz (by omega),Dz (by omega),Dz (by omega),cR.ok]
noncomputable abbrev E64:=EV [(128,.pure inS)] [] 6400 16
theorem b64:af E64 [] Tryz.f64 skS:=pb <| by rintro⟨⟨a,b⟩,⟨c,d⟩,⟨x,y⟩,u,v⟩ _;have e:=Ul ⟨⟨a,b⟩,⟨c,d⟩,⟨x,y⟩,u,v⟩;simp only at e;generalize h1:sA ⟨a,b⟩ 300=p1 at e;generalize h2:sA ⟨c,d⟩ 20000=p2 at e;generalize h3:sA ⟨x,y⟩ 20000=p3 at e;simp -dsimp [Tryz.f64,E64,cR.row];repeat' first|omega|simp -dsimp [E64,cR.row,Sp.row,asP,h1,h2,h3,e]|apply aI|apply nI|intro
theorem amo:FO 64 skS:=pf b64 (.cons aki .nil)
abbrev onS:aB:={dom:=Int,enc:=fun d=>[.int .i64 d],dec:=fun l=>(l.getD 0 .top).toInt,pre:=fun _=>True,res:=fun d=>.agg [.int .i64 d,.int .i64 d]}
noncomputable abbrev aeJ:=EV [] [] 12900 6
theorem apc:af aeJ [] Tryz.f129 onS:=pb <| by rintro n _;simp -dsimp [Tryz.f129,aeJ]
theorem akn:FO 129 onS:=pf apc .nil
def ZC(k:Wt):cR:=⟨⟨k.w,k.w⟩,⟨k.s,k.s⟩,⟨k.c,k.c⟩,k.pE,k.pF⟩
theorem aew(k:Wt):(ZC k).ok=k.ok:=by rw [Bool.eq_iff_iff];simp [ZC,cR.ok,Wt.ok,inB,bQ]
@[simp] def wtE(d:Wt):List V:=[.agg d.row]
theorem ZD(a b:Wt)(h:wtE a=wtE b):a=b:=Wt.aq _ _ (by simpa using h)
theorem DA(a b c:Int)(x y:Bool):aY wtE [.agg [.int .i64 a,.int .i64 b,.int .i64 c,.bool x,.bool y]]=⟨a,b,c,x,y⟩:=aA ZD ⟨a,b,c,x,y⟩
noncomputable abbrev aex:aB:=bS wtE (fun _=>True) fun d=>.agg (ZC d).row
noncomputable abbrev Hf:=EV [(129,.pure onS)] [] 6600 21
theorem b66:af Hf [(2,([3,7,11],[[0,1,2,3,4,5,6,7,8,9,10,11,12,13,14,15,16,17]]))] Tryz.f66 aex:=pb <| by rintro⟨a,b,c,x,y⟩ _;simp -dsimp [Tryz.f66,Hf,aS,Wt.row,ZC,cR.row];repeat' first|omega|simp -dsimp [Hf,aS,Wt.row,ZC,cR.row]|apply aI|apply nI|intro
theorem Hg:FO 66 aex:=pf b66 (.cons akn .nil)
@[simp] theorem al2(m:Met):m.row.length=14:=rfl
@[simp] theorem aro(m:Met):m.row[0]?=some (.int .i64 m.n):=rfl
@[simp] theorem al3(m:Met):(m.row.drop 1).take 8=m.any.row:=rfl
@[simp] theorem arp(m:Met):m.row[9]?=some (.int .i64 m.w):=rfl
@[simp] theorem ao0(m:Met):m.row[10]?=some (.int .i64 m.s):=rfl
@[simp] theorem ao1(m:Met):m.row[11]?=some (.int .i64 m.c):=rfl
@[simp] theorem ao2(m:Met):m.row[12]?=some (.sl 12 (m.fs.map Fc.row)):=rfl
@[simp] theorem ao3(m:Met):m.row[13]?=some (.sl 7 (m.ss.map Sg.row)):=rfl
@[simp] theorem aj9(m:Met):m.row.all V.leaf=true:=rfl
@[simp] theorem aka(m:Met):m.row.all V.dQ=true:=rfl
@[simp] theorem akb(m:Met):m.row.all V.cD=true:=rfl
@[simp] theorem agr(m:Met):m.row.all V.bZ=true:=rfl
theorem iJ:∀l:List V,pW l l
 | []=>trivial
 | x::l=>⟨by cases x<;>simp [aAx],iJ l⟩
@[simp] theorem akc(h:Hp)(m:Met):dF h m.row=(True,m.row):=by simp [Met.row,dF,av,ak]
@[simp] theorem akd(m:Met):pW m.row m.row=True:=eq_true (iJ _)
@[simp] def Nv(m:Met):V:=.ip 14 [m.row] 0 0
theorem zb(a b:Met)(h:Nv a=Nv b):a=b:=Met.aq _ _ (by simpa [Nv]using h)
@[simp] def Ur(m:Met):V:=.ip 1 [[.fn 60 [Nv m]]] 0 0
@[simp] def ake:V:=.ip 1 [[.fn 62 []]] 0 0
theorem FP(a b:Met)(h:Ur a=Ur b):a=b:=zb _ _ (by simpa [Ur]using h)
@[simp] def plE(d:Int × Met):List V:=[.int .i64 d.1,Nv d.2]
theorem ZE(a b:Int × Met)(h:plE a=plE b):a=b:=by obtain⟨a1,a2⟩:=a;obtain⟨b1,b2⟩:=b;simp only [plE,List.cons.injEq,V.int.injEq,true_and,and_true]at h;rw [h.1,zb _ _ h.2]
theorem Dc(n:Int)(m:Met):aY plE [.int .i64 n,.ip 14 [m.row] 0 0]=(n,m):=aA ZE (n,m)
noncomputable abbrev plS:aB:=bS plE (fun d=>1<=d.2.n/\d.2.n<=8) fun d=>.bool (bQ d.1 0 (d.2.n - 1))
noncomputable abbrev E60:=EV [(61,.pure rgS)] [] 6000 9
theorem b60:af E60 [] Tryz.f60 plS:=pb <| by rintro⟨n,m⟩ ⟨h1,h2⟩;simp only at h1 h2;have w:=wi (m.n - 1);simp -dsimp [Tryz.f60,E60,w];repeat' first|omega|simp -dsimp [E60,w]|apply aI|apply nI|intro
theorem ant:FO 60 plS:=pf b60 (.cons W8 .nil)
abbrev Wr(f:Int->Bool):aB:={dom:=Int,enc:=fun d=>[.int .i64 d],dec:=fun l=>(l.getD 0 .top).toInt,pre:=fun _=>True,res:=fun d=>.bool (f d)}
noncomputable abbrev E62:=EV [(61,.pure rgS)] [] 6200 5
theorem b62:af E62 [] Tryz.f62 (Wr fun n=>bQ n 0 2000):=pb <| by rintro n _;simp -dsimp [Tryz.f62,E62];repeat' first|omega|simp -dsimp [E62, *]|apply aI|apply nI|intro
theorem ag1:dM Tryz.prog 62 (.pure (Wr fun n=>bQ n 0 2000)):=pf b62 (.cons W8 .nil)
def G0(n:Int):Bool:=!bQ n 0 20000
noncomputable abbrev E67:=EV [(61,.pure rgS)] [] 6700 6
theorem b67:af E67 [] Tryz.f67 (Wr G0):=pb <| by rintro n _;simp -dsimp [Tryz.f67,E67,G0];repeat' first|omega|simp -dsimp [E67,G0]|apply aI|apply nI|intro
theorem agX:dM Tryz.prog 67 (.pure (Wr G0)):=pf b67 (.cons W8 .nil)
theorem Cu(a b:Int)(h:ri a=ri b):a=b:=zm h
@[simp] def BF(d:List Int):List V:=[.sl 1 (d.map ri),.fn 67 []]
theorem NY(a b:List Int)(h:BF a=BF b):a=b:=by simp only [BF,List.cons.injEq,V.sl.injEq,true_and,and_true]at h;exact aR Cu h
theorem BG(l:List Int):aY BF [.sl 1 (l.map ri),.fn 67 []]=l:=aA NY l
noncomputable abbrev IW:aB:=bS BF (fun d=>d.length<=100000000000000) fun d=>.int .i64 (eB d G0)
noncomputable abbrev IX:aB:=bS BF (fun d=>d.length<=100000000000000) fun d=>.bool (d.any G0)
noncomputable abbrev SL:=EV [(67,.pure (Wr G0))] [] 13000 19
theorem anE:af SL [] Tryz.f130 IW:=pb <| by
 rintro l hl;have hl:l.length<=100000000000000:=hl;simp -dsimp [Tryz.f130,SL];refine ay [9,10,5,11,12,13,14,15,16,17,4,18,8] (fun k:{k:Nat // k<=l.length/\∀j (h:j<l.length),j<k->G0 l[j]=false}=>[(8,(true,.int .i64 k.1))]) (fun _=>cg) (fun k=>l.length - k.1) ⟨0,by omega,fun _ _ h=>by omega⟩ ?_ (bA.refl _) ?_
 ·simp [aj,aT]
 rintro⟨k,hk,v0⟩;by_cases aH:k<l.length
 ·have v1:(k:Int)<l.length:=by omega
  have wk:=wx k;cases hw:G0 l[k]
  ·simp -dsimp [v1];repeat' first|omega|simp -dsimp [SL,v1,aH,hl,hw,wk,ri]|apply aI|apply nI|intro
   refine⟨k+1,ag rfl ?_,bA.refl _,⟨by omega,fun j h hj=>?_⟩,by omega⟩
   ·simp [aj,aT]
   ·by_cases v4:j=k
    ·subst v4;exact hw
    ·exact v0 j h (by omega)
  ·have hz:=cW l G0 aH hw v0;simp -dsimp [v1];repeat' first|omega|simp -dsimp [SL,v1,aH,hl,hw,wk,hz,ri]|apply aI|apply nI|intro
 ·have v2:¬ (k:Int)<l.length:=by omega
  have hz:=bP l G0 (fun j h=>v0 j h (by omega));simp -dsimp [v2];repeat' first|omega|simp -dsimp [SL,v2,hz]|apply aI|apply nI|intro
theorem ahS:FO 130 IW:=pf anE (.cons agX .nil)
noncomputable abbrev E68:=EV [(130,.pure IW)] [] 6800 9
theorem b68:af E68 [] Tryz.f68 IX:=pb <| by rintro l hl;have hl:l.length<=100000000000000:=hl;have hz:=cO l G0;simp -dsimp [Tryz.f68,E68];repeat' first|omega|simp -dsimp [E68,hl,BG,hz]|apply aI|apply nI|intro
theorem ams:FO 68 IX:=pf b68 (.cons ahS .nil)
@[simp] def fcE(d:Met × Fc):List V:=[.agg d.2.row,Ur d.1,ake]
theorem ZF(a b:Met × Fc)(h:fcE a=fcE b):a=b:=by obtain⟨a1,a2⟩:=a;obtain⟨b1,b2⟩:=b;simp only [fcE,List.cons.injEq,V.agg.injEq,true_and,and_true]at h;rw [Fc.aq _ _ h.1,FP _ _ h.2]
theorem ZG(m:Met)(f:Fc):aY fcE [.agg f.row,.ip 1 [[.fn 60 [.ip 14 [m.row] 0 0]]] 0 0,.ip 1 [[.fn 62 []]] 0 0]=(m,f):=aA ZF (m,f)
theorem FQ(m:Met)(f:Fc):aY fcE [.agg [.int .i64 f.pl,.int .i64 f.a,.int .i64 f.b,.int .i64 f.aX,.int .i64 f.k.w.lo,.int .i64 f.k.w.hi,.int .i64 f.k.s.lo,.int .i64 f.k.s.hi,.int .i64 f.k.c.lo,.int .i64 f.k.c.hi,.bool f.k.pE,.bool f.k.pF],.ip 1 [[.fn 60 [.ip 14 [m.row] 0 0]]] 0 0,.ip 1 [[.fn 62 []]] 0 0]=(m,f):=ZG m f
def Pb(m:Met)(f:Fc):Bool:=Fc.bad m.n f
noncomputable abbrev fcS:aB:=bS fcE (fun d=>1<=d.1.n/\d.1.n<=8) fun d=>.bool (Pb d.1 d.2)
theorem aeE(m:Met)(f:Fc):Pb m f=(!bQ f.pl 0 (m.n - 1) || !bQ f.a 0 2000 || !bQ f.b 0 2000 || decide (f.b<=f.a) || !bQ f.aX 0 2000 || !f.k.ok):=by unfold Pb Fc.bad;cases f.k.ok<;>rw [Bool.eq_iff_iff]<;>simp [bQ]<;>omega
noncomputable abbrev E63:=EV [(60,.pure plS),(62,.pure (Wr fun n=>bQ n 0 2000)),(64,.pure skS)] [] 6300 44
theorem b63:af E63 [] Tryz.f63 fcS:=pb <| by
 rintro⟨m,f⟩ ⟨h1,h2⟩;simp only at h1 h2;have e:=aeE m f;have hm:1<=m.n/\m.n<=8:=⟨h1,h2⟩
 generalize g1:bQ f.pl 0 (m.n - 1)=p1 at e;generalize g2:bQ f.a 0 2000=p2 at e;generalize g3:bQ f.b 0 2000=p3 at e;generalize g4:bQ f.aX 0 2000=p4 at e;obtain⟨pl,a,b,aX,⟨x1,x2⟩,⟨x3,x4⟩,⟨x5,x6⟩,x7,x8⟩:=f;simp only at g1 g2 g3 g4 e;generalize g5:cR.ok ⟨⟨x1,x2⟩,⟨x3,x4⟩,⟨x5,x6⟩,x7,x8⟩=p5 at e;simp -dsimp [Tryz.f63,E63,Fc.row];repeat' first|omega|simp -dsimp [E63,Fc.row,cR.row,Dc,LH,hm,g1,g2,g3,g4,g5,e]|apply aI|apply nI|intro
theorem amt:FO 63 fcS:=pf b63 (.cons ant (.cons ag1 (.cons amo .nil)))
def oC(m:Met):V:=.fn 63 [.ip 1 [[.fn 60 [.ip 14 [m.row] 0 0]]] 0 0,.ip 1 [[.fn 62 []]] 0 0]
theorem Us(a b:Met)(h:oC a=oC b):a=b:=Met.aq _ _ (by simpa [oC]using h)
@[simp] def BH(d:Met × List Fc):List V:=[.sl 12 (d.2.map Fc.row),oC d.1]
theorem NZ(a b:Met × List Fc)(h:BH a=BH b):a=b:=by obtain⟨a1,a2⟩:=a;obtain⟨b1,b2⟩:=b;simp only [BH,List.cons.injEq,V.sl.injEq,true_and,and_true]at h;rw [aR Fc.aq h.1,Us _ _ h.2]
theorem BI(q:Met)(l:List Fc):aY BH [.sl 12 (l.map Fc.row),oC q]=(q,l):=aA NZ (q,l)
structure Ut (d:Met × List Fc):Prop where
 l:d.2.length<=100000000000000
 q:(fun q:Met=>1<=q.n/\q.n<=8) d.1
noncomputable abbrev IY:aB:=bS BH Ut fun d=>.int .i64 (eB d.2 (Pb d.1))
noncomputable abbrev IZ:aB:=bS BH Ut fun d=>.bool (d.2.any (Pb d.1))
noncomputable abbrev acq:=EV [(63,.pure fcS)] [] 13100 19
theorem amE:af acq [] Tryz.f131 IY:=pb <| by
 rintro⟨q,l⟩ ⟨hl,hq⟩;have hl:l.length<=100000000000000:=hl;dsimp only at hq;simp -dsimp [Tryz.f131,acq];refine ay [9,10,5,11,12,13,14,15,16,17,4,18,8] (fun k:{k:Nat // k<=l.length/\∀j (h:j<l.length),j<k->Pb q l[j]=false}=>[(8,(true,.int .i64 k.1))]) (fun _=>cg) (fun k=>l.length - k.1) ⟨0,by omega,fun _ _ h=>by omega⟩ ?_ (bA.refl _) ?_
 ·simp [aj,aT]
 rintro⟨k,hk,v0⟩;by_cases aH:k<l.length
 ·have v1:(k:Int)<l.length:=by omega
  have wk:=wx k;obtain⟨x,hx,hx'⟩:=gx aH;cases hw:Pb q x
  ·simp -dsimp [v1];repeat' first|omega|simp -dsimp [acq,v1,aH,hl,hx,hx',hw,wk,hq,oC,FQ,Fc.row]|apply aI|apply nI|intro
   refine⟨k+1,ag rfl ?_,bA.refl _,⟨by omega,fun j h hj=>?_⟩,by omega⟩
   ·simp [aj,aT]
   ·by_cases v4:j=k
    ·subst v4;rw [hx'];exact hw
    ·exact v0 j h (by omega)
  ·have hz:=cW l (Pb q) aH (by rw [hx'];exact hw) v0;simp -dsimp [v1];repeat' first|omega|simp -dsimp [acq,v1,aH,hl,hx,hx',hw,wk,hz,hq,oC,FQ,Fc.row]|apply aI|apply nI|intro
 ·have v2:¬ (k:Int)<l.length:=by omega
  have hz:=bP l (Pb q) (fun j h=>v0 j h (by omega));simp -dsimp [v2];repeat' first|omega|simp -dsimp [acq,v2,hz]|apply aI|apply nI|intro
theorem ahP:FO 131 IY:=pf amE (.cons amt .nil)
noncomputable abbrev E69:=EV [(131,.pure IY)] [] 6900 9
theorem b69:af E69 [] Tryz.f69 IZ:=pb <| by rintro⟨q,l⟩ hP;have hz:=cO l (Pb q);have hd:=BI q l;simp -dsimp only [oC]at hd;simp -dsimp [Tryz.f69,E69,oC];repeat' first|omega|simp -dsimp [E69,hP,hd,hz,oC]|apply aI|apply nI|intro
theorem amq:FO 69 IZ:=pf b69 (.cons ahP .nil)
@[simp] def sgE(d:Met × Sg):List V:=[.agg d.2.row,Ur d.1,ake]
theorem ZH(a b:Met × Sg)(h:sgE a=sgE b):a=b:=by obtain⟨a1,a2⟩:=a;obtain⟨b1,b2⟩:=b;simp only [sgE,List.cons.injEq,V.agg.injEq,true_and,and_true]at h;rw [Sg.aq _ _ h.1,FP _ _ h.2]
theorem ZI(m:Met)(f:Sg):aY sgE [.agg f.row,.ip 1 [[.fn 60 [.ip 14 [m.row] 0 0]]] 0 0,.ip 1 [[.fn 62 []]] 0 0]=(m,f):=aA ZH (m,f)
def Pc(m:Met)(f:Sg):Bool:=Sg.bad m.n f
noncomputable abbrev sgS:aB:=bS sgE (fun d=>1<=d.1.n/\d.1.n<=8) fun d=>.bool (Pc d.1 d.2)
theorem aeH(m:Met)(f:Sg):Pc m f=(!bQ f.pl 0 (m.n - 1) || !bQ f.at' 0 2000 || !(ZC f.k).ok):=by rw [aew];unfold Pc Sg.bad;rw [Bool.not_and,Bool.not_and]
noncomputable abbrev E65:=EV [(60,.pure plS),(62,.pure (Wr fun n=>bQ n 0 2000)),(66,.pure aex),(64,.pure skS)] [] 6500 24
theorem b65:af E65 [] Tryz.f65 sgS:=pb <| by
 rintro⟨m,f⟩ ⟨h1,h2⟩;simp only at h1 h2;have e:=aeH m f;have hm:1<=m.n/\m.n<=8:=⟨h1,h2⟩
 generalize g1:bQ f.pl 0 (m.n - 1)=p1 at e;generalize g2:bQ f.at' 0 2000=p2 at e;obtain⟨pl,a,k⟩:=f;simp only at g1 g2 e;generalize g5:(ZC k).ok=p5 at e;obtain⟨k1,k2,k3,k4,k5⟩:=k;simp only [ZC]at g5;simp -dsimp [Tryz.f65,E65,Sg.row];repeat' first|omega|simp -dsimp [E65,Sg.row,Wt.row,ZC,cR.row,Dc,DA,LH,hm,g1,g2,g5,e]|apply aI|apply nI|intro
theorem amn:FO 65 sgS:=pf b65 (.cons ant (.cons ag1 (.cons Hg (.cons amo .nil))))
@[simp] theorem akk(m:Met):m.row.tail.take 8=m.any.row:=rfl
theorem dH(k:cR):aY skE [.agg [.int .i64 k.w.lo,.int .i64 k.w.hi,.int .i64 k.s.lo,.int .i64 k.s.hi,.int .i64 k.c.lo,.int .i64 k.c.hi,.bool k.pE,.bool k.pF]]=k:=aA LG k
@[simp] theorem akl(m:Met):m.row.take 14=m.row:=rfl
theorem FR(m:Met)(f:Sg):aY sgE [.agg [.int .i64 f.pl,.int .i64 f.at',.int .i64 f.k.w,.int .i64 f.k.s,.int .i64 f.k.c,.bool f.k.pE,.bool f.k.pF],.ip 1 [[.fn 60 [.ip 14 [m.row] 0 0]]] 0 0,.ip 1 [[.fn 62 []]] 0 0]=(m,f):=ZI m f
def oD(m:Met):V:=.fn 65 [.ip 1 [[.fn 60 [.ip 14 [m.row] 0 0]]] 0 0,.ip 1 [[.fn 62 []]] 0 0]
theorem Uv(a b:Met)(h:oD a=oD b):a=b:=Met.aq _ _ (by simpa [oD]using h)
@[simp] def BJ(d:Met × List Sg):List V:=[.sl 7 (d.2.map Sg.row),oD d.1]
theorem N4(a b:Met × List Sg)(h:BJ a=BJ b):a=b:=by obtain⟨a1,a2⟩:=a;obtain⟨b1,b2⟩:=b;simp only [BJ,List.cons.injEq,V.sl.injEq,true_and,and_true]at h;rw [aR Sg.aq h.1,Uv _ _ h.2]
theorem BK(q:Met)(l:List Sg):aY BJ [.sl 7 (l.map Sg.row),oD q]=(q,l):=aA N4 (q,l)
structure Uw (d:Met × List Sg):Prop where
 l:d.2.length<=100000000000000
 q:(fun q:Met=>1<=q.n/\q.n<=8) d.1
noncomputable abbrev I2:aB:=bS BJ Uw fun d=>.int .i64 (eB d.2 (Pc d.1))
noncomputable abbrev I3:aB:=bS BJ Uw fun d=>.bool (d.2.any (Pc d.1))
noncomputable abbrev oE:=EV [(65,.pure sgS)] [] 13200 19
theorem apC:af oE [] Tryz.f132 I2:=pb <| by
 rintro⟨q,l⟩ ⟨hl,hq⟩;have hl:l.length<=100000000000000:=hl;dsimp only at hq;simp -dsimp [Tryz.f132,oE];refine ay [9,10,5,11,12,13,14,15,16,17,4,18,8] (fun k:{k:Nat // k<=l.length/\∀j (h:j<l.length),j<k->Pc q l[j]=false}=>[(8,(true,.int .i64 k.1))]) (fun _=>cg) (fun k=>l.length - k.1) ⟨0,by omega,fun _ _ h=>by omega⟩ ?_ (bA.refl _) ?_
 ·simp [aj,aT]
 rintro⟨k,hk,v0⟩;by_cases aH:k<l.length
 ·have v1:(k:Int)<l.length:=by omega
  have wk:=wx k;obtain⟨x,hx,hx'⟩:=gx aH;cases hw:Pc q x
  ·simp -dsimp [v1];repeat' first|omega|simp -dsimp [oE,v1,aH,hl,hx,hx',hw,wk,hq,oD,FR,Sg.row]|apply aI|apply nI|intro
   refine⟨k+1,ag rfl ?_,bA.refl _,⟨by omega,fun j h hj=>?_⟩,by omega⟩
   ·simp [aj,aT]
   ·by_cases v4:j=k
    ·subst v4;rw [hx'];exact hw
    ·exact v0 j h (by omega)
  ·have hz:=cW l (Pc q) aH (by rw [hx'];exact hw) v0;simp -dsimp [v1];repeat' first|omega|simp -dsimp [oE,v1,aH,hl,hx,hx',hw,wk,hz,hq,oD,FR,Sg.row]|apply aI|apply nI|intro
 ·have v2:¬ (k:Int)<l.length:=by omega
  have hz:=bP l (Pc q) (fun j h=>v0 j h (by omega));simp -dsimp [v2];repeat' first|omega|simp -dsimp [oE,v2,hz]|apply aI|apply nI|intro
theorem akD:FO 132 I2:=pf apC (.cons amn .nil)
noncomputable abbrev YW:=EV [(132,.pure I2)] [] 7000 9
theorem b70:af YW [] Tryz.f70 I3:=pb <| by rintro⟨q,l⟩ hP;have hz:=cO l (Pc q);have hd:=BK q l;simp -dsimp only [oD]at hd;simp -dsimp [Tryz.f70,YW,oD];repeat' first|omega|simp -dsimp [YW,hP,hd,hz,oD]|apply aI|apply nI|intro
theorem aop:FO 70 I3:=pf b70 (.cons akD .nil)
structure qQ (m:Met):Prop where
 f:m.fs.length<=100000000000000
 s:m.ss.length<=100000000000000
@[simp] def meE(d:Met):List V:=[.agg d.row]
theorem ZJ(a b:Met)(h:meE a=meE b):a=b:=Met.aq _ _ (by simpa using h)
theorem E4(m:Met):aY meE [.agg m.row]=m:=aA ZJ m
noncomputable abbrev PR:aB:=bS meE qQ fun d=>.int .i64 (uH d)
theorem aeK(m:Met):m.ok=(bQ m.n 1 8 && (m.any.ok && (!([m.w,m.s,m.c].any G0) && (decide (m.fs.length<=40) && (!(m.fs.any (Pb m)) && (decide (m.ss.length<=20) && !(m.ss.any (Pc m)))))))):=by
 have e:([m.w,m.s,m.c].any G0)=!(bQ m.w 0 20000 && bQ m.s 0 20000 && bQ m.c 0 20000):=by simp [G0,Bool.not_and,Bool.or_assoc]
 rw [e,Bool.not_not,Met.ok];simp only [Bool.and_assoc];rfl
noncomputable abbrev E28:=EV [(61,.pure rgS),(64,.pure skS),(68,.pure IX),(69,.pure IZ),(70,.pure I3)] [] 2800 47 [(1,[1,50001])]
theorem b28:af E28 [] Tryz.f28 PR:=pb <| by
 rintro m ⟨hf,hs⟩;have e:=aeK m;have hb:=BG [m.w,m.s,m.c];simp only [List.map,ri]at hb;have PB:=BI m m.fs;simp -dsimp only [oC]at PB;have v5:=BK m m.ss;simp -dsimp only [oD]at v5;have hE:uH m=if m.ok=true then 0 else 40:=rfl;rw [e]at hE;cases h0:bQ m.n 1 8
 ·simp -dsimp only [h0,Bool.false_and]at hE;simp -dsimp [Tryz.f28,E28];repeat' first|omega|simp -dsimp [E28,h0,hE]|apply aI|apply nI|intro
 have hn:1<=m.n/\m.n<=8:=by simpa [bQ]using h0
 have hP:Ut (m,m.fs):=⟨hf,hn⟩
 have GR:Uw (m,m.ss):=⟨hs,hn⟩
 cases h1:m.any.ok
 ·simp -dsimp only [h0,h1,Bool.false_and,Bool.true_and]at hE;simp -dsimp [Tryz.f28,E28];repeat' first|omega|simp -dsimp [E28,h0,h1,dH,oC,oD,cR.row,hE]|apply aI|apply nI|intro
 generalize h2:[m.w,m.s,m.c].any G0=b2 at hE;generalize h4:m.fs.any (Pb m)=b4 at hE;generalize h6:m.ss.any (Pc m)=b6 at hE;cases b2
 case true=>
  simp -dsimp only [h0,h1,Bool.not_true,Bool.false_and,Bool.true_and]at hE;simp -dsimp [Tryz.f28,E28];repeat' first|omega|simp -dsimp [E28,h0,h1,h2,hb,dH,oC,oD,cR.row,hE]|apply aI|apply nI|intro
 by_cases h3:m.fs.length<=40
 case neg=>
  have v3:((40:Int)<m.fs.length)=True:=eq_true (by omega);simp -dsimp only [h0,h1,h3,decide_false,Bool.not_false,Bool.false_and,Bool.true_and]at hE;simp -dsimp [Tryz.f28,E28];repeat' first|omega|simp -dsimp [E28,h0,h1,h2,hb,v3,dH,oC,oD,cR.row,hE]|apply aI|apply nI|intro
 have v3:((40:Int)<m.fs.length)=False:=eq_false (by omega);cases b4
 case true=>
  simp -dsimp only [h0,h1,h3,decide_true,Bool.not_true,Bool.not_false,Bool.false_and,Bool.true_and]at hE;simp -dsimp [Tryz.f28,E28];repeat' first|omega|simp -dsimp [E28,h0,h1,h2,hb,v3,h4,PB,hP,dH,oC,oD,cR.row,hE]|apply aI|apply nI|intro
 by_cases h5:m.ss.length<=20
 case neg=>
  have ZK:((20:Int)<m.ss.length)=True:=eq_true (by omega);simp -dsimp only [h0,h1,h3,h5,decide_true,decide_false,Bool.not_false,Bool.false_and,Bool.true_and]at hE;simp -dsimp [Tryz.f28,E28];repeat' first|omega|simp -dsimp [E28,h0,h1,h2,hb,v3,h4,PB,hP,ZK,dH,oC,oD,cR.row,hE]|apply aI|apply nI|intro
 have ZK:((20:Int)<m.ss.length)=False:=eq_false (by omega);simp -dsimp only [h0,h1,h3,h5,decide_true,Bool.not_false,Bool.true_and]at hE;cases b6
 ·simp -dsimp only [Bool.not_false,if_true]at hE;simp -dsimp [Tryz.f28,E28];repeat' first|omega|simp -dsimp [E28,h0,h1,h2,hb,v3,h4,PB,hP,ZK,h6,v5,GR,dH,oC,oD,cR.row,hE]|apply aI|apply nI|intro
 ·simp -dsimp only [Bool.not_true,Bool.false_eq_true,if_false]at hE;simp -dsimp [Tryz.f28,E28];repeat' first|omega|simp -dsimp [E28,h0,h1,h2,hb,v3,h4,PB,hP,ZK,h6,v5,GR,dH,oC,oD,cR.row,hE]|apply aI|apply nI|intro
theorem AE:FO 28 PR:=pf b28 (.cons W8 (.cons amo (.cons ams (.cons amq (.cons aop .nil)))))
end Go.Sx
end
section
namespace Go.Sx
open Go.Proofs
attribute [local simp] ri aa ints
theorem IV{n:Int}(h0:0<=n)(h1:n<=18446744073709551615):IntKind.wrap .u64 n=n:=by rw [IntKind.wrap_u64];omega
theorem vm:∀n∈List.range 13,r8 .and .u64 ((n:Nat):Int) 4294967295=n/\tB .u64 ((n:Nat):Int) 32=0/\IntKind.wrap .u64 ((n:Nat):Int)=n/\IntKind.wrap .u64 (1 * ((n:Nat):Int))=n:=by decide +kernel
abbrev NW:aB:={dom:=Nat,enc:=fun n=>[.int .u64 1,.int .u64 (n:Int)],dec:=fun l=>(l.getD 1 .top).toInt.toNat,pre:=fun n=>n<=12,res:=fun n=>.dB [.int .u64 0,.int .u64 (n:Int)]}
noncomputable abbrev aeA:=EV [] [] 26600 51
theorem aoX:af aeA [] Tryz.f266 NW:=pb <| by intro n hn;obtain⟨a1,a2,a3,a4⟩:=vm n (List.mem_range.2 (by omega));obtain⟨b1,b2,b3,b4⟩:=vm 1 (by simp);obtain⟨c1,c2,c3,c4⟩:=vm 0 (by simp);simp at b1 b2 b3 b4 c1 c2 c3 c4 a4;simp -dsimp [Tryz.f266,aeA];repeat' first|omega|simp -dsimp [aeA,a1,a2,a3,a4,b1,b2,b3,b4,c1,c2,c3,c4]|apply aI|apply nI|intro
theorem aj7:FO 266 NW:=pf aoX .nil
noncomputable abbrev ay3:=EV [(266,.pure NW)] [] 20800 30
theorem aAn:af ay3 [] Tryz.f208 NW:=pb <| by intro n hn;simp -dsimp [Tryz.f208,ay3];repeat' first|omega|simp -dsimp [ay3,hn]|apply aI|apply nI|intro
theorem azF:FO 208 NW:=pf aAn (.cons aj7 .nil)
def jj(v:Int)(n k:Nat):List Int:=List.replicate k v++List.replicate (n - k) 0
theorem NX(v:Int){n k:Nat}(h:k<=n):(jj v n k).length=n:=by simp [jj];omega
theorem Un(v:Int){n k j:Nat}(h:j<=k):(jj v n k).take j=List.replicate j v:=by unfold jj;rw [List.take_append_of_le_length (by simpa using h),List.take_replicate,Nat.min_eq_left h]
theorem Uo(v:Int){n k j:Nat}(h:k<=j):(jj v n k).drop j=List.replicate (n - j) 0:=by unfold jj;rw [List.drop_append,List.drop_eq_nil_of_le (by simpa using h),List.nil_append,List.drop_replicate,List.length_replicate];congr 1;omega
theorem Up(v:Int){n k m:Nat}(hm:m<=k):(jj v n k).take k++((jj v n k).take k).take m++(jj v n k).drop (k+m)=jj v n (k+m):=by rw [Un v (Nat.le_refl k),Uo v (by omega),List.take_replicate,Nat.min_eq_left hm,List.replicate_append_replicate];rfl
def bR(v:Int)(n k:Nat):dZ:={z:=1,els:=(jj v n k).map ri,ty:=3}
def Lf(args:List V)(h:Hp):Out:=match args with
 | [.sl 1 [[.int .i64 v]],.int .i64 n]=>⟨1<=n/\n<=12,.gY 14630 (hnext h 14630) n.toNat 0 n.toNat n.toNat,bD h 14630 (bR v n.toNat n.toNat)⟩
 | _=>bad h
abbrev adJ:bB:={go:=Lf}
noncomputable abbrev adS:=EV [(208,.pure NW)] [30] 14600 48
theorem aob:ct adS [] Tryz.f146 adJ:=by
 intro args h hc;simp only [Lf]at hc ⊢;split at hc
 case h_2=>exact hc.elim
 rename_i v n;obtain⟨c1,c2⟩:=hc;obtain⟨n,rfl⟩:=Int.eq_ofNat_of_zero_le (show 0<=n by omega);have n1:1<=n:=by omega
 have n2:n<=12:=by omega
 have v7:¬ (n:Int)<0:=by omega
 have wu:IntKind.wrap .u64 (n:Int)=n:=IV (by omega) (by omega);have wu1:IntKind.wrap .u64 1=1:=IV (by omega) (by omega);have w0i:IntKind.wrap .i64 (n:Int)=n:=aK (by omega) (by omega);have wZ:¬ (9223372036854775807:Int)<n:=by omega
 have jW:min 1 n=1:=by omega
 have va:[V.int IntKind.i64 v]::List.replicate (n - 1) [V.int IntKind.i64 0]=(jj v n 1).map ri:=by simp [jj,ri,List.map_replicate]
 have yC:(n:Int) * 8<=140737488355328:=by omega
 have hi:(n:Int)<=9223372036854775807:=by omega
 simp only [Int.toNat_natCast];have aj8:=qI h 14630;have vb:=dI h 14630;simp -dsimp [Tryz.f146,adS,v7,wu,wu1];repeat' first|omega|simp -dsimp [adS,v7,wu,wu1,w0i,wZ,n1,n2,jW,va,aj8,vb,yC,hi]|apply aI|apply nI|intro
 refine ay [34,35,36,37,38,39,40,41,42,43,44,45,46,8] (fun k:{k:Nat // 1<=k/\k<=n}=>[(8,(true,.int .i64 (k.1:Nat)))]) (fun k=>bD h 14630 (bR v n k.1)) (fun k=>n - k.1) ⟨1,by omega,n1⟩ ?_ (bA.refl _) ?_
 ·simp [aj,aT]
 rintro⟨k,k1,k2⟩;simp only;have v8:=dI h 14630 (bR v n k);simp only [bR]at v8;by_cases hk:k<n
 case neg=>
  have v2:¬ (k:Int)<n:=by omega
  have vd:k=n:=by omega
  subst vd;simp -dsimp [v2,bR];repeat' first|omega|simp -dsimp [adS,v2,bR]|apply aI|apply nI|intro
  try exact bA.refl _
 have v2:(k:Int)<n:=by omega
 obtain⟨m,hm⟩:∃m,m=min k (n - k):=⟨_,rfl⟩
 have m1:m<=k:=by omega
 have m2:m<=n - k:=by omega
 have m3:1<=m:=by omega
 have m4:min m k=m:=by omega
 have m5:min m n=m:=by omega
 have v9:=Up v (n:=n) m1;rw [List.take_take,m4]at v9;have aoZ:List.take k (List.map ri (jj v n k))++(List.take m (List.map ri (jj v n k))++List.drop (k+m) (List.map ri (jj v n k)))=List.map ri (jj v n (k+m)):=by rw [<-v9];simp
 have v6:=NX v k2;have vr:¬ jj v n k=[]:=by intro e;rw [e]at v6;simp at v6;omega
 have wk:IntKind.wrap .i64 ((k:Int)+m)=(k+m:Nat):=by rw [aK (by omega) (by omega)];omega
 have kW:¬ k=0:=by omega
 simp -dsimp [v2,bR];repeat' first|omega|simp -dsimp [adS,v2,bR,v8,aj8,<-hm,m4,m5,aoZ,v6,vr,wk,hk,kW,k2]|apply aI|apply nI|intro
 refine⟨k+m,ag rfl ?_,bA.refl _,⟨by omega,by omega⟩,by omega⟩;simp [aj,aT]
theorem abr:dM Tryz.prog 146 (.heap adJ):=yE aob (.cons azF .nil) (fun args h hc=>by simp only [Lf]at hc;split at hc;(simp);(exact hc.elim))
end Go.Sx
end
end
