/- A part of a proof; no conditions. -/
import Derived.Test.YtegiclpanpmkdaaGreatDoorR11
import Derived.Test.YtegiclpanpmkdaaGreatDoorR08
import Derived.Test.YtegiclpanpmkdaaGreatDoorR07
import Derived.Shelf.GgSortFunc.RowK
import Derived.Sort.Grow
import Derived.Shelf.Sort.Plain
import Derived.Shelf.Slices.In.SortNone
set_option linter.all false
set_option maxRecDepth 100000
set_option maxHeartbeats 8000000
noncomputable section
section
namespace Go.Sx
open Go.Proofs
attribute [local simp] ri aa ints
attribute [local irreducible] bA
@[simp] def mmE(d:Met × Mn):List V:=[.agg d.1.row,.agg d.2.row]
theorem K4(a b:Met × Mn)(h:mmE a=mmE b):a=b:=by obtain⟨a1,a2⟩:=a;obtain⟨b1,b2⟩:=b;simp only [mmE,List.cons.injEq,V.agg.injEq,and_true]at h;rw [Met.aq _ _ h.1,Wt.aq _ _ h.2]
theorem xE(m:Met)(l:Mn):aY mmE [.agg m.row,.agg [.int .i64 l.w,.int .i64 l.s,.int .i64 l.c,.bool l.pE,.bool l.pF]]=(m,l):=aA K4 (m,l)
noncomputable abbrev mmS:aB:=bS mmE (fun d=>qQ d.1) fun d=>.int .i64 (uz d.1 d.2)
theorem lN(m:Met):m.ok=true/\uH m=0\/m.ok=false/\uH m=40:=by unfold uH;cases m.ok<;>simp
noncomputable abbrev E94:=EV [(28,.pure PR),(61,.pure rgS)] [] 9400 27
theorem b94:af E94 [] Tryz.f94 mmS:=pb <| by
 rintro⟨m,l⟩ hP;have hP:qQ m:=hP;rcases lN m with⟨h0,h1⟩|⟨h0,h1⟩
 ·have hE:uz m l=if l.ok=true then 0 else 41:=by simp [uz,h0]
  rw [Wt.ok]at hE;generalize g1:bQ l.w 0 300=p1 at hE;generalize g2:bQ l.s 0 20000=p2 at hE;generalize g3:bQ l.c 0 20000=p3 at hE;simp -dsimp [Tryz.f94,E94,Wt.row];repeat' first|omega|simp -dsimp [E94,Wt.row,E4,hP,h1,g1,g2,g3]|apply aI|apply nI|intro
  all_goals (clear g1 g2 g3;cases p1<;>cases p2<;>cases p3<;>simp_all)
 ·have hE:uz m l=40:=by simp [uz,h0]
  simp -dsimp [Tryz.f94,E94,Wt.row];repeat' first|omega|simp -dsimp [E94,Wt.row,E4,hP,h1,hE]|apply aI|apply nI|intro
theorem auL:FO 94 mmS:=pf b94 (.cons AE (.cons W8 .nil))
abbrev O9:aB:={dom:=Int × Int,enc:=fun d=>[.int .i64 d.1,.int .i64 d.2],dec:=fun l=>((l.getD 0 .top).toInt,(l.getD 1 .top).toInt),pre:=fun _=>True,res:=fun d=>.agg [.int .i64 d.1,.int .i64 d.2,.int .i64 d.2]}
noncomputable abbrev E72:=EV [] [] 7200 9
theorem b72:af E72 [] Tryz.f72 O9:=pb <| by rintro⟨a,b⟩ _;simp -dsimp [Tryz.f72,E72]
theorem aqt:FO 72 O9:=pf b72 .nil
@[simp] def caE(d:Met × Int × Int):List V:=[.agg d.1.row,.agg [.int .i64 d.2.1,.int .i64 d.2.2,.int .i64 d.2.2]]
theorem Yk(a b:Met × Int × Int)(h:caE a=caE b):a=b:=by obtain⟨a1,a2,a3⟩:=a;obtain⟨b1,b2,b3⟩:=b;simp only [caE,List.cons.injEq,V.agg.injEq,V.int.injEq,true_and,and_true]at h;rw [Met.aq _ _ h.1,h.2.1,h.2.2.1]
theorem Yl(m:Met)(p t:Int):aY caE [.agg m.row,.agg [.int .i64 p,.int .i64 t,.int .i64 t]]=(m,p,t):=aA Yk (m,p,t)
def pT(m:Met)(p t:Int):Int:=if m.ok=true then (if atB m p t=true then 0 else 1)else 40
noncomputable abbrev caS:aB:=bS caE (fun d=>qQ d.1) fun d=>.int .i64 (pT d.1 d.2.1 d.2.2)
theorem adn{m:Met}(h:m.ok=true):IntKind.wrap .i64 (m.n - 1)=m.n - 1:=by simp only [Met.ok,Bool.and_eq_true,bQ,decide_eq_true_eq]at h;exact aK (by omega) (by omega)
noncomputable abbrev E71:=EV [(28,.pure PR),(61,.pure rgS)] [] 7100 24
theorem b71:af E71 [] Tryz.f71 caS:=pb <| by
 rintro⟨m,p,t⟩ hP;have hP:qQ m:=hP;rcases lN m with⟨h0,h1⟩|⟨h0,h1⟩
 ·have hE:pT m p t=if atB m p t=true then 0 else 1:=by simp [pT,h0]
  rw [atB]at hE;have w:=adn h0;generalize g1:bQ p 0 (m.n - 1)=p1 at hE;generalize g2:bQ t 0 2000=p2 at hE;simp -dsimp [Tryz.f71,E71];repeat' first|omega|simp -dsimp [E71,E4,hP,h1,g1,g2,w]|apply aI|apply nI|intro
  all_goals (clear g1 g2;cases p1<;>cases p2<;>simp_all)
 ·have hE:pT m p t=40:=by simp [pT,h0]
  simp -dsimp [Tryz.f71,E71];repeat' first|omega|simp -dsimp [E71,E4,hP,h1,hE]|apply aI|apply nI|intro
theorem aoq:FO 71 caS:=pf b71 (.cons AE (.cons W8 .nil))
@[simp] def moE(d:Met × Mn × Int × Int):List V:=[.agg d.1.row,.agg d.2.1.row,.int .i64 d.2.2.1,.int .i64 d.2.2.2]
theorem K5(a b:Met × Mn × Int × Int)(h:moE a=moE b):a=b:=by obtain⟨a1,a2,a3,a4⟩:=a;obtain⟨b1,b2,b3,b4⟩:=b;simp only [moE,List.cons.injEq,V.agg.injEq,V.int.injEq,true_and,and_true]at h;rw [Met.aq _ _ h.1,Wt.aq _ _ h.2.1,h.2.2.1,h.2.2.2]
theorem Ks(m:Met)(l:Mn)(p t:Int):aY moE [.agg m.row,.agg [.int .i64 l.w,.int .i64 l.s,.int .i64 l.c,.bool l.pE,.bool l.pF],.int .i64 p,.int .i64 t]=(m,l,p,t):=aA K5 (m,l,p,t)
noncomputable abbrev coS:aB:=bS moE (fun d=>qQ d.1) fun d=>.int .i64 (uS d.1 d.2.1 d.2.2.1 d.2.2.2)
theorem Bv(m:Met)(l:Mn):m.ok=true/\uz m l=0\/uz m l≠0:=by unfold uz;cases m.ok<;>cases l.ok<;>simp
noncomputable abbrev E40:=EV [(94,.pure mmS),(72,.pure O9),(71,.pure caS)] [] 4000 21
theorem b40:af E40 [] Tryz.f40 coS:=pb <| by
 rintro⟨m,l,p,t⟩ hP;have hP:qQ m:=hP;rcases Bv m l with⟨h0,h1⟩|h1
 ·have hE:pT m p t=uS m l p t:=by simp [pT,h0,uS,h1]
  simp -dsimp [Tryz.f40,E40,Wt.row];repeat' first|omega|simp -dsimp [E40,Wt.row,xE,Yl,hP,h1,hE]|apply aI|apply nI|intro
 ·have hE:uS m l p t=uz m l:=by simp [uS,h1]
  simp -dsimp [Tryz.f40,E40,Wt.row];repeat' first|omega|simp -dsimp [E40,Wt.row,xE,hP,h1,hE]|apply aI|apply nI|intro
theorem xO:FO 40 coS:=pf b40 (.cons auL (.cons aqt (.cons aoq .nil)))
def EH(k:cR):Wt:=⟨k.w.hi,k.s.lo,k.c.lo,k.pE,k.pF⟩
noncomputable abbrev wsS:aB:=bS skE (fun _=>True) fun k=>.agg (EH k).row
noncomputable abbrev E96:=EV [] [] 9600 22
theorem b96:af E96 [] Tryz.f96 wsS:=pb <| by rintro⟨⟨a,b⟩,⟨c,d⟩,⟨e,f⟩,x,y⟩ _;simp -dsimp [Tryz.f96,E96,cR.row,EH,Wt.row];repeat' first|omega|simp -dsimp [E96,cR.row,EH,Wt.row]|apply aI|apply nI|intro
theorem auB:FO 96 wsS:=pf b96 .nil
@[simp] def SM(d:Wt × Mn):List V:=[.agg d.1.row,.agg d.2.row]
theorem SN(a b:Wt × Mn)(h:SM a=SM b):a=b:=by obtain⟨a1,a2⟩:=a;obtain⟨b1,b2⟩:=b;simp only [SM,List.cons.injEq,V.agg.injEq,and_true]at h;rw [Wt.aq _ _ h.1,Wt.aq _ _ h.2]
theorem EJ(k l:Wt):aY SM [.agg [.int .i64 k.w,.int .i64 k.s,.int .i64 k.c,.bool k.pE,.bool k.pF],.agg [.int .i64 l.w,.int .i64 l.s,.int .i64 l.c,.bool l.pE,.bool l.pF]]=(k,l):=aA SN (k,l)
def MU(w l:Wt):Bool:=decide (w.w<=l.w) && decide (l.s<=w.s) && decide (l.c<=w.c) && (!w.pE || l.pE) && (!w.pF || l.pF)
noncomputable abbrev MW:aB:=bS SM (fun _=>True) fun d=>.bool (MU d.1 d.2)
noncomputable abbrev E95:=EV [] [] 9500 42
theorem b95:af E95 [] Tryz.f95 MW:=pb <| by
 rintro⟨⟨a,b,c,x,y⟩,⟨d,e,f,u,v⟩⟩ _;have e1:MU ⟨a,b,c,x,y⟩ ⟨d,e,f,u,v⟩=(decide (a<=d) && decide (e<=b) && decide (f<=c) && (!x || u) && (!y || v)):=rfl;by_cases h1:a<=d<;>by_cases h2:e<=b<;>by_cases h3:f<=c<;>cases x<;>cases u
 all_goals
  simp -dsimp only [h1,h2,h3,decide_true,decide_false,Bool.true_and,Bool.false_and,Bool.not_true,Bool.not_false,Bool.true_or,Bool.false_or,Bool.and_true,Bool.and_false]at e1;simp -dsimp [Tryz.f95,E95,Wt.row];repeat' first|omega|simp -dsimp [E95,Wt.row,h1,h2,h3,e1]|apply aI|apply nI|intro
theorem aut:FO 95 MW:=pf b95 .nil
abbrev adq:aB:={dom:=Int,enc:=fun d=>[.int .i64 d],dec:=fun l=>(l.getD 0 .top).toInt,pre:=fun _=>True,res:=fun _=>.bool false}
noncomputable abbrev Uu:=EV [] [] 19000 6
theorem ao8:af Uu [] Tryz.f190 adq:=pb <| by rintro n _;simp -dsimp [Tryz.f190,Uu]
theorem akh:FO 190 adq:=pf ao8 .nil
def SR(a b:Int):Int:=if a<b then -1 else if b<a then 1 else 0
abbrev cmW:aB:={dom:=Int × Int,enc:=fun d=>[.int .i64 d.1,.int .i64 d.2],dec:=fun l=>((l.getD 0 .top).toInt,(l.getD 1 .top).toInt),pre:=fun _=>True,res:=fun d=>.int .i64 (SR d.1 d.2)}
noncomputable abbrev VU:=EV [(190,.pure adq)] [] 13500 20
theorem aqu:af VU [] Tryz.f135 cmW:=pb <| by
 rintro⟨a,b⟩ _;by_cases h1:a<b
 ·have e:SR a b = -1:=by simp [SR,h1]
  simp -dsimp [Tryz.f135,VU];repeat' first|omega|simp -dsimp [VU,h1,e]|apply aI|apply nI|intro
 ·by_cases h2:b<a
  ·have e:SR a b=1:=(by simp [SR,h1,h2]);simp -dsimp [Tryz.f135,VU];repeat' first|omega|simp -dsimp [VU,h1,h2,e]|apply aI|apply nI|intro
  ·have e:SR a b=0:=(by simp [SR,h1,h2]);simp -dsimp [Tryz.f135,VU];repeat' first|omega|simp -dsimp [VU,h1,h2,e]|apply aI|apply nI|intro
theorem aln:FO 135 cmW:=pf aqu (.cons akh .nil)
@[simp] def kcE(d:Nat × Nat × Met):List V:=[.int .i64 d.1,.int .i64 d.2.1,Nv d.2.2]
theorem Ym(a b:Nat × Nat × Met)(h:kcE a=kcE b):a=b:=by obtain⟨a1,a2,a3⟩:=a;obtain⟨b1,b2,b3⟩:=b;simp only [kcE,List.cons.injEq,V.int.injEq,true_and,and_true]at h;rw [zb _ _ h.2.2,Int.ofNat.inj h.1,Int.ofNat.inj h.2.1]
theorem K6(a b:Nat)(m:Met):aY kcE [.int .i64 a,.int .i64 b,.ip 14 [m.row] 0 0]=(a,b,m):=aA Ym (a,b,m)
noncomputable abbrev kfS:aB:=bS kcE (fun d=>d.1<d.2.2.fs.length/\d.2.1<d.2.2.fs.length) fun d=>.int .i64 (SR (lD d.2.2 d.1).aX (lD d.2.2 d.2.1).aX)
noncomputable abbrev kgS:aB:=bS kcE (fun d=>d.1<d.2.2.ss.length/\d.2.1<d.2.2.ss.length) fun d=>.int .i64 (SR (lE d.2.2 d.1).at' (lE d.2.2 d.2.1).at')
noncomputable abbrev PJ:=EV [(135,.pure cmW)] [] 13400 19
theorem amr:af PJ [] Tryz.f134 kfS:=pb <| by
 rintro⟨a,b,m⟩ ⟨ha,hb⟩;simp only at ha hb;have vs:(a:Int)<m.fs.length:=by omega
 have sN:(b:Int)<m.fs.length:=by omega
 obtain⟨x,hx,hx'⟩:=gx ha;obtain⟨y,hy,hy'⟩:=gx hb;have e1:lD m a=x:=by simp [lD,List.getD,hx]
 have e2:lD m b=y:=by simp [lD,List.getD,hy]
 simp -dsimp [Tryz.f134,PJ];repeat' first|omega|simp -dsimp [PJ,ha,hb,vs,sN,hx,hx',hy,hy',e1,e2,Fc.row]|apply aI|apply nI|intro
theorem agY:FO 134 kfS:=pf amr (.cons aln .nil)
noncomputable abbrev af1:=EV [(135,.pure cmW)] [] 13700 19
theorem aqy:af af1 [] Tryz.f137 kgS:=pb <| by
 rintro⟨a,b,m⟩ ⟨ha,hb⟩;simp only at ha hb;have vs:(a:Int)<m.ss.length:=by omega
 have sN:(b:Int)<m.ss.length:=by omega
 obtain⟨x,hx,hx'⟩:=gx ha;obtain⟨y,hy,hy'⟩:=gx hb;have e1:lE m a=x:=by simp [lE,List.getD,hx]
 have e2:lE m b=y:=by simp [lE,List.getD,hy]
 simp -dsimp [Tryz.f137,af1];repeat' first|omega|simp -dsimp [af1,ha,hb,vs,sN,hx,hx',hy,hy',e1,e2,Sg.row]|apply aI|apply nI|intro
theorem alq:FO 137 kgS:=pf aqy (.cons aln .nil)
inductive lX where
 | fc (m:Met)
 | sg (m:Met)
instance:Inhabited lX:=⟨.fc default⟩
def lX.v:lX->V
 | .fc m=>.fn 134 [.ip 14 [m.row] 0 0]
 | .sg m=>.fn 137 [.ip 14 [m.row] 0 0]
def lX.key:lX->Nat->Int
 | .fc m,i=>(lD m i).aX
 | .sg m,i=>(lE m i).at'
def lX.n:lX->Nat
 | .fc m=>m.fs.length
 | .sg m=>m.ss.length
theorem lX.qZ(a b:lX)(h:a.v=b.v):a=b:=by
 cases a<;>cases b<;>simp only [lX.v,V.fn.injEq,List.cons.injEq,V.ip.injEq,true_and,and_true]at h
 ·rw [Met.aq _ _ h]
 ·exact absurd h.1 (by decide)
 ·exact absurd h.1 (by decide)
 ·rw [Met.aq _ _ h]
def nR(k:Nat):List V:=[.int .i64 (k:Int)]
theorem adu(a b:Nat)(h:nR a=nR b):a=b:=Int.ofNat.inj (by simpa [nR]using h)
def dP(L:List Nat):dZ:={z:=1,els:=L.map nR,ty:=3}
theorem Yn{a b:List Nat}(h:dP a=dP b):a=b:=by simp only [dP,dZ.mk.injEq,and_true,true_and]at h;exact aR adu h
structure Yo where
 s:Nat
 i:Nat
 L:List Nat
 c:lX
structure Wj (d:Yo):Prop where
 l:d.L.length<20
 b:∀x∈d.L,x<d.c.n
theorem Yo.inj{d d':Yo}{h:Hp}(hs:d.s=d'.s)(hi:d.i=d'.i)(hc:d.c=d'.c)(h1:aL h d.s d.i=some (dP d.L))(h2:aL h d'.s d'.i=some (dP d'.L)):d=d':=by obtain⟨s,i,L,c⟩:=d;obtain⟨s',i',L',c'⟩:=d';simp only at *;subst hs hi hc;rw [h1]at h2;rw [Yn (Option.some.inj h2)]
@[simp] def adv(d:Yo):List V:=[.bw d.s d.i d.L.length,.int .i64 0,.int .i64 d.L.length,d.c.v]
noncomputable abbrev Yp:bB:=Wu adv (fun d h=>aL h d.s d.i=some (dP d.L)) Wj (fun _=>.dB []) (fun d h=>bE h d.s d.i (dP (fT d.c.key d.L)))
theorem adw{s i:Nat}{L:List Nat}{c:lX}{h:Hp}(hB:aL h s i=some (dP L)):Yp.go [.bw s i L.length,.int .i64 0,.int .i64 L.length,c.v] h=⟨Wj ⟨s,i,L,c⟩,.dB [],bE h s i (dP (fT c.key L))⟩:=
 ze (enc:=adv) (HP:=fun d h=>aL h d.s d.i=some (dP d.L)) (fun d d' h e h1 h2=>by simp only [adv,List.cons.injEq,V.bw.injEq,and_true,true_and]at e;exact Yo.inj e.1.1 e.1.2.1 (lX.qZ _ _ e.2.2) h1 h2) (d:=⟨s,i,L,c⟩) hB
structure InJ (c:lX) (T:List Nat) (n b:Nat) where
 M:List Nat
 j:Nat
 t:sink c.key M j=T
 l:M.length=n
 hj:j<=b
 hb:∀x∈M,x<c.n
theorem Fp(key:Nat->Int)(L:List Nat):fT key (L.take 1)++L.drop 1=L:=by
 cases L with
 | nil=>rfl
 | cons x l=>rfl
theorem iQ{M:List Nat}{k:Nat}(h:k<M.length):M.getD k 0∈M:=by rw [List.getD_eq_getElem?_getD,List.getElem?_eq_getElem h];exact List.getElem_mem _
theorem zf{M:List Nat}{i j x:Nat}(hi:i<M.length)(hj:j<M.length)(h:x∈(M.set i (M.getD j 0)).set j (M.getD i 0)):x∈M:=by
 rcases List.mem_or_eq_of_mem_set h with h|rfl
 ·rcases List.mem_or_eq_of_mem_set h with h|rfl
  ·exact h
  ·exact iQ hj
 ·exact iQ hi
theorem Yq(a b:Int):(SR a b<0)=(a<b):=by
 unfold SR;split
 ·simp [*]
 ·split<;>simp<;>omega
theorem Nw{h:Hp}{s i:Nat}{B:dZ}(hB:aL h s i=some B):bE h s i B=h:=by
 funext k;unfold bE;unfold aL at hB;split at hB
 ·cases hB
 ·by_cases e:k=s
  ·subst e;rw [if_pos rfl];have:(h k).ah.set (i - (h k).base) B=(h k).ah:=by
    refine List.ext_getElem? fun j=>?_;rw [List.getElem?_set];split
    ·rename_i e2;subst e2;rw [hB];split
     ·rfl
     ·rename_i g;rw [List.getElem?_eq_none (by omega)]at hB;cases hB
    ·rfl
   rw [this]
  ·rw [if_neg e]
noncomputable abbrev Te:=EV [(134,.pure kfS),(137,.pure kgS)] [] 24600 53
theorem anX:ct Te [] Tryz.f246 Yp:=by
 intro args h hc;obtain⟨⟨s,i0,L,c⟩,rfl,hB,⟨hL,hb⟩,fV⟩:=jM hc;rw [fV];clear fV hc;simp only at hB hL hb;have hg:=fun B=>gH (B':=B) hB;simp -dsimp [Tryz.f246,Te];refine ay [12,13,14,17,9,18,19,20,21,22,23,24,25,26,27,28,29,30,31,32,33,34,37,38,39,40,41,42,43,44,45,46,47,48,49,50,51,52,35,36,15,16,8] (fun i:{i:Nat // 1<=i/\(i<=L.length\/i=1)}=>[(8,(true,.int .i64 i.1))]) (fun i=>bE h s i0 (dP (fT c.key (L.take i.1)++L.drop i.1))) (fun i=>L.length - i.1) ⟨1,by omega,.inr rfl⟩ ?_ ?_ ?_
 ·simp [aj,aT,aK]
 ·rw [Fp,Nw hB];exact bA.refl _
 rintro⟨i,zY,zd⟩;dsimp only;by_cases hi:i<L.length
 case neg=>
  have v8:¬ (i:Int)<L.length:=by omega
  have K7:fT c.key (L.take i)++L.drop i=fT c.key L:=by
   rcases zd with e|e
   ·rw [List.take_of_length_le (by omega),List.drop_of_length_le (by omega),List.append_nil]
   ·subst e;rw [Fp];cases L with
    | nil=>rfl
    | cons x l=>cases l with
     | nil=>rfl
     | cons y l=>simp at hi
  rw [K7];simp -dsimp [v8];repeat' first|omega|simp -dsimp [Te,v8,bU]|apply aI|apply nI|intro
 have v6:(i:Int)<L.length:=by omega
 have w0i:=wx i;have hstep:=Nz c.key L hi;have hlen:(fT c.key (L.take i)++L.drop i).length=L.length:=by simp [jV];omega
 have zo:∀x∈fT c.key (L.take i)++L.drop i,x<c.n:=fun x hx=>by
  rcases List.mem_append.1 hx with hx|hx
  ·exact hb x (List.mem_of_mem_take (mQ.1 hx))
  ·exact hb x (List.mem_of_mem_drop hx)
 generalize fT c.key (L.take i)++L.drop i=M0 at *;generalize hT:fT c.key (L.take (i+1))++L.drop (i+1)=T at *;simp -dsimp [v6];refine ay [18,19,20,21,22,23,24,25,26,27,28,29,30,31,32,33,34,37,38,39,40,41,42,43,44,45,46,47,48,49,50,51,52,35,36,9] (fun q:InJ c T L.length i=>[(9,(true,.int .i64 q.j))]) (fun q=>bE h s i0 (dP q.M)) (fun q=>q.j) ⟨M0,i,hstep,hlen,Nat.le_refl i,zo⟩ ?_ (bA.refl _) ?_
 ·simp [aj,aT]
 rintro⟨M,j,ht,hl,hj,SS⟩;dsimp only;cases j with
 | zero=>
  have e:M=T:=ht;subst e;simp -dsimp [v6];repeat' first|omega|simp -dsimp [Te,v6,w0i,lX.v]|apply aI|apply nI|intro
  refine⟨i+1,cq (aN rfl (br rfl (aN rfl bO))) ?_,by rw [hT];exact bA.refl _,⟨by omega,.inl (by omega)⟩,by omega⟩;simp [aj,aT]
 | succ k=>
  have aH:k+1<M.length:=by omega
  have kW:k<M.length:=by omega
  have z1:((k:Int)+1)<L.length:=by omega
  have Fq:(k:Int)<L.length:=by omega
  obtain⟨x,hx⟩:∃x,M[k+1]?=some x:=⟨_,List.getElem?_eq_getElem aH⟩
  obtain⟨y,hy⟩:∃x,M[k]?=some x:=⟨_,List.getElem?_eq_getElem kW⟩
  have O5:M.getD (k+1) 0=x:=by simp [List.getD,hx]
  have vx:M.getD k 0=y:=by simp [List.getD,hy]
  have SU:x<c.n:=O5 ▸ SS _ (iQ aH);have OX:y<c.n:=vx ▸ SS _ (iQ kW);have wk:IntKind.wrap .i64 (k:Int)=(k:Nat):=aK (by omega) (by omega);have hM':∀z∈(M.set (k+1) y).set k x,z<c.n:=fun z hz=>SS z (zf aH kW (by rw [O5,vx];exact hz));have z2:sink c.key M (k+1)=if c.key x<c.key y then sink c.key ((M.set (k+1) y).set k x) k else M:=by rw [sink,O5,vx]
  have v7:=Yq (c.key x) (c.key y);by_cases v2:c.key x<c.key y
  ·rw [z2,if_pos v2]at ht;have va:(c.key x<c.key y)=True:=eq_true v2;rw [va]at v7;cases c
   all_goals
    simp only [lX.key,lX.n]at v7 SU OX;simp -dsimp [v6];repeat' first|omega|simp -dsimp [Te,v6,z1,Fq,aH,kW,hx,hy,hg,wk,hl,lX.v,dP,nR,K6,SU,OX,v7,Bw,bU]|apply aI|apply nI|intro
    refine⟨⟨(M.set (k+1) y).set k x,k,ht,by simp [hl],by omega,hM'⟩,ag rfl ?_,?_,by simp only;omega⟩
    ·simp [aj,aT]
    ·simp [dP,nR,bU]
  ·rw [z2,if_neg v2]at ht;subst ht;have va:(c.key x<c.key y)=False:=eq_false v2;rw [va]at v7;cases c
   all_goals
    simp only [lX.key,lX.n]at v7 SU OX;simp -dsimp [v6];repeat' first|omega|simp -dsimp [Te,v6,z1,Fq,aH,kW,hx,hy,hg,wk,w0i,hl,lX.v,dP,nR,K6,SU,OX,v7,Bw,bU]|apply aI|apply nI|intro
    refine⟨i+1,cq (aN rfl (br rfl (aN rfl bO))) ?_,by have e:=congrArg (List.map nR) hT;rw [List.map_append,List.map_drop]at e;rw [e];exact bA.refl _,⟨by omega,.inl (by omega)⟩,by omega⟩;simp [aj,aT]
theorem ajb:dM Tryz.prog 246 (.heap Yp):=yE anX (.cons agY (.cons alq .nil)) (fun args h hc=>by obtain⟨d,rfl,_⟩:=jM hc;simp)
@[simp] def stW(d:Yo):List V:=[.bw d.s d.i d.L.length,.int .i64 d.L.length,d.c.v]
noncomputable abbrev stS:bB:=Wu stW (fun d h=>aL h d.s d.i=some (dP d.L)) Wj (fun _=>.dB []) (fun d h=>bE h d.s d.i (dP (fT d.c.key d.L)))
theorem ai5{s i:Nat}{L:List Nat}{c:lX}{h:Hp}(hB:aL h s i=some (dP L)):stS.go [.bw s i L.length,.int .i64 L.length,c.v] h=⟨Wj ⟨s,i,L,c⟩,.dB [],bE h s i (dP (fT c.key L))⟩:=
 ze (enc:=stW) (HP:=fun d h=>aL h d.s d.i=some (dP d.L)) (fun d d' h e h1 h2=>by simp only [stW,List.cons.injEq,V.bw.injEq,and_true,true_and]at e;exact Yo.inj e.1.1 e.1.2.1 (lX.qZ _ _ e.2.2) h1 h2) (d:=⟨s,i,L,c⟩) hB
noncomputable abbrev aj3:=EV [(246,.heap Yp)] [] 18900 63
theorem aoU:ct aj3 [] Tryz.f189 stS:=by
 intro args h hc;obtain⟨⟨s,i0,L,c⟩,rfl,hB,hP,fV⟩:=jM hc;rw [fV];clear fV hc;have hL:L.length<20:=hP.l;simp only at hB;have fV:=adw (c:=c) hB;have vy:((20:Int)<=L.length)=False:=eq_false (by omega);have adx:((20:Int)<L.length)=False:=eq_false (by omega);generalize vP:c.v=cv at *;simp -dsimp [Tryz.f189,aj3,vP];refine ay [] (fun _:Unit=>[]) (fun _=>h) (fun _=>0) () ?_ (bA.refl _) ?_
 ·simp [aj,aT]
 rintro⟨⟩;simp -dsimp [vy];repeat' first|omega|simp -dsimp [aj3,vy,adx,fV,hP,bU]|apply aI|apply nI|intro
 refine ay [] (fun _:Unit=>[]) (fun _=>bE h s i0 (dP (fT c.key L))) (fun _=>0) () ?_ (bA.refl _) ?_
 ·simp [aj,aT]
 rintro⟨⟩;simp -dsimp [adx];repeat' first|omega|simp -dsimp [aj3,vy,adx,fV,hP,bU]|apply aI|apply nI|intro
theorem aj4:dM Tryz.prog 189 (.heap stS):=yE aoU (.cons ajb .nil) (fun args h hc=>by obtain⟨d,rfl,_⟩:=jM hc;simp)
@[simp] def s2E(d:Yo):List V:=[.bw d.s d.i d.L.length,d.c.v]
noncomputable abbrev s2S:bB:=Wu s2E (fun d h=>aL h d.s d.i=some (dP d.L)) Wj (fun _=>.dB []) (fun d h=>bE h d.s d.i (dP (fT d.c.key d.L)))
theorem abg{s i:Nat}{L:List Nat}{c:lX}{h:Hp}(hB:aL h s i=some (dP L)):s2S.go [.bw s i L.length,c.v] h=⟨Wj ⟨s,i,L,c⟩,.dB [],bE h s i (dP (fT c.key L))⟩:=
 ze (enc:=s2E) (HP:=fun d h=>aL h d.s d.i=some (dP d.L)) (fun d d' h e h1 h2=>by simp only [s2E,List.cons.injEq,V.bw.injEq,and_true,true_and]at e;exact Yo.inj e.1.1 e.1.2.1 (lX.qZ _ _ e.2) h1 h2) (d:=⟨s,i,L,c⟩) hB
noncomputable abbrev lu:=EV [(189,.heap stS)] [] 13300 9
theorem He:ct lu [] Tryz.f133 s2S:=by intro args h hc;obtain⟨⟨s,i0,L,c⟩,rfl,hB,hP,fV⟩:=jM hc;rw [fV];clear fV hc;simp only at hB;have fV:=ai5 (c:=c) hB;generalize vP:c.v=cv at *;simp -dsimp [Tryz.f133,lu,vP];repeat' first|omega|simp -dsimp [lu,fV,hP,bU]|apply aI|apply nI|intro
theorem ya:dM Tryz.prog 133 (.heap s2S):=yE He (.cons aj4 .nil) (fun args h hc=>by obtain⟨d,rfl,_⟩:=jM hc;simp)
def zg(a b:Sp):Sp × Int:=if (jE a || jE b)=true then (⟨0,0⟩,10)else if min a.hi b.hi<max a.lo b.lo then (⟨0,0⟩,3)else (⟨max a.lo b.lo,min a.hi b.hi⟩,0)
theorem tI(a b:Sp):eM a b=if (zg a b).2=0 then ((zg a b).1,false)else (b,true):=by
 unfold eM zg;split
 ·simp
 ·split<;>simp
@[simp] def Ir(d:Sp × Sp):List V:=[.agg d.1.row,.agg d.2.row]
theorem SV(a b:Sp × Sp)(h:Ir a=Ir b):a=b:=by obtain⟨a1,a2⟩:=a;obtain⟨b1,b2⟩:=b;simp only [Ir,List.cons.injEq,V.agg.injEq,and_true]at h;rw [Sp.aq _ _ h.1,Sp.aq _ _ h.2]
theorem Gp(a b c d:Int):aY Ir [.agg [.int .i64 a,.int .i64 b],.agg [.int .i64 c,.int .i64 d]]=(⟨a,b⟩,⟨c,d⟩):=aA SV (⟨a,b⟩,⟨c,d⟩)
noncomputable abbrev NA:aB:=bS Ir (fun _=>True) fun d=>.dB [.agg (zg d.1 d.2).1.row,.int .i64 (zg d.1 d.2).2]
theorem u6(a b c d:Int):aY Ys [.sl 2 [[.int .i64 a,.int .i64 b],[.int .i64 c,.int .i64 d]]]=[⟨a,b⟩,⟨c,d⟩]:=aA xF [⟨a,b⟩,⟨c,d⟩]
theorem SX(p:Sp):wQ p=jE p:=SY p
theorem K8(a b:Int):(if a<b then b else a)=max a b:=by split<;>omega
theorem K9(a b:Int):(if b<a then b else a)=min a b:=by split<;>omega
noncomputable abbrev avF:=EV [(183,.pure SZ)] [] 24800 34
theorem aAo:af avF [] Tryz.f248 NA:=pb <| by
 rintro⟨⟨a,b⟩,⟨c,d⟩⟩ _;have hE:zg ⟨a,b⟩ ⟨c,d⟩=if (jE ⟨a,b⟩ || jE ⟨c,d⟩)=true then (⟨0,0⟩,10)else if min b d<max a c then (⟨0,0⟩,3)else (⟨max a c,min b d⟩,0):=rfl;have e1:=SX ⟨a,b⟩;have e2:=SX ⟨c,d⟩;generalize jE ⟨a,b⟩=p at *;generalize jE ⟨c,d⟩=q at *;generalize hM:max a c=x at *;generalize hN:min b d=y at *;have g1:=K8 a c;have g2:=K9 b d;rw [hM]at g1;rw [hN]at g2;have key:(p=false/\q=false)\/(p || q)=true:=by cases p<;>cases q<;>simp
 rcases key with⟨rfl,rfl⟩|z6
 ·rw [if_neg (by simp)]at hE;by_cases vr:y<x
  ·rw [if_pos vr]at hE;simp -dsimp [Tryz.f248,avF,Sp.row];repeat' first|omega|simp -dsimp [avF,Sp.row,u6,e1,e2,g1,g2,vr,hE]|apply aI|apply nI|intro
  ·rw [if_neg vr]at hE;simp -dsimp [Tryz.f248,avF,Sp.row];repeat' first|omega|simp -dsimp [avF,Sp.row,u6,e1,e2,g1,g2,vr,hE]|apply aI|apply nI|intro
 ·rw [z6,if_pos rfl]at hE;have adz:(p=true\/q=true)=True:=eq_true (by simpa using z6);simp -dsimp [Tryz.f248,avF,Sp.row];repeat' first|omega|simp -dsimp [avF,Sp.row,u6,e1,e2,adz,hE]|apply aI|apply nI|intro
theorem azG:FO 248 NA:=pf aAo (.cons alh .nil)
abbrev MT:aB:={dom:=Int × Int × Int,enc:=fun d=>[.int .i64 d.1,.int .i64 d.2.1,.int .i64 d.2.2],dec:=fun l=>((l.getD 0 .top).toInt,(l.getD 1 .top).toInt,(l.getD 2 .top).toInt),pre:=fun d=>(0<=d.1/\d.1<=d.2.2)/\(0<=d.2.1/\d.2.1<=1000000000000)/\d.2.2<=1000000,res:=fun d=>.agg (Kq d.1 d.2.1 d.2.2).row}
noncomputable abbrev ay5:=EV [] [] 13800 20
theorem aAp:af ay5 [] Tryz.f138 MT:=pb <| by
 rintro⟨n,b,m⟩ ⟨h1,h2,h3⟩;simp only at h1 h2 h3;have w1:=wi (n - b);have w2:=wi (n+b);have e1:(if (m:Int)<(if (0:Int) > n - b then 0 else n - b)then m else (if (0:Int) > n - b then 0 else n - b))=max 0 (n - b):=by split<;>split<;>omega
 simp -dsimp [Tryz.f138,ay5,Kq,Sp.row];repeat' first|omega|simp -dsimp [ay5,w1,w2,Kq,Sp.row]|apply aI|apply nI|intro
 all_goals (repeat' split)<;>omega
theorem aza:FO 138 MT:=pf aAp .nil
def kU(k:cR):Site:={base:=0,ah:=[{z:=8,els:=[k.row],ty:=147}]}
theorem Yt{a b:cR}(h:kU a=kU b):a=b:=by simp only [kU,Site.mk.injEq,List.cons.injEq,dZ.mk.injEq,and_true,true_and]at h;exact cR.aq _ _ h
open Classical in
noncomputable def nF(S:Site):cR:=if x:∃k,S=kU k then x.choose else default
theorem xl(k:cR):nF (kU k)=k:=by
 have x:∃k',kU k=kU k':=⟨k,rfl⟩
 unfold nF;rw [dif_pos x];exact(Yt x.choose_spec).symm
def AF(k:cR)(j:Nat)(b:Sp):cR × Bool:=if j=0 then (⟨(eM k.w b).1,k.s,k.c,k.pE,k.pF⟩,(eM k.w b).2)else if j=2 then (⟨k.w,(eM k.s b).1,k.c,k.pE,k.pF⟩,(eM k.s b).2)else (⟨k.w,k.s,(eM k.c b).1,k.pE,k.pF⟩,(eM k.c b).2)
structure CuP (s i n e j:Nat) (h:Hp):Prop where
 a:s=7306/\i=0/\n=1/\e=0/\(j=0\/j=2\/j=4)
 k:h 7306=kU (nF (h 7306))
 b:Blank [19103,19105] h
def bm(h:Hp)(k n:Nat):Nat × Site:=(k,{base:=(h k).base+n,ah:=[]})
noncomputable def Bx:bB where
 go args h:=match args with
  | [.bG s i n e j,.agg [.int .i64 lo,.int .i64 hi]]=>⟨CuP s i n e j h,.bool (AF (nF (h 7306)) j ⟨lo,hi⟩).2,hps [(7306,kU (AF (nF (h 7306)) j ⟨lo,hi⟩).1),bm h 19103 1,bm h 19105 1] h⟩
  | _=>bad h
theorem S0(s i n e j:Nat)(lo hi:Int)(h:Hp):Bx.go [.bG s i n e j,.agg [.int .i64 lo,.int .i64 hi]] h=⟨CuP s i n e j h,.bool (AF (nF (h 7306)) j ⟨lo,hi⟩).2,hps [(7306,kU (AF (nF (h 7306)) j ⟨lo,hi⟩).1),bm h 19103 1,bm h 19105 1] h⟩:=rfl
theorem La{args:List V}{h:Hp}(hc:(Bx.go args h).c):∃j lo hi,args=[.bG 7306 0 1 0 j,.agg [.int .i64 lo,.int .i64 hi]]/\CuP 7306 0 1 0 j h:=by
 unfold Bx at hc;simp only at hc;split at hc
 ·obtain⟨⟨rfl,rfl,rfl,rfl,hj⟩,hk,hb⟩:=hc;exact⟨_,_,_,rfl,⟨rfl,rfl,rfl,rfl,hj⟩,hk,hb⟩
 ·exact hc.elim
noncomputable abbrev Ux:=EV [(248,.pure NA)] [] 19100 23
theorem apb:ct Ux [(1,([4,2002,2003],[[0,1,2,3,4,5,6,7,8,9,10]]))] Tryz.f191 Bx:=by
 intro args h hc;obtain⟨j,lo,hi,rfl,⟨_,_,_,_,hj⟩,hk,hb⟩:=La hc;rw [S0];generalize hK:nF (h 7306)=k at *;have h1:=hb 19103 (by simp);have h2:=hb 19105 (by simp);have hH:h=hps [(7306,kU k),(19103,{base:=(h 19103).base,ah:=[]}),(19105,{base:=(h 19105).base,ah:=[]})] h:=by
  refine(gJ fun q hq=>?_).symm;simp only [List.map_cons,List.map_nil,List.mem_cons,List.not_mem_nil,or_false]at hq;rcases hq with rfl|rfl|rfl
  ·exact hk
  ·exact h1
  ·exact h2
 rw [hH];generalize (h 19103).base=b1 at *;generalize (h 19105).base=b2 at *;generalize h=h0 at *;clear hH hb hk h1 h2 hK hc;obtain⟨⟨w1,w2⟩,⟨s1,s2⟩,⟨c1,c2⟩,x,y⟩:=k;rcases hj with rfl|rfl|rfl
 ·have e:=tI ⟨w1,w2⟩ ⟨lo,hi⟩;have eJ:AF ⟨⟨w1,w2⟩,⟨s1,s2⟩,⟨c1,c2⟩,x,y⟩ 0 ⟨lo,hi⟩=(⟨(eM ⟨w1,w2⟩ ⟨lo,hi⟩).1,⟨s1,s2⟩,⟨c1,c2⟩,x,y⟩,(eM ⟨w1,w2⟩ ⟨lo,hi⟩).2):=rfl;rw [eJ,e];by_cases he:(zg ⟨w1,w2⟩ ⟨lo,hi⟩).2=0
  ·simp -dsimp [Tryz.f191,Ux,kU,bm,cR.row,Sp.row,cQ,aS,he];repeat' first|omega|simp -dsimp [Ux,kU,bm,cR.row,Sp.row,cQ,aS,Gp,he]|apply aI|apply nI|intro
   simp -dsimp only [aG,List.cons_append,List.nil_append];exact(by(try simp -dsimp only [hpx]);refine bK ?_;simp -dsimp [aC]<;>exact rz)
  ·simp -dsimp [Tryz.f191,Ux,kU,bm,cR.row,Sp.row,cQ,aS,he];repeat' first|omega|simp -dsimp [Ux,kU,bm,cR.row,Sp.row,cQ,aS,Gp,he]|apply aI|apply nI|intro
   simp -dsimp only [aG,List.cons_append,List.nil_append];exact(by(try simp -dsimp only [hpx]);refine bK ?_;simp -dsimp [aC]<;>exact rz)
 ·have e:=tI ⟨s1,s2⟩ ⟨lo,hi⟩;have eJ:AF ⟨⟨w1,w2⟩,⟨s1,s2⟩,⟨c1,c2⟩,x,y⟩ 2 ⟨lo,hi⟩=(⟨⟨w1,w2⟩,(eM ⟨s1,s2⟩ ⟨lo,hi⟩).1,⟨c1,c2⟩,x,y⟩,(eM ⟨s1,s2⟩ ⟨lo,hi⟩).2):=rfl;rw [eJ,e];by_cases he:(zg ⟨s1,s2⟩ ⟨lo,hi⟩).2=0
  ·simp -dsimp [Tryz.f191,Ux,kU,bm,cR.row,Sp.row,cQ,aS,he];repeat' first|omega|simp -dsimp [Ux,kU,bm,cR.row,Sp.row,cQ,aS,Gp,he]|apply aI|apply nI|intro
   simp -dsimp only [aG,List.cons_append,List.nil_append];exact(by(try simp -dsimp only [hpx]);refine bK ?_;simp -dsimp [aC]<;>exact rz)
  ·simp -dsimp [Tryz.f191,Ux,kU,bm,cR.row,Sp.row,cQ,aS,he];repeat' first|omega|simp -dsimp [Ux,kU,bm,cR.row,Sp.row,cQ,aS,Gp,he]|apply aI|apply nI|intro
   simp -dsimp only [aG,List.cons_append,List.nil_append];exact(by(try simp -dsimp only [hpx]);refine bK ?_;simp -dsimp [aC]<;>exact rz)
 ·have e:=tI ⟨c1,c2⟩ ⟨lo,hi⟩;have eJ:AF ⟨⟨w1,w2⟩,⟨s1,s2⟩,⟨c1,c2⟩,x,y⟩ 4 ⟨lo,hi⟩=(⟨⟨w1,w2⟩,⟨s1,s2⟩,(eM ⟨c1,c2⟩ ⟨lo,hi⟩).1,x,y⟩,(eM ⟨c1,c2⟩ ⟨lo,hi⟩).2):=rfl;rw [eJ,e];by_cases he:(zg ⟨c1,c2⟩ ⟨lo,hi⟩).2=0
  ·simp -dsimp [Tryz.f191,Ux,kU,bm,cR.row,Sp.row,cQ,aS,he];repeat' first|omega|simp -dsimp [Ux,kU,bm,cR.row,Sp.row,cQ,aS,Gp,he]|apply aI|apply nI|intro
   simp -dsimp only [aG,List.cons_append,List.nil_append];exact(by(try simp -dsimp only [hpx]);refine bK ?_;simp -dsimp [aC]<;>exact rz)
  ·simp -dsimp [Tryz.f191,Ux,kU,bm,cR.row,Sp.row,cQ,aS,he];repeat' first|omega|simp -dsimp [Ux,kU,bm,cR.row,Sp.row,cQ,aS,Gp,he]|apply aI|apply nI|intro
   simp -dsimp only [aG,List.cons_append,List.nil_append];exact(by(try simp -dsimp only [hpx]);refine bK ?_;simp -dsimp [aC]<;>exact rz)
theorem akm:dM Tryz.prog 191 (.heap Bx):=yE apb (.cons azG .nil) (fun args h hc=>by obtain⟨j,lo,hi,rfl,_⟩:=La hc;simp)
structure C3P (s i n e j:Nat) (h:Hp):Prop where
 a:s=7306/\i=0/\n=1/\e=0/\j=0
 k:h 7306=kU (nF (h 7306))
 b:Blank [19103,19105,13603] h
noncomputable def Bf:bB where
 go args h:=match args with
  | [.bG s i n e j,.agg [.int .i64 a,.int .i64 b,.int .i64 c,.int .i64 d,.int .i64 u,.int .i64 v,.bool x,.bool y]]=>⟨C3P s i n e j h,.bool (pz (nF (h 7306)) ⟨⟨a,b⟩,⟨c,d⟩,⟨u,v⟩,x,y⟩).2,
    hps [(7306,kU {(pz (nF (h 7306)) ⟨⟨a,b⟩,⟨c,d⟩,⟨u,v⟩,x,y⟩).1 with pE:=(nF (h 7306)).pE,pF:=(nF (h 7306)).pF}),bm h 19103 3,bm h 19105 3,bm h 13603 1] h⟩
  | _=>bad h
theorem tq(s i n e j : Nat)(a b c d u v : Int)(x y : Bool)(h : Hp) : Bf.go [.bG s i n e j, .agg [.int .i64 a, .int .i64 b, .int .i64 c, .int .i64 d, .int .i64 u, .int .i64 v, .bool x, .bool y]] h = ⟨C3P s i n e j h, .bool (pz (nF (h 7306)) ⟨⟨a, b⟩, ⟨c, d⟩, ⟨u, v⟩, x, y⟩).2,
        hps [(7306,kU {(pz (nF (h 7306)) ⟨⟨a,b⟩,⟨c,d⟩,⟨u,v⟩,x,y⟩).1 with pE:=(nF (h 7306)).pE,pF:=(nF (h 7306)).pF}),bm h 19103 3,bm h 19105 3,bm h 13603 1] h⟩:=rfl
theorem Fs{args:List V}{h:Hp}(hc:(Bf.go args h).c):∃a b c d u v x y,args=[.bG 7306 0 1 0 0,.agg [.int .i64 a,.int .i64 b,.int .i64 c,.int .i64 d,.int .i64 u,.int .i64 v,.bool x,.bool y]]/\C3P 7306 0 1 0 0 h:=by
 unfold Bf at hc;simp only at hc;split at hc
 ·obtain⟨⟨rfl,rfl,rfl,rfl,rfl⟩,hk,hb⟩:=hc;exact⟨_,_,_,_,_,_,_,_,rfl,⟨rfl,rfl,rfl,rfl,rfl⟩,hk,hb⟩
 ·exact hc.elim
theorem It{s i n e j:Nat}{h:Hp}{k:cR}{b1 b2:Nat}(ha:s=7306/\i=0/\n=1/\e=0/\(j=0\/j=2\/j=4))(h0:h 7306=kU k)(h1:h 19103={base:=b1,ah:=[]})(h2:h 19105={base:=b2,ah:=[]}):CuP s i n e j h:=
 ⟨ha,by rw [h0,xl],by
  intro q hq;simp only [List.mem_cons,List.not_mem_nil,or_false]at hq;rcases hq with rfl|rfl
  ·rw [h1]
  ·rw [h2]⟩
noncomputable abbrev vH:=EV [(191,.heap Bx)] [] 13600 36 [(1,[3,50003])]
theorem aqz:ct vH [(1,([5,12,19],[[0,1,2,3,4,5,6,7,8,9,10,11,12,13,14,15,16,17,18,19,20,21,22,23]]))] Tryz.f136 Bf:=by
 intro args h hc;obtain⟨a,b,c,d,u,v,p,q,rfl,_,hk,hb⟩:=Fs hc;rw [tq];generalize hK:nF (h 7306)=k at *;have h1:=hb 19103 (by simp);have h2:=hb 19105 (by simp);have h3:=hb 13603 (by simp);have hH:h=hps [(7306,kU k),(19103,{base:=(h 19103).base,ah:=[]}),(19105,{base:=(h 19105).base,ah:=[]}),(13603,{base:=(h 13603).base,ah:=[]})] h:=by
  refine(gJ fun q hq=>?_).symm;simp only [List.map_cons,List.map_nil,List.mem_cons,List.not_mem_nil,or_false]at hq;rcases hq with rfl|rfl|rfl|rfl
  ·exact hk
  ·exact h1
  ·exact h2
  ·exact h3
 rw [hH];generalize (h 19103).base=b1 at *;generalize (h 19105).base=b2 at *;generalize (h 13603).base=b3 at *;generalize h=h0 at *;clear hH hb hk h1 h2 h3 hK hc;obtain⟨⟨w1,w2⟩,⟨s1,s2⟩,⟨c1,c2⟩,x,y⟩:=k;have eJ:∀k:cR,AF k 0 ⟨a,b⟩=(⟨(eM k.w ⟨a,b⟩).1,k.s,k.c,k.pE,k.pF⟩,(eM k.w ⟨a,b⟩).2):=fun _=>rfl;have eJ2:∀k:cR,AF k 2 ⟨c,d⟩=(⟨k.w,(eM k.s ⟨c,d⟩).1,k.c,k.pE,k.pF⟩,(eM k.s ⟨c,d⟩).2):=fun _=>rfl;have eJ4:∀k:cR,AF k 4 ⟨u,v⟩=(⟨k.w,k.s,(eM k.c ⟨u,v⟩).1,k.pE,k.pF⟩,(eM k.c ⟨u,v⟩).2):=fun _=>rfl;simp -dsimp [Tryz.f136,vH,bm,aS];repeat' first|omega|simp -dsimp [vH,bm,aS,S0,xl,eJ,eJ2,eJ4,pz]|apply aI|apply nI|intro
 ·exact It (by simp) rfl rfl rfl
 ·exact It (by simp) rfl rfl rfl
 ·exact It (by simp) rfl rfl rfl
 simp -dsimp only [aG,List.cons_append,List.nil_append];exact(by(try simp -dsimp only [hpx]);refine bK ?_;simp -dsimp [aC]<;>exact rz)
theorem abN:dM Tryz.prog 136 (.heap Bf):=yE aqz (.cons akm .nil) (fun args h hc=>by obtain⟨a,b,c,d,u,v,p,q,rfl,_⟩:=Fs hc;simp)
end Go.Sx
end
section
namespace Go.Sx
open Go.RowKit Go.Proofs Go.Sort
variable [aO]
section
variable {α:Type} [Inhabited α] (l:α->List Int)
def aAs(x:α):List V:=(l x).map (V.int .i64)
def pU(x:α):List Value:=(l x).map (Value.int .i64)
open Classical in
noncomputable def Wv(row:List V):α:=if h:∃x,aAs l x=row then h.choose else default
variable {l}in
theorem S5(vb:∀x y,l x=l y->x=y)(x:α):Wv l (aAs l x)=x:=by
 unfold Wv;have h:∃y,aAs l y=aAs l x:=⟨x,rfl⟩
 rw [dif_pos h];have hc:=h.choose_spec;refine vb _ _ ?_;unfold aAs at hc;have hm:∀a b:List Int,a.map (V.int .i64)=b.map (V.int .i64)->a=b:=by
  intro a
  induction a with
  | nil=>intro b h;cases b with
   | nil=>rfl
   | cons=>simp at h
  | cons x a ih=>intro b h;cases b with
   | nil=>simp at h
   | cons y b=>simp only [List.map_cons,List.cons.injEq,V.int.injEq,true_and]at h;rw [h.1,ih b h.2]
 exact hm _ _ hc
noncomputable def pV(k:Nat)(ty:TypeId)(oo:Array α->Array α)(ex:List V):bB where
 go args h:=match args with
  | .bw s i n::r=>match aL h s i with
   | some B=>⟨r=ex/\B.fz=false/\B.z=k/\B.ty=ty/\n=B.els.length/\1<=n/\n<4611686018427387904/\∃d:List α,B.els=d.map (aAs l),.dB [],bE h s i {B with els:=(oo (B.els.map (Wv l)).toArray).toList.map (aAs l)}⟩
   | none=>⟨False,.top,h⟩
  | _=>⟨False,.top,h⟩
theorem Ft{α:Type}(l:α->List Int){x:α}{j:Nat}{c:V}(h:(aAs l x)[j]?=some c):∃n,c=.int .i64 n/\(pU l x)[j]! = .int .i64 n/\j<(l x).length:=by
 unfold aAs at h;rw [List.getElem?_map]at h;cases hj:(l x)[j]? with
 | none=>simp [hj]at h
 | some n=>
  rw [hj]at h;simp only [Option.map_some,Option.some.injEq]at h;refine⟨n,h.symm,?_,(List.getElem?_eq_some_iff.1 hj).1⟩;unfold pU;rw [List.getElem!_eq_getElem?_getD,List.getElem?_map,hj];rfl
theorem Lb{P:Program}{f:FuncId}{k:Nat}{ty:TypeId}{oo:Array α->Array α}{ex:List V}{exv:List Value}
  (gi:∀(args:Array Value) (w:World),(callFunc f args).run P w=.ok (.enter f args) w) (hk:∀x,(l x).length=k) (kW:0<k) (vb:∀x y,l x=l y->x=y) (vX:∀d,(oo d).size=d.size)
  (anR:∀(w:World) (A:Nat->Prop) (X:Refs) (u:List Value),u.length=ex.length->(∀i c,ex[i]?=some c->RV w A X c (u.getD i gC))->u=exv)
  (hsort:∀(blk off cap:Nat) (d:Array α) (w:World),HoldsK (pU l) k w blk off d->blk<w.heap.size->1<=d.size->d.size<4611686018427387904->
   Calls P f (Value.slice (some ⟨blk,off,none⟩) d.size cap::exv).toArray w fun e w'=>e=.returned (.tuple #[])/\∃n os,w'=Go.Sort.grow (putRowK (pU l) k (Sort.ahead w n) blk off (oo d)) os) :
  dM P f (.heap (pV l k ty oo ex)):=by
 refine {call:=gi,iter:=fun S' h=>(by cases h),pure:=fun S' hS=>(by cases hS),heap:=fun S' hS=>?_};cases hS;intro args h hc w A X vals hI hsz v1
 match args,hc with
 | [],hc=>exact hc.elim
 | x::r,hc=>
 cases x with
 | bw s i n=>
  cases hB:aL h s i with
  | none=>simp [pV,hB]at hc
  | some B=>
   have fV:(pV l k ty oo ex).go (.bw s i n::r) h=⟨r=ex/\B.fz=false/\B.z=k/\B.ty=ty/\n=B.els.length/\1<=n/\n<4611686018427387904/\∃d:List α,B.els=d.map (aAs l),.dB [],bE h s i {B with els:=(oo (B.els.map (Wv l)).toArray).toList.map (aAs l)}⟩:=(by simp only [pV,hB]);rw [fV]at hc ⊢;obtain⟨hr,hfz,hz,hty,hn,h1,z7,d,hd⟩:=hc;subst hr;have vV:B.els.map (Wv l)=d:=by rw [hd,List.map_map];have:(Wv l ∘ aAs l)=id:=funext fun x=>S5 vb x;rw [this,List.map_id]
   simp only [vV];have vW:d.length=n:=(by rw [hn,hd,List.length_map]);obtain⟨a,c,e0,hN,y0,hv⟩:=(v1 0 (.bw s i n) rfl).gp;have hb:=hI.blk s i B hB;have fJ:=hv (by rw [hb.hlen,hn]);rcases hb.mem with⟨_,Pz⟩|⟨arr,cap,g1,g2,g3,g4,g5,g6,g7,g8⟩
   ·rw [Pz]at hn;simp at hn;omega
   have S6:vals=(Value.slice (some ⟨(X.D s i).b,(X.D s i).o,none⟩) d.toArray.size cap::exv).toArray:=by
    have hx:=anR w A X (vals.toList.drop 1) (by simp at hsz ⊢;omega) (fun j c hj=>by
     have:=v1 (j+1) c (by simpa using hj);rw [List.getD_eq_getElem?_getD,List.getElem?_drop,Array.getElem?_toList,Nat.add_comm 1 j]
     rwa [Array.getD_eq_getD_getElem?]at this)
    have h0:vals.getD 0 gC=Value.slice (some ⟨(X.D s i).b,(X.D s i).o,none⟩) d.toArray.size cap:=by rw [e0,fJ,g2];simp only [List.size_toArray,vW,hn]
    apply Array.toList_inj.1;rw [<-hx];cases z8:vals.toList with
    | nil=>have:=congrArg List.length z8;simp at this hsz;simp [this]at hsz
    | cons y ys=>
     have:vals.getD 0 gC=y:=(by rw [Array.getD_eq_getD_getElem?,<-Array.getElem?_toList,z8];rfl);rw [<-h0,this];simp
   have anS:d.toArray.size=n:=(by simpa using vW);have v2:(X.D s i).b<w.heap.size:=(Array.getElem?_eq_some_iff.1 g1).1;have hH:HoldsK (pU l) k w (X.D s i).b (X.D s i).o d.toArray:=by
    intro j hj;rw [size_flatK]at hj;have hj':=hj;rw [get_flatK _ _ _ _ hj'];have he:j / k<d.length:=(by rw [vW,<-anS];exact Nat.div_lt_of_lt_mul (by rw [Nat.mul_comm];exact hj));have hm:j % k<k:=Nat.mod_lt _ kW;have e1:B.els[j / k]?=some (aAs l d[j / k]):=(by rw [hd,List.getElem?_map,List.getElem?_eq_getElem he];rfl);have e2:(aAs l d[j / k])[j % k]?=some (.int .i64 ((l d[j / k])[j % k]'(by rw [hk];exact hm))):=by unfold aAs;rw [List.getElem?_map,List.getElem?_eq_getElem (by rw [hk];exact hm)];rfl
    obtain⟨u,u1,u2,u3,u4⟩:=g6 _ _ _ _ e1 e2;have u5:=u3.dV;have zp:(X.D s i).o+j / k * k+j % k=(X.D s i).o+j:=(by have:=Nat.div_add_mod j k;rw [Nat.mul_comm]at this;omega);rw [hz,zp]at u1;obtain⟨m,m1,m2,_⟩:=Ft l e2;have e3:d.toArray[j / k]! = d[j / k]:=(by simp [he]);refine⟨?_,?_⟩
    ·unfold World.cell?;simp only [g1,Option.isSome_none,Bool.false_eq_true,if_false];injection m1 with _ m3;rw [u1,u5,e3,m2,m3];rfl
    ·unfold World.frozen?;simp [g1]
   rw [S6];refine(hsort _ _ _ d.toArray w hH v2 (by omega) (by omega)).mono ?_;rintro e w' ⟨rfl,q,os,rfl⟩;have hs':=vX d.toArray;generalize y1:oo d.toArray=d' at *;have arN:d'.size=n:=(by omega);have mg:({B with els:=d'.toList.map (aAs l)}:dZ)={B with els:=d'.toList.map (aAs l)}:=rfl;have zr:(putRowK (pU l) k w (X.D s i).b (X.D s i).o d').heap[(X.D s i).b]?=some (.cells (putCells id (X.D s i).o (flatK (pU l) k d') arr) B.ty (0,0)):=by simp only [putRowK,putRow,mapBlock,Array.getElem?_modify,if_true,g1,Option.map_some,onCells]
   obtain⟨hL,wO⟩:=hI.turn (B':={B with els:=d'.toList.map (aAs l)}) hB (w':=putRowK (pU l) k w (X.D s i).b (X.D s i).o d') (by simp [putRowK,putRow,mapBlock]) rfl rfl rfl hfz (by rw [Hd.real,g2];simp)
    (fun b zt=>by simp only [putRowK,putRow,mapBlock,Array.getElem?_modify];rw [if_neg (fun e=>zt e.symm)])
    (fun hL => { hN := hN, hz := hb.hz, hlen := by rw [hb.hlen];simp;omega, rows := fun row za => by obtain⟨x,_,rfl⟩:=List.mem_map.1 za;simp [aAs,hk,hz]
                 mem:=.inr ⟨_,cap,zr,by rw [g2];simp;omega,by simp;omega,g4,by
                   have:(putCells id (X.D s i).o (flatK (pU l) k d') arr).size=arr.size:=(by simp [putCells]);rw [this];exact g5,fun e j row c he hj=>by
                     simp only at he;rw [List.getElem?_map]at he;cases hx:d'.toList[e]? with
                     | none=>simp [hx]at he
                     | some x=>
                     rw [hx]at he;simp only [Option.map_some,Option.some.injEq]at he;subst he;obtain⟨m,m1,m2,m3⟩:=Ft l hj;rw [hk]at m3;have zv:e<d'.size:=(by have:=(List.getElem?_eq_some_iff.1 hx).1;simpa using this);have anT:e * k+j<d'.size * k:=by have:=Nat.mul_le_mul_right k (show e+1<=d'.size from zv);rw [Nat.add_mul,Nat.one_mul]at this;omega
                     have v8:(X.D s i).o+e * k+j<arr.size:=by have zE:=g5;rw [hz]at zE;have:d'.size * k<=cap * k:=Nat.mul_le_mul_right k (by omega);omega
                     refine⟨.int .i64 m,?_,rfl,?_,fun _=>?_⟩
                     · rw [hz];simp only [putCells,Array.getElem?_mapIdx,Array.getElem?_eq_getElem v8,Option.map_some,size_flatK];rw [if_pos ⟨by omega,by omega⟩,show(X.D s i).o+e * k+j - (X.D s i).o=e * k+j by omega,get_flatK _ _ _ _ anT];have e1:(e * k+j) / k=e:=(blk_iff k e _ kW).1 ⟨by omega,by omega⟩;have e2:(e * k+j) % k=j:=(by rw [Nat.mod_eq_sub_div_mul,e1];omega);rw [e1,e2];have e3:d'[e]! = x:=by rw [Array.getElem?_toList]at hx;rw [getElem!_def,hx]
                       rw [e3,m2];rfl
                     · rw [m1];exact .pure (.int _ _)
                     · rw [m1];exact .int _ _,g7,g8⟩})
   obtain⟨_,zK⟩:=wO.below (w':=Go.Sort.grow (putRowK (pU l) k (Sort.ahead w q) (X.D s i).b (X.D s i).o d') os) {os:=rfl,tape:=rfl,output:=rfl,size:=by simp [Go.Sort.grow,putRowK,putRow,mapBlock,Sort.ahead],block:=(fun b v2=>by simp only [Go.Sort.grow,putRowK,putRow,mapBlock,Sort.ahead]at v2 ⊢;rw [Array.getElem?_append_left v2])}
   exact⟨_,A,X,rfl,zK,.pure (.dB [] #[] rfl (fun i c h=>by simp at h))⟩
 | _=>exact hc.elim
end
end Go.Sx
end
section
namespace Go.Sx
open Go.RowKit Go.Proofs Go.Sort
variable [aO]
def GZ(n:Int):List Int:=[n]
noncomputable def tJ(d:Array Int):Array Int:=(d.toList.mergeSort fun x y=>decide (x<=y)).toArray
def CI(l:List Int):List Int:=l.mergeSort fun x y=>decide (x<=y)
theorem awK(l:List Int):(CI l).length=l.length:=by simp [CI]
theorem aBg(l:List Int)(x:Int):x∈CI l↔x∈l:=by simp [CI]
noncomputable def rq:bB where
 go args h:=match args with
  | [.nil]=>⟨True,.dB [],h⟩
  | [.bw s i n]=>if n=0 then ⟨True,.dB [],h⟩else (pV GZ 1 3 tJ []).go [.bw s i n] h
  | _=>⟨False,.top,h⟩
theorem Iu(w:World)(blk off:Nat)(S:Array Int):putRow (Value.int .i64) w blk off S=putRow id w blk off (S.map (Value.int .i64)):=by
 unfold putRow;refine mapBlock_congr _ _ _ _ fun c e fr hc=>?_;unfold putCells;apply Array.ext (by simp);intro i h1 h2;simp only [Array.getElem_mapIdx,Array.size_map,id];split
 ·rename_i v8;rw [getElem!_pos S (i - off) (by omega),getElem!_pos (S.map (Value.int .i64)) (i - off) (by simp;omega)];simp
 ·rfl
theorem Yu{P:Program}{f:FuncId}(gi:∀(args:Array Value) (w:World),(callFunc f args).run P w=.ok (.enter f args) w)
  (h:∀(blk off cap:Nat) (zs:List Int) (w:World),Holds (Value.int .i64) w blk off zs.toArray->blk<w.heap.size->zs.length<4611686018427387904->
   Calls P f #[.slice (some ⟨blk,off,none⟩) zs.length cap] w fun e w'=>e=.returned (.tuple #[])/\∃n os,w'=grow (putRow (Value.int .i64) (Sort.ahead w n) blk off (zs.mergeSort fun x y=>decide (x<=y)).toArray) os) :
  dM P f (.heap (pV GZ 1 3 tJ [])):=Lb GZ (exv:=[]) gi (fun _=>rfl) (by decide) (fun x y h=>by simpa [GZ]using h) (fun d=>by simp [tJ])
 (fun w A X u hl hu=>by
  match u,hl with
  | [],_=>rfl)
 (fun blk off cap d w hH vd h1 z7=>by
  have hf:∀d:Array Int,flatK (pU GZ) 1 d=d.map (Value.int .i64):=fun d=>by apply Array.ext (by simp);intro i h1 h2;simp [flatK,pU,GZ,Nat.mod_one];rw [getElem!_pos d i (by simpa using h2)]
  have hH':Holds (Value.int .i64) w blk off d.toList.toArray:=fun j hj=>by have:=hH j (by rw [size_flatK];simpa using hj);rw [hf]at this;simpa [getElem!_pos d j (by simpa using hj),getElem!_pos (d.map (Value.int .i64)) j (by simpa using hj)]using this
  have:=h blk off cap d.toList w hH' vd (by simpa using z7);rw [Array.length_toList]at this;refine this.mono ?_;rintro e w' ⟨rfl,n,os,rfl⟩;refine⟨rfl,n,os,?_⟩;congr 1;show putRow (Value.int .i64) _ blk off (tJ d)=putRow id _ blk off (flatK (pU GZ) 1 (tJ d));rw [hf];exact Iu _ _ _ _)
theorem Yv{P:Program}{f:FuncId}(h1:dM P f (.heap (pV GZ 1 3 tJ [])))(h0:∀(p:Option Addr) (cap:Nat) (w:World),Calls P f #[.slice p 0 cap] w fun e w'=>e=.returned (.tuple #[])/\w'=w):dM P f (.heap rq):=by
 refine {call:=h1.call,iter:=fun S' h=>(by cases h),pure:=fun S' hS=>(by cases hS),heap:=fun S' hS=>?_};cases hS;intro args h hc w A X vals hI hsz v1;have one:∀{x:Value},vals.getD 0 gC=x->vals.size=1->vals = #[x]:=by
  intro x hx hs;apply Array.ext (by simpa using hs);intro i h1 h2;have:i=0:=by omega
  subst this;rw [Array.getD_eq_getD_getElem?,Array.getElem?_eq_getElem (by omega)]at hx;simpa using hx
 match args,hc with
 | [],hc=>exact hc.elim
 | _::_::_,hc=>exact absurd hc (by simp [rq])
 | [x],hc=>
 cases x with
 | nil=>
  have e:=one (v1 0 .nil rfl).dY (by simpa using hsz);rw [e];refine(h0 _ _ _).mono ?_;rintro e w' ⟨rfl,rfl⟩;exact⟨_,A,X,rfl,hI,.pure (.dB [] #[] rfl (fun i c h=>by simp at h))⟩
 | bw s i n=>
  by_cases hn:n=0
  ·subst hn;obtain⟨a,c,e0,_⟩:=(v1 0 (.bw s i 0) rfl).gp;have e:=one e0 (by simpa using hsz);rw [e];refine(h0 _ _ _).mono ?_;rintro e w' ⟨rfl,rfl⟩;exact⟨_,A,X,rfl,hI,.pure (.dB [] #[] rfl (fun i c h=>by simp at h))⟩
  ·have e:rq.go [.bw s i n] h=(pV GZ 1 3 tJ []).go [.bw s i n] h:=(by simp only [rq,if_neg hn]);rw [e]at hc ⊢;exact h1.heap _ rfl _ h hc w A X vals hI hsz v1
 | _=>exact hc.elim
theorem Xp{h:Hp}{s i:Nat}{l:List Int}{cl:Bool}(hB:aL h s i=some {z:=1,els:=l.map ri,ty:=3,cl:=cl})(h2:l.length<4611686018427387904) :
  rq.go [.bw s i l.length] h=⟨True,.dB [],bE h s i {z:=1,els:=(CI l).map ri,ty:=3,cl:=cl}⟩:=by
 by_cases h0:l.length=0
 ·have:l=[]:=List.eq_nil_of_length_eq_zero h0;subst this;have e:CI []=[]:=by simp [CI]
  simp only [rq,List.length_nil,if_true,e,S7 hB]
 ·have hR:∀x:Int,aAs GZ x=ri x:=fun x=>rfl;have hd:l.map ri=l.map (aAs GZ):=rfl;have vV:(l.map ri).map (Wv GZ)=l:=by rw [hd,List.map_map];have:(Wv GZ ∘ aAs GZ)=id:=funext fun x=>S5 (fun x y h=>by simpa [GZ]using h) x;rw [this,List.map_id]
  have he:(tJ l.toArray).toList.map (aAs GZ)=(CI l).map ri:=by simp only [tJ,CI];rfl
  simp only [rq,if_neg h0,pV,hB,vV,he];congr 1;exact eq_true ⟨trivial,trivial,trivial,trivial,by rw [List.length_map],by omega,h2,l,hd⟩
end Go.Sx
end
section
namespace Go.Proofs
open Go.Shelf
def Tryz.Fu:Go.Shelf.Ren:=⟨fun|189=>139|125=>193|257=>192|128=>258|129=>259|294=>249|295=>250|296=>251|297=>252|298=>253|299=>254|216=>255|300=>256|301=>257|328=>283|329=>284|330=>285|331=>286|332=>287|215=>190|343=>298|n=>n,fun|28=>43|3=>3|46=>285|0=>0|51=>332|53=>334|4=>4|183=>325|182=>324|131=>329|5=>5|9=>9|218=>359|222=>363|228=>373|229=>239|n=>n,fun|n=>n⟩
theorem Tryz.Lc:Go.Proofs.Lays.n189 Tryz.prog Tryz.Fu:={
 mixed:=by kernel_rfl
 f125:=Tryz.func193.trans (congrArg some (by kernel_rfl))
 f128:=Tryz.func258.trans (congrArg some (by kernel_rfl))
 f129:=Tryz.func259.trans (congrArg some (by kernel_rfl))
 f189:=Tryz.func139.trans (congrArg some (by kernel_rfl))
 f215:=Tryz.func190.trans (congrArg some (by kernel_rfl))
 f216:=Tryz.func255.trans (congrArg some (by kernel_rfl))
 f257:=Tryz.func192.trans (congrArg some (by kernel_rfl))
 f294:=Tryz.func249.trans (congrArg some (by kernel_rfl))
 f295:=Tryz.func250.trans (congrArg some (by kernel_rfl))
 f296:=Tryz.func251.trans (congrArg some (by kernel_rfl))
 f297:=Tryz.func252.trans (congrArg some (by kernel_rfl))
 f298:=Tryz.func253.trans (congrArg some (by kernel_rfl))
 f299:=Tryz.func254.trans (congrArg some (by kernel_rfl))
 f300:=Tryz.func256.trans (congrArg some (by kernel_rfl))
 f301:=Tryz.func257.trans (congrArg some (by kernel_rfl))
 f328:=Tryz.func283.trans (congrArg some (by kernel_rfl))
 f329:=Tryz.func284.trans (congrArg some (by kernel_rfl))
 f330:=Tryz.func285.trans (congrArg some (by kernel_rfl))
 f331:=Tryz.func286.trans (congrArg some (by kernel_rfl))
 f332:=Tryz.func287.trans (congrArg some (by kernel_rfl))
 f343:=Tryz.func298.trans (congrArg some (by kernel_rfl))
 t0:=Tryz.underlying0
 a0:=Tryz.isAgg0
 z0:=Tryz.sizeOf0
 v0:=Tryz.zeroValue0
 t3:=Tryz.underlying3
 a3:=Tryz.isAgg3
 z3:=Tryz.sizeOf3
 v3:=Tryz.zeroValue3
 t4:=Tryz.underlying4
 a4:=Tryz.isAgg4
 z4:=Tryz.sizeOf4
 v4:=Tryz.zeroValue4
 t5:=Tryz.underlying5
 a5:=Tryz.isAgg5
 z5:=Tryz.sizeOf5
 v5:=Tryz.zeroValue5
 t9:=Tryz.underlying9
 a9:=Tryz.isAgg9
 z9:=Tryz.sizeOf9
 v9:=Tryz.zeroValue9
 t28:=Tryz.underlying43
 a28:=Tryz.isAgg43
 z28:=Tryz.sizeOf43
 v28:=Tryz.zeroValue43
 t46:=Tryz.underlying285
 a46:=Tryz.isAgg285
 z46:=Tryz.sizeOf285
 v46:=Tryz.zeroValue285
 t51:=Tryz.underlying332
 a51:=Tryz.isAgg332
 z51:=Tryz.sizeOf332
 v51:=Tryz.zeroValue332
 t53:=Tryz.underlying334
 a53:=Tryz.isAgg334
 z53:=Tryz.sizeOf334
 v53:=Tryz.zeroValue334
 t131:=Tryz.underlying329
 a131:=Tryz.isAgg329
 z131:=Tryz.sizeOf329
 v131:=Tryz.zeroValue329
 t182:=Tryz.underlying324
 a182:=Tryz.isAgg324
 z182:=Tryz.sizeOf324
 v182:=Tryz.zeroValue324
 t183:=Tryz.underlying325
 a183:=Tryz.isAgg325
 z183:=Tryz.sizeOf325
 v183:=Tryz.zeroValue325
 t218:=Tryz.underlying359
 a218:=Tryz.isAgg359
 z218:=Tryz.sizeOf359
 v218:=Tryz.zeroValue359
 t222:=Tryz.underlying363
 a222:=Tryz.isAgg363
 z222:=Tryz.sizeOf363
 v222:=Tryz.zeroValue363
 t228:=Tryz.underlying373
 a228:=Tryz.isAgg373
 z228:=Tryz.sizeOf373
 v228:=Tryz.zeroValue373
 t229:=Tryz.underlying239
 a229:=Tryz.isAgg239
 z229:=Tryz.sizeOf239
 v229:=Tryz.zeroValue239}
open Go.Sort Go.RowKit in
theorem Tryz.slices_Sort_int(blk off cap:Nat)(zs:List Int)(w:World)(hH:Holds (Value.int .i64) w blk off zs.toArray)(vd:blk<w.heap.size)(hsz:zs.length<4611686018427387904) :
  Calls Tryz.prog 139 #[.slice (some ⟨blk,off,none⟩) zs.length cap] w fun e w'=>
   e=.returned (.tuple #[])/\∃n os,w'=grow (putRow (Value.int .i64) (Sort.ahead w n) blk off (zs.mergeSort fun x y=>decide (x<=y)).toArray) os:=Any.slices_Sort_int Tryz.Lc blk off cap zs w hH vd hsz
open Go.RowKit Go.Sort in
theorem Tryz.slices_Sort_int_none(p:Option Addr)(cap:Nat)(w:World) :
  Calls Tryz.prog 139 #[.slice p 0 cap] w fun e w'=>e=.returned (.tuple #[])/\w'=w:=Any.slices_Sort_int_none Tryz.Lc p cap w
end Go.Proofs
namespace Go.Sx
open Go.Proofs
attribute [local simp] ri aa ints
theorem azb:dM Tryz.prog 139 (.heap rq):=Yv (Yu (fun args w=>mU (fn:=Tryz.f139) (by kernel_rfl) (by kernel_rfl) rfl args w) Tryz.slices_Sort_int) Tryz.slices_Sort_int_none
end Go.Sx
end
end
