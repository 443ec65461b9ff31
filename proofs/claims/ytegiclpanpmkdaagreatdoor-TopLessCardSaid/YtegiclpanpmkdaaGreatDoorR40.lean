/- A part of a proof; no conditions. -/
import Derived.Test.YtegiclpanpmkdaaGreatDoorR32
import Derived.Test.YtegiclpanpmkdaaGreatDoorR38
import Derived.Test.YtegiclpanpmkdaaGreatDoorR31
set_option linter.all false
set_option maxRecDepth 100000
set_option maxHeartbeats 8000000
noncomputable section
section
namespace Go.Sx
open Go.Proofs
attribute [local simp] ri aa ints
attribute [local irreducible] bA
structure WrP (d:Ro × List Du × Int × Cl):Prop where
 iV:(fL d.1 d.2.1).2=0
 n:0<=d.2.2.1/\d.2.2.1<=d.1.bM.length - 1
 call:jx d.2.2.2=true
section
variable (r:Ro) (l:List Du) (c:Cl)
def vI(i k:Nat):List (Int × Int):=((List.range k).filter fun k:Nat=>C7 r l c i k).map fun k:Nat=>((i:Int),(k:Int))
def uv(i:Nat):List (Int × Int):=(List.range i).flatMap fun i:Nat=>vI r l c i r.bM.length
theorem zH:uv r l c r.bM.length=tF r l c:=rfl
theorem Cf(i:Nat):uv r l c (i+1)=uv r l c i++vI r l c i r.bM.length:=by unfold uv;rw [List.range_succ,List.flatMap_append];simp
theorem GN(i:Nat):∀k,(vI r l c i k).length<=k:=fun k=>by unfold vI;rw [List.length_map];exact Nat.le_trans (List.length_filter_le _ _) (by simp)
theorem uf:∀i,(uv r l c i).length<=i * r.bM.length
 | 0=>by simp [uv]
 | i+1=>by have:=uf i;have:=GN r l c i r.bM.length;rw [Cf,List.length_append,Nat.add_mul];omega
end
theorem Gj(r:Ro)(l:List Du)(a b k:Int)(w:Bool):aY crE [.agg r.row,.sl 3 (l.map Du.row),.agg [.int .i64 a,.int .i64 b,.int .i64 k,.bool w]]=(r,l,⟨a,b,k,w⟩):=aA YG (r,l,⟨a,b,k,w⟩)
end Go.Sx
end
section
namespace Go.Sx
open Go.Proofs
attribute [local simp] ri aa ints
attribute [local irreducible] bA
structure DuP (f:Fl) (l:List Sr):Prop where
 ok:Cw f
 sr:∀x∈l,yW f x
 len:l.length<=100
theorem gu.dul{f:Fl}(h:gu f):f.wF.length<=60:=(dN.1 h.du).2.1
theorem yW.jm{f:Fl}(hk:Cw f){x:Sr}(h:yW f x):Xa (f,x.j,x.m):=⟨hk,h.j.1,h.m.1⟩
theorem Su(f:Fl)(l:List Sr)(t:Int):∀m:Nat,0<=GX f l t m/\GX f l t m<=m
 | 0=>by simp [GX]
 | m+1=>by have:=Su f l t m;rw [GX];split<;>omega
structure NxD where
 f:Fl
 l:List Sr
 x:Sr
 w:Bool
 deriving Inhabited
@[simp] def nxE(d:NxD):List V:=[.agg d.f.row,.sl 4 (d.l.map Sr.row),.agg d.x.row,.bool d.w]
structure NxP (d:NxD):Prop where
 ok:Cw d.f
 good:Good d.f true d.l
 w:d.w=true
theorem abD{f:Fl}(h:gu f):f.gv.bM.length<=12:=(dN.1 h.du).1.n
structure CpP (d:Fl × List Sr):Prop where
 p:KD d.1
 k:gu d.1->Cw d.1
 l:d.2.length<=100000000000000
def O7(f:Fl)(l:List Sr):Int × Int:=if Nr f=0 then (if YV f l false<0 then (0,0)else (YV f l false,111))else (0,Nr f)
theorem Fe{f:Fl}{l:List Sr}:(O7 f l).2=0↔gu f/\Good f false l:=by
 unfold O7;by_cases h:Nr f=0
 ·rw [if_pos h];by_cases h2:YV f l false<0
  ·rw [if_pos h2];refine⟨fun _=>⟨tC.1 h,zI.1 ?_⟩,fun _=>rfl⟩;apply Classical.byContradiction;intro v0;obtain⟨k,_,e,_⟩:=ve (l:=List.range l.length) (p:=fun i=>!wS f (l.take i) (l.getD i default) false) v0;have e2:YV f l false=eB (List.range l.length) fun i=>!wS f (l.take i) (l.getD i default) false:=rfl;omega
  ·rw [if_neg h2];refine⟨fun h=>by simp at h,fun h3=>?_⟩;have:=zI.2 h3.2;omega
 ·rw [if_neg h];exact⟨fun h2=>absurd h2 h,fun h2=>absurd (tC.2 h2.1) h⟩
noncomputable abbrev cpS:aB:=bS yU CpP fun d=>.dB [.int .i64 (O7 d.1 d.2).1,.int .i64 (O7 d.1 d.2).2]
end Go.Sx
end
section
namespace Go.Sx
theorem Ya{r:Ro}{l:List Du}{c:Cl}(hz:(fL r l).2=0)(hc:jx c=true):Sj r l c=(tF r l c,0):=by
 obtain⟨hf,_,_⟩:=dN.1 hz;have RW:r9 c.a c.b=true/\(0<=c.gP/\c.gP<=7):=by simpa [jx]using hc
 have hs:=gQ.1 RW.1;have h2:gR c=true:=by rw [gR,tG (by omega) (by omega),RW.1];simp [RW.2]
 have h3:fQ bH r l true=0:=by unfold fQ;rw [mM gZ hz];rfl
 have hW:∀i k:Nat,Fi bH r l c i k=C7 r l c i k:=fun i k=>by unfold Fi C7;rw [C8 gZ hf (xB hz) hs,C8 gZ hf (xB hz) hs]
 have hL:Sk bH r l c=tF r l c:=by unfold Sk tF;simp only [hW]
 unfold Sj;rw [h2,if_pos h3,hL]
theorem atA{r:Ro}{l:List Du}{c:Cl}(hz:(fL r l).2=0)(hc:jx c=false)(hb : -9223372036854775808<c.b/\c.b<=9223372036854775807):Sj r l c=([],1):=by
 have h2:gR c=false:=by rw [gR,tG hb.1 hb.2];exact hc
 have h3:fQ bH r l false=1:=by unfold fQ;rw [mM gZ hz];rfl
 unfold Sj;rw [h2,h3];rfl
theorem asV{r:Ro}(hr:r.ok=true){l:List Du}(hv:Bi l):gT bH r l=fL r l:=by
 have hf:=Ro.si.1 hr;have h1:∀i,i<l.length->kG bH r l i=ue r l i:=fun i hi=>by
  have hm:cz l i∈l:=by have:cz l i=l[i]:=(by simp [cz,List.getD,hi]);rw [this];exact List.getElem_mem hi
  have hd:=hv _ hm;have oR:Bi (l.take i):=fun d hd=>hv d (List.mem_of_mem_take hd);unfold kG ue;rw [tG (by omega) (by omega),L3 gZ hf (qC oR _) hd]
 have h2:ar6 bH r l=wh r l:=by
  unfold ar6 wh;by_cases h:eB (List.range l.length) (fun i=>!ue r l i) = -1
  ·rw [h];have hz:=cO (List.range l.length) fun i=>!ue r l i;rw [h]at hz;refine bP _ _ fun j hj=>?_;have hj':j<l.length:=(by simpa using hj);have:=List.any_eq_false.1 (hz.symm.trans (by decide)) j (by simpa using hj');simp only [List.getElem_range];rw [h1 j hj'];simpa using this
  ·obtain⟨k,hk,e,hp,hq⟩:=ve h;rw [e];simp only [List.length_range]at hk;refine cW _ _ (by simpa using hk) ?_ fun j hj v1=>?_
   ·simp only [List.getElem_range]at hp ⊢;rw [h1 k hk];exact hp
   ·have:=hq j hj v1;simp only [List.getElem_range]at this ⊢;rw [h1 j (by simpa using hj)];exact this
 unfold gT fL;rw [h2]
theorem Nh{f:Fl}{l:List Sr}{m:Int}{k:Nat}{x:Sr}(h:l[k]?=some x):fA f m (l.take (k+1))=fA f m (l.take k)+if x.m=m then (ew f x).mD else 0:=by rw [List.take_add_one,h];exact qA f m x _
end Go.Sx
end
section
namespace Go.Sx
open Go.Proofs
attribute [local simp] ri aa ints
attribute [local irreducible] bA
def R5(f:Fl):Bool:=(decide (3<f.jobs.length) && decide (f.jobs.length<=6)) || (decide (3<f.dU.length) && decide (f.dU.length<=4)) || (decide (4<f.gv.bM.length) && decide (f.gv.bM.length<=12)) || (decide (12<f.ko.length) && decide (f.ko.length<=200)) || (decide (6<f.wF.length) && decide (f.wF.length<=60)) || (decide (6<f.met.fs.length+f.met.ss.length) && decide (f.met.fs.length<=40) && decide (f.met.ss.length<=20)) || (decide (120<f.gF) && decide (f.gF<=2000))
theorem C6{f:Fl}(h:R5 f=false)(hf:gu f):Cw f:=by have hm:=hf.met;simp only [Met.ok,Bool.and_eq_true,decide_eq_true_eq]at hm;simp only [R5,Bool.or_eq_false_iff,Bool.and_eq_false_iff,decide_eq_false_iff_not]at h;exact⟨hf,by omega,by omega⟩
noncomputable abbrev lgS:aB:=bS Hj KD fun f=>.bool (R5 f)
noncomputable abbrev E18:=EV [] [] 1800 99 [(1,[1,50001])]
theorem b18:af E18 [] Tryz.f18 lgS:=pb <| by
 rintro f ⟨s9,v2,v3,v4,ry,cZ,v5⟩;have h1:=s9.f;have h2:=s9.s;have w:=wi ((f.met.fs.length:Int)+f.met.ss.length);have hN:∀n:Nat,∀l:Nat,(((l:Nat):Int)<=(n:Int))=(l<=n):=fun n l=>by simp
 have e:R5 f=((decide ((3:Int)<f.jobs.length) && decide ((f.jobs.length:Int)<=6)) || (decide ((3:Int)<f.dU.length) && decide ((f.dU.length:Int)<=4)) || (decide ((4:Int)<f.gv.bM.length) && decide ((f.gv.bM.length:Int)<=12)) || (decide ((12:Int)<f.ko.length) && decide ((f.ko.length:Int)<=200)) || (decide ((6:Int)<f.wF.length) && decide ((f.wF.length:Int)<=60)) || (decide ((6:Int)<(f.met.fs.length:Int)+f.met.ss.length) && decide ((f.met.fs.length:Int)<=40) && decide ((f.met.ss.length:Int)<=20)) || (decide (120<f.gF) && decide (f.gF<=2000))):=by
  unfold R5;congr 1;congr 1
  ·congr 1
   ·congr 1
    ·congr 1
     ·congr 1
      ·congr 1<;>(rw [decide_eq_decide];omega)
      ·congr 1<;>(rw [decide_eq_decide];omega)
     ·congr 1<;>(rw [decide_eq_decide];omega)
    ·congr 1<;>(rw [decide_eq_decide];omega)
   ·congr 1<;>(rw [decide_eq_decide];omega)
  ·congr 1
   ·congr 1<;>(rw [decide_eq_decide];omega)
   ·rw [decide_eq_decide];omega
 simp -dsimp [Tryz.f18,E18];repeat' first|omega|simp -dsimp [E18,w,e]|apply aI|apply nI|intro
theorem agV:FO 18 lgS:=pf b18 .nil
@[simp] def Vl(l:List Sr):List V:=[.sl 4 (l.map Sr.row)]
theorem Vm(a b:List Sr)(h:Vl a=Vl b):a=b:=by simp only [Vl,List.cons.injEq,V.sl.injEq,true_and,and_true]at h;exact aR Sr.aq h
theorem mR(l:List Sr):aY Vl [.sl 4 (l.map Sr.row)]=l:=aA Vm l
noncomputable abbrev X6:aB:=bS Vl (fun _=>True) fun l=>.bool (decide (l.length<=4))
noncomputable abbrev Iz:=EV [] [] 1900 6
theorem b19:af Iz [] Tryz.f19 X6:=pb <| by
 rintro l _;by_cases h:l.length<=4
 ·have hi:((l.length:Int)<=4)=True:=eq_true (by omega);simp -dsimp [Tryz.f19,Iz];repeat' first|omega|simp -dsimp [Iz,hi,h]|apply aI|apply nI|intro
 ·have hi:((l.length:Int)<=4)=False:=eq_false (by omega);simp -dsimp [Tryz.f19,Iz];repeat' first|omega|simp -dsimp [Iz,hi,h]|apply aI|apply nI|intro
theorem an2:FO 19 X6:=pf b19 .nil
end Go.Sx
end
end
