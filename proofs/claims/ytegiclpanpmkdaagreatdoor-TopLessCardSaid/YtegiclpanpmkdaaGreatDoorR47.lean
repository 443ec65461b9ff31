/- Fleet: best, sorties, Best. No conditions. -/
import Derived.Test.YtegiclpanpmkdaaGreatDoorR63
import Derived.Test.YtegiclpanpmkdaaGreatDoorR45
import Derived.Test.YtegiclpanpmkdaaGreatDoorR46
import Derived.Test.YtegiclpanpmkdaaGreatDoorR44
set_option linter.all false
set_option maxRecDepth 100000
set_option maxHeartbeats 8000000
noncomputable section
namespace Go.Sx
open Go.Proofs
attribute [local simp] ri aa ints
attribute [local irreducible] bA
@[simp] def bnE(d:(Fl × List Sr) × Int):List V:=[plI d.1.1 d.1.2,.int .i64 d.2]
theorem axZ(a b:(Fl × List Sr) × Int)(h:bnE a=bnE b):a=b:=by obtain⟨⟨a1,a2⟩,a3⟩:=a;obtain⟨⟨b1,b2⟩,b3⟩:=b;simp only [bnE,List.cons.injEq,V.int.injEq,true_and,and_true]at h;obtain⟨e1,e2⟩:=ar8 h.1;rw [e1,e2,h.2]
theorem av9(f:Fl)(l:List Sr)(n:Int):aY bnE [.ip 4 [plR f l] 0 0,.int .i64 n]=((f,l),n):=aA axZ ((f,l),n)
structure BsF (d:(Fl × List Sr) × Int):Prop where
 k:Cw d.1.1
 g:Good d.1.1 true d.1.2
noncomputable abbrev ax0:aB:=bS bnE BsF fun d=>plI d.1.1 (U0 d.1.1 d.2 d.1.2)
noncomputable abbrev E44:=EV [(97,.heap (avu 7))] [] 4400 13 [(1,[2,3,50002,50003])]
theorem b44:af E44 [] Tryz.f44 ax0:=pb <| by
 rintro⟨⟨f,p⟩,now⟩ ⟨hK,hG⟩;simp only at hK hG;have hf:=hK.ok;have v4:LkP 7 ⟨f,p,now,p,p⟩:=⟨hK,hG,hG,by have:=hf.jobs;simp only;omega⟩
 have fV:=fun h h1 h2=>(aw0 (M:=7) (f:=f) (p:=p) (now:=now) (q:=p) (r:=p) (h:=h) h1 h2).trans (by rw [eq_true v4]);have hb:U0 f now p=E3 f now 7 p p:=rfl;rw [<-hb]at fV;simp -dsimp only [MJ,u0,E5,plI]at fV;simp -dsimp [Tryz.f44,E44];repeat' first|omega|simp -dsimp [E44,fV,aG,hnext]|apply aI|apply nI|intro
theorem aum:FO 44 ax0:=pf b44 (.cons (auz 7) .nil)
@[simp] def axA(d:Fl × List Sr):List V:=[plI d.1 d.2]
theorem aBu(a b:Fl × List Sr)(h:axA a=axA b):a=b:=by obtain⟨a1,a2⟩:=a;obtain⟨b1,b2⟩:=b;simp only [axA,List.cons.injEq,and_true]at h;obtain⟨e1,e2⟩:=ar8 h;rw [e1,e2]
theorem avv(f:Fl)(l:List Sr):aY axA [.ip 4 [plR f l] 0 0]=(f,l):=aA aBu (f,l)
def tkS(l:List Sr)(k:Nat):List Sr:=l.take k
theorem avw(l:List Sr):tkS l 0=[]:=rfl
theorem axC{l:List Sr}{k:Nat}{x:Sr}(hx:l[k]?=some x):tkS l (k+1)=tkS l k++[x]:=by unfold tkS;rw [List.take_add_one,hx];rfl
theorem ax1(l:List Sr)(k:Nat):(tkS l k).length<=l.length:=by simp [tkS];omega
theorem ax2(l:List Sr):tkS l l.length=l:=List.take_length
noncomputable abbrev ax3:aB:=bS axA (fun d=>d.2.length<=1000) fun d=>.sl 4 (d.2.map Sr.row)
noncomputable abbrev US:=EV [] [] 4500 21
theorem b45:af US [] Tryz.f45 ax3:=pb <| by
 rintro⟨f,l⟩ hl;have hl:l.length<=1000:=hl;have hlen:=ass f l;have aL:=fun k x (h:l[k]?=some x)=>atD (f:=f) h;have v5:∀k:Nat,k<l.length->asd (E1 f l)=.sl 8 ((E1 f l).map Fw.row):=fun k hk=>ase (asJ fun e=>by rw [e]at hk;simp at hk);have v6:(asd (E1 f l)).len=some l.length:=by
  by_cases h0:l=[]
  ·subst h0;rfl
  ·rw [ase (asJ h0)];simp [hlen]
 simp -dsimp [Tryz.f45,US];repeat' first|omega|simp -dsimp [US,v6]|apply aI|apply nI|intro
 generalize E1 f l=LF at *;generalize asd LF=VV at *;refine dA [(2,4518,4,56)] rfl (by simp) [11,12,13,4,14,15,16,17,18,2,19,10] (fun k:{k:Nat // k<=l.length}=>[(10,(true,.int .i64 k.1)),(2,(true,.bw 4518 0 (tkS l k.1).length))]) (fun k=>hps [(4504,{base:=k.1,ah:=[]}),(4518,{base:=0,ah:=[{z:=4,els:=(tkS l k.1).map Sr.row,ty:=56}]})] cg) (fun k=>l.length - k.1) ⟨0,by omega⟩ ?_ ?_ ?_
 ·simp [aj,aT,avw]
 ·(try simp -dsimp only [hpx]);refine ai ?_;simp -dsimp [aC,avw]<;>exact rz
 rintro⟨k,hk⟩;dsimp only;by_cases aH:k<l.length
 ·have v0:(k:Int)<l.length:=by omega
  have wk:=wx k;obtain⟨x,hx⟩:∃x,l[k]?=some x:=⟨_,List.getElem?_eq_getElem aH⟩
  have hg:=aL k x hx;have v7:k<LF.length:=by omega
  have hg':LF[k]=⟨x,ew f x⟩:=(List.getElem?_eq_some_iff.1 hg).2;have hV:=v5 k aH;have iB:(k:Int)<LF.length:=by omega
  have v1:=axC hx;have va:=ax1 l k;generalize CP:tkS l (k+1)=L1 at *;generalize tkS l k=L0 at *;have Aj:(L0.length+1) * 32<=140737488355328:=by omega
  generalize ew f x=X at *;obtain⟨x1,x2,x3,x4⟩:=x;obtain⟨y1,y2,y3,y4⟩:=X;simp -dsimp [v0];repeat' first|omega|simp -dsimp [US,v0,iB,v7,hV,hg,hg',Fw.row,Aj,wk]|apply aI|apply nI|intro
  refine⟨k+1,ag rfl ?_,?_,by omega,by omega⟩
  ·simp [aj,aT,CP,v1]
  ·rw [CP,v1];(try simp -dsimp only [hpx]);refine ai ?_;simp -dsimp [aC,Sr.row]<;>exact rz
 have v2:¬ (k:Int)<l.length:=by omega
 have v8:k=l.length:=by omega
 subst v8;have v3:=ax2 l;simp -dsimp [v2];repeat' first|omega|simp -dsimp [US,v2,v3]|apply aI|apply nI|intro
theorem api:FO 45 ax3:=pf b45 .nil
structure BpE (f:Fl):Prop where
 k:Cw f
 j:f.jobs.length<=4
 n:f.gv.bM.length<=4
theorem awq{f:Fl}(v9:R5 f=false)(hK:Cw f):BpE f:=by have hj:=hK.ok.jobs;have hp:f.gv.bM.length<=12:=(dN.1 hK.ok.du).1.n;simp only [R5,Bool.or_eq_false_iff,Bool.and_eq_false_iff,decide_eq_false_iff_not]at v9;exact⟨hK,by omega,by omega⟩
theorem Good.bl{f:Fl}(hK:Cw f){l:List Sr}(hG:Good f false l){k:Nat}{x:Sr}(hx:l[k]?=some x):BlP (f,x.j,x.m)/\jJ f x.j.toNat x.m.toNat=ew f x:=by
 have hk:k<l.length:=(List.getElem?_eq_some_iff.1 hx).1;have O5:l.getD k default=x:=by simp [List.getD,hx]
 have hN:=hG.nx hk;rw [O5]at hN;refine⟨⟨hN.sr.jm hK,hN.can,?_⟩,rfl⟩;rcases hN.opn with h|h
 ·cases h
 ·exact h
noncomputable abbrev ax4:aB:=bS Hj BpE fun _=>.bool false
noncomputable abbrev E42:=EV [] [] 4200 14 [(1,[1,50001])]
theorem b42:af E42 [] Tryz.f42 ax4:=pb <| by
 rintro f ⟨hK,h1,h2⟩;have g1:¬ (4:Int)<f.jobs.length:=by omega
 have g2:¬ (4:Int)<f.gv.bM.length:=by omega
 simp -dsimp [Tryz.f42,E42];repeat' first|omega|simp -dsimp [E42,g1,g2,bp]|apply aI|apply nI|intro
theorem auM:FO 42 ax4:=pf b42 .nil
noncomputable abbrev awo:aB:=bS Hj BpE fun f=>.dB [.sl 4 ((U0 f 0 []).map Sr.row),.int .i64 (V1 f (U0 f 0 [])),.int .i64 0]
noncomputable abbrev TQ:=EV [(37,.pure nfS),(42,.pure ax4),(43,.pure at4),(44,.pure ax0),(45,.pure ax3)] [] 1700 27 [(1,[1,50001])]
theorem b17:af TQ [] Tryz.f17 awo:=pb <| by
 rintro f hB;have hK:=hB.k;have hf:=hK.ok;have hP:BsF ((f,[]),0):=⟨hK,Good.nil⟩
 have hl:=(avp (f:=f) (now:=0) (q:=[]) Good.nil).atw;have hj:=hf.jobs;have vP:(U0 f 0 []).length<=1000:=by omega
 simp -dsimp [Tryz.f17,TQ];repeat' first|omega|simp -dsimp [TQ,fC,atK,av9,avv,hK,hB,hP,vP,aS,cQ]|apply aI|apply nI|intro
theorem ag2:FO 17 awo:=pf b17 (.cons anj (.cons auM (.cons MB (.cons aum (.cons api .nil)))))
end Go.Sx
end
