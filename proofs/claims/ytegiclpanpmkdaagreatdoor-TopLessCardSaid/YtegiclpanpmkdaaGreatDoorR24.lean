/- A part of a proof; no conditions. -/
import Derived.Test.YtegiclpanpmkdaaGreatDoorR23
import Derived.Test.YtegiclpanpmkdaaGreatDoorR22
import Derived.Test.YtegiclpanpmkdaaGreatDoorR20
set_option linter.all false
set_option maxRecDepth 100000
set_option maxHeartbeats 8000000
noncomputable section
section
namespace Go.Sx
open Go.Proofs
attribute [local simp] ri aa ints
attribute [local irreducible] bA
theorem Mj{α:Type}{l:List α}{p:α->Bool}{k:Nat}(hk:k<l.length)(h:(l.take k).any p=false)(hb:p l[k]=false):(l.take (k+1)).any p=false:=by rw [List.take_add_one,List.any_append,h];simp [List.getElem?_eq_getElem hk,hb]
theorem ald{α:Type}{l:List α}{p:α->Bool}(h:l.any p=false):∀x,x∈l->p x=false:=fun x hx=>Bool.eq_false_iff.2 (List.any_eq_false.1 h x hx)
noncomputable abbrev iU:=EV [(105,.pure rgS),(162,.pure skS),(163,.pure vwS)] [] 10400 124 [(1,[1,50001])]
theorem aqm:af iU [] Tryz.f104 PR:=pb <| by
 rintro m ⟨hf,hs⟩;have hE:uH m=if m.ok=true then 0 else 40:=rfl;rw [Met.ok]at hE;cases h0:bQ m.n 1 8
 ·simp -dsimp only [h0,Bool.false_and]at hE;simp -dsimp [Tryz.f104,iU];repeat' first|omega|simp -dsimp [iU,h0,hE]|apply aI|apply nI|intro
 have hn:1<=m.n/\m.n<=8:=by simpa [bQ]using h0
 have wn:=wi (m.n - 1);cases h1:m.any.ok
 ·simp -dsimp only [h0,h1,Bool.false_and,Bool.true_and]at hE;simp -dsimp [Tryz.f104,iU];repeat' first|omega|simp -dsimp [iU,h0,h1,dH,cR.row,hE]|apply aI|apply nI|intro
 cases h2:bQ m.w 0 20000
 ·simp -dsimp only [h0,h1,h2,Bool.false_and,Bool.true_and]at hE;simp -dsimp [Tryz.f104,iU];repeat' first|omega|simp -dsimp [iU,h0,h1,h2,dH,cR.row,hE]|apply aI|apply nI|intro
 cases h3:bQ m.s 0 20000
 ·simp -dsimp only [h0,h1,h2,h3,Bool.false_and,Bool.true_and]at hE;simp -dsimp [Tryz.f104,iU];repeat' first|omega|simp -dsimp [iU,h0,h1,h2,h3,dH,cR.row,hE]|apply aI|apply nI|intro
 cases h4:bQ m.c 0 20000
 ·simp -dsimp only [h0,h1,h2,h3,h4,Bool.false_and,Bool.true_and]at hE;simp -dsimp [Tryz.f104,iU];repeat' first|omega|simp -dsimp [iU,h0,h1,h2,h3,h4,dH,cR.row,hE]|apply aI|apply nI|intro
 simp -dsimp only [h0,h1,h2,h3,h4,Bool.true_and]at hE;by_cases h5:m.fs.length<=40
 case neg=>
  have ZK:((40:Int)<m.fs.length)=True:=eq_true (by omega);simp -dsimp only [h5,decide_false,Bool.false_and]at hE;simp -dsimp [Tryz.f104,iU];repeat' first|omega|simp -dsimp [iU,h0,h1,h2,h3,h4,ZK,dH,cR.row,hE]|apply aI|apply nI|intro
 have ZK:((40:Int)<m.fs.length)=False:=eq_false (by omega);by_cases h6:m.ss.length<=20
 case neg=>
  have v5:((20:Int)<m.ss.length)=True:=eq_true (by omega);simp -dsimp only [h6,decide_false,Bool.false_and,Bool.and_false]at hE;simp -dsimp [Tryz.f104,iU];repeat' first|omega|simp -dsimp [iU,h0,h1,h2,h3,h4,ZK,v5,dH,cR.row,hE]|apply aI|apply nI|intro
 have v5:((20:Int)<m.ss.length)=False:=eq_false (by omega);simp -dsimp only [h5,h6,decide_true,Bool.true_and]at hE;simp -dsimp [Tryz.f104,iU];repeat' first|omega|simp -dsimp [iU,h0,h1,h2,h3,h4,ZK,v5,dH,cR.row]|apply aI|apply nI|intro
 refine ay [45,46,47,48,49,52,53,54,55,56,4,57,58,59,60,61,62,63,64,65,66,67,68,69,70,71,72,73,74,75,76,77,78,79,80,81,82,83,84,85,86,87,88,89,90,91,92,2,50,51,3] (fun k:{k:Nat // k<=m.fs.length/\(m.fs.take k).any (Fc.bad m.n)=false}=>[(3,(true,.int .i64 k.1))]) (fun k=>hps [(10404,{base:=k.1,ah:=[]}),(10401,mS m)] cg) (fun k=>m.fs.length - k.1) ⟨0,by omega,by simp⟩ ?_ ?_ ?_
 ·simp [aj,aT]
 ·(try simp -dsimp only [hpx]);refine ai ?_;simp -dsimp [aC,mS]<;>exact rz
 rintro⟨k,hk,v1⟩;dsimp only;by_cases aH:k<m.fs.length
 ·have v0:(k:Int)<m.fs.length:=by omega
  have wk:=wx k;obtain⟨x,hx,hx'⟩:=gx aH;have hB:Fc.bad m.n x=true->uH m=40:=fun h=>by rw [hE,List.any_eq_true.2 ⟨x,hx' ▸ List.getElem_mem aH,h⟩];rfl
  have hG:Fc.bad m.n x=false->(m.fs.take (k+1)).any (Fc.bad m.n)=false:=fun h=>Mj aH v1 (by rw [hx'];exact h);have hb:Fc.bad m.n x=!(bQ x.pl 0 (m.n - 1) && decide (0<=x.a/\x.a<x.b/\x.b<=2000) && bQ x.aX 0 2000 && x.k.ok):=rfl;by_cases c:Fc.bad m.n x=true
  ·have hB:=hB c;rw [c]at hb;obtain⟨pl,a,b,aX,kk⟩:=x;simp only at hb;cases g1:bQ pl 0 (m.n - 1)
   ·simp -dsimp [v0];repeat' first|omega|simp -dsimp [iU,v0,aH,hx,hx',Fc.row,wn,g1,hB]|apply aI|apply nI|intro
   by_cases g2:a<0
   ·simp -dsimp [v0];repeat' first|omega|simp -dsimp [iU,v0,aH,hx,hx',Fc.row,wn,g1,g2,hB]|apply aI|apply nI|intro
   by_cases g3:b<=a
   ·simp -dsimp [v0];repeat' first|omega|simp -dsimp [iU,v0,aH,hx,hx',Fc.row,wn,g1,g2,g3,hB]|apply aI|apply nI|intro
   by_cases g4:2000<b
   ·simp -dsimp [v0];repeat' first|omega|simp -dsimp [iU,v0,aH,hx,hx',Fc.row,wn,g1,g2,g3,g4,hB]|apply aI|apply nI|intro
   cases g5:bQ aX 0 2000
   ·simp -dsimp [v0];repeat' first|omega|simp -dsimp [iU,v0,aH,hx,hx',Fc.row,wn,g1,g2,g3,g4,g5,hB]|apply aI|apply nI|intro
   cases g6:kk.ok
   ·simp -dsimp [v0];repeat' first|omega|simp -dsimp [iU,v0,aH,hx,hx',Fc.row,cR.row,dH,wn,g1,g2,g3,g4,g5,g6,hB]|apply aI|apply nI|intro
   rw [g1,g5,g6,decide_eq_true (by omega)]at hb;cases hb
  ·have c':Fc.bad m.n x=false:=(by simpa using c);have v8:=hG c';rw [c']at hb;obtain⟨pl,a,b,aX,kk⟩:=x;simp only at hb;have hb':=hb.symm;simp only [Bool.not_eq_false',Bool.and_eq_true,decide_eq_true_eq]at hb';obtain⟨⟨⟨g1,g2,g3,g4⟩,g5⟩,g6⟩:=hb';have g2':(a<0)=False:=eq_false (by omega);have g3':(b<=a)=False:=eq_false (by omega);have g4':(2000<b)=False:=eq_false (by omega);simp -dsimp [v0];repeat' first|omega|simp -dsimp [iU,v0,aH,hx,hx',Fc.row,cR.row,dH,wn,g1,g2',g3',g4',g5,g6,wk]|apply aI|apply nI|intro
   refine⟨k+1,ag rfl ?_,?_,⟨by omega,ald v8⟩,by omega⟩
   ·simp [aj,aT]
   ·(try simp -dsimp only [hpx]);refine ai ?_;simp -dsimp [aC,mS]<;>exact rz
 have v2:¬ (k:Int)<m.fs.length:=by omega
 have v3:k=m.fs.length:=by omega
 subst v3;rw [List.take_length]at v1;rw [v1]at hE;clear hk aH v1;simp -dsimp [v2];repeat' first|omega|simp -dsimp [iU,v2]|apply aI|apply nI|intro
 refine ay [93,94,95,96,97,100,101,102,103,104,6,105,106,107,108,109,110,111,112,113,114,115,116,117,118,119,120,121,122,123,2,98,99,5] (fun k:{k:Nat // k<=m.ss.length/\(m.ss.take k).any (Sg.bad m.n)=false}=>[(5,(true,.int .i64 k.1))]) (fun k=>hps [(10406,{base:=k.1,ah:=[]}),(10404,{base:=m.fs.length,ah:=[]}),(10401,mS m)] cg) (fun k=>m.ss.length - k.1) ⟨0,by omega,by simp⟩ ?_ ?_ ?_
 ·simp [aj,aT]
 ·(try simp -dsimp only [hpx]);refine ai ?_;simp -dsimp [aC,mS]<;>exact rz
 rintro⟨k,hk,v1⟩;dsimp only;by_cases aH:k<m.ss.length
 ·have v0:(k:Int)<m.ss.length:=by omega
  have wk:=wx k;obtain⟨x,hx,hx'⟩:=gx aH;have hB:Sg.bad m.n x=true->uH m=40:=fun h=>by rw [hE,List.any_eq_true.2 ⟨x,hx' ▸ List.getElem_mem aH,h⟩];rfl
  have hG:Sg.bad m.n x=false->(m.ss.take (k+1)).any (Sg.bad m.n)=false:=fun h=>Mj aH v1 (by rw [hx'];exact h);have hb:Sg.bad m.n x=!(bQ x.pl 0 (m.n - 1) && bQ x.at' 0 2000 && x.k.ok):=rfl;obtain⟨pl,t,⟨w,s,cc,i,st⟩⟩:=x;simp only at hb;cases g1:bQ pl 0 (m.n - 1)
  ·rw [g1]at hb;have hB:=hB hb;simp -dsimp [v0];repeat' first|omega|simp -dsimp [iU,v0,aH,hx,hx',Sg.row,wn,g1,hB]|apply aI|apply nI|intro
  cases g5:bQ t 0 2000
  ·rw [g1,g5]at hb;have hB:=hB hb;simp -dsimp [v0];repeat' first|omega|simp -dsimp [iU,v0,aH,hx,hx',Sg.row,wn,g1,g5,hB]|apply aI|apply nI|intro
  cases g6:Wt.ok ⟨w,s,cc,i,st⟩
  ·rw [g1,g5,g6]at hb;have hB:=hB hb;simp -dsimp [v0];repeat' first|omega|simp -dsimp [iU,v0,aH,hx,hx',Sg.row,DA,wn,g1,g5,g6,hB]|apply aI|apply nI|intro
  rw [g1,g5,g6]at hb;have hG:=hG hb;simp -dsimp [v0];repeat' first|omega|simp -dsimp [iU,v0,aH,hx,hx',Sg.row,DA,wn,g1,g5,g6,wk]|apply aI|apply nI|intro
  refine⟨k+1,ag rfl ?_,?_,⟨by omega,ald hG⟩,by omega⟩
  ·simp [aj,aT]
  ·(try simp -dsimp only [hpx]);refine ai ?_;simp -dsimp [aC,mS]<;>exact rz
 have v2:¬ (k:Int)<m.ss.length:=by omega
 have v3:k=m.ss.length:=by omega
 subst v3;rw [List.take_length]at v1;rw [v1]at hE;have hE:uH m=0:=by rw [hE];rfl
 simp -dsimp [v2];repeat' first|omega|simp -dsimp [iU,v2,hE]|apply aI|apply nI|intro
theorem VO:FO 104 PR:=pf aqm (.cons L8 (.cons LB (.cons aby .nil)))
noncomputable abbrev LJ:=EV [(104,.pure PR),(105,.pure rgS)] [] 4600 27
theorem b46:af LJ [] Tryz.f46 mmS:=pb <| by
 rintro⟨m,l⟩ hP;have hP:qQ m:=hP;rcases lN m with⟨h0,h1⟩|⟨h0,h1⟩
 ·have hE:uz m l=if l.ok=true then 0 else 41:=by simp [uz,h0]
  rw [Wt.ok]at hE;generalize g1:bQ l.w 0 300=p1 at hE;generalize g2:bQ l.s 0 20000=p2 at hE;generalize g3:bQ l.c 0 20000=p3 at hE;cases p1
  ·simp -dsimp [Tryz.f46,LJ,Wt.row];repeat' first|omega|simp -dsimp [LJ,Wt.row,E4,hP,h1,g1,hE]|apply aI|apply nI|intro
  cases p2
  ·simp -dsimp [Tryz.f46,LJ,Wt.row];repeat' first|omega|simp -dsimp [LJ,Wt.row,E4,hP,h1,g1,g2,hE]|apply aI|apply nI|intro
  cases p3
  ·simp -dsimp [Tryz.f46,LJ,Wt.row];repeat' first|omega|simp -dsimp [LJ,Wt.row,E4,hP,h1,g1,g2,g3,hE]|apply aI|apply nI|intro
  simp -dsimp [Tryz.f46,LJ,Wt.row];repeat' first|omega|simp -dsimp [LJ,Wt.row,E4,hP,h1,g1,g2,g3,hE]|apply aI|apply nI|intro
 ·have hE:uz m l=40:=by simp [uz,h0]
  simp -dsimp [Tryz.f46,LJ,Wt.row];repeat' first|omega|simp -dsimp [LJ,Wt.row,E4,hP,h1,hE]|apply aI|apply nI|intro
theorem apg:FO 46 mmS:=pf b46 (.cons VO (.cons L8 .nil))
theorem okN{m:Met}(h:m.ok=true):1<=m.n/\m.n<=8:=by simp only [Met.ok,Bool.and_eq_true,bQ,decide_eq_true_eq]at h;exact h.1.1.1.1.1.1
noncomputable abbrev afY:=EV [] [] 10600 15
theorem aqr:af afY [] Tryz.f106 rgS:=pb <| by rintro⟨n,lo,hi⟩ _;simp -dsimp [Tryz.f106,afY,bQ];repeat' first|omega|simp -dsimp [afY,bQ]|apply aI|apply nI|intro
theorem ali:FO 106 rgS:=pf aqr .nil
def abM(n:Int)(l:List eN)(k:Nat):Prop:=∀x∈l.take k,eN.bad n x=false
noncomputable abbrev Xm:aB:=bS tiE (fun d=>qQ d.1/\d.2.length<=100000000000000) fun d=>.int .i64 (pq d.1 d.2)
noncomputable abbrev E47:=EV [(104,.pure PR),(106,.pure rgS)] [] 4700 55 [(1,[2,50002])]
theorem b47:af E47 [] Tryz.f47 Xm:=pb <| by
 rintro⟨m,l⟩ ⟨s9,v9⟩;simp only at s9 v9;rcases lN m with⟨h0,v4⟩|⟨h0,v4⟩
 case inr=>
  have hE:pq m l=40:=by simp [pq,h0]
  simp -dsimp [Tryz.f47,E47];repeat' first|omega|simp -dsimp [E47,E4,s9,v4,hE]|apply aI|apply nI|intro
 have hn:=okN h0;have wn:=wi (m.n - 1);have hE:pq m l=if o9 m l=true then 0 else 50:=by simp [pq,h0]
 by_cases v6:(20:Int)<l.length
 ·have hb:o9 m l=false:=by have:¬ l.length<=20:=(by omega);simp [o9,this]
  rw [hb]at hE;have hE:pq m l=50:=hE;simp -dsimp [Tryz.f47,E47];repeat' first|omega|simp -dsimp [E47,E4,s9,v4,v6,hE]|apply aI|apply nI|intro
 have hl:l.length<=20:=by omega
 have Re:((20:Int)<l.length)=False:=eq_false v6;have l7:∀x∈l,eN.bad m.n x=true->pq m l=50:=fun x hx h=>by
  have:o9 m l=false:=by simp only [o9,Bool.and_eq_false_iff,Bool.not_eq_false'];exact .inr (List.any_eq_true.2 ⟨x,hx,h⟩)
  rw [this]at hE;exact hE
 have alj:(∀x∈l,eN.bad m.n x=false)->pq m l=0:=fun h=>by
  have:o9 m l=true:=by simp only [o9,Bool.and_eq_true,decide_eq_true_eq,Bool.not_eq_true',List.any_eq_false];exact⟨hl,fun x hx=>by rw [h x hx];simp⟩
  rw [this]at hE;exact hE
 simp -dsimp [Tryz.f47,E47];repeat' first|omega|simp -dsimp [E47,E4,s9,v4,Re]|apply aI|apply nI|intro
 refine ay [16,17,18,19,22,23,24,25,7,26,27,28,29,30,31,32,33,34,35,36,37,38,39,40,41,42,43,44,45,46,47,48,49,50,51,52,53,54,4,20,21,6] (fun k:{k:Nat // k<=l.length/\abM m.n l k}=>[(6,(true,.int .i64 k.1))]) (fun k=>hps [(4707,{base:=k.1,ah:=[]}),(4702,mS m)] cg) (fun k=>l.length - k.1) ⟨0,by omega,fun x hx=>by simp at hx⟩ ?_ ?_ ?_
 ·simp [aj,aT]
 ·(try simp -dsimp only [hpx]);refine ai ?_;simp -dsimp [aC,mS]<;>exact rz
 rintro⟨k,hk,v1⟩;dsimp only;by_cases aH:k<l.length
 ·have v0:(k:Int)<l.length:=by omega
  have wk:=wx k;obtain⟨x,hx,hx'⟩:=gx aH;have v7:x∈l:=hx' ▸ List.getElem_mem aH;have hb:=l7 x v7;obtain⟨a,b,t⟩:=x;have va:eN.bad m.n ⟨a,b,t⟩=!(bQ a 0 (m.n - 1) && bQ b 0 (m.n - 1) && decide (a≠b) && bQ t 1 200):=rfl;have sQ:eN.bad m.n ⟨a,b,t⟩=false->abM m.n l (k+1):=fun h=>by
   have e:l.take (k+1)=l.take k++[⟨a,b,t⟩]:=(by rw [List.take_add_one,hx];rfl);intro y hy;rw [e]at hy;rcases List.mem_append.1 hy with hy|hy
   ·exact v1 y hy
   ·have:=List.mem_singleton.1 hy;subst this;exact h
  rw [va]at hb sQ;rcases Classical.propComplete (a=b)with c|c<;>cases g1:bQ a 0 (m.n - 1)<;>cases g2:bQ b 0 (m.n - 1)<;>cases g4:bQ t 1 200
  all_goals
   simp only [g1,g2,g4,c,ne_eq,not_true,not_false_iff,decide_true,decide_false,Bool.and_true,Bool.and_false,Bool.true_and,Bool.false_and,Bool.not_true,Bool.not_false,true_implies,reduceCtorEq,false_implies]at hb sQ;simp -dsimp [v0];repeat' first|omega|simp -dsimp [E47,v0,aH,hx,hx',eN.row,wn,g1,g2,c,g4,wk,hb]|apply aI|apply nI|intro
  all_goals
   refine⟨k+1,ag rfl ?_,?_,⟨by omega,sQ⟩,by omega⟩
   ·simp [aj,aT]
   ·(try simp -dsimp only [hpx]);refine ai ?_;simp -dsimp [aC,mS]<;>exact rz
 have v2:¬ (k:Int)<l.length:=by omega
 have v3:k=l.length:=by omega
 subst v3;have hE:=alj fun x hx=>v1 x (by rw [List.take_length];exact hx);simp -dsimp [v2];repeat' first|omega|simp -dsimp [E47,v2,hE]|apply aI|apply nI|intro
theorem aeY:FO 47 Xm:=pf b47 (.cons VO (.cons ali .nil))
theorem jd{n:Nat}{T:T2}(hT:Sq n T){a b:Nat}(ha:a<n)(hb:b<n):∃r,T[a]?=some r/\r.length=n/\r[b]?=some (g2 T a b):=by
 have hi':a<T.length:=by rw [hT.1];exact ha
 have hl:=hT.2 _ (List.getElem_mem hi');refine⟨T[a],List.getElem?_eq_getElem hi',hl,?_⟩;rw [List.getElem?_eq_getElem (by omega)];simp [g2,List.getD,hi',hl,hb]
end Go.Sx
end
end
