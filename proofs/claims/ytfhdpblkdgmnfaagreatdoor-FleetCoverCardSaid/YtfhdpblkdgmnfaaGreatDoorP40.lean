/- Fleet: the reference's crews. No conditions. -/
import Derived.Test.YtfhdpblkdgmnfaaGreatDoorP32
set_option linter.unusedSimpArgs false
set_option linter.unusedVariables false
set_option linter.unusedSectionVars false
set_option maxRecDepth 100000
set_option maxHeartbeats 8000000
noncomputable section
namespace Go.Sx
open Go.Proofs
attribute [local irreducible] bA
noncomputable abbrev V8:aB:=bS clE (fun _=>True) fun c=>.bool (jx c)
noncomputable abbrev agf:Env:={P:=Tryz.prog,fn:=bf [(112,.pure aai),(179,.pure bF)],own:=[],key:=11700,nt:=13}
theorem aqO:af agf [] Tryz.f117 V8:=pb <| by
 rintro⟨a,b,k,w⟩ _
 have e:jx ⟨a,b,k,w⟩=(r9 a b && au k 0 7):=rfl
 cases c1:r9 a b<;>cases c2:au k 0 7
 all_goals
  rw [c1,c2]at e
  simp -dsimp [Tryz.f117,agf,Cl.row]
  repeat' (first|omega|simp -dsimp [agf,ri,aa,ints,Cl.row,c1,c2,e]|apply aI|refine oI fun _=>?_|apply nI)
theorem aly:FO 117 V8:=pf aqO (.cons abC (.cons Ve .nil))
structure WrP (d:Ro × List Du × Int × Cl):Prop where
 iV:(fL d.1 d.2.1).2=0
 n:0≤d.2.2.1∧d.2.2.1≤d.1.bM.length - 1
 call:jx d.2.2.2=true
noncomputable abbrev V9:aB:=bS Yi WrP fun d=>ints (jZ d.1 d.2.1 d.2.2.1 d.2.2.2)
noncomputable abbrev agh:Env:={P:=Tryz.prog,fn:=bf [(113,.pure Kw)],own:=[],key:=11800,nt:=50,jQ:=[(1,[4,7,50004,50007])]}
theorem aqP:af agh [] Tryz.f118 V9:=pb <| by
 rintro⟨r,l,n,c⟩ ⟨hc,hn,gi⟩
 simp only at hc hn gi
 obtain⟨hf,aiW,MS⟩:=dN.1 hc
 have hv:=Rt.val (Nat.le_refl _) MS
 have hdj:=Rt.Z8 (r:=r) hf.fN.1 n (Nat.le_refl _) MS
 rw [List.take_length]at hv hdj
 obtain⟨k,rfl⟩:∃k:Nat,n=k:=⟨n.toNat,by omega⟩
 have hk:k<r.bM.length:=by omega
 have hki:(k:Int)<r.bM.length:=by omega
 obtain⟨p,hp,hp'⟩:=gx hk
 have hpa:mV r k=p:=by simp [mV,List.getD,hp]
 have NG:=hf.p p (by rw [←hp']; exact List.getElem_mem hk)
 have adK:0≤p.rat∧p.rat≤255:=by
  simp only [Pn.ok,Bool.and_eq_true,decide_eq_true_eq]at NG; exact NG.1.1
 have GY:0≤c.gP∧c.gP≤7:=by
  simp only [jx,Bool.and_eq_true,decide_eq_true_eq]at gi; exact gi.2
 have hst:0≤c.a∧c.a<c.b∧c.b≤2000:=by
  simp only [jx,Bool.and_eq_true]at gi; exact gQ.1 gi.1
 have yV:=Ie adK GY
 have WH:RrP (r,l,⟨k,c.a,c.b⟩):=⟨hf,by simp only; omega,hv,hst⟩
 have hre:HE r l ⟨k,c.a,c.b⟩=brk r (own l k) ⟨k,c.a,c.b⟩:=LZ hf hdj (qC hv k) hst
 have hW:jZ r l k c=(if wP p.rat c.gP=true then []else [1])++(if c.vX=true∧p.mW<c.b then [2]else [])++brk r (own l k) ⟨k,c.a,c.b⟩:=by unfold jZ; rw [hpa]
 have iq:(brk r (own l k) ⟨k,c.a,c.b⟩).length≤4:=by
  unfold brk
  simp only [List.length_append]
  split<;>split<;>split<;>split<;>simp
 rw [←hre]at hW iq
 generalize hB:HE r l ⟨k,c.a,c.b⟩=B at *
 obtain⟨ca,cb,cc,cw⟩:=c
 simp only at GY hst yV hW hB
 have wc:IntKind.wrap .u64 cc=cc:=IV (by omega) (by omega)
 cases h1:wP p.rat cc<;>rw [h1]at yV hW<;>cases cw<;>rcases Classical.propComplete (p.mW<cb)with h3|h3
 all_goals
  simp only [h3,and_true,and_false,true_and,false_and,if_true,if_false,reduceCtorEq,and_self,List.nil_append,List.cons_append]at yV hW
  simp -dsimp [Tryz.f118,agh,Cl.row]
  repeat' (first|omega|simp -dsimp [agh,ri,aa,ints,Cl.row,Pn.row,hk,hki,hp,hp',yV,wc,TA,WH,hB,iq,h3,hW]|apply aI|refine oI fun _=>?_|apply nI)
theorem alz:FO 118 V9:=pf aqP (.cons abh .nil)
def Jx (b:Bool):List V:=[.bool b]
def Jy (n:Nat) (mv:Nat→Bool) (k:Nat):List Bool:=(List.range n).map fun i=>if i<k then mv i else false
theorem Mv (n:Nat) (mv:Nat→Bool) (k:Nat):(Jy n mv k).length=n:=by simp [Jy]
theorem Wa (n:Nat) (mv:Nat→Bool):List.replicate n [V.bool false]=(Jy n mv 0).map Jx:=by
 apply List.ext_getElem
 ·simp [Jy]
 ·intro i h1 h2
  simp [Jy,Jx]
theorem aaR {n:Nat} (mv:Nat→Bool) {k:Nat} (hk:k<n) {x:Bool} (hx:mv k=x):((Jy n mv k).map Jx).set k [V.bool x]=(Jy n mv (k+1)).map Jx:=by
 apply List.ext_getElem
 ·simp [Jy]
 ·intro i h1 h2
  simp only [List.length_map,Mv]at h2
  rw [List.getElem_set]
  by_cases h:k=i
  ·subst h
   rw [if_pos rfl]
   simp [Jy,Jx,hx]
  ·rw [if_neg h]
   simp only [Jy,List.getElem_map,List.getElem_range,Jx]
   by_cases hik:i<k
   ·rw [if_pos hik,if_pos (by omega)]
   ·rw [if_neg hik,if_neg (by omega)]
theorem agi {n:Nat} (mv:Nat→Bool) {k:Nat} (hk:k<n):(Jy n mv n)[k]?=some (mv k):=by
 simp [Jy,hk]
section
variable (r:Ro) (l:List Du) (c:Cl)
def vI (i k:Nat):List (Int × Int):=((List.range k).filter fun k:Nat=>C7 r l c i k).map fun k:Nat=>((i:Int),(k:Int))
def uv (i:Nat):List (Int × Int):=(List.range i).flatMap fun i:Nat=>vI r l c i r.bM.length
theorem zH:uv r l c r.bM.length=tF r l c:=rfl
theorem OP (i k:Nat):vI r l c i (k+1)=if C7 r l c i k=true then vI r l c i k++[((i:Int),(k:Int))]else vI r l c i k:=by
 unfold vI
 rw [List.range_succ,List.filter_append,List.map_append]
 by_cases h:C7 r l c i k=true
 ·rw [if_pos h]; simp [h]
 ·rw [if_neg h]; simp [h]
theorem Cf (i:Nat):uv r l c (i+1)=uv r l c i++vI r l c i r.bM.length:=by
 unfold uv
 rw [List.range_succ,List.flatMap_append]; simp
theorem GN (i:Nat):∀k,(vI r l c i k).length≤k:=fun k=>by
 unfold vI
 rw [List.length_map]
 exact Nat.le_trans (List.length_filter_le _ _) (by simp)
theorem uf:∀i,(uv r l c i).length≤i * r.bM.length
 | 0=>by simp [uv]
 | i+1=>by
  have:=uf i
  have:=GN r l c i r.bM.length
  rw [Cf,List.length_append,Nat.add_mul]; omega
end
theorem Wb (r:Ro) (l:List Du) (n:Int) (c:Cl):(jZ r l n c).length≤10:=by
 unfold jZ brk
 simp only [List.length_append]
 repeat' split
 all_goals simp
theorem Gj (r:Ro) (l:List Du) (a b k:Int) (w:Bool):aY crE [.agg r.row,.sl 3 (l.map Du.row),.agg [.int .i64 a,.int .i64 b,.int .i64 k,.bool w]]=(r,l,⟨a,b,k,w⟩):=aA YG (r,l,⟨a,b,k,w⟩)
noncomputable abbrev Vi:aB:=bS crE (fun d=>(fL d.1 d.2.1).2=0) fun e=>.dB [.sl 2 ((if jx e.2.2=true then tF e.1 e.2.1 e.2.2 else []).map Tk),.int .i64 (if jx e.2.2=true then 0 else 1)]
noncomputable abbrev OQ:Env:={P:=Tryz.prog,fn:=bf [(52,.pure Vj),(117,.pure V8),(118,.pure V9)],own:=[],key:=5800,nt:=99,jQ:=[(1,[3,5,50003,50005])]}
theorem b58:af OQ [] Tryz.f58 Vi:=pb <| by
 rintro⟨r,l,c⟩ hz
 have hz:(fL r l).2=0:=hz
 obtain⟨hf,aiW,MS⟩:=dN.1 hz
 have zY:MG (r,l):=⟨by have:=hf.n; simp only; omega,by simp only; omega⟩
 cases gi:jx c
 ·simp -dsimp [Tryz.f58,OQ]
  repeat' (first|omega|simp -dsimp [OQ,ri,aa,ints,dw,FE,zY,hz,gi]|apply aI|refine oI fun _=>?_|apply nI)
 have hWP:∀k:Nat,k<r.bM.length→WrP (r,l,(k:Int),c):=fun k hk=>⟨hz,by simp only; omega,gi⟩
 have hend:=zH r l c
 have adM:=hf.n
 simp -dsimp [Tryz.f58,OQ]
 repeat' (first|omega|simp -dsimp [OQ,ri,aa,ints,dw,FE,zY,hz,gi]|apply aI|refine oI fun _=>?_|apply nI)
 refine ay [31,32,33,34,37,38,39,40,41,42,43,44,45,46,35,36,11] (fun k:{k:Nat // k≤r.bM.length}=>[(11,(true,.int .i64 k.1))]) (fun k=>hps [(5830,{base:=0,ah:=[{z:=1,els:=(Jy r.bM.length (fun i=>(jZ r l i c).isEmpty) k.1).map Jx,ty:=4}]}),(5803,TB r),(5805,TC c)] cg) (fun k=>r.bM.length - k.1) ⟨0,by omega⟩ ?_ ?_ ?_
 ·simp [aj,aT]
 ·simp only [←Wa]; (try simp -dsimp only [hpx]); refine ai ?_; simp -dsimp [aC,TB,TC]<;>exact rz
 rintro⟨k,hk⟩
 dsimp only
 have hml:=Mv r.bM.length (fun i=>(jZ r l i c).isEmpty) k
 by_cases aH:k<r.bM.length
 ·have hki:(k:Int)<r.bM.length:=by omega
  have wk:=wx k
  have hW:=hWP k aH
  have bE:=fun x (h:(jZ r l k c).isEmpty=x)=>aaR (fun i=>(jZ r l i c).isEmpty) aH h
  have hkm:k<(Jy r.bM.length (fun i=>(jZ r l i c).isEmpty) k).length:=by omega
  have hwl:=Wb r l k c
  rcases YJ:jZ r l k c with _|⟨y,ys⟩
  ·have bE:=bE true (by rw [YJ]; rfl)
   simp -dsimp [hki]
   repeat' (first|omega|simp -dsimp [OQ,ri,aa,ints,hki,aH,hkm,hml,Jx,FD,hW,YJ,wk]|apply aI|refine oI fun _=>?_|apply nI)
   refine⟨k+1,ag rfl ?_,?_,by omega,by omega⟩
   ·simp [aj,aT]
   ·rw [←bE]; (try simp -dsimp only [hpx]); refine ai ?_; simp -dsimp [aC,TB,TC,Jx]<;>exact rz
  ·have bE:=bE false (by rw [YJ]; rfl)
   have nM:((ys.length:Int)+1 == 0)=false:=by simp; omega
   simp -dsimp [hki]
   repeat' (first|omega|simp -dsimp [OQ,ri,aa,ints,hki,aH,hkm,hml,Jx,FD,hW,YJ,nM,wk]|apply aI|refine oI fun _=>?_|apply nI)
   refine⟨k+1,ag rfl ?_,?_,by omega,by omega⟩
   ·simp [aj,aT]
   ·rw [←bE]; (try simp -dsimp only [hpx]); refine ai ?_; simp -dsimp [aC,TB,TC,Jx]<;>exact rz
 have hkn:¬ (k:Int)<r.bM.length:=by omega
 have hke:k=r.bM.length:=by omega
 subst hke
 have lC:=fun k (hk:k<r.bM.length)=>agi (fun i=>(jZ r l i c).isEmpty) hk
 generalize Jy r.bM.length (fun i=>(jZ r l i c).isEmpty) r.bM.length=M at *
 simp -dsimp [hkn]
 repeat' (first|omega|simp -dsimp [OQ,ri,aa,ints,hkn,hml]|apply aI|refine oI fun _=>?_|apply nI)
 refine dA [(12,5897,2,77)] rfl (by simp) [47,48,49,50,14,53,54,55,56,59,60,61,62,63,64,65,66,67,68,69,70,71,72,73,74,75,76,77,78,79,80,81,82,83,84,85,86,87,88,89,90,91,92,93,94,95,96,97,12,57,58,51,52,13] (fun i:{i:Nat // i≤r.bM.length}=>[(13,(true,.int .i64 i.1)),(12,(true,.bw 5897 0 (uv r l c i.1).length))]) (fun i=>hps [(5897,{base:=0,ah:=[{z:=2,els:=(uv r l c i.1).map Tk,ty:=77}]}),(5830,{base:=0,ah:=[{z:=1,els:=M.map Jx,ty:=4}]}),(5803,TB r),(5805,TC c)] cg) (fun i=>r.bM.length - i.1) ⟨0,by omega⟩ ?_ ?_ ?_
 ·simp [aj,aT,uv]
 ·(try simp -dsimp only [hpx]); refine ai ?_; simp -dsimp [aC,TB,TC,uv]<;>exact rz
 rintro⟨i,hi⟩
 dsimp only
 have jU:=uf r l c i
 by_cases hi1:i<r.bM.length
 case neg=>
  have hin:¬ (i:Int)<r.bM.length:=by omega
  have hie:i=r.bM.length:=by omega
  subst hie
  simp -dsimp [hin]
  repeat' (first|omega|simp -dsimp [OQ,ri,aa,ints,hin,hend,hml,gi]|apply aI|refine oI fun _=>?_|apply nI)
 have hii:(i:Int)<r.bM.length:=by omega
 have wi:=wx i
 have hxi:=lC i hi1
 have hMi:i<M.length:=by omega
 have adN:M[i]=(jZ r l i c).isEmpty:=(List.getElem?_eq_some_iff.1 hxi).2
 obtain⟨p,hp,hp'⟩:=gx hi1
 have hpa:mV r i=p:=by simp [mV,List.getD,hp]
 have hos:=Cf r l c i
 simp -dsimp [hii]
 repeat' (first|omega|simp -dsimp [OQ,ri,aa,ints,hii,hi1,hMi,hml]|apply aI|refine oI fun _=>?_|apply nI)
 refine ay [53,54,55,56,59,60,61,62,63,64,65,66,67,68,69,70,71,72,73,74,75,76,77,78,79,80,81,82,83,84,85,86,87,88,89,90,91,92,93,94,95,96,97,12,57,58,14] (fun j:{j:Nat // j≤r.bM.length}=>[(14,(true,.int .i64 j.1)),(12,(true,.bw 5897 0 ((uv r l c i).length+(vI r l c i j.1).length)))]) (fun j=>hps [(5897,{base:=0,ah:=[{z:=2,els:=(uv r l c i++vI r l c i j.1).map Tk,ty:=77}]}),(5830,{base:=0,ah:=[{z:=1,els:=M.map Jx,ty:=4}]}),(5803,TB r),(5805,TC c)] cg) (fun j=>r.bM.length - j.1) ⟨0,by omega⟩ ?_ ?_ ?_
 ·simp [aj,aT,vI]
 ·(try simp -dsimp only [hpx]); refine ai ?_; simp -dsimp [aC,TB,TC,vI]<;>exact rz
 rintro⟨j,hj⟩
 dsimp only
 have tf:=GN r l c i j
 by_cases hj1:j<r.bM.length
 case neg=>
  have hjn:¬ (j:Int)<r.bM.length:=by omega
  have AD:j=r.bM.length:=by omega
  subst AD
  simp -dsimp [hjn]
  repeat' (first|omega|simp -dsimp [OQ,ri,aa,ints,hjn,hml,wi]|apply aI|refine oI fun _=>?_|apply nI)
  refine⟨i+1,cq (aN rfl (br rfl (aN rfl bO))) ?_,?_,by omega,by omega⟩
  ·simp [aj,aT,hos]
  ·rw [hos]; (try simp -dsimp only [hpx]); refine ai ?_; simp -dsimp [aC,TB,TC]<;>exact rz
 have hji:(j:Int)<r.bM.length:=by omega
 have wj:=wx j
 have YK:=lC j hj1
 have hMj:j<M.length:=by omega
 have IA:M[j]=(jZ r l j c).isEmpty:=(List.getElem?_eq_some_iff.1 YK).2
 obtain⟨q,hq,EE⟩:=gx hj1
 have hqa:mV r j=q:=by simp [mV,List.getD,hq]
 have D7:=OP r l c i j
 have OY:C7 r l c i j=(decide (i≠j) && (decide (2≤p.qV) && (jZ r l i c).isEmpty) && (decide (1≤q.qV) && (jZ r l j c).isEmpty)):=by rw [←hpa,←hqa]; rfl
 have an1:(uv r l c i).length≤1000:=by
  have:i * r.bM.length≤12 * 12:=Nat.mul_le_mul (by omega) adM
  omega
 have hb:((uv r l c i).length+(vI r l c i j).length+1) * 16≤140737488355328:=by omega
 rcases Classical.propComplete (i=j)with a1|a1
 ·have a1':=of_eq_true a1
  subst a1'
  rw [OY,decide_eq_false (by simp:¬ i≠i)]at D7
  simp only [Bool.false_and,if_false,reduceCtorEq]at D7
  simp -dsimp [hji]
  repeat' (first|omega|simp -dsimp [OQ,ri,aa,ints,hji,hj1,hMj,hml,YK,IA,Jx,wj]|apply aI|refine oI fun _=>?_|apply nI)
  refine⟨i+1,ag rfl ?_,?_,by omega,by omega⟩
  ·simp [aj,aT,D7]
  ·rw [D7]; (try simp -dsimp only [hpx]); refine ai ?_; simp -dsimp [aC,TB,TC]<;>exact rz
 have a1n:=of_eq_false a1
 have a1i:((i:Int) != j)=true:=by simp; omega
 rw [decide_eq_true a1n]at OY
 obtain⟨pr,pk,pd⟩:=p
 obtain⟨qr,qk,qd⟩:=q
 simp only at OY
 generalize (jZ r l i c).isEmpty=bi at *
 generalize (jZ r l j c).isEmpty=bj at *
 rcases Classical.propComplete (2≤pk)with a2|a2<;>rcases Classical.propComplete (1≤qk)with a3|a3<;>cases bi<;>cases bj
 all_goals
  simp only [a2,a3,decide_true,decide_false,Bool.and_true,Bool.and_false,Bool.true_and,Bool.false_and,Bool.and_self]at OY
  simp only [OY,if_true,if_false,reduceCtorEq]at D7
  simp -dsimp [hji]
  repeat' (first|omega|simp -dsimp [OQ,ri,aa,ints,hji,hj1,hii,hi1,hMi,hMj,hml,hxi,adN,YK,IA,hp,hp',hq,EE,Pn.row,Jx,a1,a1i,a2,a3,hb,wj]|apply aI|refine oI fun _=>?_|apply nI)
  all_goals
   refine⟨j+1,ag rfl ?_,?_,by omega,by omega⟩
   ·simp [aj,aT,D7,Nat.add_assoc]
   ·rw [D7]; (try simp -dsimp only [hpx]); refine ai ?_; simp -dsimp [aC,TB,TC,Tk]<;>exact rz
theorem apP:FO 58 Vi:=pf b58 (.cons afk (.cons aly (.cons alz .nil)))
end Go.Sx
end
