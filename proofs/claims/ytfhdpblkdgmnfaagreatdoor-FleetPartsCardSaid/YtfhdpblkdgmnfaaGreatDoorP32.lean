/- Fleet: the reference's crews. No conditions. -/
import Derived.Test.YtfhdpblkdgmnfaaGreatDoorP31
set_option linter.unusedSimpArgs false
set_option linter.unusedVariables false
set_option linter.unusedSectionVars false
set_option maxRecDepth 100000
set_option maxHeartbeats 8000000
noncomputable section
namespace Go.Sx
open Go.Proofs
attribute [local irreducible] HLe
abbrev calRS:PSpec:=mkP clE (fun _=>True) fun c=>.bool (callB c)
abbrev E117:Env:={P:=Tryz.prog,fn:=tbl [(112,.pure tikS),(179,.pure withinS)],own:=[],key:=11700,nt:=13}
theorem b117:PureBody E117 [] Tryz.f117 calRS:=by
 refine pb ?_
 rintro⟨a,b,k,w⟩ _
 have e:callB ⟨a,b,k,w⟩=(strB a b && withinB k 0 7):=rfl
 cases c1:strB a b<;>cases c2:withinB k 0 7
 all_goals
  rw [c1,c2]at e
  simp -dsimp [Tryz.f117,E117,Cl.row]
  repeat' (first|omega|simp -dsimp [E117,ri,cellp,ints,Cl.row,c1,c2,e]|refine aI ?_ fun _=>?_|refine oI fun _=>?_|refine nI ?_ ?_)
theorem ok117:FO 117 calRS:=pf b117 (.cons ok112 (.cons ok179 .nil))
structure WrP (d:Ro × List Du × Int × Cl):Prop where
 chk:(chkE d.1 d.2.1).2=0
 n:0≤d.2.2.1∧d.2.2.1≤d.1.ppl.length - 1
 call:callB d.2.2.2=true
abbrev whyRS:PSpec:=mkP whE WrP fun d=>ints (whyL d.1 d.2.1 d.2.2.1 d.2.2.2)
abbrev E118:Env:={P:=Tryz.prog,fn:=tbl [(113,.pure brkRS)],own:=[],key:=11800,nt:=50,frz:=[(1,[4,7,50004,50007])]}
theorem b118:PureBody E118 [] Tryz.f118 whyRS:=by
 refine pb ?_
 rintro⟨r,l,n,c⟩ ⟨hc,hn,hcall⟩
 simp only at hc hn hcall
 obtain⟨hf,hl60,hrt⟩:=chkE_zero.1 hc
 have hv:=Rt.val (Nat.le_refl _) hrt
 have hdj:=Rt.disj (r:=r) hf.rst.1 n (Nat.le_refl _) hrt
 rw [List.take_length]at hv hdj
 obtain⟨k,rfl⟩:∃k:Nat,n=k:=⟨n.toNat,by omega⟩
 have hk:k<r.ppl.length:=by omega
 have hki:(k:Int)<r.ppl.length:=by omega
 obtain⟨p,hp⟩:∃p,r.ppl[k]?=some p:=⟨_,List.getElem?_eq_getElem hk⟩
 have hp':r.ppl[k]=p:=(List.getElem?_eq_some_iff.1 hp).2
 have hpa:pnAt r k=p:=by simp [pnAt,List.getD,hp]
 have hpo:=hf.p p (by rw [←hp']; exact List.getElem_mem hk)
 have hrat:0≤p.rat∧p.rat≤255:=by
  simp only [Pn.ok,Bool.and_eq_true,decide_eq_true_eq]at hpo; exact hpo.1.1
 have hcr:0≤c.craft∧c.craft≤7:=by
  simp only [callB,Bool.and_eq_true,decide_eq_true_eq]at hcall; exact hcall.2
 have hst:0≤c.a∧c.a<c.b∧c.b≤2000:=by
  simp only [callB,Bool.and_eq_true]at hcall; exact strB_iff.1 hcall.1
 have hbit:=bit_of hrat hcr
 have hRP:RrP (r,l,⟨k,c.a,c.b⟩):=⟨hf,by simp only; omega,hv,hst⟩
 have hre:rbrk r l ⟨k,c.a,c.b⟩=brk r (own l k) ⟨k,c.a,c.b⟩:=rbrk_eq hf hdj (own_val hv k) hst
 have hW:whyL r l k c=(if bit1 p.rat c.craft=true then []else [1])++(if c.water=true∧p.dive<c.b then [2]else [])++brk r (own l k) ⟨k,c.a,c.b⟩:=by unfold whyL; rw [hpa]
 have hBl:(brk r (own l k) ⟨k,c.a,c.b⟩).length≤4:=by
  unfold brk
  simp only [List.length_append]
  split<;>split<;>split<;>split<;>simp
 rw [←hre]at hW hBl
 generalize hB:rbrk r l ⟨k,c.a,c.b⟩=B at *
 obtain⟨ca,cb,cc,cw⟩:=c
 simp only at hcr hst hbit hW hB
 have wc:IntKind.wrap .u64 cc=cc:=wrap_u (by omega) (by omega)
 cases h1:bit1 p.rat cc<;>rw [h1]at hbit hW<;>cases cw<;>rcases Classical.propComplete (p.dive<cb)with h3|h3
 all_goals
  simp only [h3,and_true,and_false,true_and,false_and,if_true,if_false,reduceCtorEq,and_self,List.nil_append,List.cons_append]at hbit hW
  simp -dsimp [Tryz.f118,E118,Cl.row]
  repeat' (first|omega|simp -dsimp [E118,ri,cellp,ints,Cl.row,Pn.row,hk,hki,hp,hp',hbit,wc,rrE_dec0,hRP,hB,hBl,h3,hW]|refine aI ?_ fun _=>?_|refine oI fun _=>?_|refine nI ?_ ?_)
theorem ok118:FO 118 whyRS:=pf b118 (.cons ok113 .nil)
def rbo (b:Bool):List V:=[.bool b]
def mbL (n:Nat) (mv:Nat→Bool) (k:Nat):List Bool:=(List.range n).map fun i=>if i<k then mv i else false
theorem mbL_len (n:Nat) (mv:Nat→Bool) (k:Nat):(mbL n mv k).length=n:=by simp [mbL]
theorem mbL_zero (n:Nat) (mv:Nat→Bool):List.replicate n [V.bool false]=(mbL n mv 0).map rbo:=by
 apply List.ext_getElem
 ·simp [mbL]
 ·intro i h1 h2
  simp [mbL,rbo]
theorem mbL_set {n:Nat} (mv:Nat→Bool) {k:Nat} (hk:k<n) {x:Bool} (hx:mv k=x):((mbL n mv k).map rbo).set k [V.bool x]=(mbL n mv (k+1)).map rbo:=by
 apply List.ext_getElem
 ·simp [mbL]
 ·intro i h1 h2
  simp only [List.length_map,mbL_len]at h2
  rw [List.getElem_set]
  by_cases h:k=i
  ·subst h
   rw [if_pos rfl]
   simp [mbL,rbo,hx]
  ·rw [if_neg h]
   simp only [mbL,List.getElem_map,List.getElem_range,rbo]
   by_cases hik:i<k
   ·rw [if_pos hik,if_pos (by omega)]
   ·rw [if_neg hik,if_neg (by omega)]
theorem mbL_at {n:Nat} (mv:Nat→Bool) {k:Nat} (hk:k<n):(mbL n mv n)[k]?=some (mv k):=by
 simp [mbL,hk]
section
variable (r:Ro) (l:List Du) (c:Cl)
def crIb (i k:Nat):List (Int × Int):=((List.range k).filter fun k:Nat=>mayB r l c i k).map fun k:Nat=>((i:Int),(k:Int))
def crOb (i:Nat):List (Int × Int):=(List.range i).flatMap fun i:Nat=>crIb r l c i r.ppl.length
theorem crOb_end:crOb r l c r.ppl.length=crwL r l c:=rfl
theorem crIb_succ (i k:Nat):crIb r l c i (k+1)=if mayB r l c i k=true then crIb r l c i k++[((i:Int),(k:Int))]else crIb r l c i k:=by
 unfold crIb
 rw [List.range_succ,List.filter_append,List.map_append]
 by_cases h:mayB r l c i k=true
 ·rw [if_pos h]; simp [h]
 ·rw [if_neg h]; simp [h]
theorem crOb_succ (i:Nat):crOb r l c (i+1)=crOb r l c i++crIb r l c i r.ppl.length:=by
 unfold crOb
 rw [List.range_succ,List.flatMap_append]; simp
theorem crIb_len (i:Nat):∀k,(crIb r l c i k).length≤k:=fun k=>by
 unfold crIb
 rw [List.length_map]
 exact Nat.le_trans (List.length_filter_le _ _) (by simp)
theorem crOb_len:∀i,(crOb r l c i).length≤i * r.ppl.length
 | 0=>by simp [crOb]
 | i+1=>by
  have:=crOb_len i
  have:=crIb_len r l c i r.ppl.length
  rw [crOb_succ,List.length_append,Nat.add_mul]; omega
end
theorem whyL_len (r:Ro) (l:List Du) (n:Int) (c:Cl):(whyL r l n c).length≤10:=by
 unfold whyL brk
 simp only [List.length_append]
 repeat' split
 all_goals simp
theorem crE_dec1 (r:Ro) (l:List Du) (a b k:Int) (w:Bool):decC crE [.agg r.row,.sl 3 (l.map Du.row),.agg [.int .i64 a,.int .i64 b,.int .i64 k,.bool w]]=(r,l,⟨a,b,k,w⟩):=decC_eq crE_inj (r,l,⟨a,b,k,w⟩)
abbrev CrwRS:PSpec:=mkP crE (fun d=>(chkE d.1 d.2.1).2=0) fun e=>.tup [.sl 2 ((if callB e.2.2=true then crwL e.1 e.2.1 e.2.2 else []).map prw),.int .i64 (if callB e.2.2=true then 0 else 1)]
abbrev E58:Env:={P:=Tryz.prog,fn:=tbl [(52,.pure ckRS),(117,.pure calRS),(118,.pure whyRS)],own:=[],key:=5800,nt:=99,frz:=[(1,[3,5,50003,50005])]}
theorem b58:PureBody E58 [] Tryz.f58 CrwRS:=by
 refine pb ?_
 rintro⟨r,l,c⟩ hz
 have hz:(chkE r l).2=0:=hz
 obtain⟨hf,hl60,hrt⟩:=chkE_zero.1 hz
 have hCP:ChP (r,l):=⟨by have:=hf.n; simp only; omega,by simp only; omega⟩
 cases hcall:callB c
 ·simp -dsimp [Tryz.f58,E58]
  repeat' (first|omega|simp -dsimp [E58,ri,cellp,ints,chE_dec0,clE_dec0,hCP,hz,hcall]|refine aI ?_ fun _=>?_|refine oI fun _=>?_|refine nI ?_ ?_)
 have hWP:∀k:Nat,k<r.ppl.length→WrP (r,l,(k:Int),c):=fun k hk=>⟨hz,by simp only; omega,hcall⟩
 have hend:=crOb_end r l c
 have hn12:=hf.n
 simp -dsimp [Tryz.f58,E58]
 repeat' (first|omega|simp -dsimp [E58,ri,cellp,ints,chE_dec0,clE_dec0,hCP,hz,hcall]|refine aI ?_ fun _=>?_|refine oI fun _=>?_|refine nI ?_ ?_)
 refine awp_loop [31,32,33,34,37,38,39,40,41,42,43,44,45,46,35,36,11] (fun k:{k:Nat // k≤r.ppl.length}=>[(11,(true,.int .i64 k.1))]) (fun k=>hps [(5830,{base:=0,blks:=[{z:=1,els:=(mbL r.ppl.length (fun i=>(whyL r l i c).isEmpty) k.1).map rbo,ty:=4}]}),(5803,roS r),(5805,clS c)] noH) (fun k=>r.ppl.length - k.1) ⟨0,by omega⟩ ?_ ?_ ?_
 ·simp [okAll,okv]
 ·simp only [←mbL_zero]; exact(by(try simp -dsimp only [hpx]); refine hle_hps ?_; simp -dsimp [allK,roS,clS]<;>exact rz)
 rintro⟨k,hk⟩
 dsimp only
 have hml:=mbL_len r.ppl.length (fun i=>(whyL r l i c).isEmpty) k
 by_cases hk1:k<r.ppl.length
 ·have hki:(k:Int)<r.ppl.length:=by omega
  have wk:IntKind.wrap .i64 ((k:Int)+1)=(k+1:Nat):=wrap_id (by omega) (by omega)
  have hW:=hWP k hk1
  have hset:=fun x (h:(whyL r l k c).isEmpty=x)=>mbL_set (fun i=>(whyL r l i c).isEmpty) hk1 h
  have hkm:k<(mbL r.ppl.length (fun i=>(whyL r l i c).isEmpty) k).length:=by omega
  have hwl:=whyL_len r l k c
  rcases hwy:whyL r l k c with _|⟨y,ys⟩
  ·have hset:=hset true (by rw [hwy]; rfl)
   simp -dsimp [hki]
   repeat' (first|omega|simp -dsimp [E58,ri,cellp,ints,hki,hk1,hkm,hml,rbo,whE_dec0,hW,hwy,wk]|refine aI ?_ fun _=>?_|refine oI fun _=>?_|refine nI ?_ ?_)
   refine⟨k+1,tle_chain rfl ?_,?_,by omega,by omega⟩
   ·simp [okAll,okv]
   ·rw [←hset]; exact(by(try simp -dsimp only [hpx]); refine hle_hps ?_; simp -dsimp [allK,roS,clS,rbo]<;>exact rz)
  ·have hset:=hset false (by rw [hwy]; rfl)
   have hyl:((ys.length:Int)+1 == 0)=false:=by simp; omega
   simp -dsimp [hki]
   repeat' (first|omega|simp -dsimp [E58,ri,cellp,ints,hki,hk1,hkm,hml,rbo,whE_dec0,hW,hwy,hyl,wk]|refine aI ?_ fun _=>?_|refine oI fun _=>?_|refine nI ?_ ?_)
   refine⟨k+1,tle_chain rfl ?_,?_,by omega,by omega⟩
   ·simp [okAll,okv]
   ·rw [←hset]; exact(by(try simp -dsimp only [hpx]); refine hle_hps ?_; simp -dsimp [allK,roS,clS,rbo]<;>exact rz)
 have hkn:¬ (k:Int)<r.ppl.length:=by omega
 have hke:k=r.ppl.length:=by omega
 subst hke
 have hat:=fun k (hk:k<r.ppl.length)=>mbL_at (fun i=>(whyL r l i c).isEmpty) hk
 generalize mbL r.ppl.length (fun i=>(whyL r l i c).isEmpty) r.ppl.length=M at *
 simp -dsimp [hkn]
 repeat' (first|omega|simp -dsimp [E58,ri,cellp,ints,hkn,hml]|refine aI ?_ fun _=>?_|refine oI fun _=>?_|refine nI ?_ ?_)
 refine awp_loop_g [(12,5897,2,77)] rfl (by simp) [47,48,49,50,14,53,54,55,56,59,60,61,62,63,64,65,66,67,68,69,70,71,72,73,74,75,76,77,78,79,80,81,82,83,84,85,86,87,88,89,90,91,92,93,94,95,96,97,12,57,58,51,52,13] (fun i:{i:Nat // i≤r.ppl.length}=>[(13,(true,.int .i64 i.1)),(12,(true,.bsl 5897 0 (crOb r l c i.1).length))]) (fun i=>hps [(5897,{base:=0,blks:=[{z:=2,els:=(crOb r l c i.1).map prw,ty:=77}]}),(5830,{base:=0,blks:=[{z:=1,els:=M.map rbo,ty:=4}]}),(5803,roS r),(5805,clS c)] noH) (fun i=>r.ppl.length - i.1) ⟨0,by omega⟩ ?_ ?_ ?_
 ·simp [okAll,okv,crOb]
 ·exact(by(try simp -dsimp only [hpx]); refine hle_hps ?_; simp -dsimp [allK,roS,clS,crOb]<;>exact rz)
 rintro⟨i,hi⟩
 dsimp only
 have hol:=crOb_len r l c i
 by_cases hi1:i<r.ppl.length
 case neg=>
  have hin:¬ (i:Int)<r.ppl.length:=by omega
  have hie:i=r.ppl.length:=by omega
  subst hie
  simp -dsimp [hin]
  repeat' (first|omega|simp -dsimp [E58,ri,cellp,ints,hin,hend,hml,hcall]|refine aI ?_ fun _=>?_|refine oI fun _=>?_|refine nI ?_ ?_)
 have hii:(i:Int)<r.ppl.length:=by omega
 have wi:IntKind.wrap .i64 ((i:Int)+1)=(i+1:Nat):=wrap_id (by omega) (by omega)
 have hxi:=hat i hi1
 have hMi:i<M.length:=by omega
 have hxi':M[i]=(whyL r l i c).isEmpty:=(List.getElem?_eq_some_iff.1 hxi).2
 obtain⟨p,hp⟩:∃p,r.ppl[i]?=some p:=⟨_,List.getElem?_eq_getElem hi1⟩
 have hp':r.ppl[i]=p:=(List.getElem?_eq_some_iff.1 hp).2
 have hpa:pnAt r i=p:=by simp [pnAt,List.getD,hp]
 have hos:=crOb_succ r l c i
 simp -dsimp [hii]
 repeat' (first|omega|simp -dsimp [E58,ri,cellp,ints,hii,hi1,hMi,hml]|refine aI ?_ fun _=>?_|refine oI fun _=>?_|refine nI ?_ ?_)
 refine awp_loop [53,54,55,56,59,60,61,62,63,64,65,66,67,68,69,70,71,72,73,74,75,76,77,78,79,80,81,82,83,84,85,86,87,88,89,90,91,92,93,94,95,96,97,12,57,58,14] (fun j:{j:Nat // j≤r.ppl.length}=>[(14,(true,.int .i64 j.1)),(12,(true,.bsl 5897 0 ((crOb r l c i).length+(crIb r l c i j.1).length)))]) (fun j=>hps [(5897,{base:=0,blks:=[{z:=2,els:=(crOb r l c i++crIb r l c i j.1).map prw,ty:=77}]}),(5830,{base:=0,blks:=[{z:=1,els:=M.map rbo,ty:=4}]}),(5803,roS r),(5805,clS c)] noH) (fun j=>r.ppl.length - j.1) ⟨0,by omega⟩ ?_ ?_ ?_
 ·simp [okAll,okv,crIb]
 ·exact(by(try simp -dsimp only [hpx]); refine hle_hps ?_; simp -dsimp [allK,roS,clS,crIb]<;>exact rz)
 rintro⟨j,hj⟩
 dsimp only
 have hil:=crIb_len r l c i j
 by_cases hj1:j<r.ppl.length
 case neg=>
  have hjn:¬ (j:Int)<r.ppl.length:=by omega
  have hje:j=r.ppl.length:=by omega
  subst hje
  simp -dsimp [hjn]
  repeat' (first|omega|simp -dsimp [E58,ri,cellp,ints,hjn,hml,wi]|refine aI ?_ fun _=>?_|refine oI fun _=>?_|refine nI ?_ ?_)
  refine⟨i+1,tle_kept (kept_upds rfl (kept_forget rfl (kept_upds rfl kept_base))) ?_,?_,by omega,by omega⟩
  ·simp [okAll,okv,hos]
  ·rw [hos]; exact(by(try simp -dsimp only [hpx]); refine hle_hps ?_; simp -dsimp [allK,roS,clS]<;>exact rz)
 have hji:(j:Int)<r.ppl.length:=by omega
 have wj:IntKind.wrap .i64 ((j:Int)+1)=(j+1:Nat):=wrap_id (by omega) (by omega)
 have hxj:=hat j hj1
 have hMj:j<M.length:=by omega
 have hxj':M[j]=(whyL r l j c).isEmpty:=(List.getElem?_eq_some_iff.1 hxj).2
 obtain⟨q,hq⟩:∃p,r.ppl[j]?=some p:=⟨_,List.getElem?_eq_getElem hj1⟩
 have hq':r.ppl[j]=q:=(List.getElem?_eq_some_iff.1 hq).2
 have hqa:pnAt r j=q:=by simp [pnAt,List.getD,hq]
 have his:=crIb_succ r l c i j
 have hmw:mayB r l c i j=(decide (i≠j) && (decide (2≤p.rank) && (whyL r l i c).isEmpty) && (decide (1≤q.rank) && (whyL r l j c).isEmpty)):=by rw [←hpa,←hqa]; rfl
 have hol2:(crOb r l c i).length≤1000:=by
  have:i * r.ppl.length≤12 * 12:=Nat.mul_le_mul (by omega) hn12
  omega
 have hb:((crOb r l c i).length+(crIb r l c i j).length+1) * 16≤140737488355328:=by omega
 rcases Classical.propComplete (i=j)with a1|a1
 ·have a1':=of_eq_true a1
  subst a1'
  rw [hmw,decide_eq_false (by simp:¬ i≠i)]at his
  simp only [Bool.false_and,if_false,reduceCtorEq]at his
  simp -dsimp [hji]
  repeat' (first|omega|simp -dsimp [E58,ri,cellp,ints,hji,hj1,hMj,hml,hxj,hxj',rbo,wj]|refine aI ?_ fun _=>?_|refine oI fun _=>?_|refine nI ?_ ?_)
  refine⟨i+1,tle_chain rfl ?_,?_,by omega,by omega⟩
  ·simp [okAll,okv,his]
  ·rw [his]; exact(by(try simp -dsimp only [hpx]); refine hle_hps ?_; simp -dsimp [allK,roS,clS]<;>exact rz)
 have a1n:=of_eq_false a1
 have a1i:((i:Int) != j)=true:=by simp; omega
 rw [decide_eq_true a1n]at hmw
 obtain⟨pr,pk,pd⟩:=p
 obtain⟨qr,qk,qd⟩:=q
 simp only at hmw
 generalize (whyL r l i c).isEmpty=bi at *
 generalize (whyL r l j c).isEmpty=bj at *
 rcases Classical.propComplete (2≤pk)with a2|a2<;>rcases Classical.propComplete (1≤qk)with a3|a3<;>cases bi<;>cases bj
 all_goals
  simp only [a2,a3,decide_true,decide_false,Bool.and_true,Bool.and_false,Bool.true_and,Bool.false_and,Bool.and_self]at hmw
  simp only [hmw,if_true,if_false,reduceCtorEq]at his
  simp -dsimp [hji]
  repeat' (first|omega|simp -dsimp [E58,ri,cellp,ints,hji,hj1,hii,hi1,hMi,hMj,hml,hxi,hxi',hxj,hxj',hp,hp',hq,hq',Pn.row,rbo,a1,a1i,a2,a3,hb,wj]|refine aI ?_ fun _=>?_|refine oI fun _=>?_|refine nI ?_ ?_)
  all_goals
   refine⟨j+1,tle_chain rfl ?_,?_,by omega,by omega⟩
   ·simp [okAll,okv,his,Nat.add_assoc]
   ·rw [his]; exact(by(try simp -dsimp only [hpx]); refine hle_hps ?_; simp -dsimp [allK,roS,clS,prw]<;>exact rz)
theorem ok58:FO 58 CrwRS:=pf b58 (.cons ok52 (.cons ok117 (.cons ok118 .nil)))
end Go.Sx
end
