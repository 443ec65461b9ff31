/- A part of a proof; no conditions. -/
import Derived.Test.YtfhdpblkdgmnfaaGreatDoorP20
set_option linter.unusedSimpArgs false
set_option linter.unusedVariables false
set_option linter.unusedSectionVars false
set_option maxRecDepth 100000
set_option maxHeartbeats 8000000
noncomputable section
section
namespace Go.Sx
open Go.Proofs
attribute [local irreducible] HLe
theorem c3P_of {s i n e j:Nat} {h:Hp} {k:Sky} {b1 b2 b3:Nat} (ha:s=19506∧i=0∧n=1∧e=0∧j=0) (h0:h 19506=skB k) (h1:h 26403={base:=b1,blks:=[]}) (h2:h 26405={base:=b2,blks:=[]}) (h3:h 24203={base:=b3,blks:=[]}):C3P s i n e j h:=
 ⟨ha,by rw [h0,decS_eq],by
  intro q hq
  simp only [List.mem_cons,List.not_mem_nil,or_false]at hq
  rcases hq with rfl|rfl|rfl
  ·rw [h1]
  ·rw [h2]
  ·rw [h3]⟩
abbrev sk8 (a b c d u v:Int) (x y:Bool):Site:={base:=0,blks:=[{z:=8,els:=[[.int .i64 a,.int .i64 b,.int .i64 c,.int .i64 d,.int .i64 u,.int .i64 v,.bool x,.bool y]],ty:=272}]}
theorem decS_lit (a b c d u v:Int) (x y:Bool):decS (sk8 a b c d u v x y)=⟨⟨a,b⟩,⟨c,d⟩,⟨u,v⟩,x,y⟩:=decS_eq ⟨⟨a,b⟩,⟨c,d⟩,⟨u,v⟩,x,y⟩
theorem c3P_lit {s i n e j:Nat} {h:Hp} {a b c d u v:Int} {x y:Bool} {b1 b2 b3:Nat} (ha:s=19506∧i=0∧n=1∧e=0∧j=0) (h0:h 19506=sk8 a b c d u v x y) (h1:h 26403={base:=b1,blks:=[]}) (h2:h 26405={base:=b2,blks:=[]}) (h3:h 24203={base:=b3,blks:=[]}):C3P s i n e j h:=
 c3P_of (k:=⟨⟨a,b⟩,⟨c,d⟩,⟨u,v⟩,x,y⟩) ha h0 h1 h2 h3
theorem cutK_mk (k b:Sky):(cutK k b).1=⟨(cutS k.w b.w).1,(cutS k.s b.s).1,(cutS k.c b.c).1,k.ice && b.ice,k.sto && b.sto⟩:=rfl
structure MetF (m:Met):Prop where
 w:0≤m.w∧m.w≤20000
 s:0≤m.s∧m.s≤20000
 c:0≤m.c∧m.c≤20000
 f:∀x∈m.fs,0≤x.a∧x.a<x.b∧x.b≤2000
 g:∀x∈m.ss,(0≤x.at'∧x.at'≤2000)∧(0≤x.k.w∧x.k.w≤300)∧(0≤x.k.s∧x.k.s≤20000)∧0≤x.k.c∧x.k.c≤20000
theorem met_facts {m:Met} (h:m.ok=true):MetF m:=by
 simp only [Met.ok,Bool.and_eq_true,rgB,decide_eq_true_eq,Bool.not_eq_true',List.any_eq_false]at h
 obtain⟨⟨⟨⟨⟨⟨_,_⟩,h1⟩,h2⟩,h3⟩,_,h4⟩,_,h5⟩:=h
 refine⟨h1,h2,h3,fun x hx=>?_,fun x hx=>?_⟩
 ·have:=h4 x hx
  simp [Fc.bad,rgB]at this; omega
 ·have:=h5 x hx
  simp [Sg.bad,rgB,Wt.ok]at this; omega
structure MayP (d:Met × Int × Int):Prop where
 ok:d.1.ok=true
 f:d.1.fs.length<20
 s:d.1.ss.length<20
 t:0≤d.2.2∧d.2.2≤2000
@[simp] def myE (d:Met × Int × Int):List V:=[.agg d.1.row,.int .i64 d.2.1,.int .i64 d.2.2]
theorem myE_inj (a b:Met × Int × Int) (h:myE a=myE b):a=b:=by
 obtain⟨a1,a2,a3⟩:=a; obtain⟨b1,b2,b3⟩:=b
 simp only [myE,List.cons.injEq,V.agg.injEq,V.int.injEq,true_and,and_true]at h
 rw [Met.row_inj _ _ h.1,h.2.1,h.2.2]
theorem myE_dec (m:Met) (p t:Int):decC myE [.agg m.row,.int .i64 p,.int .i64 t]=(m,p,t):=decC_eq myE_inj (m,p,t)
def strL (m:Met) (p t:Int):List Int:=srtZ ((mayF m p t).2.map fun k:Nat=>(k:Int))
abbrev myS:PSpec:=mkP myE MayP fun d=>.tup [.agg (mayK d.1 d.2.1 d.2.2).row,ints (strL d.1 d.2.1 d.2.2)]
def mS (m:Met):Site:={base:=0,blks:=[{z:=14,els:=[m.row],ty:=29,fz:=true}]}
theorem nR_ri (l:List Nat):l.map nR=(l.map fun k:Nat=>(k:Int)).map ri:=by rw [List.map_map]; rfl
theorem fcTo_len (m:Met) (l:List Nat):∀k,(fcTo m l k).2.length≤k
 | 0=>by simp [fcTo]
 | k+1=>by
  have:=fcTo_len m l k
  simp only [fcTo,List.length_append]
  split<;>simp<;>omega
theorem srtK_lt {key:Nat→Int} {l:List Nat} {n:Nat} (h:∀x∈l,x<n):∀x∈srtK key l,x<n:=fun x hx=>h x (srtK_mem.1 hx)
abbrev E195:Env:={P:=Tryz.prog,fn:=tbl [(121,.pure rgS),(239,.heap s2S),(242,.heap cut3S),(244,.pure neaS),(245,.heap srt0S)],own:=[],key:=19500,nt:=174,frz:=[(1,[3,50003])]}
theorem b195:PureBody E195 [(16,([],[[0,1,2,3,4,5,6,7,8,9,10,11,12,13,14,15,16,17,18,19],[0,1,2,3,4,5,6,7,8,9,10,11,14,15,16,12,13,17,18,19]])),(32,([],[[0,1,2,3,4,5,6,7,8,9,10,11],[0,1,2,3,4,6,7,8,5,9,10,11]]))] Tryz.f195 myS:=by
 refine pb ?_
 rintro⟨m,p,t⟩ ⟨hok,hf,hs,ht⟩
 simp only at hok hf hs ht
 have hF:=met_facts hok
 simp -dsimp [Tryz.f195,E195]
 repeat' (first|omega|(exact c3P_lit (by simp) rfl rfl rfl rfl)|simp -dsimp [E195,ri,cellp,ints,Sky.row]|refine aI ?_ fun _=>?_|refine oI fun _=>?_|refine nI ?_ ?_)
 refine awp_loop_g [(8,19548,1,3)] rfl (by simp) [28,29,30,31,11,10,32,33,34,35,36,37,38,39,40,41,42,43,44,45,46,47,48,8,49,27] (fun k:{k:Nat // k≤m.fs.length}=>[(27,(true,.int .i64 k.1)),(8,(true,.bsl 19548 0 (covs m p t k.1).length))]) (fun k=>hps [(19511,{base:=k.1,blks:=[]}),(19548,{base:=0,blks:=[srB (covs m p t k.1)]}),(19506,skB m.any),(19503,mS m)] noH) (fun k=>m.fs.length - k.1) ⟨0,by omega⟩ ?_ ?_ ?_
 ·simp [okAll,okv,covs]
 ·exact(by(try simp -dsimp only [hpx]); refine hle_hps ?_; simp -dsimp [allK,srB,covs,skB,mS,Sky.row]<;>exact rz)
 rintro⟨k,hk⟩
 dsimp only
 by_cases hk1:k<m.fs.length
 ·have hki:(k:Int)<m.fs.length:=by omega
  have wk:IntKind.wrap .i64 ((k:Int)+1)=(k+1:Nat):=wrap_id (by omega) (by omega)
  obtain⟨x,hx⟩:∃x,m.fs[k]?=some x:=⟨_,List.getElem?_eq_getElem hk1⟩
  have hx':m.fs[k]=x:=(List.getElem?_eq_some_iff.1 hx).2
  have hxb:=hF.f x (hx' ▸ List.getElem_mem hk1)
  have wb:IntKind.wrap .i64 (x.b - 1)=x.b - 1:=wrap_id (by omega) (by omega)
  have hat:fcAt m k=x:=by simp [fcAt,List.getD,hx]
  have hon:fcOn m p t k=(decide (x.pl=p) && rgB t x.a (x.b - 1)):=by
   unfold fcOn rgB
   rw [hat,Bool.eq_iff_iff]; simp; omega
  have hS:=covs_succ m p t k
  have hcl:=covs_len m p t k
  have h8:((covs m p t k).length+1) * 8≤140737488355328:=by omega
  rw [hon]at hS
  by_cases hp:x.pl=p
  ·cases hr:rgB t x.a (x.b - 1)
   ·rw [hr,Bool.and_false,if_neg (by simp),List.append_nil]at hS
    simp -dsimp [hki]
    repeat' (first|omega|(exact c3P_lit (by simp) rfl rfl rfl rfl)|simp -dsimp [E195,ri,cellp,ints,hki,hk1,hx,hx',Fc.row,wb,wk,hp,hr]|refine aI ?_ fun _=>?_|refine oI fun _=>?_|refine nI ?_ ?_)
    refine⟨k+1,tle_chain rfl ?_,?_,by omega,by omega⟩
    ·simp [okAll,okv,hS]
    ·rw [hS]; exact(by(try simp -dsimp only [hpx]); refine hle_hps ?_; simp -dsimp [allK]<;>exact rz)
   ·rw [hr,Bool.and_true,decide_eq_true hp,if_pos rfl]at hS
    simp -dsimp [hki]
    repeat' (first|omega|(exact c3P_lit (by simp) rfl rfl rfl rfl)|simp -dsimp [E195,ri,cellp,ints,hki,hk1,hx,hx',Fc.row,wb,wk,hp,hr,srB,h8]|refine aI ?_ fun _=>?_|refine oI fun _=>?_|refine nI ?_ ?_)
    refine⟨k+1,tle_chain rfl ?_,?_,by omega,by omega⟩
    ·simp [okAll,okv,hS]
    ·rw [hS]; exact(by(try simp -dsimp only [hpx]); refine hle_hps ?_; simp -dsimp [allK,srB,nR]<;>exact rz)
  ·have hp':(x.pl=p)=False:=eq_false hp
   rw [decide_eq_false hp,Bool.false_and,if_neg (by simp),List.append_nil]at hS
   simp -dsimp [hki]
   repeat' (first|omega|(exact c3P_lit (by simp) rfl rfl rfl rfl)|simp -dsimp [E195,ri,cellp,ints,hki,hk1,hx,hx',Fc.row,wb,wk,hp']|refine aI ?_ fun _=>?_|refine oI fun _=>?_|refine nI ?_ ?_)
   refine⟨k+1,tle_chain rfl ?_,?_,by omega,by omega⟩
   ·simp [okAll,okv,hS]
   ·rw [hS]; exact(by(try simp -dsimp only [hpx]); refine hle_hps ?_; simp -dsimp [allK]<;>exact rz)
 have hkn:¬ (k:Int)<m.fs.length:=by omega
 have hke:k=m.fs.length:=by omega
 subst hke
 clear hk hk1
 have hLb:∀x∈covs m p t m.fs.length,x<m.fs.length:=fun x hx=>(covs_lt hx).1
 have hLl:=covs_len m p t m.fs.length
 have hKl:(covK m p t m.fs.length).length=(covs m p t m.fs.length).length:=srtK_len _ _
 have hKb:∀x∈covK m p t m.fs.length,x<m.fs.length:=srtK_lt hLb
 have hKe:covK m p t m.fs.length=srtK (SrC.fc m).key (covs m p t m.fs.length):=rfl
 have hFe:mayF m p t=fcTo m (covK m p t m.fs.length) (covK m p t m.fs.length).length:=rfl
 generalize covK m p t m.fs.length=K at *
 generalize covs m p t m.fs.length=L at *
 have hP2:∀s i,SrP ⟨s,i,L,.fc m⟩:=fun _ _=>⟨by simp only; omega,hLb⟩
 have hs2:∀h,hget h 19548 0=some (srB L)→s2S.go [.bsl 19548 0 L.length,.fn 240 [.ip 14 [m.row] 0 0]] h=⟨SrP ⟨19548,0,L,.fc m⟩,.tup [],hset h 19548 0 (srB K)⟩:=fun h hB=>by
  rw [hKe]; exact s2_go (c:=.fc m) hB
 simp -dsimp [hkn]
 repeat' (first|omega|(exact c3P_lit (by simp) rfl rfl rfl rfl)|simp -dsimp [E195,ri,cellp,ints,hkn,hs2,hP2]|refine aI ?_ fun _=>?_|refine oI fun _=>?_|refine nI ?_ ?_)
 refine awp_loop_g [(7,19570,1,3)] rfl (by simp) [56,57,58,13,59,60,61,62,63,64,14,65,66,67,68,69,70,7,71,72,73,74,75,76,77,78,79,80,81,82,83,84,85,86,87,88,89,55] (fun k:{k:Nat // k≤K.length}=>[(55,(true,.int .i64 k.1)),(7,(true,.bsl 19570 0 (fcTo m K k.1).2.length))]) (fun k=>hps [(19514,{base:=k.1,blks:=[]}),(26403,{base:=3 * k.1,blks:=[]}),(26405,{base:=3 * k.1,blks:=[]}),(24203,{base:=k.1,blks:=[]}),(19570,{base:=0,blks:=[srB (fcTo m K k.1).2]}),(19506,skB (fcTo m K k.1).1),(19511,{base:=m.fs.length,blks:=[]}),(19548,{base:=0,blks:=[srB K]}),(19503,mS m)] noH) (fun k=>K.length - k.1) ⟨0,by omega⟩ ?_ ?_ ?_
 ·simp [okAll,okv,fcTo,hKl]
 ·exact(by(try simp -dsimp only [hpx]); refine hle_hps ?_; simp -dsimp [allK,srB,fcTo]<;>exact rz)
 rintro⟨k,hk⟩
 dsimp only
 by_cases hk1:k<K.length
 ·have hki:(k:Int)<K.length:=by omega
  have wk:IntKind.wrap .i64 ((k:Int)+1)=(k+1:Nat):=wrap_id (by omega) (by omega)
  obtain⟨q,hq⟩:∃q,K[k]?=some q:=⟨_,List.getElem?_eq_getElem hk1⟩
  have hq':K[k]=q:=(List.getElem?_eq_some_iff.1 hq).2
  have hqn:q<m.fs.length:=hKb q (hq' ▸ List.getElem_mem hk1)
  have hqi:(q:Int)<m.fs.length:=by omega
  obtain⟨x,hx⟩:∃x,m.fs[q]?=some x:=⟨_,List.getElem?_eq_getElem hqn⟩
  have hx':m.fs[q]=x:=(List.getElem?_eq_some_iff.1 hx).2
  have hat:fcAt m q=x:=by simp [fcAt,List.getD,hx]
  have hS1:(fcTo m K (k+1)).1=(cutK (fcTo m K k).1 x.k).1:=by simp [fcTo,List.getD,hq,hat]
  have hS2:(fcTo m K (k+1)).2=(fcTo m K k).2++if (cutK (fcTo m K k).1 x.k).2=true then [q]else []:=by simp [fcTo,List.getD,hq,hat]
  have hSl:=fcTo_len m K k
  have h8:((fcTo m K k).2.length+1) * 8≤140737488355328:=by omega
  generalize (fcTo m K k).1=Kp at *
  generalize (fcTo m K k).2=Sp0 at *
  obtain⟨⟨w1,w2⟩,⟨s1,s2⟩,⟨c1,c2⟩,ic,st⟩:=Kp
  obtain⟨x1,x2,x3,x4,⟨⟨y1,y2⟩,⟨y3,y4⟩,⟨y5,y6⟩,yi,ys⟩⟩:=x
  simp only at hS1 hS2
  rw [cutK_mk]at hS1
  cases hc:(cutK ⟨⟨w1,w2⟩,⟨s1,s2⟩,⟨c1,c2⟩,ic,st⟩ ⟨⟨y1,y2⟩,⟨y3,y4⟩,⟨y5,y6⟩,yi,ys⟩).2
  ·rw [hc,if_neg (by simp),List.append_nil]at hS2
   cases ic<;>cases st
   all_goals
    simp -dsimp [hki,skB,Sky.row]
    repeat' (first|omega|(exact c3P_lit (by simp) rfl rfl rfl rfl)|simp -dsimp [E195,ri,cellp,ints,hki,hk1,hq,hq',hqn,hqi,hx,hx',Fc.row,srB,nR,skB,Sky.row,cut3_go,decS_lit,bm,hc,cutK_mk,wk]|refine aI ?_ fun _=>?_|refine oI fun _=>?_|refine nI ?_ ?_)
    all_goals
     refine⟨k+1,tle_chain rfl ?_,?_,by omega,by omega⟩
     ·simp [okAll,okv,hS2]
     ·rw [hS1,hS2]
      simp -dsimp only [hps_app,List.cons_append,List.nil_append]
      exact(by(try simp -dsimp only [hpx]); refine hle_hps ?_; simp -dsimp [allK,srB,nR,skB,Sky.row]<;>exact rz)
  ·rw [hc,if_pos rfl]at hS2
   cases ic<;>cases st
   all_goals
    simp -dsimp [hki,skB,Sky.row]
    repeat' (first|omega|(exact c3P_lit (by simp) rfl rfl rfl rfl)|simp -dsimp [E195,ri,cellp,ints,hki,hk1,hq,hq',hqn,hqi,hx,hx',Fc.row,srB,nR,skB,Sky.row,cut3_go,decS_lit,bm,hc,cutK_mk,wk,h8]|refine aI ?_ fun _=>?_|refine oI fun _=>?_|refine nI ?_ ?_)
    all_goals
     refine⟨k+1,tle_chain rfl ?_,?_,by omega,by omega⟩
     ·simp [okAll,okv,hS2]
     ·rw [hS1,hS2]
      simp -dsimp only [hps_app,List.cons_append,List.nil_append]
      exact(by(try simp -dsimp only [hpx]); refine hle_hps ?_; simp -dsimp [allK,srB,nR,skB,Sky.row]<;>exact rz)
 have hkn:¬ (k:Int)<K.length:=by omega
 have hke:k=K.length:=by omega
 subst hke
 rw [←hFe]
 clear hk hk1
 have hMl:(mayF m p t).2.length≤K.length:=by rw [hFe]; exact fcTo_len m K _
 generalize hMF:mayF m p t=MF at *
 obtain⟨k0,Ss⟩:=MF
 simp only at hMl
 simp -dsimp [hkn]
 repeat' (first|omega|(exact c3P_lit (by simp) rfl rfl rfl rfl)|simp -dsimp [E195,ri,cellp,ints,hkn]|refine aI ?_ fun _=>?_|refine oI fun _=>?_|refine nI ?_ ?_)
 refine awp_loop_g [(9,19611,1,3)] rfl (by simp) [94,95,96,97,16,15,98,99,100,101,102,103,104,105,106,107,108,109,110,111,9,112,93] (fun k:{k:Nat // k≤m.ss.length}=>[(93,(true,.int .i64 k.1)),(9,(true,.bsl 19611 0 (seen m p t k.1).length))]) (fun k=>hps [(19516,{base:=k.1,blks:=[]}),(19611,{base:=0,blks:=[srB (seen m p t k.1)]}),(19514,{base:=K.length,blks:=[]}),(26403,{base:=3 * K.length,blks:=[]}),(26405,{base:=3 * K.length,blks:=[]}),(24203,{base:=K.length,blks:=[]}),(19570,{base:=0,blks:=[srB Ss]}),(19506,skB k0),(19511,{base:=m.fs.length,blks:=[]}),(19548,{base:=0,blks:=[srB K]}),(19503,mS m)] noH) (fun k=>m.ss.length - k.1) ⟨0,by omega⟩ ?_ ?_ ?_
 ·simp [okAll,okv,seen]
 ·exact(by(try simp -dsimp only [hpx]); refine hle_hps ?_; simp -dsimp [allK,srB,seen]<;>exact rz)
 rintro⟨k,hk⟩
 dsimp only
 by_cases hk1:k<m.ss.length
 ·have hki:(k:Int)<m.ss.length:=by omega
  have wk:IntKind.wrap .i64 ((k:Int)+1)=(k+1:Nat):=wrap_id (by omega) (by omega)
  obtain⟨x,hx⟩:∃x,m.ss[k]?=some x:=⟨_,List.getElem?_eq_getElem hk1⟩
  have hx':m.ss[k]=x:=(List.getElem?_eq_some_iff.1 hx).2
  have hat:sgAt m k=x:=by simp [sgAt,List.getD,hx]
  have hS:=seen_succ m p t k
  have hcl:=seen_len m p t k
  have h8:((seen m p t k).length+1) * 8≤140737488355328:=by omega
  have hon:sgOn m p t k=(decide (x.pl=p) && decide (x.at'≤t)):=by
   unfold sgOn
   rw [hat,Bool.eq_iff_iff]; simp
  rw [hon]at hS
  by_cases hp:x.pl=p
  ·by_cases hr:x.at'≤t
   ·have hr':(x.at'≤t)=True:=eq_true hr
    rw [decide_eq_true hp,decide_eq_true hr,Bool.and_true,if_pos rfl]at hS
    simp -dsimp [hki]
    repeat' (first|omega|(exact c3P_lit (by simp) rfl rfl rfl rfl)|simp -dsimp [E195,ri,cellp,ints,hki,hk1,hx,hx',Sg.row,wk,hp,hr',srB,h8]|refine aI ?_ fun _=>?_|refine oI fun _=>?_|refine nI ?_ ?_)
    refine⟨k+1,tle_chain rfl ?_,?_,by omega,by omega⟩
    ·simp [okAll,okv,hS]
    ·rw [hS]; exact(by(try simp -dsimp only [hpx]); refine hle_hps ?_; simp -dsimp [allK,srB,nR]<;>exact rz)
   ·have hr':(x.at'≤t)=False:=eq_false hr
    rw [decide_eq_true hp,decide_eq_false hr,Bool.and_false,if_neg (by simp),List.append_nil]at hS
    simp -dsimp [hki]
    repeat' (first|omega|(exact c3P_lit (by simp) rfl rfl rfl rfl)|simp -dsimp [E195,ri,cellp,ints,hki,hk1,hx,hx',Sg.row,wk,hp,hr']|refine aI ?_ fun _=>?_|refine oI fun _=>?_|refine nI ?_ ?_)
    refine⟨k+1,tle_chain rfl ?_,?_,by omega,by omega⟩
    ·simp [okAll,okv,hS]
    ·rw [hS]; exact(by(try simp -dsimp only [hpx]); refine hle_hps ?_; simp -dsimp [allK]<;>exact rz)
  ·have hp':(x.pl=p)=False:=eq_false hp
   rw [decide_eq_false hp,Bool.false_and,if_neg (by simp),List.append_nil]at hS
   simp -dsimp [hki]
   repeat' (first|omega|(exact c3P_lit (by simp) rfl rfl rfl rfl)|simp -dsimp [E195,ri,cellp,ints,hki,hk1,hx,hx',Sg.row,wk,hp']|refine aI ?_ fun _=>?_|refine oI fun _=>?_|refine nI ?_ ?_)
   refine⟨k+1,tle_chain rfl ?_,?_,by omega,by omega⟩
   ·simp [okAll,okv,hS]
   ·rw [hS]; exact(by(try simp -dsimp only [hpx]); refine hle_hps ?_; simp -dsimp [allK]<;>exact rz)
 have hkn:¬ (k:Int)<m.ss.length:=by omega
 have hke:k=m.ss.length:=by omega
 subst hke
 clear hk hk1 hs2 hP2
 have hGe:seeK m p t m.ss.length=srtK (SrC.sg m).key (seen m p t m.ss.length):=rfl
 have hLb2:∀x∈seen m p t m.ss.length,x<m.ss.length:=fun x hx=>(seen_lt hx).1
 have hGa:∀x∈seeK m p t m.ss.length,x<m.ss.length∧(sgAt m x).at'≤t:=fun x hx=>by
  have:=seen_lt (srtK_mem.1 hx)
  simp only [sgOn,decide_eq_true_eq]at this
  exact⟨this.1,this.2.2⟩
 have hGl:(seeK m p t m.ss.length).length=(seen m p t m.ss.length).length:=srtK_len _ _
 have hLl2:=seen_len m p t m.ss.length
 have hKm:mayK m p t=sgTo m t (seeK m p t m.ss.length) k0 (seeK m p t m.ss.length).length:=by rw [mayK,hMF]
 have hKs:strL m p t=srtZ (Ss.map fun k:Nat=>(k:Int)):=by rw [strL,hMF]
 generalize seeK m p t m.ss.length=G at *
 generalize seen m p t m.ss.length=L2 at *
 have hP3:∀s i,SrP ⟨s,i,L2,.sg m⟩:=fun _ _=>⟨by simp only; omega,hLb2⟩
 have hs3:∀h,hget h 19611 0=some (srB L2)→s2S.go [.bsl 19611 0 L2.length,.fn 243 [.ip 14 [m.row] 0 0]] h=⟨SrP ⟨19611,0,L2,.sg m⟩,.tup [],hset h 19611 0 (srB G)⟩:=fun h hB=>by
  rw [hGe]; exact s2_go (c:=.sg m) hB
 have hs0:∀h,hget h 19570 0=some (srB Ss)→srt0S.go [.bsl 19570 0 Ss.length] h=⟨True,.tup [],hset h 19570 0 {z:=1,els:=(strL m p t).map ri,ty:=3}⟩:=fun h hB=>by
  have e:srB Ss={z:=1,els:=(Ss.map fun k:Nat=>(k:Int)).map ri,ty:=3,cl:=true}:=by rw [srB,nR_ri]
  rw [e]at hB
  have:=srt0_go hB (by rw [List.length_map]; omega)
  rw [List.length_map]at this
  rw [hKs]; exact this
 simp -dsimp [hkn]
 repeat' (first|omega|(exact c3P_lit (by simp) rfl rfl rfl rfl)|simp -dsimp [E195,ri,cellp,ints,hkn,hs3,hP3]|refine aI ?_ fun _=>?_|refine oI fun _=>?_|refine nI ?_ ?_)
 refine awp_loop [119,120,121,18,122,123,124,125,126,19,127,128,129,130,20,131,132,133,134,135,136,137,138,139,140,141,142,143,144,145,146,147,148,149,150,151,152,153,154,155,156,157,158,159,160,161,162,163,164,165,166,167,168,169,118] (fun k:{k:Nat // k≤G.length}=>[(118,(true,.int .i64 k.1))]) (fun k=>hps [(19519,{base:=k.1,blks:=[]}),(26403,{base:=3 * K.length+3 * k.1,blks:=[]}),(26405,{base:=3 * K.length+3 * k.1,blks:=[]}),(24203,{base:=K.length+k.1,blks:=[]}),(19506,skB (sgTo m t G k0 k.1)),(19516,{base:=m.ss.length,blks:=[]}),(19611,{base:=0,blks:=[srB G]}),(19514,{base:=K.length,blks:=[]}),(19570,{base:=0,blks:=[srB Ss]}),(19511,{base:=m.fs.length,blks:=[]}),(19548,{base:=0,blks:=[srB K]}),(19503,mS m)] noH) (fun k=>G.length - k.1) ⟨0,by omega⟩ ?_ ?_ ?_
 ·simp [okAll,okv]
 ·exact(by(try simp -dsimp only [hpx]); refine hle_hps ?_; simp -dsimp [allK,srB,sgTo]<;>exact rz)
 rintro⟨k,hk⟩
 dsimp only
 by_cases hk1:k<G.length
 ·have hki:(k:Int)<G.length:=by omega
  have wk:IntKind.wrap .i64 ((k:Int)+1)=(k+1:Nat):=wrap_id (by omega) (by omega)
  obtain⟨q,hq⟩:∃q,G[k]?=some q:=⟨_,List.getElem?_eq_getElem hk1⟩
  have hq':G[k]=q:=(List.getElem?_eq_some_iff.1 hq).2
  obtain⟨hqn,hqt⟩:=hGa q (hq' ▸ List.getElem_mem hk1)
  have hqi:(q:Int)<m.ss.length:=by omega
  obtain⟨x,hx⟩:∃x,m.ss[q]?=some x:=⟨_,List.getElem?_eq_getElem hqn⟩
  have hx':m.ss[q]=x:=(List.getElem?_eq_some_iff.1 hx).2
  have hat:sgAt m q=x:=by simp [sgAt,List.getD,hx]
  rw [hat]at hqt
  have hS1:sgTo m t G k0 (k+1)=sgCut m t (sgTo m t G k0 k) x:=by simp [sgTo,List.getD,hq,hat]
  obtain⟨hxa,hxw,hxs,hxc⟩:=hF.g x (hx' ▸ List.getElem_mem hqn)
  obtain⟨hmw,hms,hmc⟩:=And.intro hF.w (And.intro hF.s hF.c)
  have hn0:0≤t - x.at'∧t - x.at'≤2000:=by omega
  unfold sgCut at hS1
  obtain⟨n,hne⟩:∃n,t - x.at'=n:=⟨_,rfl⟩
  rw [hne]at hS1 hn0
  have w0:IntKind.wrap .i64 (t - x.at')=n:=by rw [wrap_id (by omega) (by omega),hne]
  have pb1:∀c:Int,0≤c∧c≤20000→0≤n * c∧n * c≤40000000:=fun c hc=>⟨Int.mul_nonneg hn0.1 hc.1,by
   have:=Int.mul_le_mul hn0.2 hc.2 hc.1 (by omega:(0:Int)≤2000)
   omega⟩
  have p1:=pb1 _ hmw
  have p2:=pb1 _ hms
  have p3:=pb1 _ hmc
  clear pb1
  obtain⟨n1,hn1⟩:∃n1,n * m.w=n1:=⟨_,rfl⟩
  obtain⟨n2,hn2⟩:∃n2,n * m.s=n2:=⟨_,rfl⟩
  obtain⟨n3,hn3⟩:∃n3,n * m.c=n3:=⟨_,rfl⟩
  rw [hn1]at hS1 p1
  rw [hn2]at hS1 p2
  rw [hn3]at hS1 p3
  have w1:IntKind.wrap .i64 (n * m.w)=n1:=by rw [hn1]; exact wrap_id (by omega) (by omega)
  have w2:IntKind.wrap .i64 (n * m.s)=n2:=by rw [hn2]; exact wrap_id (by omega) (by omega)
  have w3:IntKind.wrap .i64 (n * m.c)=n3:=by rw [hn3]; exact wrap_id (by omega) (by omega)
  clear hn1 hn2 hn3 hne
  generalize hA1:arS x.k.w n1 300=A1 at *
  generalize hA2:arS x.k.s n2 20000=A2 at *
  generalize hA3:arS x.k.c n3 20000=A3 at *
  obtain⟨a1,b1⟩:=A1
  obtain⟨a2,b2⟩:=A2
  obtain⟨a3,b3⟩:=A3
  generalize hKp:sgTo m t G k0 k=Kp at *
  obtain⟨⟨w1',w2'⟩,⟨s1,s2⟩,⟨c1,c2⟩,ic,st⟩:=Kp
  simp only at hS1
  by_cases hn:n=0
  ·rw [if_pos hn,if_pos hn]at hS1
   have hn':(n=0)=True:=eq_true hn
   simp -dsimp [hki,skB,Sky.row]
   repeat' (first|omega|(exact c3P_lit (by simp) rfl rfl rfl rfl)|simp -dsimp [E195,ri,cellp,ints,hki,hk1,hq,hq',hqn,hqi,hx,hx',Sg.row,Sp.row,srB,nR,skB,Sky.row,cut3_go,decS_lit,bm,cutK_mk,wk,w0,w1,w2,w3,hA1,hA2,hA3,hn',hxw,hxs,hxc,p1,p2,p3]|refine aI ?_ fun _=>?_|refine oI fun _=>?_|refine nI ?_ ?_)
   all_goals
    refine⟨k+1,tle_chain rfl ?_,?_,by omega,by omega⟩
    ·simp [okAll,okv]
    ·rw [hS1]
     simp -dsimp only [hps_app,List.cons_append,List.nil_append]
     exact(by(try simp -dsimp only [hpx]); refine hle_hps ?_; simp -dsimp [allK,srB,nR,skB,Sky.row]<;>exact rz)
  ·rw [if_neg hn,if_neg hn]at hS1
   have hn':(n=0)=False:=eq_false hn
   simp -dsimp [hki,skB,Sky.row]
   repeat' (first|omega|(exact c3P_lit (by simp) rfl rfl rfl rfl)|simp -dsimp [E195,ri,cellp,ints,hki,hk1,hq,hq',hqn,hqi,hx,hx',Sg.row,Sp.row,srB,nR,skB,Sky.row,cut3_go,decS_lit,bm,cutK_mk,wk,w0,w1,w2,w3,hA1,hA2,hA3,hn',hxw,hxs,hxc,p1,p2,p3]|refine aI ?_ fun _=>?_|refine oI fun _=>?_|refine nI ?_ ?_)
   all_goals
    refine⟨k+1,tle_chain rfl ?_,?_,by omega,by omega⟩
    ·simp [okAll,okv]
    ·rw [hS1]
     simp -dsimp only [hps_app,List.cons_append,List.nil_append]
     exact(by(try simp -dsimp only [hpx]); refine hle_hps ?_; simp -dsimp [allK,srB,nR,skB,Sky.row]<;>exact rz)
 have hkn:¬ (k:Int)<G.length:=by omega
 have hke:k=G.length:=by omega
 subst hke
 rw [←hKm]
 have hKl2:(strL m p t).length=Ss.length:=by rw [hKs,srtZ_len,List.length_map]
 simp -dsimp [hkn,skB,Sky.row]
 repeat' (first|omega|(exact c3P_lit (by simp) rfl rfl rfl rfl)|simp -dsimp [E195,ri,cellp,ints,hkn,hs0,hKl2,skB,Sky.row]|refine aI ?_ fun _=>?_|refine oI fun _=>?_|refine nI ?_ ?_)
theorem ok195:FO 195 myS:=pf b195 (.cons ok121 (.cons ok239 (.cons ok242 (.cons ok244 (.cons ok245 .nil)))))
end Go.Sx
end
section
namespace Go.Sx
open Go.Proofs
attribute [local irreducible] HLe
structure OpP (d:Met × Mn × Int × Int):Prop where
 my:MayP (d.1,d.2.2.1,d.2.2.2)
 ok:d.2.1.ok=true
 at':atB d.1 d.2.2.1 d.2.2.2=true
theorem fly_wst (k:Sky) (l:Mn):fly1 (wstK k) l=flyB k l:=rfl
abbrev op1S:PSpec:=mkP moE (fun d=>MayP (d.1,d.2.2.1,d.2.2.2)) fun d=>.bool (opnB d.1 d.2.1 d.2.2.1 d.2.2.2)
abbrev E131:Env:={P:=Tryz.prog,fn:=tbl [(195,.pure myS),(197,.pure wsS),(196,.pure flyW)],own:=[],key:=13100,nt:=22}
theorem b131:PureBody E131 [] Tryz.f131 op1S:=by
 refine pb ?_
 rintro⟨m,l,p,t⟩ hP
 have hP:MayP (m,p,t):=hP
 have e:fly1 (wstK (mayK m p t)) l=opnB m l p t:=fly_wst _ _
 simp -dsimp [Tryz.f131,E131,Wt.row]
 repeat' (first|omega|simp -dsimp [E131,ri,cellp,ints,Wt.row,Sky.row,myE_dec,hP,skE_dec2,flyE_dec,e]|refine aI ?_ fun _=>?_|refine oI fun _=>?_|refine nI ?_ ?_)
theorem ok131:FO 131 op1S:=pf b131 (.cons ok195 (.cons ok197 (.cons ok196 .nil)))
abbrev OpS:PSpec:=mkP moE OpP fun d=>.tup [.bool (opnB d.1 d.2.1 d.2.2.1 d.2.2.2),.int .i64 0]
theorem MayP.met {d:Met × Int × Int} (h:MayP d):MetP d.1:=⟨by have:=h.f; omega,by have:=h.s; omega⟩
abbrev E62:Env:={P:=Tryz.prog,fn:=tbl [(130,.pure coS),(131,.pure op1S)],own:=[],key:=6200,nt:=24}
theorem b62:PureBody E62 [] Tryz.f62 OpS:=by
 refine pb ?_
 rintro⟨m,l,p,t⟩ ⟨h1,h2,h3⟩
 simp only at h1 h2 h3
 have hM:=h1.met
 simp only at hM
 have hE:opnE m l p t=0:=by
  have h1':m.ok=true:=h1.ok
  have:mnE m l=0:=by simp [mnE,h1',h2]
  simp [opnE,this,h3]
 simp -dsimp [Tryz.f62,E62,Wt.row]
 repeat' (first|omega|simp -dsimp [E62,ri,cellp,ints,Wt.row,moE_dec,hM,hE,h1]|refine aI ?_ fun _=>?_|refine oI fun _=>?_|refine nI ?_ ?_)
theorem ok62:FO 62 OpS:=pf b62 (.cons ok130 (.cons ok131 .nil))
end Go.Sx
end
end
