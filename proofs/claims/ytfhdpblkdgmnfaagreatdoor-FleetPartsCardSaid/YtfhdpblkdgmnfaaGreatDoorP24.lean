/- Fleet: the reference's times of a net. No conditions. -/
import Derived.Test.YtfhdpblkdgmnfaaGreatDoorP19
import Derived.Test.YtfhdpblkdgmnfaaGreatDoorP23
set_option linter.unusedSimpArgs false
set_option linter.unusedVariables false
set_option linter.unusedSectionVars false
set_option maxRecDepth 100000
set_option maxHeartbeats 8000000
noncomputable section
namespace Go.Sx
open Go.Proofs
attribute [local irreducible] HLe
def kOu (N k:Nat):List (List V):=(List.range k).map fun j=>[.bsl 18536 j N]
theorem kOu_get (N:Nat) {a n:Nat} (h:a<n):(kOu N n)[a]?=some [.bsl 18536 a N]:=by simp [kOu,h]
theorem kOu_len (N k:Nat):(kOu N k).length=k:=by simp [kOu]
theorem kOu_succ (N k:Nat):kOu N (k+1)=kOu N k++[[.bsl 18536 k N]]:=by simp [kOu,List.range_succ]
def kOS (N k:Nat):Site:={base:=0,blks:=[{z:=1,els:=kOu N k,ty:=43,cl:=decide (k=0)}]}
theorem lend_tab5 {h:Hp} {T:T2} {n:Nat} (h1:h 18536={base:=0,blks:=T.map rwB}) (h2:h 18540={base:=0,blks:=[{z:=1,els:=kOu n n,ty:=43,cl:=false}]}) (hT:Sq n T):lendN 3 h (.bsl 18540 0 n)=(True,tbV T):=by
 have e:lendRs (lendN 2 h) (kOu n n)=(True,(List.range n).map fun j=>[.sl 1 ((T.getD j []).map ri)]):=by
  refine lendRs_map fun j hj=>?_
  have hj:j<n:=by simpa using hj
  have hi:j<T.length:=by rw [hT.1]; exact hj
  have hg:hget h 18536 j=some (rwB T[j]):=by simp [hget,h1,hi]
  have hl:=hT.2 _ (List.getElem_mem hi)
  have hd:T.getD j []=T[j]:=by simp [List.getD,hi]
  have:lendN 2 h (.bsl 18536 j n)=(True,.sl 1 ((T.getD j []).map ri)):=by
   rw [lendN,hg]
   simp only [lendB,rwB,List.length_map,hl,hd,true_and,if_true]
  simp only [lendCs,this,V.leaf]
  simp
 have e2:(List.range n).map (fun j=>[V.sl 1 ((T.getD j []).map ri)])=T.map fun r=>[V.sl 1 (r.map ri)]:=by
  have:=range_getD T [] fun r=>[V.sl 1 (r.map ri)]
  rw [hT.1]at this; exact this
 have hg:hget h 18540 0=some {z:=1,els:=kOu n n,ty:=43,cl:=false}:=by simp [hget,h2]
 rw [lendN,hg]
 simp only [lendB,e,e2,kOu_len,tbV,and_self]
theorem getD_row {n:Nat} {T:T2} (hT:Sq n T) {a b:Nat} (ha:a<n) (hb:b<n):∃r,T[a]?=some r∧r.length=n∧r[b]?=some (g2 T a b):=by
 have hi':a<T.length:=by rw [hT.1]; exact ha
 have hl:=hT.2 _ (List.getElem_mem hi')
 refine⟨T[a],List.getElem?_eq_getElem hi',hl,?_⟩
 rw [List.getElem?_eq_getElem (by omega)]
 simp [g2,List.getD,hi',hl,hb]
abbrev ti5S:PSpec:=mkP tiE (fun d=>NetP d.1 d.2) fun d=>tbV (timT d.1.n.toNat d.2)
abbrev E185:Env:={P:=Tryz.prog,fn:=tbl [(237,.pure legS)],own:=[39],key:=18500,nt:=119,frz:=[(1,[2,50002])]}
theorem b185:PureBody E185 [] Tryz.f185 ti5S:=by
 refine pb ?_
 rintro⟨m,l⟩ ⟨hok,hnb⟩
 simp only at hok hnb
 have hmn:=met_n hok
 have hrl:=rightL_of (by omega) hnb
 obtain⟨n,hn⟩:∃n:Nat,m.n=n:=⟨m.n.toNat,by omega⟩
 rw [hn]at hmn hrl
 simp only [Int.toNat_natCast]at hrl
 have hn8:n≤8:=by omega
 have hn1:1≤n:=by omega
 simp only [netB,Bool.and_eq_true,decide_eq_true_eq,Bool.not_eq_true']at hnb
 have hl20:l.length≤20:=hnb.1
 have hT0:=tim0_tim hrl
 have hget:∀a b,a<n→b<n→g2 (tim0 n l) a b=if a=b then 0 else legR l a b l.length:=fun a b ha hb=>by
  rw [tim0,dgTo_get (lgTo_sq hrl (Nat.le_refl _)) (Nat.le_refl n),lgTo_get hrl (Nat.le_refl _) a b ha hb]
  by_cases e:a=b
  ·rw [if_pos ⟨e,ha⟩,if_pos e]
  ·rw [if_neg (fun h=>e h.1),if_neg e]
 have hTd:timT n l=fwC (tim0 n l) n n:=rfl
 have hTS:Sq n (timT n l):=(timT_tim hrl hn8).sq
 have hsq0:=hT0.sq
 generalize hTe:timT n l=TT at *
 generalize tim0 n l=T at *
 simp -dsimp [Tryz.f185,E185]
 repeat' (first|omega|simp -dsimp [E185,ri,cellp,ints,hn]|refine aI ?_ fun _=>?_|refine oI fun _=>?_|refine nI ?_ ?_)
 refine awp_loop_g [(5,18540,1,43)] rfl (by simp) [14,15,16,17,7,8,20,21,22,23,26,27,28,29,9,30,31,32,33,34,35,36,24,25,37,38,39,40,5,18,19,6] (fun k:{k:Nat // k≤n}=>[(6,(true,.int .i64 k.1)),(5,(true,.bsl 18540 0 k.1))]) (fun k=>hps [(18536,rwS (T.take k.1)),(18540,kOS n k.1),(18539,{base:=k.1,blks:=[]}),(18502,mS m)] noH) (fun k=>n - k.1) ⟨0,by omega⟩ ?_ ?_ ?_
 ·simp [okAll,okv]
 ·exact(by(try simp -dsimp only [hpx]); refine hle_hps ?_; simp -dsimp [allK,rwS,kOS,kOu,mS]<;>exact rz)
 rintro⟨k,hk⟩
 dsimp only
 by_cases hk1:k<n
 ·have hki:(k:Int)<n:=by omega
  have wk:IntKind.wrap .i64 ((k:Int)+1)=(k+1:Nat):=wrap_id (by omega) (by omega)
  have hkl:k<T.length:=by rw [hsq0.1]; exact hk1
  obtain⟨r,hr⟩:∃r,T[k]?=some r:=⟨_,List.getElem?_eq_getElem hkl⟩
  have hr':T[k]=r:=(List.getElem?_eq_some_iff.1 hr).2
  have hrl2:r.length=n:=hr' ▸ hsq0.2 _ (List.getElem_mem hkl)
  have hTk:T.take (k+1)=T.take k++[r]:=by rw [List.take_add_one,hr]; rfl
  have hg2:∀b,b<n→r[b]?=some (if k=b then 0 else legR l k b l.length):=fun b hb=>by
   rw [←hget k b hk1 hb,g2]
   have:T.getD k []=r:=by simp [List.getD,hr]
   rw [this]; simp [List.getD,hrl2,hb]
  have hLl:(T.take k).length=k:=by simp; omega
  generalize hT1:T.take (k+1)=L1 at *
  generalize T.take k=L at *
  simp -dsimp [hki,rwS,kOS,mS]
  repeat' (first|omega|simp -dsimp [E185,ri,cellp,ints,hki,hn,rwS,kOS]|refine aI ?_ fun _=>?_|refine oI fun _=>?_|refine nI ?_ ?_)
  refine awp_loop_g [(7,18536,1,3)] rfl (by simp) [20,21,22,23,26,27,28,29,9,30,31,32,33,34,35,36,7,24,25,8] (fun b:{b:Nat // b≤n}=>[(8,(true,.int .i64 b.1)),(7,(true,.bsl 18536 L.length b.1))]) (fun b=>hps [(18536,{base:=0,blks:=L.map rwB++[rwB (r.take b.1)]}),(18540,kOS n k),(18539,{base:=k,blks:=[]}),(18502,mS m)] noH) (fun b=>n - b.1) ⟨0,by omega⟩ ?_ ?_ ?_
  ·simp [okAll,okv]
  ·exact(by(try simp -dsimp only [hpx]); refine hle_hps ?_; simp -dsimp [allK,rwS,kOS,mS,rwB]<;>exact rz)
  rintro⟨b,hb⟩
  dsimp only
  by_cases hb1:b<n
  ·have hbi:(b:Int)<n:=by omega
   have wb:IntKind.wrap .i64 ((b:Int)+1)=(b+1:Nat):=wrap_id (by omega) (by omega)
   have hx:=hg2 b hb1
   have hrt:List.take (b+1) (r.map ri)=(r.take b).map ri++[ri (if k=b then 0 else legR l k b l.length)]:=by rw [←List.map_take,List.take_add_one,hx]; simp
   have hrb:((r.take b).map ri).length=b:=by simp; omega
   generalize r.take b=r0 at *
   generalize hv:legR l k b l.length=v at *
   have hcc:(((k:Int)=b)=True∧(if k=b then (0:Int)else v)=0)∨(((k:Int)=b)=False∧(if k=b then (0:Int)else v)=v):=by
    by_cases e:k=b
    ·exact .inl ⟨eq_true (by omega),if_pos e⟩
    ·exact .inr ⟨eq_false (by omega),if_neg e⟩
   rcases hcc with⟨c,hy⟩|⟨c,hy⟩
   all_goals
    rw [hy]at hrt
    simp -dsimp [hbi,rwB,kOS,mS]
    repeat' (first|omega|simp -dsimp [E185,ri,cellp,ints,hbi,hn,hki,lgE_dec,hl20,hv,c,rwB,kOS,hrb,wb,set_last]|refine aI ?_ fun _=>?_|refine oI fun _=>?_|refine nI ?_ ?_)
    all_goals
     refine⟨b+1,tle_chain rfl ?_,?_,by omega,by omega⟩
     ·simp [okAll,okv]
     ·rw [hrt]; exact(by(try simp -dsimp only [hpx]); refine hle_hps ?_; simp -dsimp [allK,rwS,kOS,mS,rwB,ri]<;>exact rz)
  have hbn:¬ (b:Int)<n:=by omega
  have hbe:b=n:=by omega
  subst hbe
  have hrt:r.take b=r:=by rw [←hrl2,List.take_length]
  rw [hrt]
  simp -dsimp [hbn,rwB,kOS,mS]
  repeat' (first|omega|simp -dsimp [E185,ri,cellp,ints,hbn,kOS,kOu_len,wk]|refine aI ?_ fun _=>?_|refine oI fun _=>?_|refine nI ?_ ?_)
  refine⟨k+1,tle_kept (kept_upds rfl (kept_forget rfl (kept_upds rfl kept_base))) ?_,⟨by omega,?_⟩,by omega⟩
  ·simp [okAll,okv]
  ·have e1:List.take (k+1) (T.map rwB)=L.map rwB++[rwB r]:=by rw [←List.map_take,hT1,hTk]; simp
   have e2:decide (k+1=0)=false:=rfl
   rw [hLl] 
   exact(by(try simp -dsimp only [hpx]); refine hle_hps ?_; simp -dsimp [allK,rwS,kOS,mS,rwB,e1,e2,kOu_succ]<;>exact rz)
 have hkn:¬ (k:Int)<n:=by omega
 have hke:k=n:=by omega
 subst hke
 have hTt:T.take k=T:=by rw [←hsq0.1,List.take_length]
 have hd0:decide (k=0)=false:=decide_eq_false (by omega)
 rw [hTt]
 simp -dsimp [hkn]
 repeat' (first|omega|simp -dsimp [E185,ri,cellp,ints,hkn]|refine aI ?_ fun _=>?_|refine oI fun _=>?_|refine nI ?_ ?_)
 generalize k=n at *
 refine awp_loop [41,42,43,44,11,47,48,49,50,12,53,54,55,56,59,60,61,62,63,64,65,66,67,68,69,70,71,72,73,74,75,76,77,78,79,80,81,82,83,84,85,86,87,88,89,90,91,13,92,93,94,95,96,97,98,99,100,101,102,103,104,105,106,107,108,109,110,111,112,113,114,115,116,117,57,58,51,52,45,46,10] (fun y:{y:Nat // y≤n}=>[(10,(true,.int .i64 y.1))]) (fun y=>hps [(18536,rwS (fwC T n y.1)),(18540,kOS n n),(18539,{base:=n,blks:=[]}),(18502,mS m)] noH) (fun y=>n - y.1) ⟨0,by omega⟩ ?_ ?_ ?_
 ·simp [okAll,okv]
 ·exact(by(try simp -dsimp only [hpx]); refine hle_hps ?_; simp -dsimp [allK,rwS,kOS,mS,fwC]<;>exact rz)
 rintro⟨y,hy⟩
 dsimp only
 by_cases hy1:y<n
 case neg=>
  have hyn:¬ (y:Int)<n:=by omega
  have hye:y=n:=by omega
  rw [hye,←hTd]
  have hle:∀h:Hp,h 18536={base:=0,blks:=TT.map rwB}→h 18540={base:=0,blks:=[{z:=1,els:=kOu n n,ty:=43,cl:=false}]}→lendN 3 h (.bsl 18540 0 n)=(True,tbV TT):=fun h h1 h2=>lend_tab5 h1 h2 hTS
  simp -dsimp [hyn,-lendN]
  repeat' (first|omega|simp -dsimp [E185,ri,cellp,ints,hyn,hn,-lendN,hle,rwS,kOS,hd0,hTe,tbV]|refine aI ?_ fun _=>?_|refine oI fun _=>?_|refine nI ?_ ?_)
 have hyi:(y:Int)<n:=by omega
 have wy:IntKind.wrap .i64 ((y:Int)+1)=(y+1:Nat):=wrap_id (by omega) (by omega)
 have hC1:fwC T n (y+1)=fwB (fwC T n y) n y n:=rfl
 simp -dsimp [hyi]
 repeat' (first|omega|simp -dsimp [E185,ri,cellp,ints,hyi,hn]|refine aI ?_ fun _=>?_|refine oI fun _=>?_|refine nI ?_ ?_)
 refine awp_loop [47,48,49,50,12,53,54,55,56,59,60,61,62,63,64,65,66,67,68,69,70,71,72,73,74,75,76,77,78,79,80,81,82,83,84,85,86,87,88,89,90,91,13,92,93,94,95,96,97,98,99,100,101,102,103,104,105,106,107,108,109,110,111,112,113,114,115,116,117,57,58,51,52,11] (fun a:{a:Nat // a≤n}=>[(11,(true,.int .i64 a.1))]) (fun a=>hps [(18536,rwS (fwB (fwC T n y) n y a.1)),(18540,kOS n n),(18539,{base:=n,blks:=[]}),(18502,mS m)] noH) (fun a=>n - a.1) ⟨0,by omega⟩ ?_ ?_ ?_
 ·simp [okAll,okv]
 ·exact(by(try simp -dsimp only [hpx]); refine hle_hps ?_; simp -dsimp [allK,rwS,kOS,mS,fwB]<;>exact rz)
 rintro⟨a,ha⟩
 dsimp only
 by_cases ha1:a<n
 case neg=>
  have han:¬ (a:Int)<n:=by omega
  have hae:a=n:=by omega
  rw [hae,←hC1]
  simp -dsimp [han]
  repeat' (first|omega|simp -dsimp [E185,ri,cellp,ints,han,wy]|refine aI ?_ fun _=>?_|refine oI fun _=>?_|refine nI ?_ ?_)
  refine⟨y+1,tle_kept (kept_upds rfl (kept_forget rfl (kept_upds rfl kept_base))) ?_,HLe.refl _,by omega,by omega⟩
  simp [okAll,okv]
 have hai:(a:Int)<n:=by omega
 have wa:IntKind.wrap .i64 ((a:Int)+1)=(a+1:Nat):=wrap_id (by omega) (by omega)
 have hB1:fwB (fwC T n y) n y (a+1)=fwA (fwB (fwC T n y) n y a) y a n:=rfl
 simp -dsimp [hai]
 repeat' (first|omega|simp -dsimp [E185,ri,cellp,ints,hai,hn]|refine aI ?_ fun _=>?_|refine oI fun _=>?_|refine nI ?_ ?_)
 refine awp_loop [53,54,55,56,59,60,61,62,63,64,65,66,67,68,69,70,71,72,73,74,75,76,77,78,79,80,81,82,83,84,85,86,87,88,89,90,91,13,92,93,94,95,96,97,98,99,100,101,102,103,104,105,106,107,108,109,110,111,112,113,114,115,116,117,57,58,12] (fun b:{b:Nat // b≤n}=>[(12,(true,.int .i64 b.1))]) (fun b=>hps [(18536,rwS (fwA (fwB (fwC T n y) n y a) y a b.1)),(18540,kOS n n),(18539,{base:=n,blks:=[]}),(18502,mS m)] noH) (fun b=>n - b.1) ⟨0,by omega⟩ ?_ ?_ ?_
 ·simp [okAll,okv]
 ·exact(by(try simp -dsimp only [hpx]); refine hle_hps ?_; simp -dsimp [allK,rwS,kOS,mS,fwA]<;>exact rz)
 rintro⟨b,hb⟩
 dsimp only
 by_cases hb1:b<n
 case neg=>
  have hbn:¬ (b:Int)<n:=by omega
  have hbe:b=n:=by omega
  rw [hbe,←hB1]
  simp -dsimp [hbn]
  repeat' (first|omega|simp -dsimp [E185,ri,cellp,ints,hbn,wa]|refine aI ?_ fun _=>?_|refine oI fun _=>?_|refine nI ?_ ?_)
  refine⟨a+1,tle_kept (kept_upds rfl (kept_forget rfl (kept_upds rfl kept_base))) ?_,HLe.refl _,by omega,by omega⟩
  simp [okAll,okv]
 have hbi:(b:Int)<n:=by omega
 have wb:IntKind.wrap .i64 ((b:Int)+1)=(b+1:Nat):=wrap_id (by omega) (by omega)
 have hG:=fw_stg hT0 hn8 hy1 ha1 hb
 have hA1:fwA (fwB (fwC T n y) n y a) y a (b+1)=if 0≤g2 (fwA (fwB (fwC T n y) n y a) y a b) a y∧0≤g2 (fwA (fwB (fwC T n y) n y a) y a b) y b then sh (fwA (fwB (fwC T n y) n y a) y a b) a b (g2 (fwA (fwB (fwC T n y) n y a) y a b) a y+g2 (fwA (fwB (fwC T n y) n y a) y a b) y b)else fwA (fwB (fwC T n y) n y a) y a b:=rfl
 generalize hU1:fwA (fwB (fwC T n y) n y a) y a (b+1)=U1 at *
 generalize fwA (fwB (fwC T n y) n y a) y a b=U at *
 have bx:=hG.co a ha1
 have bz:=hG.ro b hb1
 have bx0:=hG.lo a y ha1 hy1
 have bz0:=hG.lo y b hy1 hb1
 have hSq:=hG.sq
 obtain⟨r,hr,hrl2,hv⟩:=getD_row hSq ha1 hy1
 obtain⟨r',hr',hrl3,hv'⟩:=getD_row hSq hy1 hb1
 obtain⟨r'',hr'',hrl4,hv''⟩:=getD_row hSq ha1 hb1
 have er:r''=r:=by rw [hr]at hr''; exact(Option.some.inj hr'').symm
 subst er
 have hr2:=(List.getElem?_eq_some_iff.1 hr).2
 have hv2:=(List.getElem?_eq_some_iff.1 hv).2
 have hr2':=(List.getElem?_eq_some_iff.1 hr').2
 have hv2':=(List.getElem?_eq_some_iff.1 hv').2
 have hv2'':=(List.getElem?_eq_some_iff.1 hv'').2
 have hil:a<U.length:=by rw [hSq.1]; exact ha1
 have hil':y<U.length:=by rw [hSq.1]; exact hy1
 have hpr:y<r''.length:=by omega
 have hpr':b<r'.length:=by omega
 have hpr'':b<r''.length:=by omega
 have ho:=kOu_get n ha1
 have ho2:=(List.getElem?_eq_some_iff.1 ho).2
 have ho':=kOu_get n hy1
 have ho2':=(List.getElem?_eq_some_iff.1 ho').2
 have hol:=kOu_len n n
 have hsm:=s2_map (b:=b) hr
 have hsh:∀x,sh U a b x=if g2 U a b<0∨x<g2 U a b then s2 U a b x else U:=fun x=>rfl
 generalize hX:g2 U a y=X at *
 generalize hY:g2 U y b=Y at *
 generalize hZ:g2 U a b=Z at *
 have wx:IntKind.wrap .i64 (X+Y)=X+Y:=wrap_id (by omega) (by omega)
 have hfin:∀U2:T2,U1=U2→U1.map rwB=U2.map rwB:=fun U2 h=>by rw [h]
 by_cases c1:X<0
 ·have hU:U1=U:=by rw [hA1,if_neg (by omega)]
  simp -dsimp [hbi,rwS,kOS,mS]
  repeat' (first|omega|simp -dsimp [E185,ri,cellp,ints,hbi,rwS,kOS,rwB,ho,ho2,ho',ho2',hol,hr,hr2,hr',hr2',hv,hv2,hv',hv2',hv'',hv2'',hil,hil',hpr,hpr',hpr'',hrl2,hrl3,ha1,hy1,hb1,hai,hyi,ri,wb,c1]|refine aI ?_ fun _=>?_|refine oI fun _=>?_|refine nI ?_ ?_)
  refine⟨b+1,tle_chain rfl ?_,?_,by omega,by omega⟩
  ·simp [okAll,okv]
  ·rw [hU1,hU]; exact(by(try simp -dsimp only [hpx]); refine hle_hps ?_; simp -dsimp [allK,rwS,kOS,mS]<;>exact rz)
 by_cases c2:Y<0
 ·have hU:U1=U:=by rw [hA1,if_neg (by omega)]
  replace c1:(X<0)=False:=eq_false c1
  simp -dsimp [hbi,rwS,kOS,mS]
  repeat' (first|omega|simp -dsimp [E185,ri,cellp,ints,hbi,rwS,kOS,rwB,ho,ho2,ho',ho2',hol,hr,hr2,hr',hr2',hv,hv2,hv',hv2',hv'',hv2'',hil,hil',hpr,hpr',hpr'',hrl2,hrl3,ha1,hy1,hb1,hai,hyi,ri,wb,c1,c2]|refine aI ?_ fun _=>?_|refine oI fun _=>?_|refine nI ?_ ?_)
  refine⟨b+1,tle_chain rfl ?_,?_,by omega,by omega⟩
  ·simp [okAll,okv]
  ·rw [hU1,hU]; exact(by(try simp -dsimp only [hpx]); refine hle_hps ?_; simp -dsimp [allK,rwS,kOS,mS]<;>exact rz)
 have hU:U1=if Z<0∨X+Y<Z then s2 U a b (X+Y)else U:=by rw [hA1,if_pos (by omega),hsh]
 replace c1:(X<0)=False:=eq_false c1
 replace c2:(Y<0)=False:=eq_false c2
 rcases Classical.propComplete (Z<0)with c3|c3<;>rcases Classical.propComplete (X+Y<Z)with c4|c4
 all_goals
  simp only [c3,c4,or_self,or_true,true_or,false_or,or_false,if_true,if_false]at hU
  simp -dsimp [hbi,rwS,kOS,mS]
  repeat' (first|omega|simp -dsimp [E185,ri,cellp,ints,hbi,rwS,kOS,rwB,ho,ho2,ho',ho2',hol,hr,hr2,hr',hr2',hv,hv2,hv',hv2',hv'',hv2'',hil,hil',hpr,hpr',hpr'',hrl2,hrl3,ha1,hy1,hb1,hai,hyi,ri,wb,wx,c1,c2,c3,c4]|refine aI ?_ fun _=>?_|refine oI fun _=>?_|refine nI ?_ ?_)
  all_goals
   refine⟨b+1,tle_chain rfl ?_,?_,by omega,by omega⟩
   ·simp [okAll,okv]
   ·rw [hU1,hU]
    try rw [←hsm]
    exact(by(try simp -dsimp only [hpx]); refine hle_hps ?_; simp -dsimp [allK,rwS,kOS,mS,rwB,List.map_set,ri]<;>exact rz)
theorem ok185:FO 185 ti5S:=pf b185 (.cons ok237 .nil)
abbrev E115:Env:={P:=Tryz.prog,fn:=tbl [(50,.pure nckS),(185,.pure ti5S)],own:=[],key:=11500,nt:=16,frz:=[(1,[2,50002])]}
theorem b115:PureBody E115 [] Tryz.f115 timS:=by
 refine pb ?_
 rintro⟨m,l⟩ hP
 have hP:NetP m l:=hP
 have hMP:MetP m:=met_P hP.ok
 have hlm:l.length≤1000000:=by have:=hP.nb; simp only [netB,Bool.and_eq_true,decide_eq_true_eq]at this; omega
 have hE:netE m l=0:=netE_zero.2 ⟨hP.ok,hP.nb⟩
 simp -dsimp [Tryz.f115,E115]
 repeat' (first|omega|simp -dsimp [E115,ri,cellp,ints,tiE_dec,hP,hMP,hE,hlm,tbV]|refine aI ?_ fun _=>?_|refine oI fun _=>?_|refine nI ?_ ?_)
theorem ok115:FO 115 timS:=pf b115 (.cons ok50 (.cons ok185 .nil))
end Go.Sx
end
