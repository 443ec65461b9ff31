/- Fleet: the reference's times of a net. No conditions. -/
import Derived.Test.YtegiclpanpmkdaaGreatDoorP20
import Derived.Test.YtegiclpanpmkdaaGreatDoorP24
set_option linter.all false
set_option maxRecDepth 100000
set_option maxHeartbeats 8000000
noncomputable section
namespace Go.Sx
open Go.Proofs
attribute [local simp] ri aa ints
attribute [local irreducible] bA
def MO (N k:Nat):List (List V):=(List.range k).map fun j=>[.bw 23236 j N]
theorem Km (N:Nat) {a n:Nat} (h:a<n):(MO N n)[a]?=some [.bw 23236 a N]:=by simp [MO,h]
theorem CG (N k:Nat):(MO N k).length=k:=by simp [MO]
theorem axz (N k:Nat):MO N (k+1)=MO N k++[[.bw 23236 k N]]:=by simp [MO,List.range_succ]
def uy (N k:Nat):Site:={base:=0,ah:=[{z:=1,els:=MO N k,ty:=43,cl:=decide (k=0)}]}
theorem MP {h:Hp} {T:T2} {n:Nat} (h1:h 23236={base:=0,ah:=T.map gz}) (h2:h 23240={base:=0,ah:=[{z:=1,els:=MO n n,ty:=43,cl:=false}]}) (hT:Sq n T):ak 3 h (.bw 23240 0 n)=(True,mL T):=by
 have e:dc (ak 2 h) (MO n n)=(True,(List.range n).map fun j=>[.sl 1 ((T.getD j []).map ri)]):=by
  refine jy fun j hj=>?_;have hj:j<n:=by simpa using hj
  have hi:j<T.length:=by rw [hT.1]; exact hj
  have hg:aL h 23236 j=some (gz T[j]):=by simp [aL,h1,hi]
  have hl:=hT.2 _ (List.getElem_mem hi);have hd:T.getD j []=T[j]:=by simp [List.getD,hi]
  have:ak 2 h (.bw 23236 j n)=(True,.sl 1 ((T.getD j []).map ri)):=by rw [ak,hg];simp only [bV,gz,List.length_map,hl,hd,true_and,if_true]
  simp only [cL,this,V.leaf];simp
 have e2:(List.range n).map (fun j=>[V.sl 1 ((T.getD j []).map ri)])=T.map fun r=>[V.sl 1 (r.map ri)]:=by
  have:=rM T [] fun r=>[V.sl 1 (r.map ri)]
  rw [hT.1]at this; exact this
 have hg:aL h 23240 0=some {z:=1,els:=MO n n,ty:=43,cl:=false}:=by simp [aL,h2]
 rw [ak,hg];simp only [bV,e,e2,CG,mL,and_self]
theorem jd {n:Nat} {T:T2} (hT:Sq n T) {a b:Nat} (ha:a<n) (hb:b<n):∃r,T[a]?=some r/\r.length=n/\r[b]?=some (g2 T a b):=by
 have hi':a<T.length:=by rw [hT.1]; exact ha
 have hl:=hT.2 _ (List.getElem_mem hi');refine⟨T[a],List.getElem?_eq_getElem hi',hl,?_⟩;rw [List.getElem?_eq_getElem (by omega)];simp [g2,List.getD,hi',hl,hb]
noncomputable abbrev ack:aB:=bS tiE (fun d=>MQ d.1 d.2) fun d=>mL (rV d.1.n.toNat d.2)
noncomputable abbrev Om:=EV [(278,.pure acm)] [39] 23200 119 [(1,[2,50002])]
theorem apK:af Om [] Tryz.f232 ack:=pb <| by
 rintro⟨m,l⟩ ⟨hok,hnb⟩;simp only at hok hnb;have hmn:=yd hok;have hrl:=uP (by omega) hnb;obtain⟨n,hn⟩:∃n:Nat,m.n=n:=⟨m.n.toNat,by omega⟩
 rw [hn]at hmn hrl;simp only [Int.toNat_natCast]at hrl;have PU:n<=8:=by omega
 have MR:1<=n:=by omega
 simp only [o9,Bool.and_eq_true,decide_eq_true_eq,Bool.not_eq_true']at hnb;have Re:l.length<=20:=hnb.1;have hT0:=yy hrl;have aL:∀a b,a<n->b<n->g2 (wJ n l) a b=if a=b then 0 else kK l a b l.length:=fun a b ha hb=>by
  rw [wJ,yz (qv hrl (Nat.le_refl _)) (Nat.le_refl n),tc hrl (Nat.le_refl _) a b ha hb];by_cases e:a=b
  ·rw [if_pos ⟨e,ha⟩,if_pos e]
  ·rw [if_neg (fun h=>e h.1),if_neg e]
 have hTd:rV n l=lU (wJ n l) n n:=rfl;have hTS:Sq n (rV n l):=(yA hrl PU).sq;have acn:=hT0.sq;generalize hTe:rV n l=TT at *;generalize wJ n l=T at *;simp -dsimp [Tryz.f232,Om];repeat' (first|omega|simp -dsimp [Om,hn]|apply aI|apply nI|intro)
 refine dA [(5,23240,1,43)] rfl (by simp) [14,15,16,17,7,8,20,21,22,23,26,27,28,29,9,30,31,32,33,34,35,36,24,25,37,38,39,40,5,18,19,6] (fun k:{k:Nat // k<=n}=>[(6,(true,.int .i64 k.1)),(5,(true,.bw 23240 0 k.1))]) (fun k=>hps [(23236,eF (T.take k.1)),(23240,uy n k.1),(23239,{base:=k.1,ah:=[]}),(23202,mS m)] cg) (fun k=>n - k.1) ⟨0,by omega⟩ ?_ ?_ ?_
 ·simp [aj,aT]
 ·(try simp -dsimp only [hpx]); refine ai ?_; simp -dsimp [aC,eF,uy,MO,mS]<;>exact rz
 rintro⟨k,hk⟩;dsimp only;by_cases aH:k<n
 ·have hki:(k:Int)<n:=by omega
  have wk:=wx k;have td:k<T.length:=by rw [acn.1]; exact aH
  obtain⟨r,hr,hr'⟩:=gx td;have wK:r.length=n:=hr' ▸ acn.2 _ (List.getElem_mem td);have hTk:T.take (k+1)=T.take k++[r]:=by rw [List.take_add_one,hr]; rfl
  have hg2:∀b,b<n->r[b]?=some (if k=b then 0 else kK l k b l.length):=fun b hb=>by rw [<-aL k b aH hb,g2];have:T.getD k []=r:=(by simp [List.getD,hr]);rw [this]; simp [List.getD,wK,hb]
  have hLl:(T.take k).length=k:=by simp; omega
  generalize hT1:T.take (k+1)=L1 at *;generalize T.take k=L at *;simp -dsimp [hki,eF,uy,mS];repeat' (first|omega|simp -dsimp [Om,hki,hn,eF,uy]|apply aI|apply nI|intro)
  refine dA [(7,23236,1,3)] rfl (by simp) [20,21,22,23,26,27,28,29,9,30,31,32,33,34,35,36,7,24,25,8] (fun b:{b:Nat // b<=n}=>[(8,(true,.int .i64 b.1)),(7,(true,.bw 23236 L.length b.1))]) (fun b=>hps [(23236,{base:=0,ah:=L.map gz++[gz (r.take b.1)]}),(23240,uy n k),(23239,{base:=k,ah:=[]}),(23202,mS m)] cg) (fun b=>n - b.1) ⟨0,by omega⟩ ?_ ?_ ?_
  ·simp [aj,aT]
  ·(try simp -dsimp only [hpx]); refine ai ?_; simp -dsimp [aC,eF,uy,mS,gz]<;>exact rz
  rintro⟨b,hb⟩;dsimp only;by_cases ez:b<n
  ·have sN:(b:Int)<n:=(by omega);have wb:=wx b;have hx:=hg2 b ez;have MS:List.take (b+1) (r.map ri)=(r.take b).map ri++[ri (if k=b then 0 else kK l k b l.length)]:=(by rw [<-List.map_take,List.take_add_one,hx]; simp);have hrb:((r.take b).map ri).length=b:=(by simp; omega);generalize r.take b=r0 at *;generalize hv:kK l k b l.length=v at *;have mK:(((k:Int)=b)=True/\(if k=b then (0:Int)else v)=0)\/(((k:Int)=b)=False/\(if k=b then (0:Int)else v)=v):=by
    by_cases e:k=b
    ·exact .inl ⟨eq_true (by omega),if_pos e⟩
    ·exact .inr ⟨eq_false (by omega),if_neg e⟩
   rcases mK with⟨c,hy⟩|⟨c,hy⟩
   all_goals
    rw [hy]at MS;simp -dsimp [sN,gz,uy,mS];repeat' (first|omega|simp -dsimp [Om,sN,hn,hki,Xj,Re,hv,c,gz,uy,hrb,wb,EB]|apply aI|apply nI|intro)
    all_goals
     refine⟨b+1,ag rfl ?_,?_,by omega,by omega⟩
     ·simp [aj,aT]
     ·rw [MS]; (try simp -dsimp only [hpx]); refine ai ?_; simp -dsimp [aC,eF,uy,mS,gz,ri]<;>exact rz
  have Hw:¬ (b:Int)<n:=by omega
  have JN:b=n:=by omega
  subst JN;have MS:r.take b=r:=by rw [<-wK,List.take_length]
  rw [MS];simp -dsimp [Hw,gz,uy,mS];repeat' (first|omega|simp -dsimp [Om,Hw,uy,CG,wk]|apply aI|apply nI|intro)
  refine⟨k+1,cq (aN rfl (br rfl (aN rfl bO))) ?_,⟨by omega,?_⟩,by omega⟩
  ·simp [aj,aT]
  ·have e1:List.take (k+1) (T.map gz)=L.map gz++[gz r]:=(by rw [<-List.map_take,hT1,hTk]; simp);have e2:decide (k+1=0)=false:=rfl;rw [hLl] ;exact(by(try simp -dsimp only [hpx]); refine ai ?_; simp -dsimp [aC,eF,uy,mS,gz,e1,e2,axz]<;>exact rz)
 have hkn:¬ (k:Int)<n:=by omega
 have hke:k=n:=by omega
 subst hke;have hTt:T.take k=T:=by rw [<-acn.1,List.take_length]
 have hd0:decide (k=0)=false:=decide_eq_false (by omega);rw [hTt];simp -dsimp [hkn];repeat' (first|omega|simp -dsimp [Om,hkn]|apply aI|apply nI|intro)
 generalize k=n at *;refine ay [41,42,43,44,11,47,48,49,50,12,53,54,55,56,59,60,61,62,63,64,65,66,67,68,69,70,71,72,73,74,75,76,77,78,79,80,81,82,83,84,85,86,87,88,89,90,91,13,92,93,94,95,96,97,98,99,100,101,102,103,104,105,106,107,108,109,110,111,112,113,114,115,116,117,57,58,51,52,45,46,10] (fun y:{y:Nat // y<=n}=>[(10,(true,.int .i64 y.1))]) (fun y=>hps [(23236,eF (lU T n y.1)),(23240,uy n n),(23239,{base:=n,ah:=[]}),(23202,mS m)] cg) (fun y=>n - y.1) ⟨0,by omega⟩ ?_ ?_ ?_
 ·simp [aj,aT]
 ·(try simp -dsimp only [hpx]); refine ai ?_; simp -dsimp [aC,eF,uy,mS,lU]<;>exact rz
 rintro⟨y,hy⟩;dsimp only;by_cases hy1:y<n
 case neg=>
  have OX:¬ (y:Int)<n:=by omega
  have hye:y=n:=by omega
  rw [hye,<-hTd];have hle:∀h:Hp,h 23236={base:=0,ah:=TT.map gz}->h 23240={base:=0,ah:=[{z:=1,els:=MO n n,ty:=43,cl:=false}]}->ak 3 h (.bw 23240 0 n)=(True,mL TT):=fun h h1 h2=>MP h1 h2 hTS;simp -dsimp [OX,-ak];repeat' (first|omega|simp -dsimp [Om,OX,hn,-ak,hle,eF,uy,hd0,hTe,mL]|apply aI|apply nI|intro)
 have Rf:(y:Int)<n:=by omega
 have wy:=wx y;have hC1:lU T n (y+1)=oc (lU T n y) n y n:=rfl;simp -dsimp [Rf];repeat' (first|omega|simp -dsimp [Om,Rf,hn]|apply aI|apply nI|intro)
 refine ay [47,48,49,50,12,53,54,55,56,59,60,61,62,63,64,65,66,67,68,69,70,71,72,73,74,75,76,77,78,79,80,81,82,83,84,85,86,87,88,89,90,91,13,92,93,94,95,96,97,98,99,100,101,102,103,104,105,106,107,108,109,110,111,112,113,114,115,116,117,57,58,51,52,11] (fun a:{a:Nat // a<=n}=>[(11,(true,.int .i64 a.1))]) (fun a=>hps [(23236,eF (oc (lU T n y) n y a.1)),(23240,uy n n),(23239,{base:=n,ah:=[]}),(23202,mS m)] cg) (fun a=>n - a.1) ⟨0,by omega⟩ ?_ ?_ ?_
 ·simp [aj,aT]
 ·(try simp -dsimp only [hpx]); refine ai ?_; simp -dsimp [aC,eF,uy,mS,oc]<;>exact rz
 rintro⟨a,ha⟩;dsimp only;by_cases ha1:a<n
 case neg=>
  have Kn:¬ (a:Int)<n:=by omega
  have hae:a=n:=by omega
  rw [hae,<-hC1];simp -dsimp [Kn];repeat' (first|omega|simp -dsimp [Om,Kn,wy]|apply aI|apply nI|intro)
  refine⟨y+1,cq (aN rfl (br rfl (aN rfl bO))) ?_,bA.refl _,by omega,by omega⟩;simp [aj,aT]
 have hai:(a:Int)<n:=by omega
 have wa:=wx a;have rj:oc (lU T n y) n y (a+1)=ov (oc (lU T n y) n y a) y a n:=rfl;simp -dsimp [hai];repeat' (first|omega|simp -dsimp [Om,hai,hn]|apply aI|apply nI|intro)
 refine ay [53,54,55,56,59,60,61,62,63,64,65,66,67,68,69,70,71,72,73,74,75,76,77,78,79,80,81,82,83,84,85,86,87,88,89,90,91,13,92,93,94,95,96,97,98,99,100,101,102,103,104,105,106,107,108,109,110,111,112,113,114,115,116,117,57,58,12] (fun b:{b:Nat // b<=n}=>[(12,(true,.int .i64 b.1))]) (fun b=>hps [(23236,eF (ov (oc (lU T n y) n y a) y a b.1)),(23240,uy n n),(23239,{base:=n,ah:=[]}),(23202,mS m)] cg) (fun b=>n - b.1) ⟨0,by omega⟩ ?_ ?_ ?_
 ·simp [aj,aT]
 ·(try simp -dsimp only [hpx]); refine ai ?_; simp -dsimp [aC,eF,uy,mS,ov]<;>exact rz
 rintro⟨b,hb⟩;dsimp only;by_cases ez:b<n
 case neg=>
  have Hw:¬ (b:Int)<n:=by omega
  have JN:b=n:=by omega
  rw [JN,<-rj];simp -dsimp [Hw];repeat' (first|omega|simp -dsimp [Om,Hw,wa]|apply aI|apply nI|intro)
  refine⟨a+1,cq (aN rfl (br rfl (aN rfl bO))) ?_,bA.refl _,by omega,by omega⟩;simp [aj,aT]
 have sN:(b:Int)<n:=by omega
 have wb:=wx b;have hG:=Rg hT0 PU hy1 ha1 hb;have yB:ov (oc (lU T n y) n y a) y a (b+1)=if 0<=g2 (ov (oc (lU T n y) n y a) y a b) a y/\0<=g2 (ov (oc (lU T n y) n y a) y a b) y b then sh (ov (oc (lU T n y) n y a) y a b) a b (g2 (ov (oc (lU T n y) n y a) y a b) a y+g2 (ov (oc (lU T n y) n y a) y a b) y b)else ov (oc (lU T n y) n y a) y a b:=rfl;generalize Rh:ov (oc (lU T n y) n y a) y a (b+1)=U1 at *;generalize ov (oc (lU T n y) n y a) y a b=U at *;have bx:=hG.co a ha1;have bz:=hG.ro b ez;have bx0:=hG.lo a y ha1 hy1;have bz0:=hG.lo y b hy1 ez;have hSq:=hG.sq;obtain⟨r,hr,wK,hv⟩:=jd hSq ha1 hy1;obtain⟨r',hr',Hx,fJ⟩:=jd hSq hy1 ez;obtain⟨r'',ahD,arH,Xk⟩:=jd hSq ha1 ez;have er:r''=r:=by rw [hr]at ahD; exact(Option.some.inj ahD).symm
 subst er;have jP:=(List.getElem?_eq_some_iff.1 hr).2;have oR:=(List.getElem?_eq_some_iff.1 hv).2;have pe:=(List.getElem?_eq_some_iff.1 hr').2;have pg:=(List.getElem?_eq_some_iff.1 fJ).2;have Ri:=(List.getElem?_eq_some_iff.1 Xk).2;have tf:a<U.length:=by rw [hSq.1]; exact ha1
 have Hy:y<U.length:=by rw [hSq.1]; exact hy1
 have Xl:y<r''.length:=by omega
 have Hz:b<r'.length:=by omega
 have Rj:b<r''.length:=by omega
 have ho:=Km n ha1;have Ak:=(List.getElem?_eq_some_iff.1 ho).2;have ho':=Km n hy1;have HA:=(List.getElem?_eq_some_iff.1 ho').2;have jU:=CG n n;have ow:=CH (b:=b) hr;have hsh:∀x,sh U a b x=if g2 U a b<0\/x<g2 U a b then s2 U a b x else U:=fun x=>rfl;generalize hX:g2 U a y=X at *;generalize hY:g2 U y b=Y at *;generalize hZ:g2 U a b=Z at *;have wx:=wi (X+Y);have uQ:∀U2:T2,U1=U2->U1.map gz=U2.map gz:=fun U2 h=>by rw [h]
 by_cases c1:X<0
 ·have hU:U1=U:=by rw [yB,if_neg (by omega)]
  simp -dsimp [sN,eF,uy,mS];repeat' (first|omega|simp -dsimp [Om,sN,eF,uy,gz,ho,Ak,ho',HA,jU,hr,jP,hr',pe,hv,oR,fJ,pg,Xk,Ri,tf,Hy,Xl,Hz,Rj,wK,Hx,ha1,hy1,ez,hai,Rf,ri,wb,c1]|apply aI|apply nI|intro)
  refine⟨b+1,ag rfl ?_,?_,by omega,by omega⟩
  ·simp [aj,aT]
  ·rw [Rh,hU]; (try simp -dsimp only [hpx]); refine ai ?_; simp -dsimp [aC,eF,uy,mS]<;>exact rz
 by_cases c2:Y<0
 ·have hU:U1=U:=by rw [yB,if_neg (by omega)]
  replace c1:(X<0)=False:=eq_false c1;simp -dsimp [sN,eF,uy,mS];repeat' (first|omega|simp -dsimp [Om,sN,eF,uy,gz,ho,Ak,ho',HA,jU,hr,jP,hr',pe,hv,oR,fJ,pg,Xk,Ri,tf,Hy,Xl,Hz,Rj,wK,Hx,ha1,hy1,ez,hai,Rf,ri,wb,c1,c2]|apply aI|apply nI|intro)
  refine⟨b+1,ag rfl ?_,?_,by omega,by omega⟩
  ·simp [aj,aT]
  ·rw [Rh,hU]; (try simp -dsimp only [hpx]); refine ai ?_; simp -dsimp [aC,eF,uy,mS]<;>exact rz
 have hU:U1=if Z<0\/X+Y<Z then s2 U a b (X+Y)else U:=by rw [yB,if_pos (by omega),hsh]
 replace c1:(X<0)=False:=eq_false c1;replace c2:(Y<0)=False:=eq_false c2;rcases Classical.propComplete (Z<0)with c3|c3<;>rcases Classical.propComplete (X+Y<Z)with c4|c4
 all_goals
  simp only [c3,c4,or_self,or_true,true_or,false_or,or_false,if_true,if_false]at hU;simp -dsimp [sN,eF,uy,mS];repeat' (first|omega|simp -dsimp [Om,sN,eF,uy,gz,ho,Ak,ho',HA,jU,hr,jP,hr',pe,hv,oR,fJ,pg,Xk,Ri,tf,Hy,Xl,Hz,Rj,wK,Hx,ha1,hy1,ez,hai,Rf,ri,wb,wx,c1,c2,c3,c4]|apply aI|apply nI|intro)
  all_goals
   refine⟨b+1,ag rfl ?_,?_,by omega,by omega⟩
   ·simp [aj,aT]
   ·rw [Rh,hU];try rw [<-ow]
    exact(by(try simp -dsimp only [hpx]); refine ai ?_; simp -dsimp [aC,eF,uy,mS,gz,List.map_set,ri]<;>exact rz)
theorem ahW:FO 232 ack:=pf apK (.cons azE .nil)
noncomputable abbrev M4:=EV [(47,.pure Xm),(232,.pure ack)] [] 17600 16 [(1,[2,50002])]
theorem amL:af M4 [] Tryz.f176 ME:=pb <| by
 rintro⟨m,l⟩ hP;have hP:MQ m l:=hP;have s9:qQ m:=PT hP.ok;have hlm:l.length<=1000000:=by have:=hP.nb; simp only [o9,Bool.and_eq_true,decide_eq_true_eq]at this; omega
 have hE:pq m l=0:=uR.2 ⟨hP.ok,hP.nb⟩;simp -dsimp [Tryz.f176,M4];repeat' (first|omega|simp -dsimp [M4,eC,hP,s9,hE,hlm,mL]|apply aI|apply nI|intro)
theorem ahZ:FO 176 ME:=pf amL (.cons aeY (.cons ahW .nil))
end Go.Sx
end
