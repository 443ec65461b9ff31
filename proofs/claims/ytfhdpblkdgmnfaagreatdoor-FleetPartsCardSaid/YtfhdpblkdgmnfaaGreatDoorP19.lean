/- A part of a proof; no conditions. -/
import Derived.Test.YtfhdpblkdgmnfaaGreatDoorP12
import Derived.Test.YtfhdpblkdgmnfaaGreatDoorP18
import Derived.Test.YtfhdpblkdgmnfaaGreatDoorP13
set_option linter.unusedSimpArgs false
set_option linter.unusedVariables false
set_option linter.unusedSectionVars false
set_option maxRecDepth 100000
set_option maxHeartbeats 8000000
noncomputable section
section
namespace Go.Sx
open Go.Proofs
attribute [local irreducible] HLe
def Sq2 (n:Nat) (R:T2):Prop:=R.length=2 * n∧∀r∈R,r.length=n
theorem Sq2.of {n:Nat} {L T:T2} (hL:Sq n L) (hT:Sq n T):Sq2 n (L++T):=by
 refine⟨by rw [List.length_append,hL.1,hT.1]; omega,fun r hr=>?_⟩
 rcases List.mem_append.1 hr with h|h
 ·exact hL.2 r h
 ·exact hT.2 r h
theorem shP_lit {s o n:Nat} {a b:Int} {h:Hp} {R:T2} (ho:s=20214∧(o=0∨o=1)) (ha:(0≤a∧a<n)∧0≤b∧b<n) (hu:h 20214={base:=0,blks:=[ouW 0 n,ouW n n]}) (hr:h 24730={base:=0,blks:=R.map rwB}) (hs:Sq2 n R):ShP s o n a b h:=by
 have e:decR (h 24730)=R:=by rw [hr]; exact decR_eq R
 exact⟨ho,ha,hu,by rw [e,hr]; rfl,by rw [e]; exact hs.1,by rw [e]; exact hs.2⟩
theorem decR_lit (R:T2):decR {base:=0,blks:=R.map rwB}=R:=decR_eq R
theorem sh_l {n:Nat} {L T:T2} (hL:Sq n L) {a:Nat} (ha:a<n) (b:Nat) (x:Int):sh (L++T) a b x=sh L a b x++T:=by
 have hl:a<L.length:=by rw [hL.1]; exact ha
 have e:(L++T).getD a []=L.getD a []:=by simp [List.getD,List.getElem?_append_left hl]
 unfold sh g2 s2
 rw [e]
 split
 ·rw [List.set_append_left _ _ hl]
 ·rfl
theorem getD_r {n:Nat} {L:T2} (T:T2) (hL:Sq n L) (a:Nat):(L++T).getD (n+a) []=T.getD a []:=by
 simp only [List.getD,List.getElem?_append_right (by rw [hL.1]; omega:L.length≤n+a),hL.1,Nat.add_sub_cancel_left]
theorem s2_r {n:Nat} {L:T2} (T:T2) (hL:Sq n L) (a b:Nat) (x:Int):s2 (L++T) (n+a) b x=L++s2 T a b x:=by
 unfold s2
 rw [getD_r T hL,List.set_append_right _ _ (by rw [hL.1]; omega),hL.1,Nat.add_sub_cancel_left]
theorem g2_r {n:Nat} {L:T2} (T:T2) (hL:Sq n L) (a b:Nat):g2 (L++T) (n+a) b=g2 T a b:=by
 unfold g2; rw [getD_r T hL]
theorem sh_r {n:Nat} {L:T2} (T:T2) (hL:Sq n L) (a b:Nat) (x:Int):sh (L++T) (n+a) b x=L++sh T a b x:=by
 unfold sh
 rw [g2_r T hL,s2_r T hL]
 split<;>rfl
theorem Sq2.row {n:Nat} {R:T2} (h:Sq2 n R) {i b:Nat} (hi:i<2 * n) (hb:b<n):∃r,R[i]?=some r∧r.length=n∧r[b]?=some (g2 R i b):=by
 have hi':i<R.length:=by rw [h.1]; exact hi
 have hl:=h.2 _ (List.getElem_mem hi')
 refine⟨R[i],List.getElem?_eq_getElem hi',hl,?_⟩
 rw [List.getElem?_eq_getElem (by omega)]
 simp [g2,List.getD,hi',hl,hb]
theorem met_tk (m:Met) (l:List V):(m.row++l).take 14=m.row:=rfl
theorem met_tk1 (m:Met) (x:V) (l:List V):(m.row++x::l).take 15=m.row++[x]:=rfl
theorem met_dr (m:Met) (x:V) (l:List V):(m.row++x::l).drop 15=l:=rfl
theorem met_dr1 (m:Met) (x y:V) (l:List V):(m.row++x::y::l).drop 16=l:=rfl
theorem met_14 (m:Met) (x:V) (l:List V):(m.row++x::l)[14]?=some x:=rfl
theorem met_15 (m:Met) (x y:V) (l:List V):(m.row++x::y::l)[15]?=some y:=rfl
theorem met_14' (m:Met) (x:V) (l:List V) (h:14<(m.row++x::l).length):(m.row++x::l)[14]=x:=rfl
theorem met_15' (m:Met) (x y:V) (l:List V) (h:15<(m.row++x::y::l).length):(m.row++x::y::l)[15]=y:=rfl
structure NetP (m:Met) (l:List Leg):Prop where
 ok:m.ok=true
 nb:netB m l=true
@[simp] def neE (d:Met × List Leg):List V:=[.agg d.1.row,.nilp,.sl 3 (d.2.map Leg.row)]
theorem neE_inj (a b:Met × List Leg) (h:neE a=neE b):a=b:=by
 obtain⟨a1,a2⟩:=a; obtain⟨b1,b2⟩:=b
 simp only [neE,List.cons.injEq,V.agg.injEq,V.sl.injEq,true_and,and_true]at h
 rw [Met.row_inj _ _ h.1,mapRow_inj Leg.row_inj h.2]
theorem neE_dec (m:Met) (l:List Leg):decC neE [.agg m.row,.nilp,.sl 3 (l.map Leg.row)]=(m,l):=decC_eq neE_inj (m,l)
def tbV (T:T2):V:=.sl 1 (T.map fun r=>[.sl 1 (r.map ri)])
abbrev netS:PSpec:=mkP neE (fun d=>NetP d.1 d.2) fun d=>.tup [.ip 16 [d.1.row++[tbV (lgTo d.1.n.toNat d.2 d.2.length),tbV (timT d.1.n.toNat d.2)]] 0 0,.int .i64 0]
theorem met_P {m:Met} (h:m.ok=true):MetP m:=by
 simp only [Met.ok,Bool.and_eq_true,decide_eq_true_eq]at h
 exact⟨by omega,by omega⟩
def nmS (m:Met):Site:={base:=0,blks:=[{z:=14,els:=[m.row],ty:=29,fz:=true}]}
def npS (m:Met):Site:={base:=0,blks:=[{z:=1,els:=[[.fn 198 [.ip 14 [m.row] 0 0]]],ty:=109}]}
def nnS (m:Met) (n:Nat):Site:={base:=0,blks:=[{z:=16,els:=[m.row++[.bsl 20214 0 n,.bsl 20214 1 n]],ty:=222,cl:=false}]}
theorem lend_row {h:Hp} {R:T2} {n i:Nat} (h1:h 24730={base:=0,blks:=R.map rwB}) (hq:Sq2 n R) (hi:i<R.length):lendN 1 h (.osl 24730 i n 0 n n)=(True,.sl 1 ((R.getD i []).map ri)):=by
 have hg:hget h 24730 i=some (rwB R[i]):=by simp [hget,h1,hi]
 have hl:=hq.2 _ (List.getElem_mem hi)
 have hd:R.getD i []=R[i]:=by simp [List.getD,hi]
 rw [lendN,hg]
 simp only [lendB,rwB,List.length_map,hl,hd,Nat.zero_add,Nat.le_refl,true_and,and_true,List.drop_zero]
 rw [List.take_of_length_le (by rw [List.length_map,hl]; exact Nat.le_refl _)]
theorem lend_tab {h:Hp} {R T:T2} {n o b:Nat} (h1:h 24730={base:=0,blks:=R.map rwB}) (hq:Sq2 n R) (ho:hget h 20214 o=some (ouW b n)) (hb:b+n≤2 * n) (hT:Sq n T) (he:∀j,j<n→R.getD (b+j) []=T.getD j []):lendN 2 h (.bsl 20214 o n)=(True,tbV T):=by
 have e:lendRs (lendN 1 h) (ouR b n n)=(True,(List.range n).map fun j=>[.sl 1 ((T.getD j []).map ri)]):=by
  refine lendRs_map fun j hj=>?_
  have hj:j<n:=by simpa using hj
  have:=lend_row (n:=n) h1 hq (i:=b+j) (by rw [hq.1]; omega)
  simp only [lendCs,this,he j hj,V.leaf]
  simp
 have e2:(List.range n).map (fun j=>[V.sl 1 ((T.getD j []).map ri)])=T.map fun r=>[V.sl 1 (r.map ri)]:=by
  have:=range_getD T [] fun r=>[V.sl 1 (r.map ri)]
  rw [hT.1]at this; exact this
 rw [lendN,ho]
 simp only [lendB,ouW,e,e2,ouR_len,tbV,and_self]
theorem lend_net {h:Hp} {m:Met} {L T:T2} {n:Nat} (h1:h 24730={base:=0,blks:=(L++T).map rwB}) (h2:h 20214={base:=0,blks:=[ouW 0 n,ouW n n]}) (h3:h 13259={base:=0,blks:=[{z:=16,els:=[m.row++[.bsl 20214 0 n,.bsl 20214 1 n]],ty:=222,cl:=false}]}) (hL:Sq n L) (hT:Sq n T):lend1 h (.bptr 13259 0 1 0 0)=(True,.ip 16 [m.row++[tbV L,tbV T]] 0 0):=by
 have hq:=Sq2.of hL hT
 have t1:lendN 2 h (.bsl 20214 0 n)=(True,tbV L):=lend_tab h1 hq (b:=0) (by simp [hget,h2]) (by omega) hL fun j hj=>by
  have hl:j<L.length:=by rw [hL.1]; exact hj
  simp [List.getD,List.getElem?_append_left hl]
 have t2:lendN 2 h (.bsl 20214 1 n)=(True,tbV T):=lend_tab h1 hq (b:=n) (by simp [hget,h2]) (by omega) hT fun j hj=>getD_r T hL j
 have hg:hget h 13259 0=some {z:=16,els:=[m.row++[.bsl 20214 0 n,.bsl 20214 1 n]],ty:=222,cl:=false}:=by simp [hget,h3]
 rw [lend1,lendN,hg]
 simp only [lendB,lendRs,Met.row,List.cons_append,List.nil_append,lendCs,t1,t2,V.leaf]
 simp [lendN]
theorem fw_stg {n:Nat} {T0:T2} (h:Tim n 200 T0) (hn:n≤8) {y a b:Nat} (hy:y<n) (ha:a<n) (hb:b≤n):Stg n y 51200 (fwA (fwB (fwC T0 n y) n y a) y a b):=by
 have h1:Tim n 51200 (fwC T0 n y):=(h.fwC (y:=y) (by omega)).le (by have:=pow_le8 (y:=y) (by omega); omega)
 exact((h1.stg (by omega) hy).fwB hy (a:=a) (by omega)).fwA hy ha hb
abbrev E132:Env:={P:=Tryz.prog,fn:=tbl [(61,.pure meS),(199,.pure rgS),(200,.pure lesanS),(202,.heap squH),(203,.heap shoH)],own:=[],key:=13200,nt:=169,frz:=[(1,[3,50003])]}
theorem b132:PureBody E132 [(11,([0,2,5],[[0,1,2,3,4,5,6,7,8,9]]))] Tryz.f132 netS:=by
 refine pb ?_
 rintro⟨m,l⟩ ⟨hok,hnb⟩
 simp only at hok hnb
 have hMP:=met_P hok
 have hE0:metE m=0:=by simp [metE,hok]
 have hmn:=met_n hok
 have hrl:=rightL_of (by omega) hnb
 obtain⟨n,hn⟩:∃n:Nat,m.n=n:=⟨m.n.toNat,by omega⟩
 rw [hn]at hmn hrl
 simp only [Int.toNat_natCast]at hrl
 have hn8:n≤8:=by omega
 have hn1:1≤n:=by omega
 simp only [netB,Bool.and_eq_true,decide_eq_true_eq,Bool.not_eq_true']at hnb
 have hl20:((20:Int)<l.length)=False:=eq_false (by omega)
 have hla:l.any (leP m)=false:=hnb.2
 have hld:=lessE_dec m l
 simp -dsimp only [legV]at hld
 have hlP:lessP (m,l):=⟨by have:=hnb.1; simp only; omega,by simp only; omega⟩
 have hsq:∀h:Hp,(h 20213).blks=[]→(h 20213).fl=false→(h 24730).fl=false→(h 20214).fl=false→SqP n h:=fun h h1 h2 h3 h4=>⟨by omega,by
  intro q hq
  simp only [List.mem_cons,List.not_mem_nil,or_false]at hq
  subst hq
  rw [←h1,←h2],h3,h4⟩
 simp -dsimp [Tryz.f132,E132]
 repeat' (first|omega|(exact shP_lit (by simp) ⟨⟨by omega,by omega⟩,by omega,by omega⟩ rfl rfl (by assumption))|simp -dsimp [E132,ri,cellp,ints,meE_dec,hMP,hE0,hl20,hla,hld,hlP,legV,hn,FreeAt,squ_go,hsq,met_tk,met_tk1,met_dr,met_dr1]|refine aI ?_ fun _=>?_|refine oI fun _=>?_|refine nI ?_ ?_)
 refine awp_loop [63,64,65,15,66,67,68,69,70,71,72,73,74,75,76,77,17,78,79,80,81,82,83,84,85,86,87,88,89,90,91,92,93,94,95,96,97,62] (fun k:{k:Nat // k≤l.length}=>[(62,(true,.int .i64 k.1))]) (fun k=>hps [(13215,{base:=k.1,blks:=[]}),(24730,rwS (lgTo n l k.1++lgTo n l k.1)),(20214,ouS n),(20213,{base:=n+n,blks:=[]}),(13259,nnS m n),(13211,npS m),(13203,nmS m)] noH) (fun k=>l.length - k.1) ⟨0,by omega⟩ ?_ ?_ ?_
 ·simp [okAll,okv]
 ·try simp -dsimp only [hps_app,List.cons_append,List.nil_append]
  exact(by(try simp -dsimp only [hpx]); refine hle_hps ?_; simp -dsimp [allK,rwS,ouS,nnS,npS,nmS,lgTo,List.map_replicate]<;>exact rz)
 rintro⟨k,hk⟩
 dsimp only
 by_cases hk1:k<l.length
 ·have hki:(k:Int)<l.length:=by omega
  have wk:IntKind.wrap .i64 ((k:Int)+1)=(k+1:Nat):=wrap_id (by omega) (by omega)
  obtain⟨x,hx⟩:∃x,l[k]?=some x:=⟨_,List.getElem?_eq_getElem hk1⟩
  have hx':l[k]=x:=(List.getElem?_eq_some_iff.1 hx).2
  have hxr:=hrl x (hx' ▸ List.getElem_mem hk1)
  have hat:lgAt l k=x:=by simp [lgAt,List.getD,hx]
  have hS:lgTo n l (k+1)=sh (sh (lgTo n l k) x.a.toNat x.b.toNat x.t) x.b.toNat x.a.toNat x.t:=by rw [lgTo,hat]
  have hL0:=lgTo_sq hrl hk
  obtain⟨xa,xb,xt⟩:=x
  simp only at hxr hS
  obtain⟨a,rfl⟩:=Int.eq_ofNat_of_zero_le hxr.1.1
  obtain⟨b,rfl⟩:=Int.eq_ofNat_of_zero_le hxr.2.1.1
  simp only [Int.toNat_natCast]at hS
  have ha:a<n:=by omega
  have hb:b<n:=by omega
  generalize hLe:lgTo n l (k+1)=L2 at *
  generalize lgTo n l k=L0 at *
  have hL1:=hL0.sh ha b xt
  have hL2:=hL1.sh hb a xt
  rw [←hS]at hL2
  obtain⟨R0,hR0⟩:∃R,L0++L0=R:=⟨_,rfl⟩
  obtain⟨R1,hR1⟩:∃R,sh R0 a b xt=R:=⟨_,rfl⟩
  obtain⟨R2,hR2⟩:∃R,sh R1 b a xt=R:=⟨_,rfl⟩
  obtain⟨R3,hR3⟩:∃R,sh R2 (n+a) b xt=R:=⟨_,rfl⟩
  obtain⟨R4,hR4⟩:∃R,sh R3 (n+b) a xt=R:=⟨_,rfl⟩
  have e1:R1=sh L0 a b xt++L0:=by rw [←hR1,←hR0,sh_l hL0 ha]
  have e2:R2=L2++L0:=by rw [←hR2,e1,sh_l hL1 hb,hS]
  have e3:R3=L2++sh L0 a b xt:=by rw [←hR3,e2,sh_r _ hL2]
  have e4:R4=L2++L2:=by rw [←hR4,e3,sh_r _ hL2,←hS]
  have q0:Sq2 n R0:=hR0 ▸ Sq2.of hL0 hL0
  have q1:Sq2 n R1:=e1 ▸ Sq2.of hL1 hL0
  have q2:Sq2 n R2:=e2 ▸ Sq2.of hL2 hL0
  have q3:Sq2 n R3:=e3 ▸ Sq2.of hL2 hL1
  rw [hR0]
  simp -dsimp [hki,rwS,ouS,nnS,npS,nmS]
  repeat' (first|omega|(exact shP_lit (by simp) ⟨⟨by omega,by omega⟩,by omega,by omega⟩ rfl rfl (by assumption))|simp -dsimp [E132,ri,cellp,ints,hki,hk1,hx,hx',Leg.row,met_14,met_15,met_14',met_15',rwS,ouS,nnS]|refine aI ?_ fun _=>?_|refine oI fun _=>?_|refine nI ?_ ?_)
  refine awp_loop [76,77,17,78,79,80,81,82,83,84,85,86,87,88,89,90,91,92,93,94,95,96,75] (fun j:{j:Nat // j≤2}=>[(75,(true,.int .i64 j.1))]) (fun j=>hps [(24730,rwS (if j.1=0 then R0 else if j.1=1 then R2 else R4)),(13215,{base:=k,blks:=[{z:=3,els:=[[.int .i64 a,.int .i64 b,.int .i64 xt]],ty:=157}]}),(20214,ouS n),(20213,{base:=n+n,blks:=[]}),(13259,nnS m n),(13211,npS m),(13203,nmS m)] noH) (fun j=>2 - j.1) ⟨0,by omega⟩ ?_ ?_ ?_
  ·simp [okAll,okv]
  ·exact(by(try simp -dsimp only [hpx]); refine hle_hps ?_; simp -dsimp [allK,rwS,ouS,nnS,npS,nmS]<;>exact rz)
  rintro⟨j,hj⟩
  dsimp only
  have hj3:j=0∨j=1∨j=2:=by omega
  rcases hj3 with rfl|rfl|rfl
  ·simp -dsimp [rwS,ouS,nnS,npS,nmS]
   repeat' (first|omega|(exact shP_lit (by simp) ⟨⟨by omega,by omega⟩,by omega,by omega⟩ rfl rfl (by assumption))|simp -dsimp [E132,ri,cellp,ints,Leg.row,rwS,ouS,nnS,sho_go,decR_lit,hR1,hR2]|refine aI ?_ fun _=>?_|refine oI fun _=>?_|refine nI ?_ ?_)
   refine⟨1,tle_chain rfl ?_,⟨by omega,?_⟩,by omega⟩
   ·simp [okAll,okv,wrap_id]
   ·try simp -dsimp only [hps_app,List.cons_append,List.nil_append]
    exact(by(try simp -dsimp only [hpx]); refine hle_hps ?_; simp -dsimp [allK,rwS,ouS,nnS,npS,nmS]<;>exact rz)
  ·simp -dsimp [rwS,ouS,nnS,npS,nmS]
   repeat' (first|omega|(exact shP_lit (by simp) ⟨⟨by omega,by omega⟩,by omega,by omega⟩ rfl rfl (by assumption))|simp -dsimp [E132,ri,cellp,ints,Leg.row,rwS,ouS,nnS,sho_go,decR_lit,hR3,hR4]|refine aI ?_ fun _=>?_|refine oI fun _=>?_|refine nI ?_ ?_)
   refine⟨2,tle_chain rfl ?_,⟨by omega,?_⟩,by omega⟩
   ·simp [okAll,okv,wrap_id]
   ·try simp -dsimp only [hps_app,List.cons_append,List.nil_append]
    exact(by(try simp -dsimp only [hpx]); refine hle_hps ?_; simp -dsimp [allK,rwS,ouS,nnS,npS,nmS]<;>exact rz)
  ·simp -dsimp [rwS,ouS,nnS,npS,nmS]
   repeat' (first|omega|(exact shP_lit (by simp) ⟨⟨by omega,by omega⟩,by omega,by omega⟩ rfl rfl (by assumption))|simp -dsimp [E132,ri,cellp,ints,Leg.row,rwS,ouS,nnS,wk]|refine aI ?_ fun _=>?_|refine oI fun _=>?_|refine nI ?_ ?_)
   refine⟨k+1,tle_kept (kept_upds rfl (kept_forget rfl (kept_upds rfl kept_base))) ?_,?_,by omega,by omega⟩
   ·simp [okAll,okv]
   ·have e5:R4.map rwB=L2.map rwB++L2.map rwB:=by rw [e4,List.map_append]
    rw [e5,hLe]
    try simp -dsimp only [hps_app,List.cons_append,List.nil_append]
    exact(by(try simp -dsimp only [hpx]); refine hle_hps ?_; simp -dsimp [allK,rwS,ouS,nnS,npS,nmS]<;>exact rz)
 have hkn:¬ (k:Int)<l.length:=by omega
 have hke:k=l.length:=by omega
 subst hke
 clear hk hk1
 have hL:=lgTo_sq hrl (Nat.le_refl l.length)
 have hD:=fun p (hp:p≤n)=>dgTo_sq hL hp
 have hT0:=tim0_tim hrl
 have hTd:timT n l=fwC (tim0 n l) n n:=rfl
 have hTe:tim0 n l=dgTo (lgTo n l l.length) n:=rfl
 generalize lgTo n l l.length=L at *
 simp -dsimp [hkn]
 repeat' (first|omega|(exact shP_lit (by simp) ⟨⟨by omega,by omega⟩,by omega,by omega⟩ rfl rfl (by assumption))|simp -dsimp [E132,ri,cellp,ints,hkn,hn]|refine aI ?_ fun _=>?_|refine oI fun _=>?_|refine nI ?_ ?_)
 refine awp_loop [101,102,18,103,104,105,106,107,108,109,110,111,112,100] (fun p:{p:Nat // p≤n}=>[(100,(true,.int .i64 p.1))]) (fun p=>hps [(24730,rwS (L++dgTo L p.1)),(13215,{base:=l.length,blks:=[]}),(20214,ouS n),(20213,{base:=n+n,blks:=[]}),(13259,nnS m n),(13211,npS m),(13203,nmS m)] noH) (fun p=>n - p.1) ⟨0,by omega⟩ ?_ ?_ ?_
 ·simp [okAll,okv]
 ·try simp -dsimp only [hps_app,List.cons_append,List.nil_append]
  exact(by(try simp -dsimp only [hpx]); refine hle_hps ?_; simp -dsimp [allK,rwS,ouS,nnS,npS,nmS,dgTo]<;>exact rz)
 rintro⟨p,hp⟩
 dsimp only
 by_cases hp1:p<n
 ·have hpi:(p:Int)<n:=by omega
  have wp:IntKind.wrap .i64 ((p:Int)+1)=(p+1:Nat):=wrap_id (by omega) (by omega)
  have hDp:=hD p hp
  have hS:dgTo L (p+1)=s2 (dgTo L p) p p 0:=rfl
  generalize hDe:dgTo L (p+1)=D1 at *
  generalize dgTo L p=D0 at *
  obtain⟨R0,hR0⟩:∃R,L++D0=R:=⟨_,rfl⟩
  have q0:Sq2 n R0:=hR0 ▸ Sq2.of hL hDp
  obtain⟨r,hr,hrl2,hy⟩:=q0.row (i:=n+p) (b:=p) (by omega) hp1
  have hr2:=(List.getElem?_eq_some_iff.1 hr).2
  have hy2:=(List.getElem?_eq_some_iff.1 hy).2
  have hil:n+p<R0.length:=by rw [q0.1]; omega
  have hpr:p<r.length:=by omega
  have ho:=ouR_get n n hp1
  have ho2:=(List.getElem?_eq_some_iff.1 ho).2
  have hol:=ouR_len n n n
  have hsm:=s2_map (b:=p) hr 0
  have hrw:rwB (r.set p 0)={z:=1,els:=(r.map ri).set p [.int .i64 0],ty:=3}:=by rw [rwB,List.map_set]; rfl
  have hs2:s2 R0 (n+p) p 0=L++D1:=by rw [←hR0,s2_r _ hL,←hS]
  rw [hrw,hs2]at hsm
  rw [hR0]
  simp -dsimp [hpi,rwS,ouS,nnS,npS,nmS]
  repeat' (first|omega|(exact shP_lit (by simp) ⟨⟨by omega,by omega⟩,by omega,by omega⟩ rfl rfl (by assumption))|simp -dsimp [E132,ri,cellp,ints,hpi,met_14,met_15,met_14',met_15',rwS,ouS,nnS,ouW,rwB,hp1,ho,ho2,hol,hr,hr2,hy,hy2,hil,hpr,hrl2,hsm,ri,wp]|refine aI ?_ fun _=>?_|refine oI fun _=>?_|refine nI ?_ ?_)
  refine⟨p+1,tle_chain rfl ?_,?_,by omega,by omega⟩
  ·simp [okAll,okv]
  ·rw [hDe]
   try simp -dsimp only [hps_app,List.cons_append,List.nil_append]
   exact(by(try simp -dsimp only [hpx]); refine hle_hps ?_; simp -dsimp [allK,rwS,ouS,nnS,npS,nmS,ouW]<;>exact rz)
 have hpn:¬ (p:Int)<n:=by omega
 have hpe:p=n:=by omega
 subst hpe
 clear hp hp1 hD
 rw [←hTe]
 generalize hT0e:tim0 p l=T0 at *
 generalize p=n at *
 simp -dsimp [hpn]
 repeat' (first|omega|(exact shP_lit (by simp) ⟨⟨by omega,by omega⟩,by omega,by omega⟩ rfl rfl (by assumption))|simp -dsimp [E132,ri,cellp,ints,hpn,hn]|refine aI ?_ fun _=>?_|refine oI fun _=>?_|refine nI ?_ ?_)
 refine awp_loop [116,117,19,118,119,120,121,122,20,123,124,125,126,127,21,128,129,130,131,132,133,134,135,136,137,138,139,140,141,142,143,144,145,146,147,22,23,148,149,150,151,152,153,154,155,156,157,158,159,160,161,162,163,164,165,166,167,115] (fun y:{y:Nat // y≤n}=>[(115,(true,.int .i64 y.1))]) (fun y=>hps [(24730,rwS (L++fwC T0 n y.1)),(13215,{base:=l.length,blks:=[]}),(20214,ouS n),(20213,{base:=n+n,blks:=[]}),(13259,nnS m n),(13211,npS m),(13203,nmS m)] noH) (fun y=>n - y.1) ⟨0,by omega⟩ ?_ ?_ ?_
 ·simp [okAll,okv]
 ·try simp -dsimp only [hps_app,List.cons_append,List.nil_append]
  exact(by(try simp -dsimp only [hpx]); refine hle_hps ?_; simp -dsimp [allK,rwS,ouS,nnS,npS,nmS,fwC]<;>exact rz)
 rintro⟨y,hy⟩
 dsimp only
 by_cases hy1:y<n
 case neg=>
  have hyn:¬ (y:Int)<n:=by omega
  have hye:y=n:=by omega
  rw [hye,←hTd]
  have hTS:Sq n (timT n l):=(timT_tim hrl hn8).sq
  have hle:∀h:Hp,h 24730={base:=0,blks:=(L++timT n l).map rwB}→h 20214={base:=0,blks:=[ouW 0 n,ouW n n]}→h 13259={base:=0,blks:=[{z:=16,els:=[m.row++[.bsl 20214 0 n,.bsl 20214 1 n]],ty:=222,cl:=false}]}→lendN 3 h (.bptr 13259 0 1 0 0)=(True,.ip 16 [m.row++[tbV L,tbV (timT n l)]] 0 0):=fun h h1 h2 h3=>lend_net h1 h2 h3 hL hTS
  have hli:∀h:Hp,lendN 3 h (.int .i64 0)=(True,.int .i64 0):=fun _=>rfl
  simp -dsimp [hyn,-lendN]
  repeat' (first|omega|(exact shP_lit (by simp) ⟨⟨by omega,by omega⟩,by omega,by omega⟩ rfl rfl (by assumption))|simp -dsimp [E132,ri,cellp,ints,hyn,-lendN,hle,hli,rwS,ouS,nnS]|refine aI ?_ fun _=>?_|refine oI fun _=>?_|refine nI ?_ ?_)
 have hyi:(y:Int)<n:=by omega
 have wy:IntKind.wrap .i64 ((y:Int)+1)=(y+1:Nat):=wrap_id (by omega) (by omega)
 have hC1:fwC T0 n (y+1)=fwB (fwC T0 n y) n y n:=rfl
 simp -dsimp [hyi]
 repeat' (first|omega|(exact shP_lit (by simp) ⟨⟨by omega,by omega⟩,by omega,by omega⟩ rfl rfl (by assumption))|simp -dsimp [E132,ri,cellp,ints,hyi,hn]|refine aI ?_ fun _=>?_|refine oI fun _=>?_|refine nI ?_ ?_)
 refine awp_loop [121,122,20,123,124,125,126,127,21,128,129,130,131,132,133,134,135,136,137,138,139,140,141,142,143,144,145,146,147,22,23,148,149,150,151,152,153,154,155,156,157,158,159,160,161,162,163,164,165,166,120] (fun a:{a:Nat // a≤n}=>[(120,(true,.int .i64 a.1))]) (fun a=>hps [(24730,rwS (L++fwB (fwC T0 n y) n y a.1)),(13215,{base:=l.length,blks:=[]}),(20214,ouS n),(20213,{base:=n+n,blks:=[]}),(13259,nnS m n),(13211,npS m),(13203,nmS m)] noH) (fun a=>n - a.1) ⟨0,by omega⟩ ?_ ?_ ?_
 ·simp [okAll,okv]
 ·try simp -dsimp only [hps_app,List.cons_append,List.nil_append]
  exact(by(try simp -dsimp only [hpx]); refine hle_hps ?_; simp -dsimp [allK,rwS,ouS,nnS,npS,nmS,fwB]<;>exact rz)
 rintro⟨a,ha⟩
 dsimp only
 by_cases ha1:a<n
 case neg=>
  have han:¬ (a:Int)<n:=by omega
  have hae:a=n:=by omega
  rw [hae,←hC1]
  simp -dsimp [han]
  repeat' (first|omega|(exact shP_lit (by simp) ⟨⟨by omega,by omega⟩,by omega,by omega⟩ rfl rfl (by assumption))|simp -dsimp [E132,ri,cellp,ints,han,wy]|refine aI ?_ fun _=>?_|refine oI fun _=>?_|refine nI ?_ ?_)
  refine⟨y+1,tle_kept (kept_upds rfl (kept_forget rfl (kept_upds rfl kept_base))) ?_,HLe.refl _,by omega,by omega⟩
  simp [okAll,okv]
 have hai:(a:Int)<n:=by omega
 have wa:IntKind.wrap .i64 ((a:Int)+1)=(a+1:Nat):=wrap_id (by omega) (by omega)
 have hB1:fwB (fwC T0 n y) n y (a+1)=fwA (fwB (fwC T0 n y) n y a) y a n:=rfl
 simp -dsimp [hai]
 repeat' (first|omega|(exact shP_lit (by simp) ⟨⟨by omega,by omega⟩,by omega,by omega⟩ rfl rfl (by assumption))|simp -dsimp [E132,ri,cellp,ints,hai,hn]|refine aI ?_ fun _=>?_|refine oI fun _=>?_|refine nI ?_ ?_)
 refine awp_loop [126,127,21,128,129,130,131,132,133,134,135,136,137,138,139,140,141,142,143,144,145,146,147,22,23,148,149,150,151,152,153,154,155,156,157,158,159,160,161,162,163,164,165,125] (fun b:{b:Nat // b≤n}=>[(125,(true,.int .i64 b.1))]) (fun b=>hps [(24730,rwS (L++fwA (fwB (fwC T0 n y) n y a) y a b.1)),(13215,{base:=l.length,blks:=[]}),(20214,ouS n),(20213,{base:=n+n,blks:=[]}),(13259,nnS m n),(13211,npS m),(13203,nmS m)] noH) (fun b=>n - b.1) ⟨0,by omega⟩ ?_ ?_ ?_
 ·simp [okAll,okv]
 ·try simp -dsimp only [hps_app,List.cons_append,List.nil_append]
  exact(by(try simp -dsimp only [hpx]); refine hle_hps ?_; simp -dsimp [allK,rwS,ouS,nnS,npS,nmS,fwA]<;>exact rz)
 rintro⟨b,hb⟩
 dsimp only
 by_cases hb1:b<n
 case neg=>
  have hbn:¬ (b:Int)<n:=by omega
  have hbe:b=n:=by omega
  rw [hbe,←hB1]
  simp -dsimp [hbn]
  repeat' (first|omega|(exact shP_lit (by simp) ⟨⟨by omega,by omega⟩,by omega,by omega⟩ rfl rfl (by assumption))|simp -dsimp [E132,ri,cellp,ints,hbn,wa]|refine aI ?_ fun _=>?_|refine oI fun _=>?_|refine nI ?_ ?_)
  refine⟨a+1,tle_kept (kept_upds rfl (kept_forget rfl (kept_upds rfl kept_base))) ?_,HLe.refl _,by omega,by omega⟩
  simp [okAll,okv]
 have hbi:(b:Int)<n:=by omega
 have wb:IntKind.wrap .i64 ((b:Int)+1)=(b+1:Nat):=wrap_id (by omega) (by omega)
 have hG:=fw_stg hT0 hn8 hy1 ha1 hb
 have hA1:fwA (fwB (fwC T0 n y) n y a) y a (b+1)=if 0≤g2 (fwA (fwB (fwC T0 n y) n y a) y a b) a y∧0≤g2 (fwA (fwB (fwC T0 n y) n y a) y a b) y b then sh (fwA (fwB (fwC T0 n y) n y a) y a b) a b (g2 (fwA (fwB (fwC T0 n y) n y a) y a b) a y+g2 (fwA (fwB (fwC T0 n y) n y a) y a b) y b)else fwA (fwB (fwC T0 n y) n y a) y a b:=rfl
 generalize hU1:fwA (fwB (fwC T0 n y) n y a) y a (b+1)=U1 at *
 generalize fwA (fwB (fwC T0 n y) n y a) y a b=U at *
 have bx:=hG.co a ha1
 have bz:=hG.ro b hb1
 have bx0:=hG.lo a y ha1 hy1
 have bz0:=hG.lo y b hy1 hb1
 have hSq:=hG.sq
 obtain⟨R0,hR0⟩:∃R,L++U=R:=⟨_,rfl⟩
 have q0:Sq2 n R0:=hR0 ▸ Sq2.of hL hSq
 obtain⟨r,hr,hrl2,hv⟩:=q0.row (i:=n+a) (b:=y) (by omega) hy1
 obtain⟨r',hr',hrl3,hv'⟩:=q0.row (i:=n+y) (b:=b) (by omega) hb1
 rw [←hR0,g2_r _ hL]at hv hv'
 generalize hx1:g2 U a y=x1 at *
 generalize hx2:g2 U y b=x2 at *
 have hr2:=(List.getElem?_eq_some_iff.1 hr).2
 have hv2:=(List.getElem?_eq_some_iff.1 hv).2
 have hr2':=(List.getElem?_eq_some_iff.1 hr').2
 have hv2':=(List.getElem?_eq_some_iff.1 hv').2
 have hil:n+a<R0.length:=by rw [q0.1]; omega
 have hil':n+y<R0.length:=by rw [q0.1]; omega
 have hpr:y<r.length:=by omega
 have hpr':b<r'.length:=by omega
 have ho:=ouR_get n n ha1
 have ho2:=(List.getElem?_eq_some_iff.1 ho).2
 have ho':=ouR_get n n hy1
 have ho2':=(List.getElem?_eq_some_iff.1 ho').2
 have hol:=ouR_len n n n
 have wx:IntKind.wrap .i64 (x1+x2)=x1+x2:=wrap_id (by omega) (by omega)
 have hshr:sh R0 (n+a) b (x1+x2)=L++sh U a b (x1+x2):=by rw [←hR0,sh_r _ hL]
 rw [hR0]
 by_cases hc:0≤x1∧0≤x2
 ·rw [if_pos hc]at hA1
  rw [←hA1]at hshr
  have c1:(0≤x1)=True:=eq_true hc.1
  have c2:(0≤x2)=True:=eq_true hc.2
  simp -dsimp [hbi,rwS,ouS,nnS,npS,nmS]
  repeat' (first|omega|(exact shP_lit (by simp) ⟨⟨by omega,by omega⟩,by omega,by omega⟩ rfl rfl (by assumption))|simp -dsimp [E132,ri,cellp,ints,hbi,met_14,met_15,met_14',met_15',rwS,ouS,nnS,ouW,rwB,ho,ho2,ho',ho2',hol,hr,hr2,hr',hr2',hv,hv2,hv',hv2',hil,hil',hpr,hpr',hrl2,hrl3,ha1,hy1,hb1,hai,hyi,ri,wb,wx,c1,c2,sho_go,decR_lit,hshr]|refine aI ?_ fun _=>?_|refine oI fun _=>?_|refine nI ?_ ?_)
  first
   | (refine⟨b+1,tle_chain rfl ?_,?_,by omega,by omega⟩)
   | (refine⟨b+1,tle_chain rfl ?_,⟨by omega,?_⟩,by omega⟩)
  ·simp [okAll,okv]
  ·rw [hU1]
   try simp -dsimp only [hps_app,List.cons_append,List.nil_append]
   exact(by(try simp -dsimp only [hpx]); refine hle_hps ?_; simp -dsimp [allK,rwS,ouS,nnS,npS,nmS,ouW]<;>exact rz)
 ·rw [if_neg hc]at hA1
  have e5:R0.map rwB=L.map rwB++U1.map rwB:=by rw [hA1,←hR0,List.map_append]
  by_cases h0:0≤x1
  ·have c1:(0≤x1)=True:=eq_true h0
   have c2:(0≤x2)=False:=eq_false fun h=>hc ⟨h0,h⟩
   simp -dsimp [hbi,rwS,ouS,nnS,npS,nmS]
   repeat' (first|omega|(exact shP_lit (by simp) ⟨⟨by omega,by omega⟩,by omega,by omega⟩ rfl rfl (by assumption))|simp -dsimp [E132,ri,cellp,ints,hbi,met_14,met_15,met_14',met_15',rwS,ouS,nnS,ouW,rwB,ho,ho2,ho',ho2',hol,hr,hr2,hr',hr2',hv,hv2,hv',hv2',hil,hil',hpr,hpr',hrl2,hrl3,ha1,hy1,hb1,hai,hyi,ri,wb,c1,c2]|refine aI ?_ fun _=>?_|refine oI fun _=>?_|refine nI ?_ ?_)
   first
    | (refine⟨b+1,tle_chain rfl ?_,?_,by omega,by omega⟩)
    | (refine⟨b+1,tle_chain rfl ?_,⟨by omega,?_⟩,by omega⟩)
   ·simp [okAll,okv]
   ·rw [hU1,e5]
    try simp -dsimp only [hps_app,List.cons_append,List.nil_append]
    exact(by(try simp -dsimp only [hpx]); refine hle_hps ?_; simp -dsimp [allK,rwS,ouS,nnS,npS,nmS,ouW]<;>exact rz)
  ·have c1:(0≤x1)=False:=eq_false h0
   simp -dsimp [hbi,rwS,ouS,nnS,npS,nmS]
   repeat' (first|omega|(exact shP_lit (by simp) ⟨⟨by omega,by omega⟩,by omega,by omega⟩ rfl rfl (by assumption))|simp -dsimp [E132,ri,cellp,ints,hbi,met_14,met_15,met_14',met_15',rwS,ouS,nnS,ouW,rwB,ho,ho2,ho',ho2',hol,hr,hr2,hr',hr2',hv,hv2,hv',hv2',hil,hil',hpr,hpr',hrl2,hrl3,ha1,hy1,hb1,hai,hyi,ri,wb,c1]|refine aI ?_ fun _=>?_|refine oI fun _=>?_|refine nI ?_ ?_)
   first
    | (refine⟨b+1,tle_chain rfl ?_,?_,by omega,by omega⟩)
    | (refine⟨b+1,tle_chain rfl ?_,⟨by omega,?_⟩,by omega⟩)
   ·simp [okAll,okv]
   ·rw [hU1,e5]
    try simp -dsimp only [hps_app,List.cons_append,List.nil_append]
    exact(by(try simp -dsimp only [hpx]); refine hle_hps ?_; simp -dsimp [allK,rwS,ouS,nnS,npS,nmS,ouW]<;>exact rz)
theorem ok132:FO 132 netS:=pf b132 (.cons ok61 (.cons ok199 (.cons ok200 (.cons ok202 (.cons ok203 .nil)))))
end Go.Sx
end
section
namespace Go.Sx
open Go.Proofs
attribute [local irreducible] HLe
@[simp] def tiE (d:Met × List Leg):List V:=[.agg d.1.row,.sl 3 (d.2.map Leg.row)]
theorem tiE_inj (a b:Met × List Leg) (h:tiE a=tiE b):a=b:=by
 obtain⟨a1,a2⟩:=a; obtain⟨b1,b2⟩:=b
 simp only [tiE,List.cons.injEq,V.agg.injEq,V.sl.injEq,true_and,and_true]at h
 rw [Met.row_inj _ _ h.1,mapRow_inj Leg.row_inj h.2]
theorem tiE_dec (m:Met) (l:List Leg):decC tiE [.agg m.row,.sl 3 (l.map Leg.row)]=(m,l):=decC_eq tiE_inj (m,l)
abbrev timS:PSpec:=mkP tiE (fun d=>NetP d.1 d.2) fun d=>.tup [tbV (timT d.1.n.toNat d.2),.int .i64 0]
abbrev E63:Env:={P:=Tryz.prog,fn:=tbl [(132,.pure netS)],own:=[],key:=6300,nt:=21}
theorem b63:PureBody E63 [] Tryz.f63 timS:=by
 refine pb ?_
 rintro⟨m,l⟩ hP
 have hP:NetP m l:=hP
 have ht:∃T,timT m.n.toNat l=T:=⟨_,rfl⟩
 obtain⟨T,hT⟩:=ht
 simp -dsimp [Tryz.f63,E63]
 repeat' (first|omega|simp -dsimp [E63,ri,cellp,ints,neE_dec,hP,met_14,met_15,met_14',met_15',hT,tbV]|refine aI ?_ fun _=>?_|refine oI fun _=>?_|refine nI ?_ ?_)
theorem ok63:FO 63 timS:=pf b63 (.cons ok132 .nil)
end Go.Sx
end
section
namespace Go.Sx
open Go.Proofs
attribute [local irreducible] HLe
@[simp] def lgE (d:List Leg × Nat × Nat):List V:=[.sl 3 (d.1.map Leg.row),.int .i64 d.2.1,.int .i64 d.2.2]
theorem lgE_inj (a b:List Leg × Nat × Nat) (h:lgE a=lgE b):a=b:=by
 obtain⟨a1,a2,a3⟩:=a; obtain⟨b1,b2,b3⟩:=b
 simp only [lgE,List.cons.injEq,V.sl.injEq,V.int.injEq,true_and,and_true]at h
 rw [mapRow_inj Leg.row_inj h.1,Int.ofNat.inj h.2.1,Int.ofNat.inj h.2.2]
theorem lgE_dec (l:List Leg) (a b:Nat):decC lgE [.sl 3 (l.map Leg.row),.int .i64 a,.int .i64 b]=(l,a,b):=decC_eq lgE_inj (l,a,b)
abbrev legS:PSpec:=mkP lgE (fun d=>d.1.length≤20) fun d=>.int .i64 (legR d.1 d.2.1 d.2.2 d.1.length)
abbrev E237:Env:={P:=Tryz.prog,fn:=tbl [],own:=[],key:=23700,nt:=55}
theorem b237:PureBody E237 [] Tryz.f237 legS:=by
 refine pb ?_
 rintro⟨l,p,q⟩ hl
 have hl:l.length≤20:=hl
 simp -dsimp [Tryz.f237,E237]
 repeat' (first|omega|simp -dsimp [E237,ri,cellp,ints, *]|refine aI ?_ fun _=>?_|refine oI fun _=>?_|refine nI ?_ ?_)
 refine awp_loop [10,11,12,13,16,17,18,19,9,20,21,22,23,24,25,26,27,28,29,30,31,32,33,34,35,36,37,38,39,40,41,42,43,44,45,46,47,48,49,50,51,52,53,7,14,15,8] (fun k:{k:Nat // k≤l.length}=>[(8,(true,.int .i64 k.1)),(7,(true,.int .i64 (legR l p q k.1)))]) (fun k=>hps [(23709,{base:=k.1,blks:=[]})] noH) (fun k=>l.length - k.1) ⟨0,by omega⟩ ?_ ?_ ?_
 ·simp [okAll,okv,legR]
 ·refine HLe.forget (L:=[(23709,{base:=0,blks:=[]})]) rfl (by intro s; simp [hnext,hps]) (by simp [hps,YS])
 rintro⟨k,hk⟩
 dsimp only
 by_cases hk1:k<l.length
 ·have hki:(k:Int)<l.length:=by omega
  have wk:IntKind.wrap .i64 ((k:Int)+1)=(k+1:Nat):=wrap_id (by omega) (by omega)
  obtain⟨x,hx⟩:∃x,l[k]?=some x:=⟨_,List.getElem?_eq_getElem hk1⟩
  have hx':l[k]=x:=(List.getElem?_eq_some_iff.1 hx).2
  have hat:lgAt l k=x:=by simp [lgAt,List.getD,hx]
  have hS:legR l p q (k+1)=if ((x.a=p∧x.b=q)∨(x.a=q∧x.b=p))∧(legR l p q k<0∨x.t<legR l p q k)then x.t else legR l p q k:=by rw [legR,hat]
  generalize hN:legR l p q (k+1)=N at *
  generalize legR l p q k=R at *
  obtain⟨a,b,t⟩:=x
  simp only at hS
  rcases Classical.propComplete (a=(p:Int))with c1|c1<;>rcases Classical.propComplete (b=(q:Int))with c2|c2<;>rcases Classical.propComplete (a=(q:Int))with c3|c3<;>rcases Classical.propComplete (b=(p:Int))with c4|c4<;>rcases Classical.propComplete (R<0)with c5|c5<;>rcases Classical.propComplete (t<R)with c6|c6
  all_goals
   simp only [c1,c2,c3,c4,c5,c6,true_and,and_true,false_and,and_false,true_or,or_true,false_or,or_false,if_true,if_false,and_self,or_self]at hS
   simp -dsimp [hki]
   repeat' (first|omega|simp -dsimp [E237,ri,cellp,ints,hki,hk1,hx,hx',Leg.row,c1,c2,c3,c4,c5,c6,wk]|refine aI ?_ fun _=>?_|refine oI fun _=>?_|refine nI ?_ ?_)
   all_goals
    refine⟨k+1,tle_chain rfl ?_,?_,by omega,by omega⟩
    ·simp [okAll,okv,hN,hS]
    ·exact(by(try simp -dsimp only [hpx]); refine hle_hps ?_; simp -dsimp [allK]<;>exact rz)
 have hkn:¬ (k:Int)<l.length:=by omega
 have hke:k=l.length:=by omega
 subst hke
 simp -dsimp [hkn]
 repeat' (first|omega|simp -dsimp [E237,ri,cellp,ints,hkn]|refine aI ?_ fun _=>?_|refine oI fun _=>?_|refine nI ?_ ?_)
theorem ok237:FO 237 legS:=pf b237 .nil
end Go.Sx
end
end
