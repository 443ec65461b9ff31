/- A part of a proof; no conditions. -/
import Derived.Test.YtfhdpblkdgmnfaaGreatDoorP11
import Derived.Test.YtfhdpblkdgmnfaaGreatDoorP08
set_option linter.unusedSimpArgs false
set_option linter.unusedVariables false
set_option linter.unusedSectionVars false
set_option maxRecDepth 100000
set_option maxHeartbeats 8000000
noncomputable section
section
namespace Go.Sx
open Go.Proofs
attribute [local irreducible] HLe
abbrev E199:Env:={P:=Tryz.prog,fn:=tbl [],own:=[],key:=19900,nt:=15}
theorem b199:PureBody E199 [] Tryz.f199 rgS:=by
 refine pb ?_
 rintro⟨n,lo,hi⟩ _
 simp -dsimp [Tryz.f199,E199,rgB]
 repeat' (first|omega|simp -dsimp [E199,ri,cellp,ints,rgB]|refine aI ?_ fun _=>?_|refine oI fun _=>?_|refine nI ?_ ?_)
theorem ok199:FO 199 rgS:=pf b199 .nil
abbrev E198:Env:={P:=Tryz.prog,fn:=tbl [(199,.pure rgS)],own:=[],key:=19800,nt:=9}
theorem b198:PureBody E198 [] Tryz.f198 plS:=by
 refine pb ?_
 rintro⟨n,m⟩ ⟨h1,h2⟩
 simp only at h1 h2
 have w:IntKind.wrap .i64 (m.n - 1)=m.n - 1:=wrap_id (by omega) (by omega)
 simp -dsimp [Tryz.f198,E198,w]
 repeat' (first|omega|simp -dsimp [E198,ri,cellp,ints,w]|refine aI ?_ fun _=>?_|refine oI fun _=>?_|refine nI ?_ ?_)
theorem ok198:FO 198 plS:=pf b198 (.cons ok199 .nil)
def plcR (m:Met):V:=.ip 1 [[.fn 198 [.ip 14 [m.row] 0 0]]] 0 0
theorem plcR_inj (a b:Met) (h:plcR a=plcR b):a=b:=Met.row_inj _ _ (by simpa [plcR]using h)
@[simp] def leE (d:Met × Leg):List V:=[.agg d.2.row,plcR d.1]
theorem leE_inj (a b:Met × Leg) (h:leE a=leE b):a=b:=by
 obtain⟨a1,a2⟩:=a; obtain⟨b1,b2⟩:=b
 simp only [leE,List.cons.injEq,V.agg.injEq,true_and,and_true]at h
 rw [Leg.row_inj _ _ h.1,plcR_inj _ _ h.2]
theorem leE_dec (m:Met) (x:Leg):decC leE [.agg [.int .i64 x.a,.int .i64 x.b,.int .i64 x.t],.ip 1 [[.fn 198 [.ip 14 [m.row] 0 0]]] 0 0]=(m,x):=decC_eq leE_inj (m,x)
def leP (m:Met) (x:Leg):Bool:=Leg.bad m.n x
abbrev leS:PSpec:=mkP leE (fun d=>1≤d.1.n∧d.1.n≤8) fun d=>.bool (leP d.1 d.2)
theorem le_bad (m:Met) (x:Leg):leP m x=(!rgB x.a 0 (m.n - 1) || !rgB x.b 0 (m.n - 1) || decide (x.a=x.b) || !rgB x.t 1 200):=by
 unfold leP Leg.bad
 simp only [Bool.not_and,ne_eq,decide_not,Bool.not_not]
abbrev E201:Env:={P:=Tryz.prog,fn:=tbl [(198,.pure plS),(199,.pure rgS)],own:=[],key:=20100,nt:=29}
theorem b201:PureBody E201 [] Tryz.f201 leS:=by
 refine pb ?_
 rintro⟨m,x⟩ ⟨h1,h2⟩
 simp only at h1 h2
 have e:=le_bad m x
 have hm:1≤m.n∧m.n≤8:=⟨h1,h2⟩
 generalize g1:rgB x.a 0 (m.n - 1)=p1 at e
 generalize g2:rgB x.b 0 (m.n - 1)=p2 at e
 generalize g3:rgB x.t 1 200=p3 at e
 simp -dsimp [Tryz.f201,E201,plcR,Leg.row]
 repeat' (first|omega|simp -dsimp [E201,ri,cellp,ints,plcR,Leg.row,plE_dec,hm,g1,g2,g3,e]|refine aI ?_ fun _=>?_|refine oI fun _=>?_|refine nI ?_ ?_)
theorem ok201:FO 201 leS:=pf b201 (.cons ok198 (.cons ok199 .nil))
def legV (m:Met):V:=.fn 201 [.ip 1 [[.fn 198 [.ip 14 [m.row] 0 0]]] 0 0]
theorem legV_inj (a b:Met) (h:legV a=legV b):a=b:=Met.row_inj _ _ (by simpa [legV]using h)
@[simp] def lessE (d:Met × List Leg):List V:=[.sl 3 (d.2.map Leg.row),legV d.1]
theorem lessE_inj (a b:Met × List Leg) (h:lessE a=lessE b):a=b:=by
 obtain⟨a1,a2⟩:=a; obtain⟨b1,b2⟩:=b
 simp only [lessE,List.cons.injEq,V.sl.injEq,true_and,and_true]at h
 rw [mapRow_inj Leg.row_inj h.1,legV_inj _ _ h.2]
theorem lessE_dec (q:Met) (l:List Leg):decC lessE [.sl 3 (l.map Leg.row),legV q]=(q,l):=decC_eq lessE_inj (q,l)
structure lessP (d:Met × List Leg):Prop where
 l:d.2.length≤1000000
 q:(fun q:Met=>1≤q.n∧q.n≤8) d.1
abbrev lesixS:PSpec:=mkP lessE lessP fun d=>.int .i64 (idxZ d.2 (leP d.1))
abbrev lesanS:PSpec:=mkP lessE lessP fun d=>.bool (d.2.any (leP d.1))
abbrev E246:Env:={P:=Tryz.prog,fn:=tbl [(201,.pure leS)],own:=[],key:=24600,nt:=19}
theorem b246:PureBody E246 [] Tryz.f246 lesixS:=by
 refine pb ?_
 rintro⟨q,l⟩ ⟨hl,hq⟩
 have hl:l.length≤1000000:=hl
 dsimp only at hq
 simp -dsimp [Tryz.f246,E246]
 refine awp_loop [9,10,5,11,12,13,14,15,16,17,4,18,8] (fun k:{k:Nat // k≤l.length∧∀j (h:j<l.length),j<k→leP q l[j]=false}=>[(8,(true,.int .i64 k.1))]) (fun _=>noH) (fun k=>l.length - k.1) ⟨0,by omega,fun _ _ h=>by omega⟩ ?_ (HLe.refl _) ?_
 ·simp [okAll,okv]
 rintro⟨k,hk,hall⟩
 by_cases hk1:k<l.length
 ·have hki:(k:Int)<l.length:=by omega
  have wk:IntKind.wrap .i64 ((k:Int)+1)=(k+1:Nat):=wrap_id (by omega) (by omega)
  obtain⟨x,hx⟩:∃x,l[k]?=some x:=⟨_,List.getElem?_eq_getElem hk1⟩
  have hx':l[k]=x:=(List.getElem?_eq_some_iff.1 hx).2
  cases hw:leP q x
  ·simp -dsimp [hki]
   repeat' (first|omega|simp -dsimp [E246,ri,cellp,ints,hki,hk1,hl,hx,hx',hw,wk,hq,legV,leE_dec,Leg.row,plcR]|refine aI ?_ fun _=>?_|refine oI fun _=>?_|refine nI ?_ ?_)
   refine⟨k+1,tle_chain rfl ?_,HLe.refl _,⟨by omega,fun j h hj=>?_⟩,by omega⟩
   ·simp [okAll,okv]
   ·by_cases hjk:j=k
    ·subst hjk; rw [hx']; exact hw
    ·exact hall j h (by omega)
  ·have hz:=idxZ_at l (leP q) hk1 (by rw [hx']; exact hw) hall
   simp -dsimp [hki]
   repeat' (first|omega|simp -dsimp [E246,ri,cellp,ints,hki,hk1,hl,hx,hx',hw,wk,hz,hq,legV,leE_dec,Leg.row,plcR]|refine aI ?_ fun _=>?_|refine oI fun _=>?_|refine nI ?_ ?_)
 ·have hkn:¬ (k:Int)<l.length:=by omega
  have hz:=idxZ_none l (leP q) (fun j h=>hall j h (by omega))
  simp -dsimp [hkn]
  repeat' (first|omega|simp -dsimp [E246,ri,cellp,ints,hkn,hz]|refine aI ?_ fun _=>?_|refine oI fun _=>?_|refine nI ?_ ?_)
theorem ok246:FO 246 lesixS:=pf b246 (.cons ok201 .nil)
abbrev E200:Env:={P:=Tryz.prog,fn:=tbl [(246,.pure lesixS)],own:=[],key:=20000,nt:=9}
theorem b200:PureBody E200 [] Tryz.f200 lesanS:=by
 refine pb ?_
 rintro⟨q,l⟩ hP
 have hz:=idxZ_any l (leP q)
 have hd:=lessE_dec q l
 simp -dsimp only [legV]at hd
 simp -dsimp [Tryz.f200,E200,legV]
 repeat' (first|omega|simp -dsimp [E200,ri,cellp,ints,hP,hd,hz,legV]|refine aI ?_ fun _=>?_|refine oI fun _=>?_|refine nI ?_ ?_)
theorem ok200:FO 200 lesanS:=pf b200 (.cons ok246 .nil)
def rwB (r:List Int):Blk:={z:=1,els:=r.map ri,ty:=3}
def ouR (b n k:Nat):List (List V):=(List.range k).map fun j=>[.osl 24730 (b+j) n 0 n n]
def ouW (b n:Nat):Blk:={z:=1,els:=ouR b n n,ty:=43,cl:=false}
theorem ouR_succ (b n k:Nat):ouR b n (k+1)=ouR b n k++[[.osl 24730 (b+k) n 0 n n]]:=by simp [ouR,List.range_succ]
theorem bR_rw (v:Int) (n:Nat):bR v n n=rwB (List.replicate n v):=by simp [bR,rwB,repTo]
structure SqP (n:Int) (h:Hp):Prop where
 n:1≤n∧n≤8
 b:Blank [20213] h
 f1:(h 24730).fl=false
 f2:(h 20214).fl=false
def squH:HSpec where
 go args h:=match args with
  | [.int .i64 n,.int .i64 v]=>⟨SqP n h,.bsl 20214 (hnext h 20214) n.toNat,hps [(24730,{base:=(h 24730).base,blks:=(h 24730).blks++List.replicate n.toNat (rwB (List.replicate n.toNat v))}),(20214,{base:=(h 20214).base,blks:=(h 20214).blks++[ouW (hnext h 24730) n.toNat]}),(20213,{base:=(h 20213).base+n.toNat,blks:=[]})] h⟩
  | _=>bad h
theorem squ_inv {args:List V} {h:Hp} (hc:(squH.go args h).c):∃(n:Nat) (v:Int),args=[.int .i64 n,.int .i64 v]∧SqP n h:=by
 unfold squH at hc
 simp only at hc
 split at hc
 ·rename_i n v
  have:=hc.n
  obtain⟨k,rfl⟩:=Int.eq_ofNat_of_zero_le (show 0≤n by omega)
  exact⟨k,v,rfl,hc⟩
 ·exact hc.elim
theorem squ_go (n v:Int) (h:Hp):squH.go [.int .i64 n,.int .i64 v] h=⟨SqP n h,.bsl 20214 (hnext h 20214) n.toNat,hps [(24730,{base:=(h 24730).base,blks:=(h 24730).blks++List.replicate n.toNat (rwB (List.replicate n.toNat v))}),(20214,{base:=(h 20214).base,blks:=(h 20214).blks++[ouW (hnext h 24730) n.toNat]}),(20213,{base:=(h 20213).base+n.toNat,blks:=[]})] h⟩:=rfl
theorem rep_go (v n:Int) (h:Hp):repGo [.sl 1 [[.int .i64 v]],.int .i64 n] h=⟨1≤n∧n≤12,.osl 24730 (hnext h 24730) n.toNat 0 n.toNat n.toNat,hpush h 24730 (bR v n.toNat n.toNat)⟩:=rfl
theorem set_last {α:Type} (O:List α) (x y:α):(O++[x]).set O.length y=O++[y]:=by
 rw [List.set_append_right _ _ (Nat.le_refl _),Nat.sub_self]; rfl
abbrev E202:Env:={P:=Tryz.prog,fn:=tbl [(247,.heap repS)],own:=[13],key:=20200,nt:=17}
theorem b202:HeapBody E202 [] Tryz.f202 squH:=by
 intro args h hc
 obtain⟨n,v,rfl,⟨hn,hb,f1,f2⟩⟩:=squ_inv hc
 rw [squ_go]
 have h3:=hb 20213 (by simp)
 have hH:h=hps [(24730,{base:=(h 24730).base,blks:=(h 24730).blks}),(20214,{base:=(h 20214).base,blks:=(h 20214).blks}),(20213,{base:=(h 20213).base,blks:=[]})] h:=by
  refine(hps_self fun q hq=>?_).symm
  simp only [List.map_cons,List.map_nil,List.mem_cons,List.not_mem_nil,or_false]at hq
  rcases hq with rfl|rfl|rfl
  ·simp only [hps_cons,if_true]; rw [←f1]
  ·simp only [hps_cons,if_true]; rw [if_neg (by decide),←f2]
  ·exact h3
 rw [hH]
 generalize (h 24730).base=b at *
 generalize (h 24730).blks=B at *
 generalize (h 20214).base=o at *
 generalize (h 20214).blks=O at *
 generalize (h 20213).base=c at *
 generalize h=h0 at *
 clear hH hb h3 f1 f2 hc
 simp only [Int.toNat_natCast]
 have hn8:n≤8:=by omega
 have hn1:1≤n:=by omega
 have g1:∀x y:Nat,(x+y<x)=False:=fun x y=>eq_false (by omega)
 simp -dsimp [Tryz.f202,E202]
 repeat' (first|omega|simp -dsimp [E202,ri,cellp,ints, *]|refine aI ?_ fun _=>?_|refine oI fun _=>?_|refine nI ?_ ?_)
 refine awp_loop_g [(4,20214,1,43)] rfl (by simp) [7,8,9,10,11,12,13,14,4,15,6] (fun k:{k:Nat // k≤n}=>[(6,(true,.int .i64 k.1)),(4,(true,.bsl 20214 (o+O.length) k.1))]) (fun k=>hps [(24730,{base:=b,blks:=B++List.replicate k.1 (rwB (List.replicate n v))}),(20214,{base:=o,blks:=O++[{z:=1,els:=ouR (b+B.length) n k.1,ty:=43,cl:=decide (k.1=0)}]}),(20213,{base:=c+k.1,blks:=[]})] h0) (fun k=>n - k.1) ⟨0,by omega⟩ ?_ ?_ ?_
 ·simp [okAll,okv]
 ·exact(by(try simp -dsimp only [hpx]); refine hle_hpsb ?_; simp -dsimp [allK,ouR]<;>exact rz)
 rintro⟨k,hk⟩
 dsimp only
 by_cases hk1:k<n
 ·have hki:(k:Int)<n:=by omega
  have wk:IntKind.wrap .i64 ((k:Int)+1)=(k+1:Nat):=wrap_id (by omega) (by omega)
  have h12:(1:Int)≤n∧(n:Int)≤12:=by omega
  have hol:(ouR (b+B.length) n k).length=k:=by simp [ouR]
  have hr:B++List.replicate (k+1) (rwB (List.replicate n v))=B++(List.replicate k (rwB (List.replicate n v))++[rwB (List.replicate n v)]):=by rw [List.replicate_succ']
  simp -dsimp [hki]
  repeat' (first|omega|simp -dsimp [E202,ri,cellp,ints,hki,rep_go,h12,bR_rw,g1,set_last,hol,wk]|refine aI ?_ fun _=>?_|refine oI fun _=>?_|refine nI ?_ ?_)
  refine⟨k+1,tle_chain rfl ?_,⟨by omega,?_⟩,by omega⟩
  ·simp [okAll,okv]
  ·rw [hr,ouR_succ]; exact(by(try simp -dsimp only [hpx]); refine hle_hpsb ?_; simp -dsimp [allK,Nat.add_assoc]<;>exact rz)
 ·have hkn:¬ (k:Int)<n:=by omega
  have hke:k=n:=by omega
  subst hke
  have hd:decide (k=0)=false:=decide_eq_false (by omega)
  simp -dsimp [hkn]
  repeat' (first|omega|simp -dsimp [E202,ri,cellp,ints,hkn]|refine aI ?_ fun _=>?_|refine oI fun _=>?_|refine nI ?_ ?_)
  simp -dsimp only [hps_app,List.cons_append,List.nil_append]
  exact(by(try simp -dsimp only [hpx]); refine hle_hpsb ?_; simp -dsimp [allK,ouW,hd]<;>exact rz)
theorem ok202:FnOK Tryz.prog 202 (.heap squH):=pfH b202 (.cons ok247 .nil) (fun args h hc=>by obtain⟨n,v,rfl,_⟩:=squ_inv hc; simp)
end Go.Sx
end
section
namespace Go.Sx
open Go.Proofs
attribute [local irreducible] HLe
def rwS (R:T2):Site:={base:=0,blks:=R.map rwB}
def ouS (n:Nat):Site:={base:=0,blks:=[ouW 0 n,ouW n n]}
theorem rwB_inj (a b:List Int) (h:rwB a=rwB b):a=b:=by
 simp only [rwB,Blk.mk.injEq,and_true,true_and]at h
 exact map_ri_inj h
theorem rwS_inj {a b:T2} (h:rwS a=rwS b):a=b:=by
 simp only [rwS,Site.mk.injEq,and_true,true_and]at h
 exact(List.map_inj_right (f:=rwB) rwB_inj).1 h
open Classical in
def decR (S:Site):T2:=if x:∃R,S=rwS R then x.choose else default
theorem decR_eq (R:T2):decR (rwS R)=R:=by
 have x:∃R',rwS R=rwS R':=⟨R,rfl⟩
 unfold decR
 rw [dif_pos x]
 exact(rwS_inj x.choose_spec).symm
structure ShP (s o n:Nat) (a b:Int) (h:Hp):Prop where
 o:s=20214∧(o=0∨o=1)
 a:(0≤a∧a<n)∧0≤b∧b<n
 u:h 20214=ouS n
 r:h 24730=rwS (decR (h 24730))
 l:(decR (h 24730)).length=2 * n
 q:∀r∈decR (h 24730),r.length=n
def shoH:HSpec where
 go args h:=match args with
  | [.bsl s o n,.int .i64 a,.int .i64 b,.int .i64 x]=>⟨ShP s o n a b h,.tup [],hps [(24730,rwS (sh (decR (h 24730)) (o * n+a.toNat) b.toNat x))] h⟩
  | _=>bad h
theorem sho_go (s o n:Nat) (a b x:Int) (h:Hp):shoH.go [.bsl s o n,.int .i64 a,.int .i64 b,.int .i64 x] h=⟨ShP s o n a b h,.tup [],hps [(24730,rwS (sh (decR (h 24730)) (o * n+a.toNat) b.toNat x))] h⟩:=rfl
theorem sho_inv {args:List V} {h:Hp} (hc:(shoH.go args h).c):∃(o n a b:Nat) (x:Int),args=[.bsl 20214 o n,.int .i64 a,.int .i64 b,.int .i64 x]∧ShP 20214 o n a b h:=by
 unfold shoH at hc
 simp only at hc
 split at hc
 ·rename_i s o n a b x
  obtain⟨rfl,_⟩:=hc.o
  obtain⟨⟨h1,_⟩,h2,_⟩:=hc.a
  obtain⟨a,rfl⟩:=Int.eq_ofNat_of_zero_le h1
  obtain⟨b,rfl⟩:=Int.eq_ofNat_of_zero_le h2
  exact⟨o,n,a,b,x,rfl,hc⟩
 ·exact hc.elim
theorem ouR_get (b n:Nat) {a:Nat} (h:a<n):(ouR b n n)[a]?=some [.osl 24730 (b+a) n 0 n n]:=by simp [ouR,h]
theorem ouR_len (b n k:Nat):(ouR b n k).length=k:=by simp [ouR]
theorem s2_map {R:T2} {i b:Nat} {r:List Int} (hr:R[i]?=some r) (x:Int):(R.map rwB).set i (rwB (r.set b x))=(s2 R i b x).map rwB:=by
 rw [s2,List.map_set]; simp [List.getD,hr]
abbrev E203:Env:={P:=Tryz.prog,fn:=tbl [],own:=[],key:=20300,nt:=34}
theorem b203:HeapBody E203 [] Tryz.f203 shoH:=by
 intro args h hc
 obtain⟨o,n,a,b,x,rfl,⟨⟨_,ho⟩,⟨ha,hb⟩,hu,hr,hl,hq⟩⟩:=sho_inv hc
 rw [sho_go]
 generalize decR (h 24730)=R at *
 have hH:h=hps [(24730,rwS R),(20214,ouS n)] h:=by
  refine(hps_self fun q hq=>?_).symm
  simp only [List.map_cons,List.map_nil,List.mem_cons,List.not_mem_nil,or_false]at hq
  rcases hq with rfl|rfl
  ·exact hr
  ·exact hu
 rw [hH]
 generalize h=h0 at *
 clear hH hu hr hc
 simp only [Int.toNat_natCast]
 have han:a<n:=by omega
 have hbn:b<n:=by omega
 have hai:(a:Int)<n:=by omega
 have hbi:(b:Int)<n:=by omega
 rcases ho with rfl|rfl
 ·have hi1:a<R.length:=by omega
  obtain⟨r,hrr⟩:∃r,R[a]?=some r:=⟨_,List.getElem?_eq_getElem hi1⟩
  have hrl:r.length=n:=hq r (List.mem_of_getElem? hrr)
  have hbr:b<r.length:=by omega
  obtain⟨y,hy⟩:∃y,r[b]?=some y:=⟨_,List.getElem?_eq_getElem hbr⟩
  have hg:g2 R (a) b=y:=by simp [g2,List.getD,hrr,hy]
  have ho:=ouR_get 0 n han
  have hol:=ouR_len 0 n n
  have hsm:=s2_map (b:=b) hrr x
  have hrw:rwB (r.set b x)={z:=1,els:=(r.map ri).set b [.int .i64 x],ty:=3}:=by rw [rwB,List.map_set]; rfl
  rw [hrw]at hsm
  try simp only [Nat.zero_add]at ho
  have ho2:=(List.getElem?_eq_some_iff.1 ho).2
  have hrr2:=(List.getElem?_eq_some_iff.1 hrr).2
  have hy2:=(List.getElem?_eq_some_iff.1 hy).2
  by_cases hc:y<0∨x<y
  ·have hS:sh R (a) b x=s2 R (a) b x:=by rw [sh,hg,if_pos hc]
   rw [show 0 * n+a=a by omega,hS]
   by_cases h1:y<0
   ·have h1':(y<0)=True:=eq_true h1
    simp -dsimp [Tryz.f203,E203,ouS,rwS]
    repeat' (first|omega|simp -dsimp [E203,ri,cellp,ints,ouS,rwS,ouW,rwB,ho,ho2,hol,hai,hbi,han,hbn,hi1,hrr,hrr2,hrl,hbr,hy,hy2,ri,h1',hle_refl,hsm]|refine aI ?_ fun _=>?_|refine oI fun _=>?_|refine nI ?_ ?_)
    try simp -dsimp only [hps_app,List.cons_append,List.nil_append]
    exact(by(try simp -dsimp only [hpx]); refine hle_hpsb ?_; simp -dsimp [allK,rwS]<;>exact rz)
   ·have h1':(y<0)=False:=eq_false h1
    have h2':(x<y)=True:=eq_true (by omega)
    simp -dsimp [Tryz.f203,E203,ouS,rwS]
    repeat' (first|omega|simp -dsimp [E203,ri,cellp,ints,ouS,rwS,ouW,rwB,ho,ho2,hol,hai,hbi,han,hbn,hi1,hrr,hrr2,hrl,hbr,hy,hy2,ri,h1',h2',hle_refl,hsm]|refine aI ?_ fun _=>?_|refine oI fun _=>?_|refine nI ?_ ?_)
    try simp -dsimp only [hps_app,List.cons_append,List.nil_append]
    exact(by(try simp -dsimp only [hpx]); refine hle_hpsb ?_; simp -dsimp [allK,rwS]<;>exact rz)
  ·have hS:sh R (a) b x=R:=by rw [sh,hg,if_neg hc]
   rw [show 0 * n+a=a by omega,hS]
   have h1':(y<0)=False:=eq_false (by omega)
   have h2':(x<y)=False:=eq_false (by omega)
   simp -dsimp [Tryz.f203,E203,ouS,rwS]
   repeat' (first|omega|simp -dsimp [E203,ri,cellp,ints,ouS,rwS,ouW,rwB,ho,ho2,hol,hai,hbi,han,hbn,hi1,hrr,hrr2,hrl,hbr,hy,hy2,ri,h1',h2',hle_refl]|refine aI ?_ fun _=>?_|refine oI fun _=>?_|refine nI ?_ ?_)
   try simp -dsimp only [hps_app,List.cons_append,List.nil_append]
   exact(by(try simp -dsimp only [hpx]); refine hle_hpsb ?_; simp -dsimp [allK,rwS]<;>exact rz)
 ·have hi1:n+a<R.length:=by omega
  obtain⟨r,hrr⟩:∃r,R[n+a]?=some r:=⟨_,List.getElem?_eq_getElem hi1⟩
  have hrl:r.length=n:=hq r (List.mem_of_getElem? hrr)
  have hbr:b<r.length:=by omega
  obtain⟨y,hy⟩:∃y,r[b]?=some y:=⟨_,List.getElem?_eq_getElem hbr⟩
  have hg:g2 R (n+a) b=y:=by simp [g2,List.getD,hrr,hy]
  have ho:=ouR_get n n han
  have hol:=ouR_len n n n
  have hsm:=s2_map (b:=b) hrr x
  have hrw:rwB (r.set b x)={z:=1,els:=(r.map ri).set b [.int .i64 x],ty:=3}:=by rw [rwB,List.map_set]; rfl
  rw [hrw]at hsm
  try simp only [Nat.zero_add]at ho
  have ho2:=(List.getElem?_eq_some_iff.1 ho).2
  have hrr2:=(List.getElem?_eq_some_iff.1 hrr).2
  have hy2:=(List.getElem?_eq_some_iff.1 hy).2
  by_cases hc:y<0∨x<y
  ·have hS:sh R (n+a) b x=s2 R (n+a) b x:=by rw [sh,hg,if_pos hc]
   rw [show 1 * n+a=n+a by omega,hS]
   by_cases h1:y<0
   ·have h1':(y<0)=True:=eq_true h1
    simp -dsimp [Tryz.f203,E203,ouS,rwS]
    repeat' (first|omega|simp -dsimp [E203,ri,cellp,ints,ouS,rwS,ouW,rwB,ho,ho2,hol,hai,hbi,han,hbn,hi1,hrr,hrr2,hrl,hbr,hy,hy2,ri,h1',hle_refl,hsm]|refine aI ?_ fun _=>?_|refine oI fun _=>?_|refine nI ?_ ?_)
    try simp -dsimp only [hps_app,List.cons_append,List.nil_append]
    exact(by(try simp -dsimp only [hpx]); refine hle_hpsb ?_; simp -dsimp [allK,rwS]<;>exact rz)
   ·have h1':(y<0)=False:=eq_false h1
    have h2':(x<y)=True:=eq_true (by omega)
    simp -dsimp [Tryz.f203,E203,ouS,rwS]
    repeat' (first|omega|simp -dsimp [E203,ri,cellp,ints,ouS,rwS,ouW,rwB,ho,ho2,hol,hai,hbi,han,hbn,hi1,hrr,hrr2,hrl,hbr,hy,hy2,ri,h1',h2',hle_refl,hsm]|refine aI ?_ fun _=>?_|refine oI fun _=>?_|refine nI ?_ ?_)
    try simp -dsimp only [hps_app,List.cons_append,List.nil_append]
    exact(by(try simp -dsimp only [hpx]); refine hle_hpsb ?_; simp -dsimp [allK,rwS]<;>exact rz)
  ·have hS:sh R (n+a) b x=R:=by rw [sh,hg,if_neg hc]
   rw [show 1 * n+a=n+a by omega,hS]
   have h1':(y<0)=False:=eq_false (by omega)
   have h2':(x<y)=False:=eq_false (by omega)
   simp -dsimp [Tryz.f203,E203,ouS,rwS]
   repeat' (first|omega|simp -dsimp [E203,ri,cellp,ints,ouS,rwS,ouW,rwB,ho,ho2,hol,hai,hbi,han,hbn,hi1,hrr,hrr2,hrl,hbr,hy,hy2,ri,h1',h2',hle_refl]|refine aI ?_ fun _=>?_|refine oI fun _=>?_|refine nI ?_ ?_)
   try simp -dsimp only [hps_app,List.cons_append,List.nil_append]
   exact(by(try simp -dsimp only [hpx]); refine hle_hpsb ?_; simp -dsimp [allK,rwS]<;>exact rz)
theorem ok203:FnOK Tryz.prog 203 (.heap shoH):=pfH b203 .nil (fun args h hc=>by obtain⟨o,n,a,b,x,rfl,_⟩:=sho_inv hc; simp)
end Go.Sx
end
end
