/- A part of a proof; no conditions. -/
import Derived.Test.YtfhdpblkdgmnfaaGreatDoorP10
set_option linter.unusedSimpArgs false
set_option linter.unusedVariables false
set_option linter.unusedSectionVars false
set_option maxRecDepth 100000
set_option maxHeartbeats 8000000
noncomputable section
section
namespace Go.Sx
open Go.Proofs
attribute [local irreducible] HLe
abbrev rgS:PSpec:={dom:=Int × Int × Int,enc:=fun d=>[.int .i64 d.1,.int .i64 d.2.1,.int .i64 d.2.2],dec:=fun l=>((l.getD 0 .top).toInt,(l.getD 1 .top).toInt,(l.getD 2 .top).toInt),pre:=fun _=>True,res:=fun d=>.bool (rgB d.1 d.2.1 d.2.2)}
abbrev E121:Env:={P:=Tryz.prog,fn:=tbl [],own:=[],key:=12100,nt:=15}
theorem b121:PureBody E121 [] Tryz.f121 rgS:=by
 refine pb ?_
 rintro⟨n,lo,hi⟩ _
 simp -dsimp [Tryz.f121,E121,rgB]
 repeat' (first|omega|simp -dsimp [E121,ri,cellp,ints,rgB]|refine aI ?_ fun _=>?_|refine oI fun _=>?_|refine nI ?_ ?_)
theorem ok121:FO 121 rgS:=pf b121 .nil
theorem spN_eq (p:Sp):spN p=!decide (-1000000≤p.lo∧p.lo≤p.hi∧p.hi≤1000000):=by
 unfold spN withinB
 congr 1
 by_cases h : -1000000≤p.lo∧p.lo≤p.hi∧p.hi≤1000000
 ·rw [decide_eq_true h,decide_eq_true (by omega),decide_eq_true (by omega)]; rfl
 ·rw [decide_eq_false h]
  by_cases h2 : -1000000≤p.lo∧p.lo≤p.hi
  ·rw [decide_eq_true h2,decide_eq_false (by omega)]; rfl
  ·rw [decide_eq_false h2]; rfl
def insB (p:Sp) (n:Int):Bool:=!spN p && (rgB p.lo 0 n && decide (p.hi≤n))
theorem insB_in {p:Sp} {n:Int} (h:n≤1000000):insB p n=inB p n:=by
 unfold insB
 rw [spN_eq,Bool.not_not,Bool.eq_iff_iff]
 simp [inB,rgB]; omega
@[simp] def inW (d:Sp × Int):List V:=[.agg d.1.row,.int .i64 d.2]
theorem inW_inj (a b:Sp × Int) (h:inW a=inW b):a=b:=by
 obtain⟨a1,a2⟩:=a; obtain⟨b1,b2⟩:=b
 simp only [inW,List.cons.injEq,V.agg.injEq,V.int.injEq,true_and,and_true]at h
 rw [Sp.row_inj _ _ h.1,h.2]
theorem inW_dec (a b n:Int):decC inW [.agg [.int .i64 a,.int .i64 b],.int .i64 n]=(⟨a,b⟩,n):=decC_eq inW_inj (⟨a,b⟩,n)
abbrev inS:PSpec:=mkP inW (fun _=>True) fun d=>.bool (insB d.1 d.2)
abbrev E238:Env:={P:=Tryz.prog,fn:=tbl [(162,.pure withinS),(99,.pure spdS)],own:=[],key:=23800,nt:=9}
theorem b238:PureBody E238 [] Tryz.f238 bxkS:=by
 refine pb ?_
 rintro l hl
 have hl:l.length≤1000000:=hl
 generalize h1:l.any spN=b
 generalize h2:withinB l.length 1 3=c
 cases b<;>cases c
 all_goals
  simp -dsimp [Tryz.f238,E238]
  repeat' (first|omega|simp -dsimp [E238,ri,cellp,ints,hl,h1,h2,slE_dec]|refine aI ?_ fun _=>?_|refine oI fun _=>?_|refine nI ?_ ?_)
theorem ok238:FO 238 bxkS:=pf b238 (.cons ok162 (.cons ok99 .nil))
theorem slE_dec1' (a b:Int):decC slE [.sl 2 [[.int .i64 a,.int .i64 b]]]=[⟨a,b⟩]:=decC_eq slE_inj [⟨a,b⟩]
abbrev E188:Env:={P:=Tryz.prog,fn:=tbl [(238,.pure bxkS),(121,.pure rgS)],own:=[],key:=18800,nt:=21}
theorem b188:PureBody E188 [] Tryz.f188 inS:=by
 refine pb ?_
 rintro⟨⟨a,b⟩,n⟩ _
 have e:insB ⟨a,b⟩ n=(!spN ⟨a,b⟩ && (rgB a 0 n && decide (b≤n))):=rfl
 generalize h1:spN ⟨a,b⟩=p at e
 cases p
 ·simp -dsimp [Tryz.f188,E188,Sp.row]
  repeat' (first|omega|simp -dsimp [E188,ri,cellp,ints,Sp.row,slE_dec1',withinB,h1,e]|refine aI ?_ fun _=>?_|refine oI fun _=>?_|refine nI ?_ ?_)
 ·simp -dsimp [Tryz.f188,E188,Sp.row]
  repeat' (first|omega|simp -dsimp [E188,ri,cellp,ints,Sp.row,slE_dec1',withinB,h1,e]|refine aI ?_ fun _=>?_|refine oI fun _=>?_|refine nI ?_ ?_)
theorem ok188:FO 188 inS:=pf b188 (.cons ok238 (.cons ok121 .nil))
@[simp] def skE (d:Sky):List V:=[.agg d.row]
theorem skE_inj (a b:Sky) (h:skE a=skE b):a=b:=Sky.row_inj _ _ (by simpa using h)
theorem skE_dec (a b c d e f:Int) (x y:Bool):decC skE [.agg [.int .i64 a,.int .i64 b,.int .i64 c,.int .i64 d,.int .i64 e,.int .i64 f,.bool x,.bool y]]=⟨⟨a,b⟩,⟨c,d⟩,⟨e,f⟩,x,y⟩:=decC_eq skE_inj ⟨⟨a,b⟩,⟨c,d⟩,⟨e,f⟩,x,y⟩
abbrev skS:PSpec:=mkP skE (fun _=>True) fun d=>.bool d.ok
theorem sky_ok (k:Sky):k.ok=(insB k.w 300 && insB k.s 20000 && insB k.c 20000):=by
 rw [insB_in (by omega),insB_in (by omega),insB_in (by omega),Sky.ok]
abbrev E124:Env:={P:=Tryz.prog,fn:=tbl [(188,.pure inS)],own:=[],key:=12400,nt:=16}
theorem b124:PureBody E124 [] Tryz.f124 skS:=by
 refine pb ?_
 rintro⟨⟨a,b⟩,⟨c,d⟩,⟨x,y⟩,u,v⟩ _
 have e:=sky_ok ⟨⟨a,b⟩,⟨c,d⟩,⟨x,y⟩,u,v⟩
 simp only at e
 generalize h1:insB ⟨a,b⟩ 300=p1 at e
 generalize h2:insB ⟨c,d⟩ 20000=p2 at e
 generalize h3:insB ⟨x,y⟩ 20000=p3 at e
 simp -dsimp [Tryz.f124,E124,Sky.row]
 repeat' (first|omega|simp -dsimp [E124,ri,cellp,ints,Sky.row,Sp.row,inW_dec,h1,h2,h3,e]|refine aI ?_ fun _=>?_|refine oI fun _=>?_|refine nI ?_ ?_)
theorem ok124:FO 124 skS:=pf b124 (.cons ok188 .nil)
abbrev onS:PSpec:={dom:=Int,enc:=fun d=>[.int .i64 d],dec:=fun l=>(l.getD 0 .top).toInt,pre:=fun _=>True,res:=fun d=>.agg [.int .i64 d,.int .i64 d]}
abbrev E189:Env:={P:=Tryz.prog,fn:=tbl [],own:=[],key:=18900,nt:=6}
theorem b189:PureBody E189 [] Tryz.f189 onS:=by
 refine pb ?_
 rintro n _
 simp -dsimp [Tryz.f189,E189]
theorem ok189:FO 189 onS:=pf b189 .nil
def onK (k:Wt):Sky:=⟨⟨k.w,k.w⟩,⟨k.s,k.s⟩,⟨k.c,k.c⟩,k.ice,k.sto⟩
theorem onK_ok (k:Wt):(onK k).ok=k.ok:=by
 rw [Bool.eq_iff_iff]
 simp [onK,Sky.ok,Wt.ok,inB,rgB]
@[simp] def wtE (d:Wt):List V:=[.agg d.row]
theorem wtE_inj (a b:Wt) (h:wtE a=wtE b):a=b:=Wt.row_inj _ _ (by simpa using h)
theorem wtE_dec (a b c:Int) (x y:Bool):decC wtE [.agg [.int .i64 a,.int .i64 b,.int .i64 c,.bool x,.bool y]]=⟨a,b,c,x,y⟩:=decC_eq wtE_inj ⟨a,b,c,x,y⟩
abbrev onlS:PSpec:=mkP wtE (fun _=>True) fun d=>.agg (onK d).row
abbrev E126:Env:={P:=Tryz.prog,fn:=tbl [(189,.pure onS)],own:=[],key:=12600,nt:=21}
theorem b126:PureBody E126 [(2,([3,7,11],[[0,1,2,3,4,5,6,7,8,9,10,11,12,13,14,15,16,17]]))] Tryz.f126 onlS:=by
 refine pb ?_
 rintro⟨a,b,c,x,y⟩ _
 simp -dsimp [Tryz.f126,E126,FreeAt,Wt.row,onK,Sky.row]
 repeat' (first|omega|simp -dsimp [E126,ri,cellp,ints,FreeAt,Wt.row,onK,Sky.row]|refine aI ?_ fun _=>?_|refine oI fun _=>?_|refine nI ?_ ?_)
theorem ok126:FO 126 onlS:=pf b126 (.cons ok189 .nil)
end Go.Sx
end
section
namespace Go.Sx
open Go.Proofs
theorem wrap_u {n:Int} (h0:0≤n) (h1:n≤18446744073709551615):IntKind.wrap .u64 n=n:=by rw [IntKind.wrap_u64]; omega
theorem mul_facts:∀n∈List.range 13,bitw .and .u64 ((n:Nat):Int) 4294967295=n∧shrV .u64 ((n:Nat):Int) 32=0∧IntKind.wrap .u64 ((n:Nat):Int)=n∧IntKind.wrap .u64 (1 * ((n:Nat):Int))=n:=by decide +kernel
abbrev mulS:PSpec:={dom:=Nat,enc:=fun n=>[.int .u64 1,.int .u64 (n:Int)],dec:=fun l=>(l.getD 1 .top).toInt.toNat,pre:=fun n=>n≤12,res:=fun n=>.tup [.int .u64 0,.int .u64 (n:Int)]}
abbrev E284:Env:={P:=Tryz.prog,fn:=tbl [],own:=[],key:=28400,nt:=51}
theorem b284:PureBody E284 [] Tryz.f284 mulS:=by
 refine pb ?_
 intro n hn
 obtain⟨a1,a2,a3,a4⟩:=mul_facts n (List.mem_range.2 (by omega))
 obtain⟨b1,b2,b3,b4⟩:=mul_facts 1 (by simp)
 obtain⟨c1,c2,c3,c4⟩:=mul_facts 0 (by simp)
 simp at b1 b2 b3 b4 c1 c2 c3 c4 a4
 simp -dsimp [Tryz.f284,E284]
 repeat' (first|omega|simp -dsimp [E284,ri,cellp,ints,a1,a2,a3,a4,b1,b2,b3,b4,c1,c2,c3,c4]|refine aI ?_ fun _=>?_|refine oI fun _=>?_|refine nI ?_ ?_)
theorem ok284:FO 284 mulS:=pf b284 .nil
abbrev E266:Env:={P:=Tryz.prog,fn:=tbl [(284,.pure mulS)],own:=[],key:=26600,nt:=30}
theorem b266:PureBody E266 [] Tryz.f266 mulS:=by
 refine pb ?_
 intro n hn
 simp -dsimp [Tryz.f266,E266]
 repeat' (first|omega|simp -dsimp [E266,ri,cellp,ints,hn]|refine aI ?_ fun _=>?_|refine oI fun _=>?_|refine nI ?_ ?_)
theorem ok266:FO 266 mulS:=pf b266 (.cons ok284 .nil)
def repTo (v:Int) (n k:Nat):List Int:=List.replicate k v++List.replicate (n - k) 0
theorem repTo_len (v:Int) {n k:Nat} (h:k≤n):(repTo v n k).length=n:=by simp [repTo]; omega
theorem rep_take (v:Int) {n k j:Nat} (h:j≤k):(repTo v n k).take j=List.replicate j v:=by
 unfold repTo
 rw [List.take_append_of_le_length (by simpa using h),List.take_replicate,Nat.min_eq_left h]
theorem rep_drop (v:Int) {n k j:Nat} (h:k≤j):(repTo v n k).drop j=List.replicate (n - j) 0:=by
 unfold repTo
 rw [List.drop_append,List.drop_eq_nil_of_le (by simpa using h),List.nil_append,List.drop_replicate,List.length_replicate]
 congr 1; omega
theorem rep_step (v:Int) {n k m:Nat} (hm:m≤k):(repTo v n k).take k++((repTo v n k).take k).take m++(repTo v n k).drop (k+m)=repTo v n (k+m):=by
 rw [rep_take v (Nat.le_refl k),rep_drop v (by omega),List.take_replicate,Nat.min_eq_left hm,List.replicate_append_replicate]
 rfl
def bR (v:Int) (n k:Nat):Blk:={z:=1,els:=(repTo v n k).map ri,ty:=3}
def repGo (args:List V) (h:Hp):Out:=match args with
 | [.sl 1 [[.int .i64 v]],.int .i64 n]=>⟨1≤n∧n≤12,.osl 24730 (hnext h 24730) n.toNat 0 n.toNat n.toNat,hpush h 24730 (bR v n.toNat n.toNat)⟩
 | _=>bad h
abbrev repS:HSpec:={go:=repGo}
abbrev E247:Env:={P:=Tryz.prog,fn:=tbl [(266,.pure mulS)],own:=[30],key:=24700,nt:=48}
theorem b247:HeapBody E247 [] Tryz.f247 repS:=by
 intro args h hc
 simp only [repGo]at hc ⊢
 split at hc
 case h_2=>exact hc.elim
 rename_i v n
 obtain⟨c1,c2⟩:=hc
 obtain⟨n,rfl⟩:=Int.eq_ofNat_of_zero_le (show 0≤n by omega)
 have n1:1≤n:=by omega
 have n2:n≤12:=by omega
 have hn0:¬ (n:Int)<0:=by omega
 have wu:IntKind.wrap .u64 (n:Int)=n:=wrap_u (by omega) (by omega)
 have wu1:IntKind.wrap .u64 1=1:=wrap_u (by omega) (by omega)
 have wi:IntKind.wrap .i64 (n:Int)=n:=wrap_id (by omega) (by omega)
 have hmx:¬ (9223372036854775807:Int)<n:=by omega
 have hm1:min 1 n=1:=by omega
 have hr0:[V.int IntKind.i64 v]::List.replicate (n - 1) [V.int IntKind.i64 0]=(repTo v n 1).map ri:=by
  simp [repTo,ri,List.map_replicate]
 have hb8:(n:Int) * 8≤140737488355328:=by omega
 have hi:(n:Int)≤9223372036854775807:=by omega
 simp only [Int.toNat_natCast]
 have hps0:=hset_push h 24730
 have hgn:=hget_push_new h 24730
 simp -dsimp [Tryz.f247,E247,hn0,wu,wu1]
 repeat' (first|omega|simp -dsimp [E247,ri,cellp,ints,hn0,wu,wu1,wi,hmx,n1,n2,hm1,hr0,hps0,hgn,hb8,hi]|refine aI ?_ fun _=>?_|refine oI fun _=>?_|refine nI ?_ ?_)
 refine awp_loop [34,35,36,37,38,39,40,41,42,43,44,45,46,8] (fun k:{k:Nat // 1≤k∧k≤n}=>[(8,(true,.int .i64 (k.1:Nat)))]) (fun k=>hpush h 24730 (bR v n k.1)) (fun k=>n - k.1) ⟨1,by omega,n1⟩ ?_ (HLe.refl _) ?_
 ·simp [okAll,okv]
 rintro⟨k,k1,k2⟩
 simp only
 have hgk:=hget_push_new h 24730 (bR v n k)
 simp only [bR]at hgk
 by_cases hk:k<n
 case neg=>
  have hkn:¬ (k:Int)<n:=by omega
  have hke:k=n:=by omega
  subst hke
  simp -dsimp [hkn,bR]
  repeat' (first|omega|simp -dsimp [E247,ri,cellp,ints,hkn,bR]|refine aI ?_ fun _=>?_|refine oI fun _=>?_|refine nI ?_ ?_)
  try exact HLe.refl _
 have hkn:(k:Int)<n:=by omega
 obtain⟨m,hm⟩:∃m,m=min k (n - k):=⟨_,rfl⟩
 have m1:m≤k:=by omega
 have m2:m≤n - k:=by omega
 have m3:1≤m:=by omega
 have m4:min m k=m:=by omega
 have m5:min m n=m:=by omega
 have hst:=rep_step v (n:=n) m1
 rw [List.take_take,m4]at hst
 have hst':List.take k (List.map ri (repTo v n k))++(List.take m (List.map ri (repTo v n k))++List.drop (k+m) (List.map ri (repTo v n k)))=List.map ri (repTo v n (k+m)):=by
  rw [←hst]; simp
 have hlr:=repTo_len v k2
 have hne:¬ repTo v n k=[]:=by intro e; rw [e]at hlr; simp at hlr; omega
 have wk:IntKind.wrap .i64 ((k:Int)+m)=(k+m:Nat):=by rw [wrap_id (by omega) (by omega)]; omega
 have hk0:¬ k=0:=by omega
 simp -dsimp [hkn,bR]
 repeat' (first|omega|simp -dsimp [E247,ri,cellp,ints,hkn,bR,hgk,hps0,←hm,m4,m5,hst',hlr,hne,wk,hk,hk0,k2]|refine aI ?_ fun _=>?_|refine oI fun _=>?_|refine nI ?_ ?_)
 refine⟨k+m,tle_chain rfl ?_,HLe.refl _,⟨by omega,by omega⟩,by omega⟩
 simp [okAll,okv]
theorem ok247:FnOK Tryz.prog 247 (.heap repS):=pfH b247 (.cons ok266 .nil) (fun args h hc=>by simp only [repGo]at hc; split at hc; (simp); (exact hc.elim))
end Go.Sx
end
section
namespace Go.Sx
open Go.Proofs
attribute [local irreducible] HLe
@[simp] theorem met_len (m:Met):m.row.length=14:=rfl
@[simp] theorem met_0 (m:Met):m.row[0]?=some (.int .i64 m.n):=rfl
@[simp] theorem met_any (m:Met):(m.row.drop 1).take 8=m.any.row:=rfl
@[simp] theorem met_9 (m:Met):m.row[9]?=some (.int .i64 m.w):=rfl
@[simp] theorem met_10 (m:Met):m.row[10]?=some (.int .i64 m.s):=rfl
@[simp] theorem met_11 (m:Met):m.row[11]?=some (.int .i64 m.c):=rfl
@[simp] theorem met_12 (m:Met):m.row[12]?=some (.sl 12 (m.fs.map Fc.row)):=rfl
@[simp] theorem met_13 (m:Met):m.row[13]?=some (.sl 7 (m.ss.map Sg.row)):=rfl
@[simp] theorem met_leaf (m:Met):m.row.all V.leaf=true:=rfl
@[simp] theorem met_cell (m:Met):m.row.all V.cell1=true:=rfl
@[simp] theorem met_free (m:Met):m.row.all V.refFree=true:=rfl
@[simp] theorem met_free1 (m:Met):m.row.all V.refFree1=true:=rfl
theorem subs0_refl:∀l:List V,subs0 l l
 | []=>trivial
 | x::l=>⟨by cases x<;>simp [sub0],subs0_refl l⟩
@[simp] theorem met_lend (h:Hp) (m:Met):lends1 h m.row=(True,m.row):=by simp [Met.row,lends1,lend1,lendN]
@[simp] theorem met_subs (m:Met):subs0 m.row m.row=True:=eq_true (subs0_refl _)
@[simp] def metI (m:Met):V:=.ip 14 [m.row] 0 0
theorem metI_inj (a b:Met) (h:metI a=metI b):a=b:=Met.row_inj _ _ (by simpa [metI]using h)
@[simp] def plcV (m:Met):V:=.ip 1 [[.fn 120 [metI m]]] 0 0
@[simp] def timV:V:=.ip 1 [[.fn 122 []]] 0 0
theorem plcV_inj (a b:Met) (h:plcV a=plcV b):a=b:=metI_inj _ _ (by simpa [plcV]using h)
@[simp] def plE (d:Int × Met):List V:=[.int .i64 d.1,metI d.2]
theorem plE_inj (a b:Int × Met) (h:plE a=plE b):a=b:=by
 obtain⟨a1,a2⟩:=a; obtain⟨b1,b2⟩:=b
 simp only [plE,List.cons.injEq,V.int.injEq,true_and,and_true]at h
 rw [h.1,metI_inj _ _ h.2]
theorem plE_dec (n:Int) (m:Met):decC plE [.int .i64 n,.ip 14 [m.row] 0 0]=(n,m):=decC_eq plE_inj (n,m)
abbrev plS:PSpec:=mkP plE (fun d=>1≤d.2.n∧d.2.n≤8) fun d=>.bool (rgB d.1 0 (d.2.n - 1))
abbrev E120:Env:={P:=Tryz.prog,fn:=tbl [(121,.pure rgS)],own:=[],key:=12000,nt:=9}
theorem b120:PureBody E120 [] Tryz.f120 plS:=by
 refine pb ?_
 rintro⟨n,m⟩ ⟨h1,h2⟩
 simp only at h1 h2
 have w:IntKind.wrap .i64 (m.n - 1)=m.n - 1:=wrap_id (by omega) (by omega)
 simp -dsimp [Tryz.f120,E120,w]
 repeat' (first|omega|simp -dsimp [E120,ri,cellp,ints,w]|refine aI ?_ fun _=>?_|refine oI fun _=>?_|refine nI ?_ ?_)
theorem ok120:FO 120 plS:=pf b120 (.cons ok121 .nil)
abbrev i1S (f:Int→Bool):PSpec:={dom:=Int,enc:=fun d=>[.int .i64 d],dec:=fun l=>(l.getD 0 .top).toInt,pre:=fun _=>True,res:=fun d=>.bool (f d)}
abbrev E122:Env:={P:=Tryz.prog,fn:=tbl [(121,.pure rgS)],own:=[],key:=12200,nt:=5}
theorem b122:PureBody E122 [] Tryz.f122 (i1S fun n=>rgB n 0 2000):=by
 refine pb ?_
 rintro n _
 simp -dsimp [Tryz.f122,E122]
 repeat' (first|omega|simp -dsimp [E122,ri,cellp,ints, *]|refine aI ?_ fun _=>?_|refine oI fun _=>?_|refine nI ?_ ?_)
theorem ok122:FnOK Tryz.prog 122 (.pure (i1S fun n=>rgB n 0 2000)):=pf b122 (.cons ok121 .nil)
def byN (n:Int):Bool:=!rgB n 0 20000
abbrev E127:Env:={P:=Tryz.prog,fn:=tbl [(121,.pure rgS)],own:=[],key:=12700,nt:=6}
theorem b127:PureBody E127 [] Tryz.f127 (i1S byN):=by
 refine pb ?_
 rintro n _
 simp -dsimp [Tryz.f127,E127,byN]
 repeat' (first|omega|simp -dsimp [E127,ri,cellp,ints,byN]|refine aI ?_ fun _=>?_|refine oI fun _=>?_|refine nI ?_ ?_)
theorem ok127:FnOK Tryz.prog 127 (.pure (i1S byN)):=pf b127 (.cons ok121 .nil)
theorem ri_injR (a b:Int) (h:ri a=ri b):a=b:=ri_inj h
@[simp] def bynsE (d:List Int):List V:=[.sl 1 (d.map ri),.fn 127 []]
theorem bynsE_inj (a b:List Int) (h:bynsE a=bynsE b):a=b:=by
 simp only [bynsE,List.cons.injEq,V.sl.injEq,true_and,and_true]at h
 exact mapRow_inj ri_injR h
theorem bynsE_dec (l:List Int):decC bynsE [.sl 1 (l.map ri),.fn 127 []]=l:=decC_eq bynsE_inj l
abbrev bynixS:PSpec:=mkP bynsE (fun d=>d.length≤100000000000000) fun d=>.int .i64 (idxZ d byN)
abbrev bynanS:PSpec:=mkP bynsE (fun d=>d.length≤100000000000000) fun d=>.bool (d.any byN)
abbrev E133:Env:={P:=Tryz.prog,fn:=tbl [(127,.pure (i1S byN))],own:=[],key:=13300,nt:=19}
theorem b133:PureBody E133 [] Tryz.f133 bynixS:=by
 refine pb ?_
 rintro l hl
 have hl:l.length≤100000000000000:=hl
 simp -dsimp [Tryz.f133,E133]
 refine awp_loop [9,10,5,11,12,13,14,15,16,17,4,18,8] (fun k:{k:Nat // k≤l.length∧∀j (h:j<l.length),j<k→byN l[j]=false}=>[(8,(true,.int .i64 k.1))]) (fun _=>noH) (fun k=>l.length - k.1) ⟨0,by omega,fun _ _ h=>by omega⟩ ?_ (HLe.refl _) ?_
 ·simp [okAll,okv]
 rintro⟨k,hk,hall⟩
 by_cases hk1:k<l.length
 ·have hki:(k:Int)<l.length:=by omega
  have wk:IntKind.wrap .i64 ((k:Int)+1)=(k+1:Nat):=wrap_id (by omega) (by omega)
  cases hw:byN l[k]
  ·simp -dsimp [hki]
   repeat' (first|omega|simp -dsimp [E133,ri,cellp,ints,hki,hk1,hl,hw,wk,ri]|refine aI ?_ fun _=>?_|refine oI fun _=>?_|refine nI ?_ ?_)
   refine⟨k+1,tle_chain rfl ?_,HLe.refl _,⟨by omega,fun j h hj=>?_⟩,by omega⟩
   ·simp [okAll,okv]
   ·by_cases hjk:j=k
    ·subst hjk; exact hw
    ·exact hall j h (by omega)
  ·have hz:=idxZ_at l byN hk1 hw hall
   simp -dsimp [hki]
   repeat' (first|omega|simp -dsimp [E133,ri,cellp,ints,hki,hk1,hl,hw,wk,hz,ri]|refine aI ?_ fun _=>?_|refine oI fun _=>?_|refine nI ?_ ?_)
 ·have hkn:¬ (k:Int)<l.length:=by omega
  have hz:=idxZ_none l byN (fun j h=>hall j h (by omega))
  simp -dsimp [hkn]
  repeat' (first|omega|simp -dsimp [E133,ri,cellp,ints,hkn,hz]|refine aI ?_ fun _=>?_|refine oI fun _=>?_|refine nI ?_ ?_)
theorem ok133:FO 133 bynixS:=pf b133 (.cons ok127 .nil)
abbrev E66:Env:={P:=Tryz.prog,fn:=tbl [(133,.pure bynixS)],own:=[],key:=6600,nt:=9}
theorem b66:PureBody E66 [] Tryz.f66 bynanS:=by
 refine pb ?_
 rintro l hl
 have hl:l.length≤100000000000000:=hl
 have hz:=idxZ_any l byN
 simp -dsimp [Tryz.f66,E66]
 repeat' (first|omega|simp -dsimp [E66,ri,cellp,ints,hl,bynsE_dec,hz]|refine aI ?_ fun _=>?_|refine oI fun _=>?_|refine nI ?_ ?_)
theorem ok66:FO 66 bynanS:=pf b66 (.cons ok133 .nil)
@[simp] def fcE (d:Met × Fc):List V:=[.agg d.2.row,plcV d.1,timV]
theorem fcE_inj (a b:Met × Fc) (h:fcE a=fcE b):a=b:=by
 obtain⟨a1,a2⟩:=a; obtain⟨b1,b2⟩:=b
 simp only [fcE,List.cons.injEq,V.agg.injEq,true_and,and_true]at h
 rw [Fc.row_inj _ _ h.1,plcV_inj _ _ h.2]
theorem fcE_dec (m:Met) (f:Fc):decC fcE [.agg f.row,.ip 1 [[.fn 120 [.ip 14 [m.row] 0 0]]] 0 0,.ip 1 [[.fn 122 []]] 0 0]=(m,f):=decC_eq fcE_inj (m,f)
theorem fcE_dec2 (m:Met) (f:Fc):decC fcE [.agg [.int .i64 f.pl,.int .i64 f.a,.int .i64 f.b,.int .i64 f.iss,.int .i64 f.k.w.lo,.int .i64 f.k.w.hi,.int .i64 f.k.s.lo,.int .i64 f.k.s.hi,.int .i64 f.k.c.lo,.int .i64 f.k.c.hi,.bool f.k.ice,.bool f.k.sto],.ip 1 [[.fn 120 [.ip 14 [m.row] 0 0]]] 0 0,.ip 1 [[.fn 122 []]] 0 0]=(m,f):=fcE_dec m f
def fcP (m:Met) (f:Fc):Bool:=Fc.bad m.n f
abbrev fcS:PSpec:=mkP fcE (fun d=>1≤d.1.n∧d.1.n≤8) fun d=>.bool (fcP d.1 d.2)
theorem fc_bad (m:Met) (f:Fc):fcP m f=(!rgB f.pl 0 (m.n - 1) || !rgB f.a 0 2000 || !rgB f.b 0 2000 || decide (f.b≤f.a) || !rgB f.iss 0 2000 || !f.k.ok):=by
 unfold fcP Fc.bad
 cases f.k.ok<;>rw [Bool.eq_iff_iff]<;>simp [rgB]<;>omega
abbrev E123:Env:={P:=Tryz.prog,fn:=tbl [(120,.pure plS),(122,.pure (i1S fun n=>rgB n 0 2000)),(124,.pure skS)],own:=[],key:=12300,nt:=44}
theorem b123:PureBody E123 [] Tryz.f123 fcS:=by
 refine pb ?_
 rintro⟨m,f⟩ ⟨h1,h2⟩
 simp only at h1 h2
 have e:=fc_bad m f
 have hm:1≤m.n∧m.n≤8:=⟨h1,h2⟩
 generalize g1:rgB f.pl 0 (m.n - 1)=p1 at e
 generalize g2:rgB f.a 0 2000=p2 at e
 generalize g3:rgB f.b 0 2000=p3 at e
 generalize g4:rgB f.iss 0 2000=p4 at e
 obtain⟨pl,a,b,iss,⟨x1,x2⟩,⟨x3,x4⟩,⟨x5,x6⟩,x7,x8⟩:=f
 simp only at g1 g2 g3 g4 e
 generalize g5:Sky.ok ⟨⟨x1,x2⟩,⟨x3,x4⟩,⟨x5,x6⟩,x7,x8⟩=p5 at e
 simp -dsimp [Tryz.f123,E123,Fc.row]
 repeat' (first|omega|simp -dsimp [E123,ri,cellp,ints,Fc.row,Sky.row,plE_dec,skE_dec,hm,g1,g2,g3,g4,g5,e]|refine aI ?_ fun _=>?_|refine oI fun _=>?_|refine nI ?_ ?_)
theorem ok123:FO 123 fcS:=pf b123 (.cons ok120 (.cons ok122 (.cons ok124 .nil)))
def fcsV (m:Met):V:=.fn 123 [.ip 1 [[.fn 120 [.ip 14 [m.row] 0 0]]] 0 0,.ip 1 [[.fn 122 []]] 0 0]
theorem fcsV_inj (a b:Met) (h:fcsV a=fcsV b):a=b:=Met.row_inj _ _ (by simpa [fcsV]using h)
@[simp] def fcssE (d:Met × List Fc):List V:=[.sl 12 (d.2.map Fc.row),fcsV d.1]
theorem fcssE_inj (a b:Met × List Fc) (h:fcssE a=fcssE b):a=b:=by
 obtain⟨a1,a2⟩:=a; obtain⟨b1,b2⟩:=b
 simp only [fcssE,List.cons.injEq,V.sl.injEq,true_and,and_true]at h
 rw [mapRow_inj Fc.row_inj h.1,fcsV_inj _ _ h.2]
theorem fcssE_dec (q:Met) (l:List Fc):decC fcssE [.sl 12 (l.map Fc.row),fcsV q]=(q,l):=decC_eq fcssE_inj (q,l)
structure fcssP (d:Met × List Fc):Prop where
 l:d.2.length≤100000000000000
 q:(fun q:Met=>1≤q.n∧q.n≤8) d.1
abbrev fcsixS:PSpec:=mkP fcssE fcssP fun d=>.int .i64 (idxZ d.2 (fcP d.1))
abbrev fcsanS:PSpec:=mkP fcssE fcssP fun d=>.bool (d.2.any (fcP d.1))
abbrev E190:Env:={P:=Tryz.prog,fn:=tbl [(123,.pure fcS)],own:=[],key:=19000,nt:=19}
theorem b190:PureBody E190 [] Tryz.f190 fcsixS:=by
 refine pb ?_
 rintro⟨q,l⟩ ⟨hl,hq⟩
 have hl:l.length≤100000000000000:=hl
 dsimp only at hq
 simp -dsimp [Tryz.f190,E190]
 refine awp_loop [9,10,5,11,12,13,14,15,16,17,4,18,8] (fun k:{k:Nat // k≤l.length∧∀j (h:j<l.length),j<k→fcP q l[j]=false}=>[(8,(true,.int .i64 k.1))]) (fun _=>noH) (fun k=>l.length - k.1) ⟨0,by omega,fun _ _ h=>by omega⟩ ?_ (HLe.refl _) ?_
 ·simp [okAll,okv]
 rintro⟨k,hk,hall⟩
 by_cases hk1:k<l.length
 ·have hki:(k:Int)<l.length:=by omega
  have wk:IntKind.wrap .i64 ((k:Int)+1)=(k+1:Nat):=wrap_id (by omega) (by omega)
  obtain⟨x,hx⟩:∃x,l[k]?=some x:=⟨_,List.getElem?_eq_getElem hk1⟩
  have hx':l[k]=x:=(List.getElem?_eq_some_iff.1 hx).2
  cases hw:fcP q x
  ·simp -dsimp [hki]
   repeat' (first|omega|simp -dsimp [E190,ri,cellp,ints,hki,hk1,hl,hx,hx',hw,wk,hq,fcsV,fcE_dec2,Fc.row]|refine aI ?_ fun _=>?_|refine oI fun _=>?_|refine nI ?_ ?_)
   refine⟨k+1,tle_chain rfl ?_,HLe.refl _,⟨by omega,fun j h hj=>?_⟩,by omega⟩
   ·simp [okAll,okv]
   ·by_cases hjk:j=k
    ·subst hjk; rw [hx']; exact hw
    ·exact hall j h (by omega)
  ·have hz:=idxZ_at l (fcP q) hk1 (by rw [hx']; exact hw) hall
   simp -dsimp [hki]
   repeat' (first|omega|simp -dsimp [E190,ri,cellp,ints,hki,hk1,hl,hx,hx',hw,wk,hz,hq,fcsV,fcE_dec2,Fc.row]|refine aI ?_ fun _=>?_|refine oI fun _=>?_|refine nI ?_ ?_)
 ·have hkn:¬ (k:Int)<l.length:=by omega
  have hz:=idxZ_none l (fcP q) (fun j h=>hall j h (by omega))
  simp -dsimp [hkn]
  repeat' (first|omega|simp -dsimp [E190,ri,cellp,ints,hkn,hz]|refine aI ?_ fun _=>?_|refine oI fun _=>?_|refine nI ?_ ?_)
theorem ok190:FO 190 fcsixS:=pf b190 (.cons ok123 .nil)
abbrev E128:Env:={P:=Tryz.prog,fn:=tbl [(190,.pure fcsixS)],own:=[],key:=12800,nt:=9}
theorem b128:PureBody E128 [] Tryz.f128 fcsanS:=by
 refine pb ?_
 rintro⟨q,l⟩ hP
 have hz:=idxZ_any l (fcP q)
 have hd:=fcssE_dec q l
 simp -dsimp only [fcsV]at hd
 simp -dsimp [Tryz.f128,E128,fcsV]
 repeat' (first|omega|simp -dsimp [E128,ri,cellp,ints,hP,hd,hz,fcsV]|refine aI ?_ fun _=>?_|refine oI fun _=>?_|refine nI ?_ ?_)
theorem ok128:FO 128 fcsanS:=pf b128 (.cons ok190 .nil)
@[simp] def sgE (d:Met × Sg):List V:=[.agg d.2.row,plcV d.1,timV]
theorem sgE_inj (a b:Met × Sg) (h:sgE a=sgE b):a=b:=by
 obtain⟨a1,a2⟩:=a; obtain⟨b1,b2⟩:=b
 simp only [sgE,List.cons.injEq,V.agg.injEq,true_and,and_true]at h
 rw [Sg.row_inj _ _ h.1,plcV_inj _ _ h.2]
theorem sgE_dec (m:Met) (f:Sg):decC sgE [.agg f.row,.ip 1 [[.fn 120 [.ip 14 [m.row] 0 0]]] 0 0,.ip 1 [[.fn 122 []]] 0 0]=(m,f):=decC_eq sgE_inj (m,f)
def sgP (m:Met) (f:Sg):Bool:=Sg.bad m.n f
abbrev sgS:PSpec:=mkP sgE (fun d=>1≤d.1.n∧d.1.n≤8) fun d=>.bool (sgP d.1 d.2)
theorem sg_bad (m:Met) (f:Sg):sgP m f=(!rgB f.pl 0 (m.n - 1) || !rgB f.at' 0 2000 || !(onK f.k).ok):=by
 rw [onK_ok]
 unfold sgP Sg.bad
 rw [Bool.not_and,Bool.not_and]
abbrev E125:Env:={P:=Tryz.prog,fn:=tbl [(120,.pure plS),(122,.pure (i1S fun n=>rgB n 0 2000)),(126,.pure onlS),(124,.pure skS)],own:=[],key:=12500,nt:=24}
theorem b125:PureBody E125 [] Tryz.f125 sgS:=by
 refine pb ?_
 rintro⟨m,f⟩ ⟨h1,h2⟩
 simp only at h1 h2
 have e:=sg_bad m f
 have hm:1≤m.n∧m.n≤8:=⟨h1,h2⟩
 generalize g1:rgB f.pl 0 (m.n - 1)=p1 at e
 generalize g2:rgB f.at' 0 2000=p2 at e
 obtain⟨pl,a,k⟩:=f
 simp only at g1 g2 e
 generalize g5:(onK k).ok=p5 at e
 obtain⟨k1,k2,k3,k4,k5⟩:=k
 simp only [onK]at g5
 simp -dsimp [Tryz.f125,E125,Sg.row]
 repeat' (first|omega|simp -dsimp [E125,ri,cellp,ints,Sg.row,Wt.row,onK,Sky.row,plE_dec,wtE_dec,skE_dec,hm,g1,g2,g5,e]|refine aI ?_ fun _=>?_|refine oI fun _=>?_|refine nI ?_ ?_)
theorem ok125:FO 125 sgS:=pf b125 (.cons ok120 (.cons ok122 (.cons ok126 (.cons ok124 .nil))))
end Go.Sx
end
section
namespace Go.Sx
open Go.Proofs
attribute [local irreducible] HLe
@[simp] theorem met_any' (m:Met):m.row.tail.take 8=m.any.row:=rfl
theorem skE_dec2 (k:Sky):decC skE [.agg [.int .i64 k.w.lo,.int .i64 k.w.hi,.int .i64 k.s.lo,.int .i64 k.s.hi,.int .i64 k.c.lo,.int .i64 k.c.hi,.bool k.ice,.bool k.sto]]=k:=decC_eq skE_inj k
@[simp] theorem met_take (m:Met):m.row.take 14=m.row:=rfl
theorem sgE_dec2 (m:Met) (f:Sg):decC sgE [.agg [.int .i64 f.pl,.int .i64 f.at',.int .i64 f.k.w,.int .i64 f.k.s,.int .i64 f.k.c,.bool f.k.ice,.bool f.k.sto],.ip 1 [[.fn 120 [.ip 14 [m.row] 0 0]]] 0 0,.ip 1 [[.fn 122 []]] 0 0]=(m,f):=sgE_dec m f
def sgsV (m:Met):V:=.fn 125 [.ip 1 [[.fn 120 [.ip 14 [m.row] 0 0]]] 0 0,.ip 1 [[.fn 122 []]] 0 0]
theorem sgsV_inj (a b:Met) (h:sgsV a=sgsV b):a=b:=Met.row_inj _ _ (by simpa [sgsV]using h)
@[simp] def sgssE (d:Met × List Sg):List V:=[.sl 7 (d.2.map Sg.row),sgsV d.1]
theorem sgssE_inj (a b:Met × List Sg) (h:sgssE a=sgssE b):a=b:=by
 obtain⟨a1,a2⟩:=a; obtain⟨b1,b2⟩:=b
 simp only [sgssE,List.cons.injEq,V.sl.injEq,true_and,and_true]at h
 rw [mapRow_inj Sg.row_inj h.1,sgsV_inj _ _ h.2]
theorem sgssE_dec (q:Met) (l:List Sg):decC sgssE [.sl 7 (l.map Sg.row),sgsV q]=(q,l):=decC_eq sgssE_inj (q,l)
structure sgssP (d:Met × List Sg):Prop where
 l:d.2.length≤100000000000000
 q:(fun q:Met=>1≤q.n∧q.n≤8) d.1
abbrev sgsixS:PSpec:=mkP sgssE sgssP fun d=>.int .i64 (idxZ d.2 (sgP d.1))
abbrev sgsanS:PSpec:=mkP sgssE sgssP fun d=>.bool (d.2.any (sgP d.1))
abbrev E191:Env:={P:=Tryz.prog,fn:=tbl [(125,.pure sgS)],own:=[],key:=19100,nt:=19}
theorem b191:PureBody E191 [] Tryz.f191 sgsixS:=by
 refine pb ?_
 rintro⟨q,l⟩ ⟨hl,hq⟩
 have hl:l.length≤100000000000000:=hl
 dsimp only at hq
 simp -dsimp [Tryz.f191,E191]
 refine awp_loop [9,10,5,11,12,13,14,15,16,17,4,18,8] (fun k:{k:Nat // k≤l.length∧∀j (h:j<l.length),j<k→sgP q l[j]=false}=>[(8,(true,.int .i64 k.1))]) (fun _=>noH) (fun k=>l.length - k.1) ⟨0,by omega,fun _ _ h=>by omega⟩ ?_ (HLe.refl _) ?_
 ·simp [okAll,okv]
 rintro⟨k,hk,hall⟩
 by_cases hk1:k<l.length
 ·have hki:(k:Int)<l.length:=by omega
  have wk:IntKind.wrap .i64 ((k:Int)+1)=(k+1:Nat):=wrap_id (by omega) (by omega)
  obtain⟨x,hx⟩:∃x,l[k]?=some x:=⟨_,List.getElem?_eq_getElem hk1⟩
  have hx':l[k]=x:=(List.getElem?_eq_some_iff.1 hx).2
  cases hw:sgP q x
  ·simp -dsimp [hki]
   repeat' (first|omega|simp -dsimp [E191,ri,cellp,ints,hki,hk1,hl,hx,hx',hw,wk,hq,sgsV,sgE_dec2,Sg.row]|refine aI ?_ fun _=>?_|refine oI fun _=>?_|refine nI ?_ ?_)
   refine⟨k+1,tle_chain rfl ?_,HLe.refl _,⟨by omega,fun j h hj=>?_⟩,by omega⟩
   ·simp [okAll,okv]
   ·by_cases hjk:j=k
    ·subst hjk; rw [hx']; exact hw
    ·exact hall j h (by omega)
  ·have hz:=idxZ_at l (sgP q) hk1 (by rw [hx']; exact hw) hall
   simp -dsimp [hki]
   repeat' (first|omega|simp -dsimp [E191,ri,cellp,ints,hki,hk1,hl,hx,hx',hw,wk,hz,hq,sgsV,sgE_dec2,Sg.row]|refine aI ?_ fun _=>?_|refine oI fun _=>?_|refine nI ?_ ?_)
 ·have hkn:¬ (k:Int)<l.length:=by omega
  have hz:=idxZ_none l (sgP q) (fun j h=>hall j h (by omega))
  simp -dsimp [hkn]
  repeat' (first|omega|simp -dsimp [E191,ri,cellp,ints,hkn,hz]|refine aI ?_ fun _=>?_|refine oI fun _=>?_|refine nI ?_ ?_)
theorem ok191:FO 191 sgsixS:=pf b191 (.cons ok125 .nil)
abbrev E129:Env:={P:=Tryz.prog,fn:=tbl [(191,.pure sgsixS)],own:=[],key:=12900,nt:=9}
theorem b129:PureBody E129 [] Tryz.f129 sgsanS:=by
 refine pb ?_
 rintro⟨q,l⟩ hP
 have hz:=idxZ_any l (sgP q)
 have hd:=sgssE_dec q l
 simp -dsimp only [sgsV]at hd
 simp -dsimp [Tryz.f129,E129,sgsV]
 repeat' (first|omega|simp -dsimp [E129,ri,cellp,ints,hP,hd,hz,sgsV]|refine aI ?_ fun _=>?_|refine oI fun _=>?_|refine nI ?_ ?_)
theorem ok129:FO 129 sgsanS:=pf b129 (.cons ok191 .nil)
structure MetP (m:Met):Prop where
 f:m.fs.length≤100000000000000
 s:m.ss.length≤100000000000000
@[simp] def meE (d:Met):List V:=[.agg d.row]
theorem meE_inj (a b:Met) (h:meE a=meE b):a=b:=Met.row_inj _ _ (by simpa using h)
theorem meE_dec (m:Met):decC meE [.agg m.row]=m:=decC_eq meE_inj m
abbrev meS:PSpec:=mkP meE MetP fun d=>.int .i64 (metE d)
theorem met_ok (m:Met):m.ok=(rgB m.n 1 8 && (m.any.ok && (!([m.w,m.s,m.c].any byN) && (decide (m.fs.length≤40) && (!(m.fs.any (fcP m)) && (decide (m.ss.length≤20) && !(m.ss.any (sgP m)))))))):=by
 have e:([m.w,m.s,m.c].any byN)=!(rgB m.w 0 20000 && rgB m.s 0 20000 && rgB m.c 0 20000):=by
  simp [byN,Bool.not_and,Bool.or_assoc]
 rw [e,Bool.not_not,Met.ok]
 simp only [Bool.and_assoc]
 rfl
abbrev E61:Env:={P:=Tryz.prog,fn:=tbl [(121,.pure rgS),(124,.pure skS),(66,.pure bynanS),(128,.pure fcsanS),(129,.pure sgsanS)],own:=[],key:=6100,nt:=47,frz:=[(1,[1,50001])]}
theorem b61:PureBody E61 [] Tryz.f61 meS:=by
 refine pb ?_
 rintro m ⟨hf,hs⟩
 have e:=met_ok m
 have hb:=bynsE_dec [m.w,m.s,m.c]
 simp only [List.map,ri]at hb
 have hfd:=fcssE_dec m m.fs
 simp -dsimp only [fcsV]at hfd
 have hsd:=sgssE_dec m m.ss
 simp -dsimp only [sgsV]at hsd
 have hE:metE m=if m.ok=true then 0 else 40:=rfl
 rw [e]at hE
 cases h0:rgB m.n 1 8
 ·simp -dsimp only [h0,Bool.false_and]at hE
  simp -dsimp [Tryz.f61,E61]
  repeat' (first|omega|simp -dsimp [E61,ri,cellp,ints,h0,hE]|refine aI ?_ fun _=>?_|refine oI fun _=>?_|refine nI ?_ ?_)
 have hn:1≤m.n∧m.n≤8:=by simpa [rgB]using h0
 have hP:fcssP (m,m.fs):=⟨hf,hn⟩
 have hP2:sgssP (m,m.ss):=⟨hs,hn⟩
 cases h1:m.any.ok
 ·simp -dsimp only [h0,h1,Bool.false_and,Bool.true_and]at hE
  simp -dsimp [Tryz.f61,E61]
  repeat' (first|omega|simp -dsimp [E61,ri,cellp,ints,h0,h1,skE_dec2,fcsV,sgsV,Sky.row,hE]|refine aI ?_ fun _=>?_|refine oI fun _=>?_|refine nI ?_ ?_)
 generalize h2:[m.w,m.s,m.c].any byN=b2 at hE
 generalize h4:m.fs.any (fcP m)=b4 at hE
 generalize h6:m.ss.any (sgP m)=b6 at hE
 cases b2
 case true=>
  simp -dsimp only [h0,h1,Bool.not_true,Bool.false_and,Bool.true_and]at hE
  simp -dsimp [Tryz.f61,E61]
  repeat' (first|omega|simp -dsimp [E61,ri,cellp,ints,h0,h1,h2,hb,skE_dec2,fcsV,sgsV,Sky.row,hE]|refine aI ?_ fun _=>?_|refine oI fun _=>?_|refine nI ?_ ?_)
 by_cases h3:m.fs.length≤40
 case neg=>
  have h3i:((40:Int)<m.fs.length)=True:=eq_true (by omega)
  simp -dsimp only [h0,h1,h3,decide_false,Bool.not_false,Bool.false_and,Bool.true_and]at hE
  simp -dsimp [Tryz.f61,E61]
  repeat' (first|omega|simp -dsimp [E61,ri,cellp,ints,h0,h1,h2,hb,h3i,skE_dec2,fcsV,sgsV,Sky.row,hE]|refine aI ?_ fun _=>?_|refine oI fun _=>?_|refine nI ?_ ?_)
 have h3i:((40:Int)<m.fs.length)=False:=eq_false (by omega)
 cases b4
 case true=>
  simp -dsimp only [h0,h1,h3,decide_true,Bool.not_true,Bool.not_false,Bool.false_and,Bool.true_and]at hE
  simp -dsimp [Tryz.f61,E61]
  repeat' (first|omega|simp -dsimp [E61,ri,cellp,ints,h0,h1,h2,hb,h3i,h4,hfd,hP,skE_dec2,fcsV,sgsV,Sky.row,hE]|refine aI ?_ fun _=>?_|refine oI fun _=>?_|refine nI ?_ ?_)
 by_cases h5:m.ss.length≤20
 case neg=>
  have h5i:((20:Int)<m.ss.length)=True:=eq_true (by omega)
  simp -dsimp only [h0,h1,h3,h5,decide_true,decide_false,Bool.not_false,Bool.false_and,Bool.true_and]at hE
  simp -dsimp [Tryz.f61,E61]
  repeat' (first|omega|simp -dsimp [E61,ri,cellp,ints,h0,h1,h2,hb,h3i,h4,hfd,hP,h5i,skE_dec2,fcsV,sgsV,Sky.row,hE]|refine aI ?_ fun _=>?_|refine oI fun _=>?_|refine nI ?_ ?_)
 have h5i:((20:Int)<m.ss.length)=False:=eq_false (by omega)
 simp -dsimp only [h0,h1,h3,h5,decide_true,Bool.not_false,Bool.true_and]at hE
 cases b6
 ·simp -dsimp only [Bool.not_false,if_true]at hE
  simp -dsimp [Tryz.f61,E61]
  repeat' (first|omega|simp -dsimp [E61,ri,cellp,ints,h0,h1,h2,hb,h3i,h4,hfd,hP,h5i,h6,hsd,hP2,skE_dec2,fcsV,sgsV,Sky.row,hE]|refine aI ?_ fun _=>?_|refine oI fun _=>?_|refine nI ?_ ?_)
 ·simp -dsimp only [Bool.not_true,Bool.false_eq_true,if_false]at hE
  simp -dsimp [Tryz.f61,E61]
  repeat' (first|omega|simp -dsimp [E61,ri,cellp,ints,h0,h1,h2,hb,h3i,h4,hfd,hP,h5i,h6,hsd,hP2,skE_dec2,fcsV,sgsV,Sky.row,hE]|refine aI ?_ fun _=>?_|refine oI fun _=>?_|refine nI ?_ ?_)
theorem ok61:FO 61 meS:=pf b61 (.cons ok121 (.cons ok124 (.cons ok66 (.cons ok128 (.cons ok129 .nil)))))
end Go.Sx
end
end
