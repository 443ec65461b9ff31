/- A part of a proof; no conditions. -/
import Derived.Test.YtfhdpblkdgmnfaaGreatDoorP25
import Derived.Test.YtfhdpblkdgmnfaaGreatDoorP20
import Derived.Shelf.SlSortCmp.WholeK
import Derived.Test.YtfhdpblkdgmnfaaGreatDoorP08
set_option linter.unusedSimpArgs false
set_option linter.unusedVariables false
set_option linter.unusedSectionVars false
set_option maxRecDepth 100000
set_option maxHeartbeats 8000000
noncomputable section
section
namespace Go.Proofs
open Go.Shelf
def Tryz.sortDu_ren:Go.Shelf.Ren:=⟨fun|6=>85|15=>139|14=>138|28=>212|29=>213|20=>204|21=>205|22=>206|23=>207|24=>208|25=>209|26=>210|27=>211|46=>248|47=>249|48=>250|49=>251|50=>252|57=>267|n=>n,fun|22=>42|24=>65|25=>155|3=>3|39=>229|0=>0|53=>292|55=>294|4=>4|46=>285|45=>284|50=>289|5=>5|9=>9|66=>328|70=>332|76=>349|77=>178|n=>n,fun|n=>n⟩
theorem Tryz.sortDu:Go.Proofs.SlLaysF0.n6 Tryz.prog Tryz.sortDu_ren:={
 mixed:=by kernel_rfl
 f6:=⟨Tryz.f85.name,by decide,Tryz.func85.trans (congrArg some (by kernel_rfl))⟩
 f14:=⟨Tryz.f138.name,by decide,Tryz.func138.trans (congrArg some (by kernel_rfl))⟩
 f15:=Tryz.func139.trans (congrArg some (by kernel_rfl))
 f20:=⟨Tryz.f204.name,by decide,Tryz.func204.trans (congrArg some (by kernel_rfl))⟩
 f21:=⟨Tryz.f205.name,by decide,Tryz.func205.trans (congrArg some (by kernel_rfl))⟩
 f22:=⟨Tryz.f206.name,by decide,Tryz.func206.trans (congrArg some (by kernel_rfl))⟩
 f23:=⟨Tryz.f207.name,by decide,Tryz.func207.trans (congrArg some (by kernel_rfl))⟩
 f24:=⟨Tryz.f208.name,by decide,Tryz.func208.trans (congrArg some (by kernel_rfl))⟩
 f25:=⟨Tryz.f209.name,by decide,Tryz.func209.trans (congrArg some (by kernel_rfl))⟩
 f26:=⟨Tryz.f210.name,by decide,Tryz.func210.trans (congrArg some (by kernel_rfl))⟩
 f27:=⟨Tryz.f211.name,by decide,Tryz.func211.trans (congrArg some (by kernel_rfl))⟩
 f28:=Tryz.func212.trans (congrArg some (by kernel_rfl))
 f29:=Tryz.func213.trans (congrArg some (by kernel_rfl))
 f46:=⟨Tryz.f248.name,by decide,Tryz.func248.trans (congrArg some (by kernel_rfl))⟩
 f47:=Tryz.func249.trans (congrArg some (by kernel_rfl))
 f48:=Tryz.func250.trans (congrArg some (by kernel_rfl))
 f49:=⟨Tryz.f251.name,by decide,Tryz.func251.trans (congrArg some (by kernel_rfl))⟩
 f50:=⟨Tryz.f252.name,by decide,Tryz.func252.trans (congrArg some (by kernel_rfl))⟩
 f57:=⟨Tryz.f267.name,by decide,Tryz.func267.trans (congrArg some (by kernel_rfl))⟩
 t0:=Tryz.underlying0
 a0:=Tryz.isAgg0
 z0:=Tryz.sizeOf0
 v0:=Tryz.zeroValue0
 t3:=Tryz.underlying3
 a3:=Tryz.isAgg3
 z3:=Tryz.sizeOf3
 v3:=Tryz.zeroValue3
 t4:=Tryz.underlying4
 a4:=Tryz.isAgg4
 z4:=Tryz.sizeOf4
 v4:=Tryz.zeroValue4
 t5:=Tryz.underlying5
 a5:=Tryz.isAgg5
 z5:=Tryz.sizeOf5
 v5:=Tryz.zeroValue5
 t9:=Tryz.underlying9
 a9:=Tryz.isAgg9
 z9:=Tryz.sizeOf9
 v9:=Tryz.zeroValue9
 t22:=Tryz.underlying42
 a22:=Tryz.isAgg42
 z22:=Tryz.sizeOf42
 v22:=Tryz.zeroValue42
 t25:=Tryz.underlying155
 a25:=Tryz.isAgg155
 z25:=Tryz.sizeOf155
 v25:=Tryz.zeroValue155
 t39:=Tryz.underlying229
 a39:=Tryz.isAgg229
 z39:=Tryz.sizeOf229
 v39:=Tryz.zeroValue229
 t45:=Tryz.underlying284
 a45:=Tryz.isAgg284
 z45:=Tryz.sizeOf284
 v45:=Tryz.zeroValue284
 t46:=Tryz.underlying285
 a46:=Tryz.isAgg285
 z46:=Tryz.sizeOf285
 v46:=Tryz.zeroValue285
 t50:=Tryz.underlying289
 a50:=Tryz.isAgg289
 z50:=Tryz.sizeOf289
 v50:=Tryz.zeroValue289
 t53:=Tryz.underlying292
 a53:=Tryz.isAgg292
 z53:=Tryz.sizeOf292
 v53:=Tryz.zeroValue292
 t55:=Tryz.underlying294
 a55:=Tryz.isAgg294
 z55:=Tryz.sizeOf294
 v55:=Tryz.zeroValue294
 t66:=Tryz.underlying328
 a66:=Tryz.isAgg328
 z66:=Tryz.sizeOf328
 v66:=Tryz.zeroValue328
 t70:=Tryz.underlying332
 a70:=Tryz.isAgg332
 z70:=Tryz.sizeOf332
 v70:=Tryz.zeroValue332
 t76:=Tryz.underlying349
 a76:=Tryz.isAgg349
 z76:=Tryz.sizeOf349
 v76:=Tryz.zeroValue349
 t77:=Tryz.underlying178
 a77:=Tryz.isAgg178
 z77:=Tryz.sizeOf178
 v77:=Tryz.zeroValue178}
end Go.Proofs
namespace Go.Sx
open Go.Proofs Go.Shelf Go.RowKit Go.Lib Go.Sort
abbrev Dus:Type:={d:Du // 0≤d.a∧d.a≤9223372036854775807}
instance:Inhabited Dus:=⟨⟨⟨0,0,1⟩,by decide⟩⟩
def duL (x:Dus):List Int:=[x.1.p,x.1.a,x.1.b]
theorem duL_inj (x y:Dus) (h:duL x=duL y):x=y:=by
 obtain⟨⟨a,b,c⟩,hx⟩:=x; obtain⟨⟨a',b',c'⟩,hy⟩:=y
 simp only [duL,List.cons.injEq,and_true]at h
 obtain⟨rfl,rfl,rfl⟩:=h
 rfl
set_option maxHeartbeats 1000000 in
theorem duCmp_walk (a b c d e f:Int) (W:World):Calls Tryz.prog 86 #[.agg #[.int .i64 a,.int .i64 b,.int .i64 c],.agg #[.int .i64 d,.int .i64 e,.int .i64 f]] W fun ex w'=>ex=.returned (.int .i64 (IntKind.wrap .i64 (b - e)))∧∃q os',w'=grow (W.drewN q) os':=by
 go_enter Tryz.func86,Tryz.ntmps86
 go_wp2
 go_ret
 have hw:∀n,wrap64 n=IntKind.wrap .i64 n:=fun n=>by
  unfold wrap64 IntKind.wrap
  simp [IntKind.bits,IntKind.signed]
  split<;>omega
 rw [←hw]
 exact⟨by simp,0,_,by rw [alloc_eq_grow,alloc_eq_grow,grow_grow]; rfl⟩
def duC (x y:Dus):Int:=x.1.a - y.1.a
theorem duC_lt (x y:Dus):ltOf duC x y=decide (x.1.a<y.1.a):=by
 unfold ltOf duC
 by_cases h:x.1.a<y.1.a
 ·simp [h]; omega
 ·simp [h]; omega
theorem duC_SWO:SWO (ltOf duC) where
 irrefl x:=by rw [duC_lt]; simp
 trans x y z h1 h2:=by rw [duC_lt]at *; simp at *; omega
 ntrans x y z h1 h2:=by rw [duC_lt]at *; simp at *; omega
theorem duCmpLays (blk off size:Nat) (w:World):CmpLays Tryz.prog 86 #[] (intE duL) 3 duC blk off size w:=fun _ _ _ _ x y=>by
 have:=duCmp_walk x.1.p x.1.a x.1.b y.1.p y.1.a y.1.b (sortWorldK (intE duL) 3 w blk off ‹Nat› ‹Array Dus› ‹Array Obj›)
 rw [show IntKind.wrap .i64 (x.1.a - y.1.a)=x.1.a - y.1.a by have:=x.2; have:=y.2; exact wrap_id (by omega) (by omega)]at this
 exact this
def duSrt (d:Array Dus):Array Dus:=pdq (ltOf duC) d 0 d.size (Lib.bitLen d.size) true true
theorem duSrt_spec (d:Array Dus):PermIn 0 d.size d (duSrt d)∧SortedIn (ltOf duC) 0 d.size (duSrt d):=
 pdq_sorts (ltOf duC) duC_SWO d 0 d.size (Lib.bitLen d.size) true true (Nat.zero_le _) (Nat.le_refl _) (Or.inl rfl)
abbrev duSortS:HSpec:=sortS duL 3 65 duSrt [.fn 86 []]
theorem ok85:FnOK Tryz.prog 85 (.heap duSortS):=sort_ok duL (exv:=[.func (.func 86) #[] #[]]) (fun args w=>run_call (fn:=Tryz.f85) (by kernel_rfl) (by kernel_rfl) rfl args w) (fun _=>rfl) (by decide) duL_inj (fun d=>(duSrt_spec d).1.1)
 (fun w A X u hl hu=>by
  match u,hl with
  | [v],_=>
   obtain⟨us,e,hs,_⟩:=(hu 0 (.fn 86 []) rfl).fn_inv
   have:us = #[]:=Array.eq_empty_of_size_eq_zero (by simpa using hs)
   subst this
   simp at e
   rw [e])
 (fun blk off cap d w hH hblk h1 h62=>AnyQ.slices_SortFunc_eq Tryz.sortDu 3 Tryz.isAgg65 Tryz.sizeOf65 (intE duL) (fun _=>rfl) (fun x v hv=>by simp [intE,duL]at hv; rcases hv with rfl|rfl|rfl<;>rfl) duC duC_SWO 86 #[] blk off cap d w (enters_of Tryz.func86 (by kernel_rfl) rfl) (duCmpLays blk off d.size w) hH hblk h62)
def toDus (l:List Du):List Dus:=l.filterMap fun d=>if h:0≤d.a∧d.a≤9223372036854775807 then some ⟨d,h⟩else none
theorem toDus_val:∀{l:List Du},(∀d∈l,0≤d.a∧d.a≤9223372036854775807)→(toDus l).map (·.1)=l
 | [],_=>rfl
 | d::l,h=>by
  have hd:=h d (by simp)
  have ih:=toDus_val (l:=l) fun x hx=>h x (by simp [hx])
  unfold toDus at ih ⊢
  rw [List.filterMap_cons,dif_pos hd]
  simp only [List.map_cons,ih]
def srtD (l:List Du):List Du:=(duSrt (toDus l).toArray).toList.map (·.1)
theorem duSrt_perm (d:List Dus):(duSrt d.toArray).toList.Perm d:=by
 have h:=(duSrt_spec d.toArray).1
 have e1:((duSrt d.toArray).extract 0 d.toArray.size).toList=(duSrt d.toArray).toList:=by
  rw [←h.1,Array.extract_size]
 have e2:(d.toArray.extract 0 d.toArray.size).toList=d:=by rw [Array.extract_size]
 have:=h.2.2
 rw [e1,e2]at this
 exact this
theorem srtD_ok:SrtOk srtD where
 perm l h:=by
  have:=(duSrt_perm (toDus l)).map (·.1)
  rw [toDus_val h]at this
  exact this
 sort l h:=by
  have hs:=(duSrt_spec (toDus l).toArray).2
  have hl:(duSrt (toDus l).toArray).size=(toDus l).toArray.size:=(duSrt_spec (toDus l).toArray).1.1
  unfold srtD
  rw [List.pairwise_map,List.pairwise_iff_getElem]
  intro i j hi hj hij
  have hi':i<(duSrt (toDus l).toArray).size:=by simpa using hi
  have hj':j<(duSrt (toDus l).toArray).size:=by simpa using hj
  have:=hs i j (Nat.zero_le _) hij (by omega)
  rw [duC_lt,getElem!_pos _ i hi',getElem!_pos _ j hj']at this
  simp only [decide_eq_false_iff_not,Int.not_lt]at this
  simpa using this
theorem srtD_len {l:List Du} (h:∀d∈l,0≤d.a∧d.a≤9223372036854775807):(srtD l).length=l.length:=(srtD_ok.perm l h).length_eq
theorem duSort_go {h:Hp} {s i n:Nat} {l:List Du} {cl:Bool} (hl:∀d∈l,0≤d.a∧d.a≤9223372036854775807) (hB:hget h s i=some {z:=3,els:=l.map Du.row,ty:=65,cl:=cl}) (hn:n=l.length) (h1:1≤n) (h2:n<4611686018427387904) :
  duSortS.go [.bsl s i n,.fn 86 []] h=⟨True,.tup [],hset h s i {z:=3,els:=(srtD l).map Du.row,ty:=65,cl:=cl}⟩:=by
 have hd:l.map Du.row=(toDus l).map (intR duL):=by
  conv=>lhs; rw [←toDus_val hl]
  rw [List.map_map]; rfl
 have hun:(l.map Du.row).map (unR duL)=toDus l:=by
  rw [hd,List.map_map]
  have:(unR duL ∘ intR duL)=id:=funext fun x=>unR_R duL_inj x
  rw [this,List.map_id]
 have he:(duSrt (toDus l).toArray).toList.map (intR duL)=(srtD l).map Du.row:=by
  rw [srtD,List.map_map]; rfl
 simp only [duSortS,sortS,hB,hun,he]
 congr 1
 exact eq_true ⟨trivial,trivial,trivial,trivial,by rw [List.length_map]; exact hn,h1,h2,toDus l,hd⟩
end Go.Sx
end
section
namespace Go.Sx
open Go.Proofs
attribute [local irreducible] HLe
def swS (to:Int) (l:List Du) (x:Int):Nat→Int × Int
 | 0=>(x,0)
 | k+1=>if max (duAt l k).a (swS to l x k).1<min (duAt l k).b to then (min (duAt l k).b to,wr ((swS to l x k).2+wr (min (duAt l k).b to - max (duAt l k).a (swS to l x k).1)))else swS to l x k
theorem swS_eq (to:Int) (l:List Du) (x:Int):∀k,k≤l.length→swpW to (l.drop k) (swS to l x k).1 (swS to l x k).2=swpW to l x 0
 | 0,_=>rfl
 | k+1,hk=>by
  have ih:=swS_eq to l x k (by omega)
  rw [List.drop_eq_getElem_cons (show k<l.length by omega),swpW]at ih
  have e:l[k]'(by omega)=duAt l k:=by simp [duAt,List.getD,show k<l.length by omega]
  rw [e]at ih
  rw [←ih,swS]
  split<;>rfl
theorem swS_end (to:Int) (l:List Du) (x:Int):(swS to l x l.length).2=swpW to l x 0:=by
 have:=swS_eq to l x l.length (Nat.le_refl _)
 rw [List.drop_length]at this
 exact this
@[simp] def wkE (d:List Du × Int × Int):List V:=[.sl 3 (d.1.map Du.row),.int .i64 d.2.1,.int .i64 d.2.2]
theorem wkE_inj (a b:List Du × Int × Int) (h:wkE a=wkE b):a=b:=by
 obtain⟨a1,a2,a3⟩:=a; obtain⟨b1,b2,b3⟩:=b
 simp only [wkE,List.cons.injEq,V.sl.injEq,V.int.injEq,true_and,and_true]at h
 rw [mapRow_inj Du.row_inj h.1,h.2.1,h.2.2]
theorem wkE_dec (l:List Du) (x y:Int):decC wkE [.sl 3 (l.map Du.row),.int .i64 x,.int .i64 y]=(l,x,y):=decC_eq wkE_inj (l,x,y)
structure Beg (l:List Du):Prop where
 n:l.length≤1000000
 b:∀d∈l,0≤d.a∧d.a≤9223372036854775807
abbrev wkS:PSpec:=mkP wkE (fun d=>d.1≠[]∧Beg d.1) fun d=>.int .i64 (wkW srtD d.1 d.2.1 d.2.2)
abbrev E35:Env:={P:=Tryz.prog,fn:=tbl [(77,.heap cloS),(85,.heap duSortS)],own:=[],key:=3500,nt:=42}
theorem b35:PureBody E35 [] Tryz.f35 wkS:=by
 refine pb ?_
 rintro⟨l,x,y⟩ ⟨hne,hl,hb⟩
 simp only at hne hl hb
 have hn0:0<l.length:=List.length_pos_iff.2 hne
 have hgo:duSortS.go [.bsl 7705 0 l.length,.fn 86 []] (hps [(7705,{base:=0,blks:=[{z:=3,els:=l.map Du.row,ty:=65}]})] noH)=⟨True,.tup [],hps [(7705,{base:=0,blks:=[{z:=3,els:=(srtD l).map Du.row,ty:=65}]})] noH⟩:=by
  rw [duSort_go (l:=l) (cl:=true) hb rfl rfl (by omega) (by omega)]
  simp
 have hsl:=srtD_len hb
 have hw:wkW srtD l x y=(swS y (srtD l) x (srtD l).length).2:=(swS_end _ _ _).symm
 simp -dsimp [Tryz.f35,E35,cloS_go]
 repeat' (first|omega|simp -dsimp [E35,ri,cellp,ints,cloS_go,hl,hgo,hne]|refine aI ?_ fun _=>?_|refine oI fun _=>?_|refine nI ?_ ?_)
 generalize srtD l=L at *
 refine awp_loop [20,21,22,9,23,24,25,26,27,28,29,30,10,11,31,32,33,34,35,36,37,38,6,39,7,40,19] (fun k:{k:Nat // k≤L.length}=>[(19,(true,.int .i64 k.1)),(7,(true,.int .i64 (swS y L x k.1).1)),(6,(true,.int .i64 (swS y L x k.1).2))]) (fun k=>hps [(3509,{base:=k.1,blks:=[]}),(7705,{base:=0,blks:=[{z:=3,els:=L.map Du.row,ty:=65}]})] noH) (fun k=>L.length - k.1) ⟨0,by omega⟩ ?_ ?_ ?_
 ·simp [okAll,okv,swS]
 ·exact(by(try simp -dsimp only [hpx]); refine hle_hps ?_; simp -dsimp [allK]<;>exact rz)
 rintro⟨k,hk⟩
 dsimp only
 by_cases hk1:k<L.length
 ·have hki:(k:Int)<l.length:=by omega
  have wk:IntKind.wrap .i64 ((k:Int)+1)=(k+1:Nat):=wrap_id (by omega) (by omega)
  obtain⟨d,hd⟩:∃d,L[k]?=some d:=⟨_,List.getElem?_eq_getElem hk1⟩
  have hd':L[k]=d:=get_of hd hk1
  have hda:duAt L k=d:=by simp [duAt,List.getD,hd]
  have hS:swS y L x (k+1)=if max d.a (swS y L x k).1<min d.b y then (min d.b y,wr ((swS y L x k).2+wr (min d.b y - max d.a (swS y L x k).1)))else swS y L x k:=by rw [swS,hda]
  generalize swS y L x k=S at *
  obtain⟨s1,s2⟩:=S
  dsimp only at hS ⊢
  have hM:(if d.a<s1 then s1 else d.a)=max d.a s1:=by omega
  have hN:(if y<d.b then y else d.b)=min d.b y:=by omega
  generalize max d.a s1=M at *
  generalize min d.b y=N at *
  by_cases hMN:M<N
  ·rw [if_pos hMN]at hS
   simp -dsimp [hki]
   repeat' (first|omega|simp -dsimp [E35,ri,cellp,ints,hki,hk1,hd,hd',hsl,wk,Du.row,hM,hN,hMN]|refine aI ?_ fun _=>?_|refine oI fun _=>?_|refine nI ?_ ?_)
   refine⟨k+1,tle_chain rfl ?_,?_,by omega,by omega⟩
   ·simp [okAll,okv,hS,wk]
   ·exact(by(try simp -dsimp only [hpx]); refine hle_hps ?_; simp -dsimp [allK]<;>exact rz)
  ·rw [if_neg hMN]at hS
   simp -dsimp [hki]
   repeat' (first|omega|simp -dsimp [E35,ri,cellp,ints,hki,hk1,hd,hd',hsl,wk,Du.row,hM,hN,hMN]|refine aI ?_ fun _=>?_|refine oI fun _=>?_|refine nI ?_ ?_)
   refine⟨k+1,tle_chain rfl ?_,?_,by omega,by omega⟩
   ·simp [okAll,okv,hS,wk]
   ·exact(by(try simp -dsimp only [hpx]); refine hle_hps ?_; simp -dsimp [allK]<;>exact rz)
 ·have hkn:¬ (k:Int)<l.length:=by omega
  have hke:k=L.length:=by omega
  subst hke
  simp -dsimp [hkn]
  repeat' (first|omega|simp -dsimp [E35,ri,cellp,ints,hkn,hw]|refine aI ?_ fun _=>?_|refine oI fun _=>?_|refine nI ?_ ?_)
theorem ok35:FO 35 wkS:=pf b35 (.cons ok77 (.cons ok85 .nil))
@[simp] def toE (d:Ro × List Du × List Du):List V:=[.agg (bkRow d.1 d.2.1),.sl 3 (d.2.2.map Du.row)]
theorem toE_inj (a b:Ro × List Du × List Du) (h:toE a=toE b):a=b:=by
 obtain⟨a1,a2,a3⟩:=a; obtain⟨b1,b2,b3⟩:=b
 simp only [toE,List.cons.injEq,V.agg.injEq,V.sl.injEq,true_and,and_true]at h
 obtain⟨h1,h2⟩:=h
 obtain⟨rfl,rfl⟩:=bkRow_inj h1
 rw [mapRow_inj Du.row_inj h2]
theorem toE_dec (r:Ro) (o l:List Du):decC toE [.agg [.sl 3 (r.ppl.map Pn.row),.int .i64 r.lng,.int .i64 r.rst,.int .i64 r.win,.int .i64 r.tot,.int .i64 r.rcn,.sl 3 (o.map Du.row)],.sl 3 (l.map Du.row)]=(r,o,l):=decC_eq toE_inj (r,o,l)
abbrev totS:PSpec:=mkP toE (fun d=>Beg d.2.2) fun d=>.bool (totW srtD d.2.2 d.1.win d.1.tot)
def totT (r:Ro) (l:List Du) (d:Du):Bool:=decide (wkW srtD l d.a (wr (d.a+r.win))≤r.tot) && decide (wkW srtD l (wr (d.b - r.win)) d.b≤r.tot)
abbrev E83:Env:={P:=Tryz.prog,fn:=tbl [(35,.pure wkS)],own:=[],key:=8300,nt:=44}
theorem b83:PureBody E83 [] Tryz.f83 totS:=by
 refine pb ?_
 rintro⟨r,o,l⟩ hB
 have hB:Beg l:=hB
 have hl:=hB.n
 have hT:totW srtD l r.win r.tot=l.all (totT r l):=rfl
 simp -dsimp [Tryz.f83,E83,bkRow]
 refine awp_loop [10,11,12,6,13,14,15,16,17,18,19,20,21,22,23,24,25,26,27,28,29,30,31,32,33,34,35,36,37,38,39,40,41,42,4,43,9] (fun k:{k:Nat // k≤l.length∧∀j (h:j<l.length),j<k→totT r l l[j]=true}=>[(9,(true,.int .i64 k.1))]) (fun k=>hps [(8306,{base:=k.1,blks:=[]}),(8302,{base:=0,blks:=[{z:=7,els:=[bkRow r o],ty:=100}]})] noH) (fun k=>l.length - k.1) ⟨0,by omega,fun _ _ h=>by omega⟩ ?_ ?_ ?_
 ·simp [okAll,okv]
 ·exact(by(try simp -dsimp only [hpx]); refine hle_hps ?_; simp -dsimp [allK,bkRow]<;>exact rz)
 rintro⟨k,hk,hall⟩
 dsimp only
 by_cases hk1:k<l.length
 ·have hki:(k:Int)<l.length:=by omega
  have wk:IntKind.wrap .i64 ((k:Int)+1)=(k+1:Nat):=wrap_id (by omega) (by omega)
  have hne:l≠[]:=by intro e; rw [e]at hk1; simp at hk1
  obtain⟨d,hd⟩:∃d,l[k]?=some d:=⟨_,List.getElem?_eq_getElem hk1⟩
  have hd':l[k]=d:=get_of hd hk1
  have hTd:totT r l d=(decide (wkW srtD l d.a (wr (d.a+r.win))≤r.tot) && decide (wkW srtD l (wr (d.b - r.win)) d.b≤r.tot)):=rfl
  cases hw:totT r l d
  ·have hno:totW srtD l r.win r.tot=false:=by
    rw [hT,List.all_eq_false]; exact⟨d,List.mem_of_getElem? hd,by rw [hw]; simp⟩
   rw [hw]at hTd
   by_cases h1:wkW srtD l d.a (wr (d.a+r.win))≤r.tot
   ·have h2:¬ wkW srtD l (wr (d.b - r.win)) d.b≤r.tot:=by simpa [h1]using hTd
    have h1':¬ r.tot<wkW srtD l d.a (IntKind.wrap .i64 (d.a+r.win)):=by exact Int.not_lt.2 h1
    have h2':r.tot<wkW srtD l (IntKind.wrap .i64 (d.b - r.win)) d.b:=by exact Int.not_le.1 h2
    simp -dsimp [hki]
    repeat' (first|omega|simp -dsimp [E83,ri,cellp,ints,hki,hk1,hd,hd',hl,wk,hB,hne,Du.row,bkRow,wkE_dec,h1',h2',hno]|refine aI ?_ fun _=>?_|refine oI fun _=>?_|refine nI ?_ ?_)
   ·have h1':r.tot<wkW srtD l d.a (IntKind.wrap .i64 (d.a+r.win)):=by exact Int.not_le.1 h1
    simp -dsimp [hki]
    repeat' (first|omega|simp -dsimp [E83,ri,cellp,ints,hki,hk1,hd,hd',hl,wk,hB,hne,Du.row,bkRow,wkE_dec,h1',hno]|refine aI ?_ fun _=>?_|refine oI fun _=>?_|refine nI ?_ ?_)
  ·rw [hw]at hTd
   have hTd':=hTd.symm
   simp only [Bool.and_eq_true,decide_eq_true_eq]at hTd'
   have h1':¬ r.tot<wkW srtD l d.a (IntKind.wrap .i64 (d.a+r.win)):=by exact Int.not_lt.2 hTd'.1
   have h2':¬ r.tot<wkW srtD l (IntKind.wrap .i64 (d.b - r.win)) d.b:=by exact Int.not_lt.2 hTd'.2
   simp -dsimp [hki]
   repeat' (first|omega|simp -dsimp [E83,ri,cellp,ints,hki,hk1,hd,hd',hl,wk,hB,hne,Du.row,bkRow,wkE_dec,h1',h2']|refine aI ?_ fun _=>?_|refine oI fun _=>?_|refine nI ?_ ?_)
   refine⟨k+1,tle_chain rfl ?_,?_,⟨by omega,fun j h hj=>?_⟩,by omega⟩
   ·simp [okAll,okv,wk]
   ·exact(by(try simp -dsimp only [hpx]); refine hle_hps ?_; simp -dsimp [allK,bkRow]<;>exact rz)
   ·by_cases hjk:j=k
    ·subst hjk; rw [hd']; exact hw
    ·exact hall j h (by omega)
 ·have hkn:¬ (k:Int)<l.length:=by omega
  have hyes:totW srtD l r.win r.tot=true:=by
   rw [hT,List.all_eq_true]
   intro d hd
   obtain⟨j,hj,rfl⟩:=List.getElem_of_mem hd
   exact hall j hj (by omega)
  simp -dsimp [hkn]
  repeat' (first|omega|simp -dsimp [E83,ri,cellp,ints,hkn,hyes]|refine aI ?_ fun _=>?_|refine oI fun _=>?_|refine nI ?_ ?_)
theorem ok83:FO 83 totS:=pf b83 (.cons ok35 .nil)
@[simp] def reE (d:Ro × List Du × Du):List V:=[.agg (bkRow d.1 d.2.1),.agg d.2.2.row]
theorem reE_inj (a b:Ro × List Du × Du) (h:reE a=reE b):a=b:=by
 obtain⟨a1,a2,a3⟩:=a; obtain⟨b1,b2,b3⟩:=b
 simp only [reE,List.cons.injEq,V.agg.injEq,true_and,and_true]at h
 obtain⟨h1,h2⟩:=h
 obtain⟨rfl,rfl⟩:=bkRow_inj h1
 rw [Du.row_inj _ _ h2]
theorem reE_dec (r:Ro) (o:List Du) (x:Du):decC reE [.agg [.sl 3 (r.ppl.map Pn.row),.int .i64 r.lng,.int .i64 r.rst,.int .i64 r.win,.int .i64 r.tot,.int .i64 r.rcn,.sl 3 (o.map Du.row)],.agg [.int .i64 x.p,.int .i64 x.a,.int .i64 x.b]]=(r,o,x):=decC_eq reE_inj (r,o,x)
abbrev recS:PSpec:=mkP reE (fun d=>d.2.1.length≤1000000) fun d=>.bool (recW d.1 d.2.1 d.2.2)
abbrev E84:Env:={P:=Tryz.prog,fn:=tbl [(80,.pure duanS)],own:=[],key:=8400,nt:=17}
theorem b84:PureBody E84 [] Tryz.f84 recS:=by
 refine pb ?_
 rintro⟨r,o,x⟩ hl
 have hl:o.length≤1000000:=hl
 have hR:recW r o x=(decide (x.a≤r.rcn) || o.any (nearW r x)):=rfl
 have hC:((Clo.rcn r o x).t)=nearW r x:=rfl
 by_cases h:x.a≤r.rcn
 ·simp -dsimp [Tryz.f84,E84,bkRow,Du.row,h]
  repeat' (first|omega|simp -dsimp [E84,ri,cellp,ints,h,hl,hR]|refine aI ?_ fun _=>?_|refine oI fun _=>?_|refine nI ?_ ?_)
 ·simp -dsimp [Tryz.f84,E84,bkRow,Du.row,h]
  repeat' (first|omega|simp -dsimp [E84,ri,cellp,ints,h,hl,hR,duxE_rcn,Clo.v,bkRow,Du.row,hC]|refine aI ?_ fun _=>?_|refine oI fun _=>?_|refine nI ?_ ?_)
theorem ok84:FO 84 recS:=pf b84 (.cons ok80 .nil)
def ouL (l:List Int):List (Nat × Site):=
 [(3404,{base:=0,blks:=[{z:=1,els:=[[if l=[]then .nil else .bsl 7909 0 l.length]],ty:=43,cl:=l.isEmpty}]}),(7909,{base:=0,blks:=if l=[]then []else [{z:=1,els:=l.map ri,ty:=3}]})]
theorem ouL_keys (l:List Int):(ouL l).map (·.1)=[3404,7909]:=rfl
theorem ouL_inj (l l':List Int) (h:∀k∈[3404,7909],hps (ouL l) noH k=hps (ouL l') noH k):l=l':=by
 have h1:=congrArg Site.blks (h 7909 (by simp))
 simp [ouL]at h1
 by_cases e:l=[]<;>by_cases e':l'=[]<;>simp [e,e']at h1 ⊢
 exact map_ri_inj h1
def puE (d:List Int × Int × Bool):List V:=[.int .i64 d.2.1,.bool d.2.2,.bptr 3404 0 1 0 0]
theorem pu_inj (d d':List Int × Int × Bool) (h:Hp) (e:puE d=puE d') (h1:Mt ouL [3404,7909] d.1 h) (h2:Mt ouL [3404,7909] d'.1 h):d=d':=by
 obtain⟨l,n,b⟩:=d; obtain⟨l',n',b'⟩:=d'
 have:=ouL_inj l l' fun k hk=>(h1 k hk).symm.trans (h2 k hk)
 simp [puE]at e
 rw [this,e.1,e.2]
abbrev putS:HSpec:=mkH puE (fun d h=>Mt ouL [3404,7909] d.1 h) (fun d=>d.1.length≤100) (fun _=>.tup []) (fun d h=>Ob ouL (if d.2.2=true then d.1++[d.2.1]else d.1) h)
def ouP (l:List Int) (n:Int) (b:Bool):List Int:=if b=true then l++[n]else l
theorem put_go (l:List Int) (n:Int) (b:Bool) (h:Hp):putS.go [.int .i64 n,.bool b,.bptr 3404 0 1 0 0] (Ob ouL l h)=⟨l.length≤100,.tup [],Ob ouL (ouP l n b) h⟩:=by
 have:=mkH_at (pre:=fun d:List Int × Int × Bool=>d.1.length≤100) (res:=fun _=>V.tup []) (post:=fun d h=>Ob ouL (if d.2.2=true then d.1++[d.2.1]else d.1) h) pu_inj (d:=(l,n,b)) (h:=Ob ouL l h) (ob_mt' ouL_keys)
 rw [ob_ob ouL_keys]at this
 exact this
abbrev E79:Env:={P:=Tryz.prog,fn:=tbl [],own:=[],key:=7900,nt:=10}
theorem b79:HeapBody E79 [] Tryz.f79 putS:=by
 intro args h hc
 obtain⟨⟨l,n,b⟩,rfl,hM,hl,hgo⟩:=mkH_inv hc
 rw [hgo]
 clear hgo hc
 have hM:h=Ob ouL l h:=(ob_mt ouL_keys).1 hM
 have hl:l.length≤100:=hl
 dsimp only
 rw [hM]
 generalize h=g at *
 clear hM
 rw [ob_ob ouL_keys]
 cases b
 ·simp -dsimp [Tryz.f79,E79,puE]
  repeat' (first|omega|simp -dsimp [E79,ri,cellp,ints,hle_refl]|refine aI ?_ fun _=>?_|refine oI fun _=>?_|refine nI ?_ ?_)
 ·by_cases hl0:l=[]
  ·subst hl0
   simp -dsimp [Tryz.f79,E79,puE,Ob,ouL]
   repeat' (first|omega|simp -dsimp [E79,ri,cellp,ints, *]|refine aI ?_ fun _=>?_|refine oI fun _=>?_|refine nI ?_ ?_)
   exact(by(try simp -dsimp only [hpx]); refine hle_hpsb ?_; simp -dsimp [allK,ri]<;>exact rz)
  ·simp -dsimp [Tryz.f79,E79,puE,Ob,ouL,hl0]
   repeat' (first|omega|simp -dsimp [E79,ri,cellp,ints,hl0,hl]|refine aI ?_ fun _=>?_|refine oI fun _=>?_|refine nI ?_ ?_)
   exact(by(try simp -dsimp only [hpx]); refine hle_hpsb ?_; simp -dsimp [allK,ri]<;>exact rz)
theorem ok79:FnOK Tryz.prog 79 (.heap putS):=pfH b79 .nil (fun args h hc=>by obtain⟨d,rfl,_⟩:=mkH_inv hc; simp [puE])
def ouA (l:List Int):Site:={base:=0,blks:=[{z:=1,els:=[[if l=[]then .nil else .bsl 7909 0 l.length]],ty:=43,cl:=l.isEmpty}]}
def ouB (l:List Int):Site:={base:=0,blks:=if l=[]then []else [{z:=1,els:=l.map ri,ty:=3}]}
theorem put_gen (l:List Int) (n:Int) (b:Bool) (h:Hp) (h1:h 3404=ouA l) (h2:h 7909=ouB l):putS.go [.int .i64 n,.bool b,.bptr 3404 0 1 0 0] h=⟨l.length≤100,.tup [],Ob ouL (ouP l n b) h⟩:=by
 have hh:h=Ob ouL l h:=(ob_mt ouL_keys).1 fun k hk=>by
  simp only [List.mem_cons,List.not_mem_nil,or_false]at hk
  rcases hk with rfl|rfl
  ·exact h1
  ·exact h2
 have:=put_go l n b h
 rw [←hh]at this
 exact this
theorem ou_hps (l:List Int) (L:List (Nat × Site)):Ob ouL l (hps L noH)=hps ((3404,ouA l)::(7909,ouB l)::L) noH:=rfl
theorem put_1 (n:Int) (b:Bool) (A B:Site):putS.go [.int .i64 n,.bool b,.bptr 3404 0 1 0 0] (hps [(3404,{base:=0,blks:=[{z:=1,els:=[[V.nil]],ty:=43}]}),(3403,A),(3402,B)] noH)=⟨True,.tup [],hps [(3404,ouA (ouP [] n b)),(7909,ouB (ouP [] n b)),(3403,A),(3402,B)] noH⟩:=by
 rw [put_gen [] n b _ rfl rfl,ou_hps]
 congr 1
 ·simp
 ·funext k
  by_cases h1:k=3404
  ·simp [h1]
  ·by_cases h2:k=7909
   ·simp [h2]
   ·simp [h1,h2]
theorem put_2 (l:List Int) (n:Int) (b:Bool) (L:List (Nat × Site)):putS.go [.int .i64 n,.bool b,.bptr 3404 0 1 0 0] (hps ((3404,ouA l)::(7909,ouB l)::L) noH)=⟨l.length≤100,.tup [],hps ((3404,ouA (ouP l n b))::(7909,ouB (ouP l n b))::L) noH⟩:=by
 rw [put_gen l n b _ rfl rfl,ou_hps]
 congr 1
 funext k
 by_cases h1:k=3404
 ·simp [h1]
 ·by_cases h2:k=7909
  ·simp [h2]
  ·simp [h1,h2]
theorem put_3 (l:List Int) (n:Int) (b:Bool) (X A B A' B':Site):putS.go [.int .i64 n,.bool b,.bptr 3404 0 1 0 0] (hps [(7705,X),(3403,A'),(3402,B'),(3404,ouA l),(7909,ouB l),(3403,A),(3402,B)] noH)=⟨l.length≤100,.tup [],hps [(3404,ouA (ouP l n b)),(7909,ouB (ouP l n b)),(7705,X),(3403,A'),(3402,B')] noH⟩:=by
 rw [put_gen l n b _ rfl rfl,ou_hps]
 congr 1
 funext k
 by_cases h1:k=3404
 ·simp [h1]
 ·by_cases h2:k=7909
  ·simp [h2]
  ·by_cases h3:k=3403
   ·simp [h3]
   ·by_cases h4:k=3402
    ·simp [h4]
    ·simp [h1,h2,h3,h4]
end Go.Sx
end
section
namespace Go.Sx
open Go.Proofs
attribute [local irreducible] HLe
abbrev brkS:PSpec:=mkP reE (fun d=>Beg (d.2.1++[d.2.2])) fun d=>ints (brkW srtD d.1 d.2.1 d.2.2)
abbrev E34:Env:={P:=Tryz.prog,fn:=tbl [(80,.pure duanS),(83,.pure totS),(84,.pure recS),(77,.heap cloS),(79,.heap putS)],own:=[],key:=3400,nt:=42,frz:=[(4,[2,50002,3,50003])]}
theorem b34:PureBody E34 [(4,([1,3,5],[[0,1,2,3,4,5,6,7,8,9,10]]))] Tryz.f34 brkS:=by
 refine pb ?_
 rintro⟨r,o,x⟩ hB
 have hB:Beg (o++[x]):=hB
 have hl:o.length≤1000000:=by have:=hB.n; simp at this; omega
 have hap:List.map Du.row o++[[V.int .i64 x.p,V.int .i64 x.a,V.int .i64 x.b]]=List.map Du.row (o++[x]):=by rw [List.map_append]; rfl
 have hK:brkW srtD r o x=(if (o.any (Clo.rst r o x).t)=true then [3]else [])++(if r.lng<wr (x.b - x.a)then [4]else [])++(if totW srtD (o++[x]) r.win r.tot=true then []else [5])++(if recW r o x=true then []else [6]):=rfl
 have hox:(o++[x]).length=o.length+1:=by simp
 generalize o++[x]=ox at hap hK hB hox
 generalize h3:o.any (Clo.rst r o x).t=c3 at hK
 generalize h5:totW srtD ox r.win r.tot=c5 at hK
 generalize h6:recW r o x=c6 at hK
 generalize h4:decide (r.lng<wr (x.b - x.a))=c4
 have hK2:(if r.lng<wr (x.b - x.a)then [(4:Int)]else [])=if c4=true then [4]else []:=by
  by_cases h:r.lng<wr (x.b - x.a)
  ·rw [if_pos h,if_pos (by rw [←h4]; simpa using h)]
  ·rw [if_neg h,if_neg (by rw [←h4]; simpa using h)]
 rw [hK2]at hK
 have h4':decide (r.lng<IntKind.wrap .i64 (x.b - x.a))=c4:=h4
 have l1:(ouP [] 3 c3).length≤100:=by cases c3<;>simp [ouP]
 have l2:(ouP (ouP [] 3 c3) 4 c4).length≤100:=by cases c3<;>cases c4<;>simp [ouP]
 have l3:(ouP (ouP (ouP [] 3 c3) 4 c4) 5 (!c5)).length≤100:=by cases c3<;>cases c4<;>cases c5<;>simp [ouP]
 have hK':brkW srtD r o x=ouP (ouP (ouP (ouP [] 3 c3) 4 c4) 5 (!c5)) 6 (!c6):=by
  rw [hK]; cases c3<;>cases c4<;>cases c5<;>cases c6<;>rfl
 clear hK
 generalize hP:ouP (ouP (ouP (ouP [] 3 c3) 4 c4) 5 (!c5)) 6 (!c6)=P at hK'
 simp -dsimp [Tryz.f34,E34,FreeAt,put_1,put_2,put_3,cloS_go,toE_dec,reE_dec,duxE_rst,Clo.v,h3,h4',h5,h6,l1,l2,l3,hP,hl,hap,hox,hB,bkRow,Du.row]
 repeat' (first|omega|simp -dsimp [E34,ri,cellp,ints,FreeAt,put_1,put_2,put_3,cloS_go,toE_dec,reE_dec,duxE_rst,Clo.v,h3,h4',h5,h6,l1,l2,l3,hP,hl,hap,hox,hB,bkRow,Du.row]|refine aI ?_ fun _=>?_|refine oI fun _=>?_|refine nI ?_ ?_)
 all_goals
  clear hP
  by_cases hP0:P=[]
  ·subst hP0
   repeat' (first|omega|simp -dsimp [E34,ri,cellp,ints,ouA,ouB,hK']|refine aI ?_ fun _=>?_|refine oI fun _=>?_|refine nI ?_ ?_)
  ·repeat' (first|omega|simp -dsimp [E34,ri,cellp,ints,ouA,ouB,hP0,hK']|refine aI ?_ fun _=>?_|refine oI fun _=>?_|refine nI ?_ ?_)
theorem ok34:FO 34 brkS:=pf b34 (.cons ok80 (.cons ok83 (.cons ok84 (.cons ok77 (.cons ok79 .nil)))))
end Go.Sx
end
section
namespace Go.Sx
open Go.Proofs
attribute [local irreducible] HLe
@[simp] def chE (d:Ro × List Du):List V:=[.agg d.1.row,.sl 3 (d.2.map Du.row)]
theorem chE_inj (a b:Ro × List Du) (h:chE a=chE b):a=b:=by
 obtain⟨a1,a2⟩:=a; obtain⟨b1,b2⟩:=b
 simp only [chE,List.cons.injEq,V.agg.injEq,V.sl.injEq,true_and,and_true]at h
 rw [Ro.row_inj _ _ h.1,mapRow_inj Du.row_inj h.2]
structure ChP (d:Ro × List Du):Prop where
 p:d.1.ppl.length≤100000000000000
 n:d.2.length≤100000000000000
abbrev chS:PSpec:=mkP chE ChP fun d=>.tup [.int .i64 (chkEW srtD d.1 d.2).1,.int .i64 (chkEW srtD d.1 d.2).2]
theorem chk_no {r:Ro} {l:List Du} (h:r.ok=false):chkEW srtD r l=(0,100):=by simp [chkEW,h]
theorem chk_many {r:Ro} {l:List Du} (h:r.ok=true) (h2:60<l.length):chkEW srtD r l=(0,2):=by simp [chkEW,h,h2]
theorem chk_bad {r:Ro} {l:List Du} (h:r.ok=true) (h2:¬ 60<l.length) {k:Nat} (hk:k<l.length) (hp:duOkW srtD r l k=false) (hall:∀j,j<k→duOkW srtD r l j=true):chkEW srtD r l=((k:Int),101):=by
 have:badDuW srtD r l=k:=idxZ_at _ _ (by simpa using hk) (by simp [hp]) fun j _ hj=>by simp [hall j hj]
 simp [chkEW,h,h2,this]
theorem chk_ok {r:Ro} {l:List Du} (h:r.ok=true) (h2:¬ 60<l.length) (hall:∀j,j<l.length→duOkW srtD r l j=true):chkEW srtD r l=(0,0):=by
 have:badDuW srtD r l = -1:=idxZ_none _ _ fun j hj=>by simp at hj ⊢; exact hall j hj
 simp [chkEW,h,h2,this]
theorem duOkW_eq (r:Ro) (l:List Du) (i:Nat) (d:Du) (hd:duAt l i=d):duOkW srtD r l i=(withinB d.p 0 (r.ppl.length - 1) && strW d.a d.b && (decide (i=0) || decide ((duAt l (i - 1)).a≤d.a)) && (brkW srtD r (own (l.take i) d.p) d).isEmpty):=by
 subst hd; rfl
theorem duOkW_beg {r:Ro} {l:List Du} {i:Nat} (h:duOkW srtD r l i=true):0≤(duAt l i).a∧(duAt l i).a≤9223372036854775807:=by
 unfold duOkW at h
 simp only [Bool.and_eq_true]at h
 exact strW_beg h.1.1.2
theorem duOkW_begs {r:Ro} {l:List Du} {k:Nat} (hk:k≤l.length) (h:∀j,j<k→duOkW srtD r l j=true):∀d∈l.take k,0≤d.a∧d.a≤9223372036854775807:=by
 intro d hd
 obtain⟨j,hj,rfl⟩:=List.getElem_of_mem hd
 have hj2:j<k∧j<l.length:=by rw [List.length_take]at hj; omega
 have:=duOkW_beg (h j hj2.1)
 have e:duAt l j=(l.take k)[j]:=by simp [duAt,List.getD,hj2.2]
 rw [←e]; exact this
abbrev E13:Env:={P:=Tryz.prog,fn:=tbl [(28,.pure withinS),(31,.pure rosS),(32,.pure strS),(33,.pure ofS),(34,.pure brkS)],own:=[],key:=1300,nt:=70}
theorem b13:PureBody E13 [] Tryz.f13 chS:=by
 refine pb ?_
 rintro⟨r,l⟩ ⟨hp,hl⟩
 simp only at hp hl
 cases hok:r.ok
 ·have hz:=chk_no (l:=l) hok
  simp -dsimp [Tryz.f13,E13,Ro.row,pplV,roE_dec,hp,hok]
  repeat' (first|omega|simp -dsimp [E13,ri,cellp,ints,Ro.row,pplV,roE_dec,hp,hok,hz]|refine aI ?_ fun _=>?_|refine oI fun _=>?_|refine nI ?_ ?_)
 by_cases h60:60<l.length
 ·have h60i:(60:Int)<l.length:=by omega
  have hz:=chk_many (l:=l) hok h60
  simp -dsimp [Tryz.f13,E13,Ro.row,pplV,roE_dec,hp,hok]
  repeat' (first|omega|simp -dsimp [E13,ri,cellp,ints,Ro.row,pplV,roE_dec,hp,hok,hz,h60i]|refine aI ?_ fun _=>?_|refine oI fun _=>?_|refine nI ?_ ?_)
 have h60i:¬ (60:Int)<l.length:=by omega
 have hwp:IntKind.wrap .i64 ((r.ppl.length:Int) - 1)=r.ppl.length - 1:=wrap_id (by omega) (by omega)
 simp -dsimp [Tryz.f13,E13,Ro.row,pplV,roE_dec,hp,hok]
 repeat' (first|omega|simp -dsimp [E13,ri,cellp,ints,Ro.row,pplV,roE_dec,hp,hok,h60i]|refine aI ?_ fun _=>?_|refine oI fun _=>?_|refine nI ?_ ?_)
 refine awp_loop [20,21,22,23,8,7,24,25,26,27,28,29,30,31,32,33,34,35,36,37,38,39,40,41,42,43,44,45,46,47,48,49,50,51,52,53,54,55,56,57,58,59,60,61,62,63,64,65,66,67,68,4,5,69,19] (fun k:{k:Nat // k≤l.length∧∀j,j<k→duOkW srtD r l j=true}=>[(19,(true,.int .i64 k.1))]) (fun k=>hps [(1308,{base:=k.1,blks:=[]}),(1302,{base:=0,blks:=[{z:=6,els:=[r.row],ty:=41}]})] noH) (fun k=>l.length - k.1) ⟨0,by omega,fun _ h=>by omega⟩ ?_ ?_ ?_
 ·simp [okAll,okv]
 ·exact(by(try simp -dsimp only [hpx]); refine hle_hps ?_; simp -dsimp [allK,Ro.row,pplV]<;>exact rz)
 rintro⟨k,hk,hall⟩
 dsimp only
 by_cases hk1:k<l.length
 ·have hki:(k:Int)<l.length:=by omega
  have wk:IntKind.wrap .i64 ((k:Int)+1)=(k+1:Nat):=wrap_id (by omega) (by omega)
  obtain⟨d,hd⟩:∃d,l[k]?=some d:=⟨_,List.getElem?_eq_getElem hk1⟩
  have hd':l[k]=d:=get_of hd hk1
  have hda:duAt l k=d:=by simp [duAt,List.getD,hd]
  have hD:=duOkW_eq r l k d hda
  have hbeg:=duOkW_begs (by omega) hall
  have hlk:(l.take k).length≤1000000:=by simp; omega
  have hbb:∀n,∀x∈own (l.take k) n,0≤x.a∧x.a≤9223372036854775807:=fun n x hx=>hbeg x (own_mem.1 hx).1
  have hon:(own (l.take k) d.p).length≤k:=by have:=own_len (l.take k) d.p; simp at this; omega
  have hmt:List.take k (l.map Du.row)=(l.take k).map Du.row:=by rw [List.map_take]
  generalize l.take k=lk at *
  have hon':∀x∈own lk d.p,0≤x.a∧x.a≤9223372036854775807:=hbb d.p
  by_cases hk0:k=0
  ·subst hk0
   have hne:(l=[])=False:=eq_false (by rintro rfl; simp at hk1)
   have w1:IntKind.wrap .i64 1=1:=wrap_id (by omega) (by omega)
   cases c1:withinB d.p 0 (r.ppl.length - 1)
   ·have hz:=chk_bad hok h60 hk1 (by rw [hD,c1]; rfl) hall
    simp -dsimp [hki]
    repeat' (first|omega|simp -dsimp [E13,ri,cellp,ints,hne,w1,hki,hk1,hd,hd',hl,wk,hwp,hmt,hlk,ofE_dec,reE_dec,Du.row,Ro.row,pplV,bkRow,c1,hz]|refine aI ?_ fun _=>?_|refine oI fun _=>?_|refine nI ?_ ?_)
   cases c2:strW d.a d.b
   ·have hz:=chk_bad hok h60 hk1 (by rw [hD,c1,c2]; rfl) hall
    simp -dsimp [hki]
    repeat' (first|omega|simp -dsimp [E13,ri,cellp,ints,hne,w1,hki,hk1,hd,hd',hl,wk,hwp,hmt,hlk,ofE_dec,reE_dec,Du.row,Ro.row,pplV,bkRow,c1,c2,hz]|refine aI ?_ fun _=>?_|refine oI fun _=>?_|refine nI ?_ ?_)
   have hsb:=strW_beg c2
   have hBg:Beg (own lk d.p++[d]):=⟨by simp; omega,fun x hx=>by
    rcases List.mem_append.1 hx with h|h
    ·exact hon' x h
    ·exact List.mem_singleton.1 h ▸ hsb⟩
   generalize hB:brkW srtD r (own lk d.p) d=B at hD
   cases B with
   | nil=>
    simp -dsimp [hki]
    repeat' (first|omega|simp -dsimp [E13,ri,cellp,ints,hne,w1,hki,hk1,hd,hd',hl,wk,hwp,hmt,hlk,ofE_dec,reE_dec,Du.row,Ro.row,pplV,bkRow,c1,c2,hB,hBg]|refine aI ?_ fun _=>?_|refine oI fun _=>?_|refine nI ?_ ?_)
    refine⟨0+1,tle_chain rfl ?_,?_,⟨by omega,fun i hi=>?_⟩,by omega⟩
    ·simp [okAll,okv,w1]
    ·exact(by(try simp -dsimp only [hpx]); refine hle_hps ?_; simp -dsimp [allK,Ro.row,pplV]<;>exact rz)
    ·by_cases hik:i=0
     ·subst hik; rw [hD,c1,c2]; simp
     ·exact hall i (by omega)
   | cons b bs=>
    have hz:=chk_bad hok h60 hk1 (by rw [hD]; simp) hall
    simp -dsimp [hki]
    repeat' (first|omega|simp -dsimp [E13,ri,cellp,ints,hne,w1,hki,hk1,hd,hd',hl,wk,hwp,hmt,hlk,ofE_dec,reE_dec,Du.row,Ro.row,pplV,bkRow,c1,c2,hB,hBg,hz]|refine aI ?_ fun _=>?_|refine oI fun _=>?_|refine nI ?_ ?_)
  ·obtain⟨j,rfl⟩:∃j,k=j+1:=⟨k - 1,by omega⟩
   have hj1:j<l.length:=by omega
   obtain⟨e,he⟩:∃e,l[j]?=some e:=⟨_,List.getElem?_eq_getElem hj1⟩
   have he':l[j]=e:=get_of he hj1
   have hde:duAt l (j+1 - 1)=e:=by simp [duAt,List.getD,he]
   have wj:IntKind.wrap .i64 (((j+1:Nat):Int) - 1)=(j:Nat):=by rw [wrap_id (by omega) (by omega)]; omega
   have wj2:IntKind.wrap .i64 (j:Int)=(j:Nat):=wrap_id (by omega) (by omega)
   have hji:(j:Int)<l.length:=by omega
   have wk2:IntKind.wrap .i64 ((j:Int)+1+1)=(j:Int)+1+1:=wrap_id (by omega) (by omega)
   have hd3:(decide (j+1=0) || decide ((duAt l (j+1 - 1)).a≤d.a))=decide (e.a≤d.a):=by rw [hde]; simp
   cases c1:withinB d.p 0 (r.ppl.length - 1)
   ·have hz:=chk_bad hok h60 hk1 (by rw [hD,c1]; rfl) hall
    simp -dsimp [hki]
    repeat' (first|omega|simp -dsimp [E13,ri,cellp,ints,wk2,hki,hk1,hd,hd',hl,wk,hwp,hmt,hlk,ofE_dec,reE_dec,Du.row,Ro.row,pplV,bkRow,wj,wj2,hji,hj1,he,he',c1,hz]|refine aI ?_ fun _=>?_|refine oI fun _=>?_|refine nI ?_ ?_)
   cases c2:strW d.a d.b
   ·have hz:=chk_bad hok h60 hk1 (by rw [hD,c1,c2]; rfl) hall
    simp -dsimp [hki]
    repeat' (first|omega|simp -dsimp [E13,ri,cellp,ints,wk2,hki,hk1,hd,hd',hl,wk,hwp,hmt,hlk,ofE_dec,reE_dec,Du.row,Ro.row,pplV,bkRow,wj,wj2,hji,hj1,he,he',c1,c2,hz]|refine aI ?_ fun _=>?_|refine oI fun _=>?_|refine nI ?_ ?_)
   by_cases c3:d.a<e.a
   ·have hz:=chk_bad hok h60 hk1 (by rw [hD,c1,c2,hd3,decide_eq_false (by omega:¬ e.a≤d.a)]; simp) hall
    simp -dsimp [hki]
    repeat' (first|omega|simp -dsimp [E13,ri,cellp,ints,wk2,hki,hk1,hd,hd',hl,wk,hwp,hmt,hlk,ofE_dec,reE_dec,Du.row,Ro.row,pplV,bkRow,wj,wj2,hji,hj1,he,he',c1,c2,c3,hz]|refine aI ?_ fun _=>?_|refine oI fun _=>?_|refine nI ?_ ?_)
   have hd4:decide (e.a≤d.a)=true:=decide_eq_true (by omega)
   have hsb:=strW_beg c2
   have hBg:Beg (own lk d.p++[d]):=⟨by simp; omega,fun x hx=>by
    rcases List.mem_append.1 hx with h|h
    ·exact hon' x h
    ·exact List.mem_singleton.1 h ▸ hsb⟩
   generalize hB:brkW srtD r (own lk d.p) d=B at hD
   cases B with
   | nil=>
    simp -dsimp [hki]
    repeat' (first|omega|simp -dsimp [E13,ri,cellp,ints,wk2,hki,hk1,hd,hd',hl,wk,hwp,hmt,hlk,ofE_dec,reE_dec,Du.row,Ro.row,pplV,bkRow,wj,wj2,hji,hj1,he,he',c1,c2,c3,hB,hBg]|refine aI ?_ fun _=>?_|refine oI fun _=>?_|refine nI ?_ ?_)
    refine⟨(j+1)+1,tle_chain rfl ?_,?_,⟨by omega,fun i hi=>?_⟩,by omega⟩
    ·simp [okAll,okv,wk2]
    ·exact(by(try simp -dsimp only [hpx]); refine hle_hps ?_; simp -dsimp [allK,Ro.row,pplV]<;>exact rz)
    ·by_cases hik:i=(j+1)
     ·subst hik; rw [hD,c1,c2,hd3,hd4]; simp
     ·exact hall i (by omega)
   | cons b bs=>
    have hz:=chk_bad hok h60 hk1 (by rw [hD]; simp) hall
    simp -dsimp [hki]
    repeat' (first|omega|simp -dsimp [E13,ri,cellp,ints,wk2,hki,hk1,hd,hd',hl,wk,hwp,hmt,hlk,ofE_dec,reE_dec,Du.row,Ro.row,pplV,bkRow,wj,wj2,hji,hj1,he,he',c1,c2,c3,hB,hBg,hz]|refine aI ?_ fun _=>?_|refine oI fun _=>?_|refine nI ?_ ?_)
 ·have hkn:¬ (k:Int)<l.length:=by omega
  have hz:=chk_ok hok h60 fun j hj=>hall j (by omega)
  simp -dsimp [hkn]
  repeat' (first|omega|simp -dsimp [E13,ri,cellp,ints,hkn,hz]|refine aI ?_ fun _=>?_|refine oI fun _=>?_|refine nI ?_ ?_)
theorem ok13:FO 13 chS:=pf b13 (.cons ok28 (.cons ok31 (.cons ok32 (.cons ok33 (.cons ok34 .nil)))))
end Go.Sx
end
end
