/- A part of a proof; no conditions. -/
import Derived.Test.YtfhdpblkdgmnfaaGreatDoorP40
set_option linter.unusedSimpArgs false
set_option linter.unusedVariables false
set_option linter.unusedSectionVars false
set_option maxRecDepth 100000
set_option maxHeartbeats 8000000
noncomputable section
section
namespace Go.Sx
open Go.Proofs
attribute [local irreducible] HLe
structure NxD where
 f:Fl
 l:List Sr
 x:Sr
 w:Bool
 deriving Inhabited
@[simp] def nxE (d:NxD):List V:=[.agg d.f.row,.sl 4 (d.l.map Sr.row),.agg d.x.row,.bool d.w]
theorem nxE_inj (a b:NxD) (h:nxE a=nxE b):a=b:=by
 obtain⟨a1,a2,a3,a4⟩:=a; obtain⟨b1,b2,b3,b4⟩:=b
 simp only [nxE,List.cons.injEq,V.agg.injEq,V.sl.injEq,V.bool.injEq,true_and,and_true]at h
 rw [Fl.row_inj _ _ h.1,mapRow_inj Sr.row_inj h.2.1,Sr.row_inj _ _ h.2.2.1,h.2.2.2]
theorem nxE_dec (f:Fl) (l:List Sr) (j m c k:Int) (w:Bool):decC nxE [.agg f.row,.sl 4 (l.map Sr.row),.agg [.int .i64 j,.int .i64 m,.int .i64 c,.int .i64 k],.bool w]=⟨f,l,⟨j,m,c,k⟩,w⟩:=decC_eq nxE_inj ⟨f,l,⟨j,m,c,k⟩,w⟩
theorem flpE_dec2 (f:Fl) (l:List Sr) (j m c k:Int):decC flpE [.agg f.row,.sl 4 (l.map Sr.row++[[.int .i64 j,.int .i64 m,.int .i64 c,.int .i64 k]])]=(f,l++[⟨j,m,c,k⟩]):=by
 have:=flpE_dec f (l++[⟨j,m,c,k⟩])
 rwa [List.map_append]at this
structure NxP (d:NxD):Prop where
 ok:FlK d.f
 good:Good d.f true d.l
 w:d.w=true
abbrev nexS:PSpec:=mkP nxE NxP fun d=>.bool (nxB d.f d.l d.x false)
theorem Good.dup {f:Fl} {any:Bool} {l:List Sr} (hk:FlK f) (h:Good f any l):DuP f l:=⟨hk,h.sr,by have:=(h.len hk.ok).1; omega⟩
theorem ppl12 {f:Fl} (h:FlOk f):f.ros.ppl.length≤12:=(chkE_zero.1 h.du).1.n
theorem crB_per {f:Fl} {l:List Sr} {s:Sr} (h:crB f l s=true):rgB s.c 0 (f.ros.ppl.length - 1)=true∧rgB s.k 0 (f.ros.ppl.length - 1)=true:=by
 unfold crB at h
 rw [Bool.and_eq_true,List.contains_iff_mem]at h
 obtain⟨h0,h1⟩:=h
 unfold crwL at h1
 obtain⟨a,ha,h2⟩:=List.mem_flatMap.1 h1
 obtain⟨b,hb,h3⟩:=List.mem_map.1 h2
 have hb':=(List.mem_filter.1 hb).1
 simp only [Prod.mk.injEq]at h3
 simp only [List.mem_range]at ha hb'
 simp only [rgB,decide_eq_true_eq]
 omega
def clK (f:Fl) (s:Sr) (l:List Sr) (k:Nat):Prop:=∀y∈l.take k,clB f s y=false
def inP (p:Int × Int) (l:List (Int × Int)) (k:Nat):Bool:=(l.take k).contains p
theorem inP_succ {p x:Int × Int} {l:List (Int × Int)} {k:Nat} (h:l[k]?=some x):inP p l (k+1)=(inP p l k || decide (x.1=p.1∧x.2=p.2)):=by
 unfold inP
 rw [List.take_add_one,h,Option.toList_some,List.contains_append]
 congr 1
 rw [Bool.eq_iff_iff]
 simp only [List.contains_iff_mem,List.mem_singleton,decide_eq_true_eq]
 constructor
 ·rintro rfl; exact⟨rfl,rfl⟩
 ·rintro⟨h1,h2⟩; exact(Prod.ext h1 h2).symm
def srS (x:Sr):Site:={base:=0,blks:=[{z:=4,els:=[x.row],ty:=57,fz:=true}]}
def bkB (x:Bk):Site:={base:=0,blks:=[{z:=4,els:=[x.row],ty:=128}]}
abbrev E23:Env:={P:=Tryz.prog,fn:=tbl [(53,.pure rgS),(54,.pure canRS),(55,.pure opeRS),(56,.pure tmeS),(57,.pure houS),(59,.pure dutS),(58,.pure CrwRS),(52,.pure ckRS),(60,.pure covS)],own:=[],key:=2300,nt:=243,frz:=[(1,[4,6,50004,50006]),(28,[19,50019])]}
theorem b23:PureBody E23 [(10,([0,3,5,8,10,11],[[0,1,2,3,4,5,6,7,8,9,10,11,12,13,14,15,16,17]])),(25,([2],[[0,1,2,3,4,5]]))] Tryz.f23 nexS:=by
 refine pb ?_
 rintro⟨f,l,x,w⟩ ⟨hK,hG,hw⟩
 simp only at hK hG hw
 subst hw
 have hf:=hK.ok
 have hD:=hG.dup hK
 have hlen:=hG.len hf
 have hsr:=hG.sr
 have hp12:=ppl12 hf
 have hjl:=hf.jobs
 have hbl:f.bas.length≤1000000:=by
  have h1:=hf.bas
  have h2:=(small_of (by
   have:=hf.op
   unfold opE at this
   split at this
   ·assumption
   ·cases this)).m1
  omega
 have hN:nxB f l x false=(thB f x.j x.m && ((canB f x.j.toNat x.m.toNat && (false || oaB f x.j.toNat x.m.toNat)) && !(l.any (clB f x)) && decide ((bkS f x).air+airM f x.m l≤hrF f x.m.toNat * f.hour)) && crB f l x && decide ((chkE f.ros (duF f (l++[x]))).2=0) && covB f (l++[x])):=rfl
 have hth:thB f x.j x.m=(rgB x.j 0 (f.jobs.length - 1) && rgB x.m 0 (f.bas.length - 1)):=rfl
 have hper:=crB_per (f:=f) (l:=l) (s:=x)
 have w1:IntKind.wrap .i64 ((f.jobs.length:Int) - 1)=(f.jobs.length:Int) - 1:=wrap_id (by omega) (by omega)
 have w2:IntKind.wrap .i64 ((f.bas.length:Int) - 1)=(f.bas.length:Int) - 1:=wrap_id (by omega) (by omega)
 have w3:IntKind.wrap .i64 ((f.ros.ppl.length:Int) - 1)=(f.ros.ppl.length:Int) - 1:=wrap_id (by omega) (by omega)
 obtain⟨xj,xm,xc,xk⟩:=x
 simp only at hN hth hper
 cases c1:rgB xj 0 (f.jobs.length - 1)
 ·have hN:nxB f l ⟨xj,xm,xc,xk⟩ false=false:=by rw [hN,hth,c1]; simp
  simp -dsimp [Tryz.f23,E23,Sr.row]
  repeat' (first|omega|simp -dsimp [E23,ri,cellp,ints,Sr.row,w1,c1,hN]|refine aI ?_ fun _=>?_|refine oI fun _=>?_|refine nI ?_ ?_)
 cases c2:rgB xm 0 (f.bas.length - 1)
 ·have hN:nxB f l ⟨xj,xm,xc,xk⟩ false=false:=by rw [hN,hth,c1,c2]; simp
  simp -dsimp [Tryz.f23,E23,Sr.row]
  repeat' (first|omega|simp -dsimp [E23,ri,cellp,ints,Sr.row,w1,w2,c1,c2,hN]|refine aI ?_ fun _=>?_|refine oI fun _=>?_|refine nI ?_ ?_)
 cases c3:rgB xc 0 (f.ros.ppl.length - 1)
 ·have hC:crB f l ⟨xj,xm,xc,xk⟩=false:=Bool.eq_false_iff.2 fun h=>by have:=(hper h).1; rw [c3]at this; cases this
  have hN:nxB f l ⟨xj,xm,xc,xk⟩ false=false:=by rw [hN,hC]; simp
  simp -dsimp [Tryz.f23,E23,Sr.row]
  repeat' (first|omega|simp -dsimp [E23,ri,cellp,ints,Sr.row,w1,w2,w3,c1,c2,c3,hN]|refine aI ?_ fun _=>?_|refine oI fun _=>?_|refine nI ?_ ?_)
 cases c4:rgB xk 0 (f.ros.ppl.length - 1)
 ·have hC:crB f l ⟨xj,xm,xc,xk⟩=false:=Bool.eq_false_iff.2 fun h=>by have:=(hper h).2; rw [c4]at this; cases this
  have hN:nxB f l ⟨xj,xm,xc,xk⟩ false=false:=by rw [hN,hC]; simp
  simp -dsimp [Tryz.f23,E23,Sr.row]
  repeat' (first|omega|simp -dsimp [E23,ri,cellp,ints,Sr.row,w1,w2,w3,c1,c2,c3,c4,hN]|refine aI ?_ fun _=>?_|refine oI fun _=>?_|refine nI ?_ ?_)
 clear hper
 have r1:0≤xj∧xj<f.jobs.length:=by simp [rgB]at c1; omega
 have r2:0≤xm∧xm<f.bas.length:=by simp [rgB]at c2; omega
 have hJ:JmP (f,xj,xm):=⟨hK,r1,r2⟩
 rw [hth,c1,c2]at hN
 cases c5:canB f xj.toNat xm.toNat
 ·have hN:nxB f l ⟨xj,xm,xc,xk⟩ false=false:=by rw [hN,c5]; simp
  simp -dsimp [Tryz.f23,E23,Sr.row]
  repeat' (first|omega|simp -dsimp [E23,ri,cellp,ints,Sr.row,w1,w2,w3,c1,c2,c3,c4,fl2E_dec,hJ,c5,hN]|refine aI ?_ fun _=>?_|refine oI fun _=>?_|refine nI ?_ ?_)
 have hJo:JoP (f,xj,xm):=⟨hJ,c5⟩
 rw [c5]at hN
 cases c6:oaB f xj.toNat xm.toNat
 ·have hN:nxB f l ⟨xj,xm,xc,xk⟩ false=false:=by rw [hN,c6]; simp
  simp -dsimp [Tryz.f23,E23,Sr.row]
  repeat' (first|omega|simp -dsimp [E23,ri,cellp,ints,Sr.row,w1,w2,w3,c1,c2,c3,c4,fl2E_dec,hJ,hJo,c5,c6,hN]|refine aI ?_ fun _=>?_|refine oI fun _=>?_|refine nI ?_ ?_)
 rw [c6]at hN
 obtain⟨hq,t1,t2,t3,t4⟩:=hf.ticks (j:=xj.toNat) (m:=xm.toNat) (by omega) (by omega) c5
 have hO:=bkO_eq hq
 have hbs:bkV f xj.toNat xm.toNat=bkS f ⟨xj,xm,xc,xk⟩:=rfl
 rw [hbs]at hO t1 t3 t4
 have hXS:SrOk f ⟨xj,xm,xc,xk⟩:=by
  simp only [canB,Bool.and_eq_true,decide_eq_true_eq]at c5
  exact⟨⟨r1,by simp only; omega⟩,⟨r2,by simp only; omega⟩,hq,c5.1.1.2,c5.1.2,c5.2⟩
 have hbd:=hXS.bk hf
 have hD2:DuP f (l++[⟨xj,xm,xc,xk⟩]):=⟨hK,fun y hy=>by
  rcases List.mem_append.1 hy with h|h
  ·exact hsr y h
  ·exact List.mem_singleton.1 h ▸ hXS,by simp; omega⟩
 have hchk:=hG.chk hf
 have htu:=hf.turn
 have hho:=hf.hour
 have hhr:=hrF_bd (f:=f) xm.toNat
 have hai:=fun k=>airM_bd hf xm (l:=l.take k) fun y hy=>hsr y (List.mem_of_mem_take hy)
 have hcl:=fun y=>show clB f ⟨xj,xm,xc,xk⟩ y=(decide (y.j=xj) || decide (y.m=xm∧(bkS f ⟨xj,xm,xc,xk⟩).lv<(bkS f y).hm+f.turn) || decide ((bkS f ⟨xj,xm,xc,xk⟩).lv<(bkS f y).lv) || decide ((bkS f ⟨xj,xm,xc,xk⟩).lv=(bkS f y).lv∧xj<y.j))from rfl
 have hca:caF f ⟨xj,xm,xc,xk⟩=⟨(bkS f ⟨xj,xm,xc,xk⟩).lv,(bkS f ⟨xj,xm,xc,xk⟩).hm,f.cra.getD xm.toNat 0,(jbA f xj.toNat).wat⟩:=rfl
 have hcb:crB f l ⟨xj,xm,xc,xk⟩=(callB (caF f ⟨xj,xm,xc,xk⟩) && (crwL f.ros (duF f l) (caF f ⟨xj,xm,xc,xk⟩)).contains (xc,xk)):=rfl
 generalize hNv:nxB f l ⟨xj,xm,xc,xk⟩ false=N at *
 generalize hB:bkS f ⟨xj,xm,xc,xk⟩=B at *
 obtain⟨b1,b2,b3,b4⟩:=B
 simp only at hO hbd hN hcl hca
 simp -dsimp [Tryz.f23,E23,Sr.row]
 repeat' (first|omega|simp -dsimp [E23,ri,cellp,ints,Sr.row,Bk.row,w1,w2,w3,c1,c2,c3,c4,fl2E_dec,hJ,hJo,c5,c6,hO,hq]|refine aI ?_ fun _=>?_|refine oI fun _=>?_|refine nI ?_ ?_)
 refine awp_loop [92,93,94,95,99,100,101,102,103,104,105,106,107,108,109,110,98,111,112,13,14,113,114,115,116,117,118,119,120,121,122,123,124,125,126,127,128,129,130,131,132,133,134,135,136,137,138,139,140,141,142,143,144,8,145,146,147,148,149,150,151,152,153,154,155,156,11,157,158,159,160,161,162,163,164,96,97,12] (fun k:{k:Nat // k≤l.length∧clK f ⟨xj,xm,xc,xk⟩ l k}=>[(12,(true,.int .i64 k.1)),(11,(true,.int .i64 (b4+airM f xm (l.take k.1))))]) (fun k=>hps [(2313,{base:=k.1,blks:=[]}),(2309,bkB ⟨b1,b2,b3,b4⟩),(2304,fS f),(2306,srS ⟨xj,xm,xc,xk⟩)] noH) (fun k=>l.length - k.1) ⟨0,by omega,by simp [clK]⟩ ?_ ?_ ?_
 ·simp [okAll,okv,airM]
 ·exact(by(try simp -dsimp only [hpx]); refine hle_hps ?_; simp -dsimp [allK,fS,srS,bkB,Sr.row,Bk.row]<;>exact rz)
 rintro⟨k,hk,hall⟩
 dsimp only
 have hak:=hai k
 have hlt:(l.take k).length≤30:=by simp; omega
 by_cases hk1:k<l.length
 ·have hki:(k:Int)<l.length:=by omega
  have wk:IntKind.wrap .i64 ((k:Int)+1)=(k+1:Nat):=wrap_id (by omega) (by omega)
  obtain⟨y,hy⟩:∃y,l[k]?=some y:=⟨_,List.getElem?_eq_getElem hk1⟩
  have hy':l[k]=y:=(List.getElem?_eq_some_iff.1 hy).2
  have hmem:y∈l:=hy' ▸ List.getElem_mem hk1
  have hYS:=hsr y hmem
  have hYJ:=hYS.jm hK
  have hYO:=hYS.bko
  have hYq:=hYS.q
  have hYb:=hYS.bk hf
  have hat:=airM_take f xm l hy
  have hcy:=hcl y
  have hbad:clB f ⟨xj,xm,xc,xk⟩ y=true→N=false:=fun h=>by
   have:l.any (clB f ⟨xj,xm,xc,xk⟩)=true:=List.any_eq_true.2 ⟨y,hmem,h⟩
   rw [hN,this]; simp
  have hnx:clB f ⟨xj,xm,xc,xk⟩ y=false→clK f ⟨xj,xm,xc,xk⟩ l (k+1):=fun h=>all_snoc hy hall h
  rw [hcy]at hbad hnx
  obtain⟨yj,ym,yc,yk⟩:=y
  generalize bkS f ⟨yj,ym,yc,yk⟩=Y at *
  obtain⟨y1,y2,y3,y4⟩:=Y
  simp only at hYJ hYO hYq hYb hat hbad hnx
  generalize hA1:airM f xm (l.take (k+1))=A1 at *
  generalize airM f xm (l.take k)=A0 at *
  have v1:IntKind.wrap .i64 (y3+f.turn)=y3+f.turn:=wrap_id (by omega) (by omega)
  have v2:IntKind.wrap .i64 (b4+A0+y4)=b4+A0+y4:=wrap_id (by omega) (by omega)
  by_cases d1:yj=xj
  ·have hN:=hbad (by simp [d1])
   replace d1:(yj=xj)=True:=eq_true d1
   simp -dsimp [hki,bkB,fS,srS]
   repeat' (first|omega|simp -dsimp [E23,ri,cellp,ints,hki,hk1,hy,hy',bkB,Sr.row,Bk.row,fl2E_dec,hYJ,hYO,hYq,FreeAt,FoOk,d1,hNv,hN]|refine aI ?_ fun _=>?_|refine oI fun _=>?_|refine nI ?_ ?_)
  replace d1:(yj=xj)=False:=eq_false d1
  by_cases d2:b1<y1
  ·have hN:=hbad (by simp [d2])
   simp -dsimp [hki,bkB,fS,srS]
   repeat' (first|omega|simp -dsimp [E23,ri,cellp,ints,hki,hk1,hy,hy',bkB,Sr.row,Bk.row,fl2E_dec,hYJ,hYO,hYq,FreeAt,FoOk,d1,d2,hNv,hN]|refine aI ?_ fun _=>?_|refine oI fun _=>?_|refine nI ?_ ?_)
  replace d2:(b1<y1)=False:=eq_false d2
  by_cases d3:b1=y1∧xj<yj
  ·have hN:=hbad (by simp [d3])
   obtain⟨d3,d4⟩:=d3
   simp -dsimp [hki,bkB,fS,srS]
   repeat' (first|omega|simp -dsimp [E23,ri,cellp,ints,hki,hk1,hy,hy',bkB,Sr.row,Bk.row,fl2E_dec,hYJ,hYO,hYq,FreeAt,FoOk,d1,d2,d3,d4,hNv,hN]|refine aI ?_ fun _=>?_|refine oI fun _=>?_|refine nI ?_ ?_)
  have hnx:¬ (ym=xm∧b1<y3+f.turn)→clK f ⟨xj,xm,xc,xk⟩ l (k+1):=fun h=>hnx (by simp only [d1,d2,d3,h,decide_false,Bool.or_false])
  have hbad:ym=xm∧b1<y3+f.turn→N=false:=fun h=>hbad (by rw [decide_eq_true h]; simp)
  rcases Classical.propComplete (b1=y1)with d4|d4<;>rcases Classical.propComplete (xj<yj)with d5|d5<;>rcases Classical.propComplete (ym=xm)with d6|d6<;>rcases Classical.propComplete (b1<y3+f.turn)with d7|d7
  all_goals
   simp only [d4,d5,and_true,true_and,and_false,false_and,not_true,not_false_iff]at d3
  all_goals
   simp only [d6,d7,and_true,true_and,and_false,false_and,not_true,not_false_iff,true_implies,false_implies,and_self]at hnx hbad
   simp only [d6,if_true,if_false]at hat
   simp -dsimp [hki,bkB,fS,srS]
   repeat' (first|omega|simp -dsimp [E23,ri,cellp,ints,hki,hk1,hy,hy',bkB,Sr.row,Bk.row,fl2E_dec,hYJ,hYO,hYq,FreeAt,FoOk,d1,d2,d4,d5,d6,d7,v1,v2,wk,hNv,hbad]|refine aI ?_ fun _=>?_|refine oI fun _=>?_|refine nI ?_ ?_)
  all_goals
   refine⟨k+1,tle_chain rfl ?_,?_,⟨by omega,hnx⟩,by omega⟩
   ·simp [okAll,okv,hA1,hat,Int.add_assoc]
   ·exact(by(try simp -dsimp only [hpx]); refine hle_hps ?_; simp -dsimp [allK,fS,srS,bkB,Sr.row,Bk.row]<;>exact rz)
 have hkn:¬ (k:Int)<l.length:=by omega
 have hke:k=l.length:=by omega
 subst hke
 have hcl0:l.any (clB f ⟨xj,xm,xc,xk⟩)=false:=List.any_eq_false.2 fun y hy=>by rw [hall y (by rw [List.take_length]; exact hy)]; simp
 rw [List.take_length]at hak ⊢
 rw [hcl0]at hN
 have hMP:MaP (f,xm):=⟨hK,r2⟩
 generalize hHr:hrF f xm.toNat=H at *
 generalize hA:airM f xm l=A at *
 have hmul : -100≤H * f.hour∧H * f.hour≤10000:=by
  constructor
  ·have:(-1:Int) * f.hour≤H * f.hour:=Int.mul_le_mul_of_nonneg_right (by omega) (by omega)
   omega
  ·have h1:H * f.hour≤100 * f.hour:=Int.mul_le_mul_of_nonneg_right (by omega) (by omega)
   omega
 have wm:IntKind.wrap .i64 (H * f.hour)=H * f.hour:=wrap_id (by omega) (by omega)
 generalize hHf:H * f.hour=HH at *
 by_cases c7:HH<b4+A
 ·have hN:N=false:=by rw [hN,decide_eq_false (by omega)]; simp
  simp -dsimp [hkn,bkB,fS,srS]
  repeat' (first|omega|simp -dsimp [E23,ri,cellp,ints,hkn,bkB,Sr.row,Bk.row,flnE_dec,hMP,hHr,hHf,wm,c7,hNv,hN]|refine aI ?_ fun _=>?_|refine oI fun _=>?_|refine nI ?_ ?_)
 rw [decide_eq_true (by omega:b4+A≤HH)]at hN
 replace c7:(HH<b4+A)=False:=eq_false c7
 obtain⟨xjn,rfl⟩:=Int.eq_ofNat_of_zero_le r1.1
 obtain⟨xmn,rfl⟩:=Int.eq_ofNat_of_zero_le r2.1
 simp only [Int.toNat_natCast]at hca hHr hbd hO hq
 have hj1:xjn<f.jobs.length:=by omega
 have hm1:xmn<f.cra.length:=by have:=hf.bas; have:=hf.cra; omega
 have hm1i:(xmn:Int)<f.cra.length:=by omega
 obtain⟨jb,hjb⟩:∃y,f.jobs[xjn]?=some y:=⟨_,List.getElem?_eq_getElem hj1⟩
 have hjb':f.jobs[xjn]=jb:=(List.getElem?_eq_some_iff.1 hjb).2
 obtain⟨cr,hcr⟩:∃y,f.cra[xmn]?=some y:=⟨_,List.getElem?_eq_getElem hm1⟩
 have hcr':f.cra[xmn]=cr:=(List.getElem?_eq_some_iff.1 hcr).2
 have hca:caF f ⟨xjn,xmn,xc,xk⟩=⟨b1,b3,cr,jb.wat⟩:=by rw [hca]; simp [jbA,List.getD,hjb,hcr]
 rw [hca]at hcb
 have hP:∃P:List (Int × Int),P=if callB ⟨b1,b3,cr,jb.wat⟩=true then crwL f.ros (duF f l) ⟨b1,b3,cr,jb.wat⟩else []:=⟨_,rfl⟩
 obtain⟨P,hP⟩:=hP
 have hcb:crB f l ⟨xjn,xmn,xc,xk⟩=inP (xc,xk) P P.length:=by
  rw [hcb,hP,inP,List.take_length]
  cases callB ⟨b1,b3,cr,jb.wat⟩<;>simp
 have hPl:P.length≤1000:=by
  rw [hP]; split
  ·rw [←crOb_end]
   have h1:=crOb_len f.ros (duF f l) ⟨b1,b3,cr,jb.wat⟩ f.ros.ppl.length
   have:f.ros.ppl.length * f.ros.ppl.length≤12 * 12:=Nat.mul_le_mul hp12 hp12
   omega
  ·simp
 have hjw:jb.row=[.int .i64 jb.a,.int .i64 jb.b,.int .i64 jb.dep,.int .i64 jb.val,.bool jb.wat]:=rfl
 rw [hcb]at hN
 simp -dsimp [hkn,bkB,fS,srS]
 repeat' (first|omega|simp -dsimp [E23,ri,cellp,ints,hkn,bkB,Sr.row,Bk.row,flnE_dec,hMP,hHr,hHf,wm,c7,hjb,hjb',hcr,hcr',hj1,hm1,hm1i,hjw,ri,flpE_dec,hD,crE_dec1,hchk,←hP]|refine aI ?_ fun _=>?_|refine oI fun _=>?_|refine nI ?_ ?_)
 refine awp_loop [201,202,203,204,207,208,209,210,211,212,213,214,215,216,217,218,219,17,205,206,18] (fun k:{k:Nat // k≤P.length}=>[(18,(true,.int .i64 k.1)),(17,(true,.bool (inP (xc,xk) P k.1)))]) (fun _=>hps [(2313,{base:=l.length,blks:=[]}),(2309,bkB ⟨b1,b2,b3,b4⟩),(2304,fS f),(2306,srS ⟨xjn,xmn,xc,xk⟩)] noH) (fun k=>P.length - k.1) ⟨0,by omega⟩ ?_ ?_ ?_
 ·simp [okAll,okv,inP]
 ·exact(by(try simp -dsimp only [hpx]); refine hle_hps ?_; simp -dsimp [allK,fS,srS,bkB,Sr.row,Bk.row]<;>exact rz)
 rintro⟨k,hk⟩
 dsimp only
 by_cases hk1:k<P.length
 ·have hki:(k:Int)<P.length:=by omega
  have wk:IntKind.wrap .i64 ((k:Int)+1)=(k+1:Nat):=wrap_id (by omega) (by omega)
  obtain⟨y,hy⟩:∃y,P[k]?=some y:=⟨_,List.getElem?_eq_getElem hk1⟩
  have hy':P[k]=y:=(List.getElem?_eq_some_iff.1 hy).2
  have hs:=inP_succ (p:=(xc,xk)) hy
  obtain⟨y1,y2⟩:=y
  simp only at hs
  generalize hI1:inP (xc,xk) P (k+1)=I1 at *
  cases hI:inP (xc,xk) P k<;>rw [hI]at hs<;>rcases Classical.propComplete (y1=xc)with d1|d1<;>rcases Classical.propComplete (y2=xk)with d2|d2
  all_goals
   simp only [d1,d2,and_self,and_true,true_and,and_false,false_and,decide_true,decide_false,Bool.or_true,Bool.or_false,Bool.true_or,Bool.false_or]at hs
   simp -dsimp [hki,bkB,fS,srS]
   repeat' (first|omega|simp -dsimp [E23,ri,cellp,ints,hki,hk1,hy,hy',prw,Sr.row,d1,d2,FreeAt,wk]|refine aI ?_ fun _=>?_|refine oI fun _=>?_|refine nI ?_ ?_)
   all_goals
    refine⟨k+1,tle_chain rfl ?_,HLe.refl _,by omega,by omega⟩
    simp [okAll,okv,hI1,hs,d1,d2]
 have hkn:¬ (k:Int)<P.length:=by omega
 have hke:k=P.length:=by omega
 subst hke
 have hll:(l.length+1) * 32≤140737488355328:=by omega
 cases c8:inP (xc,xk) P P.length<;>rw [c8]at hN
 ·have hN:N=false:=by rw [hN]; simp
  simp -dsimp [hkn,bkB,fS,srS]
  repeat' (first|omega|simp -dsimp [E23,ri,cellp,ints,hkn,Sr.row,FreeAt,hll,hNv,hN]|refine aI ?_ fun _=>?_|refine oI fun _=>?_|refine nI ?_ ?_)
 have hD60:(duF f (l++[⟨xjn,xmn,xc,xk⟩])).length≤1000:=by rw [duF_len]; have:=hf.dul; simp; omega
 have hCP:ChP (f.ros,duF f (l++[⟨xjn,xmn,xc,xk⟩])):=⟨by simp only; omega,by simp only; omega⟩
 by_cases c9:(chkE f.ros (duF f (l++[⟨xjn,xmn,xc,xk⟩]))).2=0
 ·have hN:N=covB f (l++[⟨xjn,xmn,xc,xk⟩]):=by rw [hN,decide_eq_true c9]; simp
  cases c10:covB f (l++[⟨xjn,xmn,xc,xk⟩])
  all_goals
   rw [c10]at hN
   simp -dsimp [hkn,bkB,fS,srS]
   repeat' (first|omega|simp -dsimp [E23,ri,cellp,ints,hkn,Sr.row,FreeAt,hll,flpE_dec2,hD2,chE_dec0,hCP,c9,c10,hNv,hN]|refine aI ?_ fun _=>?_|refine oI fun _=>?_|refine nI ?_ ?_)
 ·have hN:N=false:=by rw [hN,decide_eq_false c9]; simp
  replace c9:((chkE f.ros (duF f (l++[⟨xjn,xmn,xc,xk⟩]))).2=0)=False:=eq_false c9
  simp -dsimp [hkn,bkB,fS,srS]
  repeat' (first|omega|simp -dsimp [E23,ri,cellp,ints,hkn,Sr.row,FreeAt,hll,flpE_dec2,hD2,chE_dec0,hCP,c9,hNv,hN]|refine aI ?_ fun _=>?_|refine oI fun _=>?_|refine nI ?_ ?_)
theorem ok23:FO 23 nexS:=pf b23 (.cons ok53 (.cons ok54 (.cons ok55 (.cons ok56 (.cons ok57 (.cons ok59 (.cons ok58 (.cons ok52 (.cons ok60 .nil)))))))))
end Go.Sx
end
section
namespace Go.Sx
open Go.Proofs
attribute [local irreducible] HLe
structure CpP (d:Fl × List Sr):Prop where
 p:FlP d.1
 k:FlOk d.1→FlK d.1
 l:d.2.length≤100000000000000
def cpE (f:Fl) (l:List Sr):Int × Int:=if flE f=0 then (if bdP f l false<0 then (0,0)else (bdP f l false,111))else (0,flE f)
theorem cpE_zero {f:Fl} {l:List Sr}:(cpE f l).2=0↔FlOk f∧Good f false l:=by
 unfold cpE
 by_cases h:flE f=0
 ·rw [if_pos h]
  by_cases h2:bdP f l false<0
  ·rw [if_pos h2]
   refine⟨fun _=>⟨flE_zero.1 h,bdP_good.1 ?_⟩,fun _=>rfl⟩
   apply Classical.byContradiction
   intro hne
   obtain⟨k,_,e,_⟩:=idxZ_some (l:=List.range l.length) (p:=fun i=>!nxB f (l.take i) (l.getD i default) false) hne
   have e2:bdP f l false=idxZ (List.range l.length) fun i=>!nxB f (l.take i) (l.getD i default) false:=rfl
   omega
  ·rw [if_neg h2]
   refine⟨fun h=>by simp at h,fun h3=>?_⟩
   have:=bdP_good.2 h3.2
   omega
 ·rw [if_neg h]
  exact⟨fun h2=>absurd h2 h,fun h2=>absurd (flE_zero.2 h2.1) h⟩
abbrev cpS:PSpec:=mkP flpE CpP fun d=>.tup [.int .i64 (cpE d.1 d.2).1,.int .i64 (cpE d.1 d.2).2]
abbrev E10:Env:={P:=Tryz.prog,fn:=tbl [(22,.pure fchS),(23,.pure nexS)],own:=[],key:=1000,nt:=30,frz:=[(1,[2,50002])]}
theorem b10:PureBody E10 [] Tryz.f10 cpS:=by
 refine pb ?_
 rintro⟨f,l⟩ ⟨hP,hk,hl⟩
 simp only at hP hk hl
 by_cases e1:flE f=0
 case neg=>
  have hE:cpE f l=(0,flE f):=if_neg e1
  simp -dsimp [Tryz.f10,E10]
  repeat' (first|omega|simp -dsimp [E10,ri,cellp,ints,flOE_dec,hP,e1,hE]|refine aI ?_ fun _=>?_|refine oI fun _=>?_|refine nI ?_ ?_)
 have hf:=flE_zero.1 e1
 have hK:=hk hf
 have hE:cpE f l=if bdP f l false<0 then (0,0)else (bdP f l false,111):=if_pos e1
 simp -dsimp [Tryz.f10,E10]
 repeat' (first|omega|simp -dsimp [E10,ri,cellp,ints,flOE_dec,hP,e1]|refine aI ?_ fun _=>?_|refine oI fun _=>?_|refine nI ?_ ?_)
 refine awp_loop [13,14,15,16,19,20,21,22,23,24,25,26,27,28,29,4,5,17,18,7] (fun k:{k:Nat // k≤l.length∧Good f false (l.take k)}=>[(7,(true,.int .i64 k.1))]) (fun _=>hps [(1002,fS f)] noH) (fun k=>l.length - k.1) ⟨0,by omega,by rw [List.take_zero]; exact Good.nil⟩ ?_ ?_ ?_
 ·simp [okAll,okv]
 ·exact(by(try simp -dsimp only [hpx]); refine hle_hps ?_; simp -dsimp [allK,fS]<;>exact rz)
 rintro⟨k,hk,hall⟩
 dsimp only
 by_cases hk1:k<l.length
 ·have hki:(k:Int)<l.length:=by omega
  have hkl:k≤l.length:=by omega
  have wk:IntKind.wrap .i64 ((k:Int)+1)=(k+1:Nat):=wrap_id (by omega) (by omega)
  obtain⟨x,hx⟩:∃x,l[k]?=some x:=⟨_,List.getElem?_eq_getElem hk1⟩
  have hx':l[k]=x:=(List.getElem?_eq_some_iff.1 hx).2
  have hxd:l.getD k default=x:=by simp [List.getD,hx]
  have hbad:nxB f (l.take k) x false=false→bdP f l false=k:=fun h=>bdP_at hk1 hall (by rw [hxd]; exact h)
  have hnx:nxB f (l.take k) x false=true→Good f false (l.take (k+1)):=fun h=>Good.more hk1 hall (by rw [hxd]; exact h)
  have hmt:List.take k (l.map Sr.row)=(l.take k).map Sr.row:=by rw [List.map_take]
  generalize l.take k=lk at *
  obtain⟨xj,xm,xc,xk⟩:=x
  have hNP:NxP ⟨f,lk,⟨xj,xm,xc,xk⟩,true⟩:=⟨hK,hall.weak,rfl⟩
  cases c:nxB f lk ⟨xj,xm,xc,xk⟩ false
  ·have hb:=hbad c
   have hE:cpE f l=((k:Int),111):=by rw [hE,hb,if_neg (by omega)]
   simp -dsimp [hki]
   repeat' (first|omega|simp -dsimp [E10,ri,cellp,ints,hki,hk1,hkl,hx,hx',hmt,Sr.row,nxE_dec,hNP,c,hE]|refine aI ?_ fun _=>?_|refine oI fun _=>?_|refine nI ?_ ?_)
  ·have hnx:=hnx c
   simp -dsimp [hki]
   repeat' (first|omega|simp -dsimp [E10,ri,cellp,ints,hki,hk1,hkl,hx,hx',hmt,Sr.row,nxE_dec,hNP,c,wk]|refine aI ?_ fun _=>?_|refine oI fun _=>?_|refine nI ?_ ?_)
   refine⟨k+1,tle_chain rfl ?_,HLe.refl _,⟨by omega,hnx⟩,by omega⟩
   simp [okAll,okv]
 have hkn:¬ (k:Int)<l.length:=by omega
 have hke:k=l.length:=by omega
 subst hke
 rw [List.take_length]at hall
 have hb:=bdP_good.2 hall
 have hE:cpE f l=(0,0):=by rw [hE,hb,if_pos (by omega)]
 simp -dsimp [hkn]
 repeat' (first|omega|simp -dsimp [E10,ri,cellp,ints,hkn,hE]|refine aI ?_ fun _=>?_|refine oI fun _=>?_|refine nI ?_ ?_)
theorem ok10:FO 10 cpS:=pf b10 (.cons ok22 (.cons ok23 .nil))
end Go.Sx
end
end
