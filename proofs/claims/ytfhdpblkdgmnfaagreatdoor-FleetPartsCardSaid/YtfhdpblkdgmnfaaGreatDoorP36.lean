/- Parts: the reference's step. No conditions. -/
import Derived.Test.YtfhdpblkdgmnfaaGreatDoorP35
set_option linter.unusedSimpArgs false
set_option linter.unusedVariables false
set_option linter.unusedSectionVars false
set_option maxRecDepth 100000
set_option maxHeartbeats 8000000
noncomputable section
namespace Go.Sx
open Go.Proofs
attribute [local irreducible] HLe
attribute [local simp] hps_app
structure RtW where
 r:Reg
 t:RS
 w:Wk
 deriving Inhabited
@[simp] def rwE (d:RtW):List V:=[.agg d.r.row,.agg d.t.row,.agg d.w.row]
theorem rwE_inj (x y:RtW) (h:rwE x=rwE y):x=y:=by
 obtain⟨r,t,w⟩:=x; obtain⟨r',t',w'⟩:=y
 simp only [rwE,List.cons.injEq,V.agg.injEq,true_and,and_true]at h
 rw [Reg.row_inj _ _ h.1,RS.row_inj _ _ h.2.1,Wk.row_inj _ _ h.2.2]
theorem cop_go' (t:RS) (h:Hp):copS.go [.agg [.sl 2 (t.used.map cycV),.sl 2 (t.whr.map cycV),.sl 1 (t.iss.map rb),snV t.since,dnV t.done]] h=⟨t.Cp∧FreshC h∧Blank cpOwn h,.agg [.bsl 17607 0 t.used.length,.bsl 17610 0 t.whr.length,.bsl 17613 0 t.iss.length,lsV 17631 t.since.length,lsV 17642 t.done.length],Ob cpL t (bmp cpOwn 1000000 h)⟩:=cop_go t h
abbrev stepS:PSpec:=mkP rwE (fun d=>d.t.Wf d.r) fun d=>.tup [.agg (d.t.after d.r d.w).row,.bool (d.t.ok d.r d.w)]
theorem stRow (t:RS):t.row=[.sl 2 (t.used.map cycV),.sl 2 (t.whr.map cycV),.sl 1 (t.iss.map rb),snV t.since,dnV t.done]:=rfl
abbrev E109:Env:={P:=Tryz.prog,fn:=tbl [(176,.heap copS),(175,.pure withinS),(177,.pure rfliesS),(178,.pure rpartS)],own:=[],key:=10900,nt:=359}
theorem b109:PureBody E109 [] Tryz.f109 stepS:=by
 refine pb ?_
 rintro⟨r,t,⟨wk,wa,wb,wc⟩⟩ hwf
 simp only at hwf
 obtain⟨v1,v2,v3,v4,v5,v6,v7,v8⟩:=valid_facts hwf.val
 have hcp:=hwf.cp
 have hFr:∀S1 S2 S3 S4:Site,FreshC (hps [(10906,S1),(10905,S2),(10904,S3),(10903,S4)] noH):=by
  intro S1 S2 S3 S4 k hk
  rcases ck hk with rfl|rfl|rfl|rfl|rfl|rfl|rfl<;>simp
 have hBl:∀S1 S2 S3 S4:Site,Blank cpOwn (hps [(10906,S1),(10905,S2),(10904,S3),(10903,S4)] noH):=by
  intro S1 S2 S3 S4 k hk
  simp only [cpOwn,List.mem_cons,List.not_mem_nil,or_false]at hk
  rcases hk with rfl|rfl|rfl|rfl|rfl<;>simp
 have hrow:∀k a b c,Wk.row ⟨k,a,b,c⟩=[.int .i64 k,.int .i64 a,.int .i64 b,.int .i64 c]:=fun _ _ _ _=>rfl
 by_cases k1:wk=1
 ·subst k1
  have ho:t.ok r ⟨1,wa,wb,wc⟩=(withinB wa 0 (wsub r.machines 1) && (withinB wb 0 100 && (withinB wc 0 100 && (t.hi r).flies wa wb wc))):=by simp [RS.ok]
  have neg:∀a b c,t.ok r ⟨1,a,b,c⟩=false→t.after r ⟨1,a,b,c⟩=t:=fun a b c h1=>by simp [RS.after,h1]
  cases pa:withinB wa 0 (IntKind.wrap .i64 ((r.parts.length:Int) - 1))
  ·skip
   cases hb1:withinB wa 0 (IntKind.wrap .i64 (r.machines - 1))
   ·have h1:t.ok r ⟨1,wa,wb,wc⟩=false:=by rw [ho]; simp only [wsub,hb1]; rfl
    have h2:=neg _ _ _ h1
    simp only [h1,h2]
    simp -dsimp [Tryz.f109,E109,Reg.row,stRow,hrow,-lendN,-lend1]
    repeat' (first|omega|(exact sub0_snV _)|(exact sub0_dnV _)|(exact leaf_lsV _ _)|simp -dsimp [E109,ri,cellp,ints,-lendN,-lend1,cop_go',hcp,hFr,hBl,bmp,c_hset,stRow,hb1,pa]|refine aI ?_ fun _=>?_|refine oI fun _=>?_|refine nI ?_ ?_)
   cases hb2:withinB wb 0 100
   ·have h1:t.ok r ⟨1,wa,wb,wc⟩=false:=by rw [ho,hb2]; simp
    have h2:=neg _ _ _ h1
    simp only [h1,h2]
    simp -dsimp [Tryz.f109,E109,Reg.row,stRow,hrow,-lendN,-lend1]
    repeat' (first|omega|(exact sub0_snV _)|(exact sub0_dnV _)|(exact leaf_lsV _ _)|simp -dsimp [E109,ri,cellp,ints,-lendN,-lend1,cop_go',hcp,hFr,hBl,bmp,c_hset,stRow,hb1,hb2,pa]|refine aI ?_ fun _=>?_|refine oI fun _=>?_|refine nI ?_ ?_)
   cases hb3:withinB wc 0 100
   ·have h1:t.ok r ⟨1,wa,wb,wc⟩=false:=by rw [ho,hb3]; simp
    have h2:=neg _ _ _ h1
    simp only [h1,h2]
    simp -dsimp [Tryz.f109,E109,Reg.row,stRow,hrow,-lendN,-lend1]
    repeat' (first|omega|(exact sub0_snV _)|(exact sub0_dnV _)|(exact leaf_lsV _ _)|simp -dsimp [E109,ri,cellp,ints,-lendN,-lend1,cop_go',hcp,hFr,hBl,bmp,c_hset,stRow,hb1,hb2,hb3,pa]|refine aI ?_ fun _=>?_|refine oI fun _=>?_|refine nI ?_ ?_)
   cases hfl:(t.hi r).flies wa wb wc
   ·have h1:t.ok r ⟨1,wa,wb,wc⟩=false:=by rw [ho,hfl]; simp
    have h2:=neg _ _ _ h1
    simp only [h1,h2]
    simp -dsimp [Tryz.f109,E109,Reg.row,stRow,hrow,-lendN,-lend1]
    repeat' (first|omega|(exact sub0_snV _)|(exact sub0_dnV _)|(exact leaf_lsV _ _)|simp -dsimp [E109,ri,cellp,ints,-lendN,-lend1,cop_go',hcp,hFr,hBl,bmp,c_hset,stRow,hb1,hb2,hb3,rxE_dec',hwf,hfl,pa]|refine aI ?_ fun _=>?_|refine oI fun _=>?_|refine nI ?_ ?_)
   have h1:t.ok r ⟨1,wa,wb,wc⟩=true:=by rw [ho,hb2,hb3,hfl]; simp only [wsub,hb1]; rfl
   have h2:t.after r ⟨1,wa,wb,wc⟩=t.flyDo wa wb wc r.parts.length:=by simp [RS.after,h1,RS.act]
   simp only [h1,h2,RS.flyDo]
   simp -dsimp [Tryz.f109,E109,Reg.row,stRow,hrow,-lendN,-lend1]
   repeat' (first|omega|(exact sub0_snV _)|(exact sub0_dnV _)|(exact leaf_lsV _ _)|simp -dsimp [E109,ri,cellp,ints,-lendN,-lend1,cop_go',hcp,hFr,hBl,bmp,c_hset,stRow,hb1,hb2,hb3,rxE_dec',hwf,hfl,pa]|refine aI ?_ fun _=>?_|refine oI fun _=>?_|refine nI ?_ ?_)
   refine awp_loop [67,68,69,70,71,74,75,76,77,78,79,80,81,82,83,84,85,86,87,88,89,90,91,92,93,94,95,96,97,98,99,100,101,102,103,104,12,105,106,107,108,109,112,113,114,115,116,117,118,119,120,121,122,123,124,125,126,127,128,110,111,72,73,11] (fun k:Fin (r.parts.length+1)=>[(11,(true,.int .i64 (k.1:Nat)))])
    (fun k=>Ob cpL {t with used:=t.flyU wa wb wc k.1,since:=t.flyS wa wb k.1} (hps [(10908,{base:=0,blks:=[{z:=5,els:=[[.bsl 17607 0 t.used.length,.bsl 17610 0 t.whr.length,.bsl 17613 0 t.iss.length,lsV 17631 t.since.length,lsV 17642 t.done.length]],ty:=198,cl:=false}]}),(17601,{base:=1000000,blks:=[]}),(17602,{base:=1000000,blks:=[]}),(17603,{base:=1000000,blks:=[]}),(17630,{base:=1000000,blks:=[]}),(17641,{base:=1000000,blks:=[]}),(10906,{base:=0,blks:=[{z:=5,els:=[[.nil,.nil,.nil,.nil,.nil]],ty:=198}]}),(10905,{base:=0,blks:=[{z:=4,els:=[[.int .i64 1,.int .i64 wa,.int .i64 wb,.int .i64 wc]],ty:=73}]}),(10904,{base:=0,blks:=[{z:=5,els:=[[.sl 2 (t.used.map cycV),.sl 2 (t.whr.map cycV),.sl 1 (t.iss.map rb),snV t.since,dnV t.done]],ty:=198}]}),(10903,{base:=0,blks:=[{z:=4,els:=[[.sl 3 (r.kinds.map Kd.row),.sl 4 (r.parts.map Pt.row),.int .i64 r.machines,.sl 2 (r.orders.map Od.row)]],ty:=37}]})] noH)) (fun k=>r.parts.length - k.1) ⟨0,by omega⟩ ?_ ?_ ?_
   ·simp [okAll,okv]
   ·exact HLe.of_eq (by simp [RS.flyU,RS.flyS])
   rintro⟨k,hk⟩
   simp only
   have hUl:=flyU_len t wa wb wc k
   have hSl:=flyS_lens t wa wb k
   by_cases hk1:k<r.parts.length
   ·have hki:(k:Int)<r.parts.length:=by omega
    have hwk:IntKind.wrap .i64 ((k:Int)+1)=(k+1:Nat):=wrap_id (by omega) (by omega)
    have hkw:k<t.whr.length:=by rw [hwf.whr]; exact hk1
    have hku:k<t.used.length:=by rw [hwf.used]; exact hk1
    obtain⟨w,hw,hw'⟩:=get_ex hkw
    have hgw:t.whr.getD k (0,0)=w:=by simp [List.getD,hw]
    have hU:t.flyU wa wb wc (k+1)=if w.1=wa then (t.flyU wa wb wc k).set k (wadd ((t.flyU wa wb wc k).getD k (0,0)).1 wb,wadd ((t.flyU wa wb wc k).getD k (0,0)).2 wc)else t.flyU wa wb wc k:=by simp only [RS.flyU,hgw]
    have hS:t.flyS wa wb (k+1)=if w.1=wa then snAdd t.iss wb k (t.flyS wa wb k) t.iss.length else t.flyS wa wb k:=by simp only [RS.flyS,hgw]
    generalize t.flyU wa wb wc k=U at *
    generalize t.flyS wa wb k=S at *
    by_cases hm:w.1=wa
    case neg=>
     have hm':(w.1=wa)=False:=eq_false hm
     rw [if_neg hm]at hU hS
     simp -dsimp [hki]
     repeat' (first|omega|(exact sub0_snV _)|(exact sub0_dnV _)|(exact leaf_lsV _ _)|simp -dsimp [E109,ri,cellp,ints,-lendN,-lend1,hki,hk1,hw,hw',hkw,hwk,cycV,hm']|refine aI ?_ fun _=>?_|refine oI fun _=>?_|refine nI ?_ ?_)
     refine⟨⟨k+1,by omega⟩,tle_chain rfl ?_,HLe.of_eq (by simp only [hU,hS]),by simp only; omega⟩
     simp [okAll,okv]
    rw [if_pos hm]at hU hS
    have hkU:k<U.length:=by omega
    obtain⟨u,hu,hu'⟩:=get_ex hkU
    have hgu:U.getD k (0,0)=u:=by simp [List.getD,hu]
    rw [hgu]at hU
    obtain⟨s',f1,f1g,f1l,f2,f3,f3i,f3d,f4,f5,f6,f7⟩:∃s':Int × Int→List (List Int)→RS,(∀u sn,(s' u sn).used[k]?=some u)∧(∀u sn (h:k<(s' u sn).used.length),(s' u sn).used[k]=u)∧(∀u sn,(s' u sn).used.length=t.used.length)∧(∀u sn,(s' u sn).since=sn)∧(∀u sn,(s' u sn).whr=t.whr)∧(∀u sn,(s' u sn).iss=t.iss)∧(∀u sn,(s' u sn).done=t.done)∧
      (∀u sn x y h,hset (Ob cpL (s' u sn) h) 17607 0 {z:=2,els:=((s' u sn).used.map cycV).set k [.int .i64 x,.int .i64 y],ty:=77,fz:=false,cl:=true}=Ob cpL (s' (x,y) sn) h)∧
      (∀u sn o row x h,sn[o]?=some row→hset (Ob cpL (s' u sn) h) 17629 o {z:=1,els:=(row.map ri).set k [.int .i64 x],ty:=3,fz:=false,cl:=true}=Ob cpL (s' u (sn.set o (row.set k x))) h)∧
      ({t with used:=U,since:=S}:RS)=s' u S∧(∀q sn,({t with used:=U.set k q,since:=sn}:RS)=s' q sn):=by
     refine⟨fun u sn=>{t with used:=U.set k u,since:=sn},fun u sn=>by simp [hkU],fun u sn h=>by simp,fun u sn=>by simp [hUl],fun _ _=>rfl,fun _ _=>rfl,fun _ _=>rfl,fun _ _=>rfl,fun u sn x y h=>?_,fun u sn o row x h hr=>?_,?_,fun _ _=>rfl⟩
     ·have:=x_used (s:={t with used:=U.set k u,since:=sn}) (h:=h) (j:=k) x y
      simp only [List.set_set]at this
      exact this
     ·exact x_sn (s:={t with used:=U.set k u,since:=sn}) (h:=h) (i:=o) (j:=k) hr x
     ·simp only [set_id hu]
    rw [f6]
    clear f6
    simp -dsimp [hki]
    repeat' (first|omega|(exact sub0_snV _)|(exact sub0_dnV _)|(exact leaf_lsV _ _)|simp -dsimp [E109,ri,cellp,ints,-lendN,-lend1,hki,hk1,hw,hw',hkw,hku,cycV,hm,f1,f1g,f1l,f2,f3,f3i,f3d,f4]|refine aI ?_ fun _=>?_|refine oI fun _=>?_|refine nI ?_ ?_)
    refine awp_loop [105,106,107,108,109,112,113,114,115,116,117,118,119,120,121,122,123,124,125,126,127,128,110,111,12] (fun j:Fin (r.orders.length+1)=>[(12,(true,.int .i64 (j.1:Nat)))]) (fun j=>Ob cpL (s' (wadd u.1 wb,wadd u.2 wc) (snAdd t.iss wb k S j.1)) (hps [(10908,{base:=0,blks:=[{z:=5,els:=[[.bsl 17607 0 t.used.length,.bsl 17610 0 t.whr.length,.bsl 17613 0 t.iss.length,lsV 17631 t.since.length,lsV 17642 t.done.length]],ty:=198,cl:=false}]}),(17601,{base:=1000000,blks:=[]}),(17602,{base:=1000000,blks:=[]}),(17603,{base:=1000000,blks:=[]}),(17630,{base:=1000000,blks:=[]}),(17641,{base:=1000000,blks:=[]}),(10906,{base:=0,blks:=[{z:=5,els:=[[.nil,.nil,.nil,.nil,.nil]],ty:=198}]}),(10905,{base:=0,blks:=[{z:=4,els:=[[.int .i64 1,.int .i64 wa,.int .i64 wb,.int .i64 wc]],ty:=73}]}),(10904,{base:=0,blks:=[{z:=5,els:=[[.sl 2 (t.used.map cycV),.sl 2 (t.whr.map cycV),.sl 1 (t.iss.map rb),snV t.since,dnV t.done]],ty:=198}]}),(10903,{base:=0,blks:=[{z:=4,els:=[[.sl 3 (r.kinds.map Kd.row),.sl 4 (r.parts.map Pt.row),.int .i64 r.machines,.sl 2 (r.orders.map Od.row)]],ty:=37}]})] noH)) (fun j=>r.orders.length - j.1) ⟨0,by omega⟩ ?_ ?_ ?_
    ·simp [okAll,okv]
    ·exact HLe.of_eq (by simp [snAdd,wadd])
    rintro⟨j,hj⟩
    simp only
    by_cases hj1:j<r.orders.length
    ·have hji:(j:Int)<r.orders.length:=by omega
     have hwj:IntKind.wrap .i64 ((j:Int)+1)=(j+1:Nat):=wrap_id (by omega) (by omega)
     have hjs:j<t.iss.length:=by rw [hwf.iss]; exact hj1
     obtain⟨b,hb,hb'⟩:=get_ex hjs
     have hgb:t.iss.getD j false=b:=by simp [List.getD,hb]
     have hA:snAdd t.iss wb k S (j+1)=if b=true then (snAdd t.iss wb k S j).set j (((snAdd t.iss wb k S j).getD j []).set k (wadd (((snAdd t.iss wb k S j).getD j []).getD k 0) wb))else snAdd t.iss wb k S j:=by simp only [snAdd,hgb]
     have hQ:=(snAdd_lens t.iss wb k S j).trans hSl
     generalize snAdd t.iss wb k S j=Q at *
     have hQl:Q.length=t.since.length:=lens_len hQ
     have hQr:=lens_all hQ hwf.sincer
     have hjq:j<Q.length:=by rw [hQl,hwf.since]; exact hj1
     obtain⟨row,hrw,hrw'⟩:=get_ex hjq
     have hrl:row.length=r.parts.length:=hQr row (hrw' ▸ List.getElem_mem hjq)
     have hkr:k<row.length:=by rw [hrl]; exact hk1
     obtain⟨v,hv,hv'⟩:=get_ex hkr
     have hgr:Q.getD j []=row:=by simp [List.getD,hrw]
     have hgv:row.getD k 0=v:=by simp [List.getD,hv]
     rw [hgr,hgv]at hA
     cases b
     ·rw [if_neg (by simp)]at hA
      simp -dsimp [hji]
      repeat' (first|omega|(exact sub0_snV _)|(exact sub0_dnV _)|(exact leaf_lsV _ _)|simp -dsimp [E109,ri,cellp,ints,-lendN,-lend1,hji,hj1,hjs,hb,hb',hwj,f1,f1g,f1l,f2,f3,f3i,f3d,rb]|refine aI ?_ fun _=>?_|refine oI fun _=>?_|refine nI ?_ ?_)
      refine⟨⟨j+1,by omega⟩,tle_chain rfl ?_,HLe.of_eq (by simp only [hA]),by simp only; omega⟩
      simp [okAll,okv]
     ·rw [if_pos rfl]at hA
      have hlv:=lsV_ne (k:=17631) (n:=t.since.length) (by omega)
      have hlb:=lsB_ne (rows:=snR Q) (ty:=43) (by simp [snR]; omega)
      have hdn:(snR Q)[j]?=some [.bsl 17629 j row.length]:=by simp [snR,hrw]
      have hdn':∀h:j<(snR Q).length,(snR Q)[j]=[.bsl 17629 j row.length]:=fun h=>by rw [List.getElem?_eq_getElem h]at hdn; exact Option.some.inj hdn
      have hdl2:(snR Q).length=t.since.length:=by simp [snR,hQl]
      have hjt:j<t.since.length:=by omega
      have f5':=fun u x h=>f5 u Q j row x h hrw
      simp -dsimp [hji]
      repeat' (first|omega|(exact sub0_snV _)|(exact sub0_dnV _)|(exact leaf_lsV _ _)|simp -dsimp [E109,ri,cellp,ints,-lendN,-lend1,hji,hj1,hjs,hb,hb',hwj,f1,f1g,f1l,f2,f3,f3i,f3d,rb,hlv,hlb,hdn,hdn',hdl2,hjt,hjq,hrw,hrw',hkr,hrl,hk1,hki,hv,hv',ibB,ri,f5']|refine aI ?_ fun _=>?_|refine oI fun _=>?_|refine nI ?_ ?_)
      refine⟨⟨j+1,by omega⟩,tle_chain rfl ?_,HLe.of_eq (by simp only [hA,wadd,hlv]),by simp only; omega⟩
      simp [okAll,okv]
    ·have hje:j=r.orders.length:=by omega
     have hjn:¬ (j:Int)<r.orders.length:=by omega
     have hjo:r.orders.length=t.iss.length:=by rw [hwf.iss]
     subst hje
     simp -dsimp [hjn]
     repeat' (first|omega|(exact sub0_snV _)|(exact sub0_dnV _)|(exact leaf_lsV _ _)|simp -dsimp [E109,ri,cellp,ints,-lendN,-lend1,hjn,hwk]|refine aI ?_ fun _=>?_|refine oI fun _=>?_|refine nI ?_ ?_)
     refine⟨⟨k+1,by omega⟩,tle_kept (kept_upds rfl (kept_forget rfl (kept_upds rfl kept_base))) ?_,HLe.of_eq (by simp only [hU,hS,hjo,f7]),by simp only; omega⟩
     simp [okAll,okv]
   have hkn:¬ (k:Int)<r.parts.length:=by omega
   have hke:k=r.parts.length:=by omega
   subst hke
   have hSl2:=lens_len hSl
   simp -dsimp [hkn,-lendN,-lend1]
   repeat' (first|omega|(exact sub0_snV _)|(exact sub0_dnV _)|(exact leaf_lsV _ _)|simp -dsimp [E109,ri,cellp,ints,-lendN,-lend1,hkn,hUl,hSl2,stRow,c_hset]|refine aI ?_ fun _=>?_|refine oI fun _=>?_|refine nI ?_ ?_)
  ·obtain⟨ni,hwa,hni⟩:=withinB_nat (m:=r.parts.length) (by omega) pa
   subst hwa
   have hnw:ni<t.whr.length:=by rw [hwf.whr]; exact hni
   obtain⟨wp,hp,hp'⟩:=get_ex hnw
   cases hb1:withinB ni 0 (IntKind.wrap .i64 (r.machines - 1))
   ·have h1:t.ok r ⟨1,ni,wb,wc⟩=false:=by rw [ho]; simp only [wsub,hb1]; rfl
    have h2:=neg _ _ _ h1
    simp only [h1,h2]
    simp -dsimp [Tryz.f109,E109,Reg.row,stRow,hrow,-lendN,-lend1]
    repeat' (first|omega|(exact sub0_snV _)|(exact sub0_dnV _)|(exact leaf_lsV _ _)|simp -dsimp [E109,ri,cellp,ints,-lendN,-lend1,cop_go',hcp,hFr,hBl,bmp,c_hset,stRow,hb1,pa,hni,hnw,hp,hp',cycV]|refine aI ?_ fun _=>?_|refine oI fun _=>?_|refine nI ?_ ?_)
   cases hb2:withinB wb 0 100
   ·have h1:t.ok r ⟨1,ni,wb,wc⟩=false:=by rw [ho,hb2]; simp
    have h2:=neg _ _ _ h1
    simp only [h1,h2]
    simp -dsimp [Tryz.f109,E109,Reg.row,stRow,hrow,-lendN,-lend1]
    repeat' (first|omega|(exact sub0_snV _)|(exact sub0_dnV _)|(exact leaf_lsV _ _)|simp -dsimp [E109,ri,cellp,ints,-lendN,-lend1,cop_go',hcp,hFr,hBl,bmp,c_hset,stRow,hb1,hb2,pa,hni,hnw,hp,hp',cycV]|refine aI ?_ fun _=>?_|refine oI fun _=>?_|refine nI ?_ ?_)
   cases hb3:withinB wc 0 100
   ·have h1:t.ok r ⟨1,ni,wb,wc⟩=false:=by rw [ho,hb3]; simp
    have h2:=neg _ _ _ h1
    simp only [h1,h2]
    simp -dsimp [Tryz.f109,E109,Reg.row,stRow,hrow,-lendN,-lend1]
    repeat' (first|omega|(exact sub0_snV _)|(exact sub0_dnV _)|(exact leaf_lsV _ _)|simp -dsimp [E109,ri,cellp,ints,-lendN,-lend1,cop_go',hcp,hFr,hBl,bmp,c_hset,stRow,hb1,hb2,hb3,pa,hni,hnw,hp,hp',cycV]|refine aI ?_ fun _=>?_|refine oI fun _=>?_|refine nI ?_ ?_)
   cases hfl:(t.hi r).flies ni wb wc
   ·have h1:t.ok r ⟨1,ni,wb,wc⟩=false:=by rw [ho,hfl]; simp
    have h2:=neg _ _ _ h1
    simp only [h1,h2]
    simp -dsimp [Tryz.f109,E109,Reg.row,stRow,hrow,-lendN,-lend1]
    repeat' (first|omega|(exact sub0_snV _)|(exact sub0_dnV _)|(exact leaf_lsV _ _)|simp -dsimp [E109,ri,cellp,ints,-lendN,-lend1,cop_go',hcp,hFr,hBl,bmp,c_hset,stRow,hb1,hb2,hb3,rxE_dec',hwf,hfl,pa,hni,hnw,hp,hp',cycV]|refine aI ?_ fun _=>?_|refine oI fun _=>?_|refine nI ?_ ?_)
   have h1:t.ok r ⟨1,ni,wb,wc⟩=true:=by rw [ho,hb2,hb3,hfl]; simp only [wsub,hb1]; rfl
   have h2:t.after r ⟨1,ni,wb,wc⟩=t.flyDo ni wb wc r.parts.length:=by simp [RS.after,h1,RS.act]
   simp only [h1,h2,RS.flyDo]
   simp -dsimp [Tryz.f109,E109,Reg.row,stRow,hrow,-lendN,-lend1]
   repeat' (first|omega|(exact sub0_snV _)|(exact sub0_dnV _)|(exact leaf_lsV _ _)|simp -dsimp [E109,ri,cellp,ints,-lendN,-lend1,cop_go',hcp,hFr,hBl,bmp,c_hset,stRow,hb1,hb2,hb3,rxE_dec',hwf,hfl,pa,hni,hnw,hp,hp',cycV]|refine aI ?_ fun _=>?_|refine oI fun _=>?_|refine nI ?_ ?_)
   refine awp_loop [67,68,69,70,71,74,75,76,77,78,79,80,81,82,83,84,85,86,87,88,89,90,91,92,93,94,95,96,97,98,99,100,101,102,103,104,12,105,106,107,108,109,112,113,114,115,116,117,118,119,120,121,122,123,124,125,126,127,128,110,111,72,73,11] (fun k:Fin (r.parts.length+1)=>[(11,(true,.int .i64 (k.1:Nat)))])
    (fun k=>Ob cpL {t with used:=t.flyU ni wb wc k.1,since:=t.flyS ni wb k.1} (hps [(10908,{base:=0,blks:=[{z:=5,els:=[[.bsl 17607 0 t.used.length,.bsl 17610 0 t.whr.length,.bsl 17613 0 t.iss.length,lsV 17631 t.since.length,lsV 17642 t.done.length]],ty:=198,cl:=false}]}),(17601,{base:=1000000,blks:=[]}),(17602,{base:=1000000,blks:=[]}),(17603,{base:=1000000,blks:=[]}),(17630,{base:=1000000,blks:=[]}),(17641,{base:=1000000,blks:=[]}),(10906,{base:=0,blks:=[{z:=5,els:=[[.nil,.nil,.nil,.nil,.nil]],ty:=198}]}),(10905,{base:=0,blks:=[{z:=4,els:=[[.int .i64 1,.int .i64 ni,.int .i64 wb,.int .i64 wc]],ty:=73}]}),(10904,{base:=0,blks:=[{z:=5,els:=[[.sl 2 (t.used.map cycV),.sl 2 (t.whr.map cycV),.sl 1 (t.iss.map rb),snV t.since,dnV t.done]],ty:=198}]}),(10903,{base:=0,blks:=[{z:=4,els:=[[.sl 3 (r.kinds.map Kd.row),.sl 4 (r.parts.map Pt.row),.int .i64 r.machines,.sl 2 (r.orders.map Od.row)]],ty:=37}]})] noH)) (fun k=>r.parts.length - k.1) ⟨0,by omega⟩ ?_ ?_ ?_
   ·simp [okAll,okv]
   ·exact HLe.of_eq (by simp [RS.flyU,RS.flyS])
   rintro⟨k,hk⟩
   simp only
   have hUl:=flyU_len t ni wb wc k
   have hSl:=flyS_lens t ni wb k
   by_cases hk1:k<r.parts.length
   ·have hki:(k:Int)<r.parts.length:=by omega
    have hwk:IntKind.wrap .i64 ((k:Int)+1)=(k+1:Nat):=wrap_id (by omega) (by omega)
    have hkw:k<t.whr.length:=by rw [hwf.whr]; exact hk1
    have hku:k<t.used.length:=by rw [hwf.used]; exact hk1
    obtain⟨w,hw,hw'⟩:=get_ex hkw
    have hgw:t.whr.getD k (0,0)=w:=by simp [List.getD,hw]
    have hU:t.flyU ni wb wc (k+1)=if w.1=ni then (t.flyU ni wb wc k).set k (wadd ((t.flyU ni wb wc k).getD k (0,0)).1 wb,wadd ((t.flyU ni wb wc k).getD k (0,0)).2 wc)else t.flyU ni wb wc k:=by simp only [RS.flyU,hgw]
    have hS:t.flyS ni wb (k+1)=if w.1=ni then snAdd t.iss wb k (t.flyS ni wb k) t.iss.length else t.flyS ni wb k:=by simp only [RS.flyS,hgw]
    generalize t.flyU ni wb wc k=U at *
    generalize t.flyS ni wb k=S at *
    by_cases hm:w.1=ni
    case neg=>
     have hm':(w.1=ni)=False:=eq_false hm
     rw [if_neg hm]at hU hS
     simp -dsimp [hki]
     repeat' (first|omega|(exact sub0_snV _)|(exact sub0_dnV _)|(exact leaf_lsV _ _)|simp -dsimp [E109,ri,cellp,ints,-lendN,-lend1,hki,hk1,hw,hw',hkw,hwk,cycV,hm']|refine aI ?_ fun _=>?_|refine oI fun _=>?_|refine nI ?_ ?_)
     refine⟨⟨k+1,by omega⟩,tle_chain rfl ?_,HLe.of_eq (by simp only [hU,hS]),by simp only; omega⟩
     simp [okAll,okv]
    rw [if_pos hm]at hU hS
    have hkU:k<U.length:=by omega
    obtain⟨u,hu,hu'⟩:=get_ex hkU
    have hgu:U.getD k (0,0)=u:=by simp [List.getD,hu]
    rw [hgu]at hU
    obtain⟨s',f1,f1g,f1l,f2,f3,f3i,f3d,f4,f5,f6,f7⟩:∃s':Int × Int→List (List Int)→RS,(∀u sn,(s' u sn).used[k]?=some u)∧(∀u sn (h:k<(s' u sn).used.length),(s' u sn).used[k]=u)∧(∀u sn,(s' u sn).used.length=t.used.length)∧(∀u sn,(s' u sn).since=sn)∧(∀u sn,(s' u sn).whr=t.whr)∧(∀u sn,(s' u sn).iss=t.iss)∧(∀u sn,(s' u sn).done=t.done)∧
      (∀u sn x y h,hset (Ob cpL (s' u sn) h) 17607 0 {z:=2,els:=((s' u sn).used.map cycV).set k [.int .i64 x,.int .i64 y],ty:=77,fz:=false,cl:=true}=Ob cpL (s' (x,y) sn) h)∧
      (∀u sn o row x h,sn[o]?=some row→hset (Ob cpL (s' u sn) h) 17629 o {z:=1,els:=(row.map ri).set k [.int .i64 x],ty:=3,fz:=false,cl:=true}=Ob cpL (s' u (sn.set o (row.set k x))) h)∧
      ({t with used:=U,since:=S}:RS)=s' u S∧(∀q sn,({t with used:=U.set k q,since:=sn}:RS)=s' q sn):=by
     refine⟨fun u sn=>{t with used:=U.set k u,since:=sn},fun u sn=>by simp [hkU],fun u sn h=>by simp,fun u sn=>by simp [hUl],fun _ _=>rfl,fun _ _=>rfl,fun _ _=>rfl,fun _ _=>rfl,fun u sn x y h=>?_,fun u sn o row x h hr=>?_,?_,fun _ _=>rfl⟩
     ·have:=x_used (s:={t with used:=U.set k u,since:=sn}) (h:=h) (j:=k) x y
      simp only [List.set_set]at this
      exact this
     ·exact x_sn (s:={t with used:=U.set k u,since:=sn}) (h:=h) (i:=o) (j:=k) hr x
     ·simp only [set_id hu]
    rw [f6]
    clear f6
    simp -dsimp [hki]
    repeat' (first|omega|(exact sub0_snV _)|(exact sub0_dnV _)|(exact leaf_lsV _ _)|simp -dsimp [E109,ri,cellp,ints,-lendN,-lend1,hki,hk1,hw,hw',hkw,hku,cycV,hm,f1,f1g,f1l,f2,f3,f3i,f3d,f4]|refine aI ?_ fun _=>?_|refine oI fun _=>?_|refine nI ?_ ?_)
    refine awp_loop [105,106,107,108,109,112,113,114,115,116,117,118,119,120,121,122,123,124,125,126,127,128,110,111,12] (fun j:Fin (r.orders.length+1)=>[(12,(true,.int .i64 (j.1:Nat)))]) (fun j=>Ob cpL (s' (wadd u.1 wb,wadd u.2 wc) (snAdd t.iss wb k S j.1)) (hps [(10908,{base:=0,blks:=[{z:=5,els:=[[.bsl 17607 0 t.used.length,.bsl 17610 0 t.whr.length,.bsl 17613 0 t.iss.length,lsV 17631 t.since.length,lsV 17642 t.done.length]],ty:=198,cl:=false}]}),(17601,{base:=1000000,blks:=[]}),(17602,{base:=1000000,blks:=[]}),(17603,{base:=1000000,blks:=[]}),(17630,{base:=1000000,blks:=[]}),(17641,{base:=1000000,blks:=[]}),(10906,{base:=0,blks:=[{z:=5,els:=[[.nil,.nil,.nil,.nil,.nil]],ty:=198}]}),(10905,{base:=0,blks:=[{z:=4,els:=[[.int .i64 1,.int .i64 ni,.int .i64 wb,.int .i64 wc]],ty:=73}]}),(10904,{base:=0,blks:=[{z:=5,els:=[[.sl 2 (t.used.map cycV),.sl 2 (t.whr.map cycV),.sl 1 (t.iss.map rb),snV t.since,dnV t.done]],ty:=198}]}),(10903,{base:=0,blks:=[{z:=4,els:=[[.sl 3 (r.kinds.map Kd.row),.sl 4 (r.parts.map Pt.row),.int .i64 r.machines,.sl 2 (r.orders.map Od.row)]],ty:=37}]})] noH)) (fun j=>r.orders.length - j.1) ⟨0,by omega⟩ ?_ ?_ ?_
    ·simp [okAll,okv]
    ·exact HLe.of_eq (by simp [snAdd,wadd])
    rintro⟨j,hj⟩
    simp only
    by_cases hj1:j<r.orders.length
    ·have hji:(j:Int)<r.orders.length:=by omega
     have hwj:IntKind.wrap .i64 ((j:Int)+1)=(j+1:Nat):=wrap_id (by omega) (by omega)
     have hjs:j<t.iss.length:=by rw [hwf.iss]; exact hj1
     obtain⟨b,hb,hb'⟩:=get_ex hjs
     have hgb:t.iss.getD j false=b:=by simp [List.getD,hb]
     have hA:snAdd t.iss wb k S (j+1)=if b=true then (snAdd t.iss wb k S j).set j (((snAdd t.iss wb k S j).getD j []).set k (wadd (((snAdd t.iss wb k S j).getD j []).getD k 0) wb))else snAdd t.iss wb k S j:=by simp only [snAdd,hgb]
     have hQ:=(snAdd_lens t.iss wb k S j).trans hSl
     generalize snAdd t.iss wb k S j=Q at *
     have hQl:Q.length=t.since.length:=lens_len hQ
     have hQr:=lens_all hQ hwf.sincer
     have hjq:j<Q.length:=by rw [hQl,hwf.since]; exact hj1
     obtain⟨row,hrw,hrw'⟩:=get_ex hjq
     have hrl:row.length=r.parts.length:=hQr row (hrw' ▸ List.getElem_mem hjq)
     have hkr:k<row.length:=by rw [hrl]; exact hk1
     obtain⟨v,hv,hv'⟩:=get_ex hkr
     have hgr:Q.getD j []=row:=by simp [List.getD,hrw]
     have hgv:row.getD k 0=v:=by simp [List.getD,hv]
     rw [hgr,hgv]at hA
     cases b
     ·rw [if_neg (by simp)]at hA
      simp -dsimp [hji]
      repeat' (first|omega|(exact sub0_snV _)|(exact sub0_dnV _)|(exact leaf_lsV _ _)|simp -dsimp [E109,ri,cellp,ints,-lendN,-lend1,hji,hj1,hjs,hb,hb',hwj,f1,f1g,f1l,f2,f3,f3i,f3d,rb]|refine aI ?_ fun _=>?_|refine oI fun _=>?_|refine nI ?_ ?_)
      refine⟨⟨j+1,by omega⟩,tle_chain rfl ?_,HLe.of_eq (by simp only [hA]),by simp only; omega⟩
      simp [okAll,okv]
     ·rw [if_pos rfl]at hA
      have hlv:=lsV_ne (k:=17631) (n:=t.since.length) (by omega)
      have hlb:=lsB_ne (rows:=snR Q) (ty:=43) (by simp [snR]; omega)
      have hdn:(snR Q)[j]?=some [.bsl 17629 j row.length]:=by simp [snR,hrw]
      have hdn':∀h:j<(snR Q).length,(snR Q)[j]=[.bsl 17629 j row.length]:=fun h=>by rw [List.getElem?_eq_getElem h]at hdn; exact Option.some.inj hdn
      have hdl2:(snR Q).length=t.since.length:=by simp [snR,hQl]
      have hjt:j<t.since.length:=by omega
      have f5':=fun u x h=>f5 u Q j row x h hrw
      simp -dsimp [hji]
      repeat' (first|omega|(exact sub0_snV _)|(exact sub0_dnV _)|(exact leaf_lsV _ _)|simp -dsimp [E109,ri,cellp,ints,-lendN,-lend1,hji,hj1,hjs,hb,hb',hwj,f1,f1g,f1l,f2,f3,f3i,f3d,rb,hlv,hlb,hdn,hdn',hdl2,hjt,hjq,hrw,hrw',hkr,hrl,hk1,hki,hv,hv',ibB,ri,f5']|refine aI ?_ fun _=>?_|refine oI fun _=>?_|refine nI ?_ ?_)
      refine⟨⟨j+1,by omega⟩,tle_chain rfl ?_,HLe.of_eq (by simp only [hA,wadd,hlv]),by simp only; omega⟩
      simp [okAll,okv]
    ·have hje:j=r.orders.length:=by omega
     have hjn:¬ (j:Int)<r.orders.length:=by omega
     have hjo:r.orders.length=t.iss.length:=by rw [hwf.iss]
     subst hje
     simp -dsimp [hjn]
     repeat' (first|omega|(exact sub0_snV _)|(exact sub0_dnV _)|(exact leaf_lsV _ _)|simp -dsimp [E109,ri,cellp,ints,-lendN,-lend1,hjn,hwk]|refine aI ?_ fun _=>?_|refine oI fun _=>?_|refine nI ?_ ?_)
     refine⟨⟨k+1,by omega⟩,tle_kept (kept_upds rfl (kept_forget rfl (kept_upds rfl kept_base))) ?_,HLe.of_eq (by simp only [hU,hS,hjo,f7]),by simp only; omega⟩
     simp [okAll,okv]
   have hkn:¬ (k:Int)<r.parts.length:=by omega
   have hke:k=r.parts.length:=by omega
   subst hke
   have hSl2:=lens_len hSl
   simp -dsimp [hkn,-lendN,-lend1]
   repeat' (first|omega|(exact sub0_snV _)|(exact sub0_dnV _)|(exact leaf_lsV _ _)|simp -dsimp [E109,ri,cellp,ints,-lendN,-lend1,hkn,hUl,hSl2,stRow,c_hset]|refine aI ?_ fun _=>?_|refine oI fun _=>?_|refine nI ?_ ?_)
 by_cases k2:wk=2
 ·subst k2
  have ho:t.ok r ⟨2,wa,wb,wc⟩=((RS.partA r wa && (t.whr.getD wa.toNat (0,0)).1 == -1) && ((r.parts.getD wa.toNat default).known && (withinB wb 0 (wsub r.machines 1) && (withinB wc 0 (wsub (r.kinds.getD (r.parts.getD wa.toNat default).kind.toNat default).places 1) && decide ((t.hi r).at (r.parts.getD wa.toNat default).kind wb wc<0))))):=by simp [RS.ok,RS.stored]
  have neg:∀a b c,t.ok r ⟨2,a,b,c⟩=false→t.after r ⟨2,a,b,c⟩=t:=fun a b c h1=>by simp [RS.after,h1]
  cases pa:RS.partA r wa
  ·have h1:t.ok r ⟨2,wa,wb,wc⟩=false:=by rw [ho,pa]; rfl
   have h2:=neg _ _ _ h1
   simp only [h1,h2]
   simp only [RS.partA,wsub]at pa
   simp -dsimp [Tryz.f109,E109,Reg.row,stRow,hrow,-lendN,-lend1]
   repeat' (first|omega|(exact sub0_snV _)|(exact sub0_dnV _)|(exact leaf_lsV _ _)|simp -dsimp [E109,ri,cellp,ints,-lendN,-lend1,cop_go',hcp,hFr,hBl,bmp,c_hset,stRow,pa]|refine aI ?_ fun _=>?_|refine oI fun _=>?_|refine nI ?_ ?_)
  obtain⟨ni,rfl,hni⟩:=withinB_nat (m:=r.parts.length) (by omega) pa
  have hnw:ni<t.whr.length:=by rw [hwf.whr]; exact hni
  obtain⟨wp,hp,hp'⟩:=get_ex hnw
  obtain⟨pt,hpt,hpt'⟩:=get_ex hni
  have hgp:r.parts.getD ni default=pt:=by simp [List.getD,hpt]
  have hgw:t.whr.getD ni (0,0)=wp:=by simp [List.getD,hp]
  have hpb:=v7 pt (hpt' ▸ List.getElem_mem hni)
  obtain⟨ki,hki⟩:∃ki:Nat,pt.kind=ki:=⟨pt.kind.toNat,by omega⟩
  have hk2:ki<r.kinds.length:=by omega
  obtain⟨kd,hkd,hkd'⟩:=get_ex hk2
  have hgk:r.kinds.getD ki default=kd:=by simp [List.getD,hkd]
  rw [pa,Int.toNat_natCast,hgp,hgw,hki,Int.toNat_natCast,hgk]at ho
  simp only [RS.partA,wsub]at pa
  by_cases hp1:wp.1 = -1
  case neg=>
   have hp1':(wp.1 == -1)=false:=by simpa using hp1
   have h1:t.ok r ⟨2,ni,wb,wc⟩=false:=by rw [ho]; simp [hp1]
   have h2:=neg _ _ _ h1
   simp only [h1,h2]
   simp -dsimp [Tryz.f109,E109,Reg.row,stRow,hrow,-lendN,-lend1]
   repeat' (first|omega|(exact sub0_snV _)|(exact sub0_dnV _)|(exact leaf_lsV _ _)|simp -dsimp [E109,ri,cellp,ints,-lendN,-lend1,cop_go',hcp,hFr,hBl,bmp,c_hset,stRow,pa,hni,hnw,hp,hp',cycV,hp1,hp1']|refine aI ?_ fun _=>?_|refine oI fun _=>?_|refine nI ?_ ?_)
  cases hkn:pt.known
  ·have h1:t.ok r ⟨2,ni,wb,wc⟩=false:=by rw [ho,hkn]; simp
   have h2:=neg _ _ _ h1
   simp only [h1,h2]
   simp -dsimp [Tryz.f109,E109,Reg.row,stRow,hrow,-lendN,-lend1]
   repeat' (first|omega|(exact sub0_snV _)|(exact sub0_dnV _)|(exact leaf_lsV _ _)|simp -dsimp [E109,ri,cellp,ints,-lendN,-lend1,cop_go',hcp,hFr,hBl,bmp,c_hset,stRow,pa,hni,hnw,hp,hp',cycV,hp1,hpt,hpt',Pt.row,hkn]|refine aI ?_ fun _=>?_|refine oI fun _=>?_|refine nI ?_ ?_)
  cases hb:withinB wb 0 (IntKind.wrap .i64 (r.machines - 1))
  ·have h1:t.ok r ⟨2,ni,wb,wc⟩=false:=by rw [ho]; simp only [wsub,hb]; simp
   have h2:=neg _ _ _ h1
   simp only [h1,h2]
   simp -dsimp [Tryz.f109,E109,Reg.row,stRow,hrow,-lendN,-lend1]
   repeat' (first|omega|(exact sub0_snV _)|(exact sub0_dnV _)|(exact leaf_lsV _ _)|simp -dsimp [E109,ri,cellp,ints,-lendN,-lend1,cop_go',hcp,hFr,hBl,bmp,c_hset,stRow,pa,hni,hnw,hp,hp',cycV,hp1,hpt,hpt',Pt.row,hkn,hb]|refine aI ?_ fun _=>?_|refine oI fun _=>?_|refine nI ?_ ?_)
  cases hc:withinB wc 0 (IntKind.wrap .i64 (kd.places - 1))
  ·have h1:t.ok r ⟨2,ni,wb,wc⟩=false:=by rw [ho]; simp only [wsub,hc]; simp
   have h2:=neg _ _ _ h1
   simp only [h1,h2]
   simp -dsimp [Tryz.f109,E109,Reg.row,stRow,hrow,-lendN,-lend1]
   repeat' (first|omega|(exact sub0_snV _)|(exact sub0_dnV _)|(exact leaf_lsV _ _)|simp -dsimp [E109,ri,cellp,ints,-lendN,-lend1,cop_go',hcp,hFr,hBl,bmp,c_hset,stRow,pa,hni,hnw,hp,hp',cycV,hp1,hpt,hpt',Pt.row,hkn,hb,hki,hk2,hkd,hkd',Kd.row,hc]|refine aI ?_ fun _=>?_|refine oI fun _=>?_|refine nI ?_ ?_)
  by_cases hat:(t.hi r).at ki wb wc<0
  case neg=>
   have hat':0≤(t.hi r).at ki wb wc:=by omega
   have h1:t.ok r ⟨2,ni,wb,wc⟩=false:=by rw [ho,decide_eq_false hat]; simp
   have h2:=neg _ _ _ h1
   simp only [h1,h2]
   simp -dsimp [Tryz.f109,E109,Reg.row,stRow,hrow,-lendN,-lend1]
   repeat' (first|omega|(exact sub0_snV _)|(exact sub0_dnV _)|(exact leaf_lsV _ _)|simp -dsimp [E109,ri,cellp,ints,-lendN,-lend1,cop_go',hcp,hFr,hBl,bmp,c_hset,stRow,pa,hni,hnw,hp,hp',cycV,hp1,hpt,hpt',Pt.row,hkn,hb,hki,hk2,hkd,hkd',Kd.row,hc,rxE_dec',hwf,hat']|refine aI ?_ fun _=>?_|refine oI fun _=>?_|refine nI ?_ ?_)
  have hat':¬ 0≤(t.hi r).at ki wb wc:=by omega
  have h1:t.ok r ⟨2,ni,wb,wc⟩=true:=by rw [ho,decide_eq_true hat]; simp only [wsub,hp1,hkn,hb,hc]; rfl
  have h2:t.after r ⟨2,ni,wb,wc⟩={t with whr:=t.whr.set ni (wb,wc)}:=by simp [RS.after,h1,RS.act]
  simp only [h1,h2]
  have hw:=fun h=>x_whr (s:=t) (h:=h) (j:=ni) wb wc
  simp -dsimp [Tryz.f109,E109,Reg.row,stRow,hrow,-lendN,-lend1]
  repeat' (first|omega|(exact sub0_snV _)|(exact sub0_dnV _)|(exact leaf_lsV _ _)|simp -dsimp [E109,ri,cellp,ints,-lendN,-lend1,cop_go',hcp,hFr,hBl,bmp,c_hset,stRow,pa,hni,hnw,hp,hp',cycV,hp1,hpt,hpt',Pt.row,hkn,hb,hki,hk2,hkd,hkd',Kd.row,hc,rxE_dec',hwf,hat',hw]|refine aI ?_ fun _=>?_|refine oI fun _=>?_|refine nI ?_ ?_)
 by_cases k3:wk=3
 ·subst k3
  have ho:t.ok r ⟨3,wa,wb,wc⟩=(RS.partA r wa && (decide (0≤(t.whr.getD wa.toNat (0,0)).1) && (wb == 0 && wc == 0))):=by simp [RS.ok,Wk.alone]
  cases pa:RS.partA r wa
  ·have h1:t.ok r ⟨3,wa,wb,wc⟩=false:=by rw [ho,pa]; rfl
   have h2:t.after r ⟨3,wa,wb,wc⟩=t:=by simp [RS.after,h1]
   simp only [h1,h2]
   simp only [RS.partA,wsub]at pa
   simp -dsimp [Tryz.f109,E109,Reg.row,stRow,hrow,-lendN,-lend1]
   repeat' (first|omega|(exact sub0_snV _)|(exact sub0_dnV _)|(exact leaf_lsV _ _)|simp -dsimp [E109,ri,cellp,ints,-lendN,-lend1,cop_go',hcp,hFr,hBl,bmp,c_hset,stRow,pa]|refine aI ?_ fun _=>?_|refine oI fun _=>?_|refine nI ?_ ?_)
  obtain⟨ni,rfl,hni⟩:=withinB_nat (m:=r.parts.length) (by omega) pa
  have hnw:ni<t.whr.length:=by rw [hwf.whr]; exact hni
  obtain⟨p,hp,hp'⟩:=get_ex hnw
  have hg:t.whr.getD ni (0,0)=p:=by simp [List.getD,hp]
  rw [pa,Int.toNat_natCast,hg]at ho
  simp only [RS.partA,wsub]at pa
  by_cases hp1:p.1<0
  ·have h1:t.ok r ⟨3,ni,wb,wc⟩=false:=by rw [ho]; simp; omega
   have h2:t.after r ⟨3,ni,wb,wc⟩=t:=by simp [RS.after,h1]
   simp only [h1,h2]
   simp -dsimp [Tryz.f109,E109,Reg.row,stRow,hrow,-lendN,-lend1]
   repeat' (first|omega|(exact sub0_snV _)|(exact sub0_dnV _)|(exact leaf_lsV _ _)|simp -dsimp [E109,ri,cellp,ints,-lendN,-lend1,cop_go',hcp,hFr,hBl,bmp,c_hset,stRow,pa,hni,hnw,hp,hp',cycV,hp1]|refine aI ?_ fun _=>?_|refine oI fun _=>?_|refine nI ?_ ?_)
  by_cases hb:wb=0
  case neg=>
   have h1:t.ok r ⟨3,ni,wb,wc⟩=false:=by rw [ho]; simp [hb]
   have h2:t.after r ⟨3,ni,wb,wc⟩=t:=by simp [RS.after,h1]
   simp only [h1,h2]
   simp -dsimp [Tryz.f109,E109,Reg.row,stRow,hrow,-lendN,-lend1]
   repeat' (first|omega|(exact sub0_snV _)|(exact sub0_dnV _)|(exact leaf_lsV _ _)|simp -dsimp [E109,ri,cellp,ints,-lendN,-lend1,cop_go',hcp,hFr,hBl,bmp,c_hset,stRow,pa,hni,hnw,hp,hp',cycV,hp1,hb]|refine aI ?_ fun _=>?_|refine oI fun _=>?_|refine nI ?_ ?_)
  by_cases hc:wc=0
  case neg=>
   have h1:t.ok r ⟨3,ni,wb,wc⟩=false:=by rw [ho]; simp [hc]
   have h2:t.after r ⟨3,ni,wb,wc⟩=t:=by simp [RS.after,h1]
   simp only [h1,h2]
   simp -dsimp [Tryz.f109,E109,Reg.row,stRow,hrow,-lendN,-lend1]
   repeat' (first|omega|(exact sub0_snV _)|(exact sub0_dnV _)|(exact leaf_lsV _ _)|simp -dsimp [E109,ri,cellp,ints,-lendN,-lend1,cop_go',hcp,hFr,hBl,bmp,c_hset,stRow,pa,hni,hnw,hp,hp',cycV,hp1,hb,hc]|refine aI ?_ fun _=>?_|refine oI fun _=>?_|refine nI ?_ ?_)
  subst hb
  subst hc
  have h1:t.ok r ⟨3,ni,0,0⟩=true:=by rw [ho]; simp; omega
  have h2:t.after r ⟨3,ni,0,0⟩={t with whr:=t.whr.set ni (-1,-1)}:=by simp [RS.after,h1,RS.act]
  simp only [h1,h2]
  have hw:=fun h=>x_whr (s:=t) (h:=h) (j:=ni) (-1) (-1)
  simp -dsimp [Tryz.f109,E109,Reg.row,stRow,hrow,-lendN,-lend1]
  repeat' (first|omega|(exact sub0_snV _)|(exact sub0_dnV _)|(exact leaf_lsV _ _)|simp -dsimp [E109,ri,cellp,ints,-lendN,-lend1,cop_go',hcp,hFr,hBl,bmp,c_hset,stRow,pa,hni,hnw,hp,hp',cycV,hp1,hw]|refine aI ?_ fun _=>?_|refine oI fun _=>?_|refine nI ?_ ?_)
 by_cases k4:wk=4
 ·subst k4
  have ho:t.ok r ⟨4,wa,wb,wc⟩=(RS.ordA r wa && (!(t.iss.getD wa.toNat false) && (wb == 0 && wc == 0))):=by simp [RS.ok,Wk.alone]
  cases oa:RS.ordA r wa
  ·have h1:t.ok r ⟨4,wa,wb,wc⟩=false:=by rw [ho,oa]; rfl
   have h2:t.after r ⟨4,wa,wb,wc⟩=t:=by simp [RS.after,h1]
   simp only [h1,h2]
   simp only [RS.ordA,wsub]at oa
   cases pa:withinB wa 0 (IntKind.wrap .i64 ((r.parts.length:Int) - 1))
   ·skip
    simp -dsimp [Tryz.f109,E109,Reg.row,stRow,hrow,-lendN,-lend1]
    repeat' (first|omega|(exact sub0_snV _)|(exact sub0_dnV _)|(exact leaf_lsV _ _)|simp -dsimp [E109,ri,cellp,ints,-lendN,-lend1,cop_go',hcp,hFr,hBl,bmp,c_hset,stRow,oa,pa]|refine aI ?_ fun _=>?_|refine oI fun _=>?_|refine nI ?_ ?_)
   ·obtain⟨ni,rfl,hni⟩:=withinB_nat (m:=r.parts.length) (by omega) pa
    have hnw:ni<t.whr.length:=by rw [hwf.whr]; exact hni
    obtain⟨p,hp,hp'⟩:=get_ex hnw
    simp -dsimp [Tryz.f109,E109,Reg.row,stRow,hrow,-lendN,-lend1]
    repeat' (first|omega|(exact sub0_snV _)|(exact sub0_dnV _)|(exact leaf_lsV _ _)|simp -dsimp [E109,ri,cellp,ints,-lendN,-lend1,cop_go',hcp,hFr,hBl,bmp,c_hset,stRow,oa,pa,hni,hnw,hp,hp',cycV]|refine aI ?_ fun _=>?_|refine oI fun _=>?_|refine nI ?_ ?_)
  obtain⟨oi,rfl,hol⟩:=withinB_nat (m:=r.orders.length) (by omega) oa
  have hoi':oi<t.iss.length:=by rw [hwf.iss]; exact hol
  obtain⟨b1,hb1,hb1'⟩:=get_ex hoi'
  have hg:t.iss.getD oi false=b1:=by simp [List.getD,hb1]
  rw [oa,Int.toNat_natCast,hg]at ho
  simp only [RS.ordA,wsub]at oa
  cases pa:withinB oi 0 (IntKind.wrap .i64 ((r.parts.length:Int) - 1))
  ·skip
   cases b1
   case true=>
    have h1:t.ok r ⟨4,oi,wb,wc⟩=false:=by rw [ho]; rfl
    have h2:t.after r ⟨4,oi,wb,wc⟩=t:=by simp [RS.after,h1]
    simp only [h1,h2]
    simp -dsimp [Tryz.f109,E109,Reg.row,stRow,hrow,-lendN,-lend1]
    repeat' (first|omega|(exact sub0_snV _)|(exact sub0_dnV _)|(exact leaf_lsV _ _)|simp -dsimp [E109,ri,cellp,ints,-lendN,-lend1,cop_go',hcp,hFr,hBl,bmp,c_hset,stRow,oa,hol,hoi',hb1,hb1',rb,pa]|refine aI ?_ fun _=>?_|refine oI fun _=>?_|refine nI ?_ ?_)
   by_cases hb:wb=0
   case neg=>
    have h1:t.ok r ⟨4,oi,wb,wc⟩=false:=by rw [ho]; simp [hb]
    have h2:t.after r ⟨4,oi,wb,wc⟩=t:=by simp [RS.after,h1]
    simp only [h1,h2]
    simp -dsimp [Tryz.f109,E109,Reg.row,stRow,hrow,-lendN,-lend1]
    repeat' (first|omega|(exact sub0_snV _)|(exact sub0_dnV _)|(exact leaf_lsV _ _)|simp -dsimp [E109,ri,cellp,ints,-lendN,-lend1,cop_go',hcp,hFr,hBl,bmp,c_hset,stRow,oa,hol,hoi',hb1,hb1',rb,hb,pa]|refine aI ?_ fun _=>?_|refine oI fun _=>?_|refine nI ?_ ?_)
   by_cases hc:wc=0
   case neg=>
    have h1:t.ok r ⟨4,oi,wb,wc⟩=false:=by rw [ho]; simp [hc]
    have h2:t.after r ⟨4,oi,wb,wc⟩=t:=by simp [RS.after,h1]
    simp only [h1,h2]
    simp -dsimp [Tryz.f109,E109,Reg.row,stRow,hrow,-lendN,-lend1]
    repeat' (first|omega|(exact sub0_snV _)|(exact sub0_dnV _)|(exact leaf_lsV _ _)|simp -dsimp [E109,ri,cellp,ints,-lendN,-lend1,cop_go',hcp,hFr,hBl,bmp,c_hset,stRow,oa,hol,hoi',hb1,hb1',rb,hb,hc,pa]|refine aI ?_ fun _=>?_|refine oI fun _=>?_|refine nI ?_ ?_)
   subst hb
   subst hc
   have h1:t.ok r ⟨4,oi,0,0⟩=true:=by rw [ho]; rfl
   have h2:t.after r ⟨4,oi,0,0⟩={t with iss:=t.iss.set oi true}:=by simp [RS.after,h1,RS.act]
   simp only [h1,h2]
   have hw:=fun h=>x_iss (s:=t) (h:=h) (j:=oi) true
   simp -dsimp [Tryz.f109,E109,Reg.row,stRow,hrow,-lendN,-lend1]
   repeat' (first|omega|(exact sub0_snV _)|(exact sub0_dnV _)|(exact leaf_lsV _ _)|simp -dsimp [E109,ri,cellp,ints,-lendN,-lend1,cop_go',hcp,hFr,hBl,bmp,c_hset,stRow,oa,hol,hoi',hb1,hb1',rb,hw,pa]|refine aI ?_ fun _=>?_|refine oI fun _=>?_|refine nI ?_ ?_)
  ·obtain⟨ni,hne,hni⟩:=withinB_nat (n:=(oi:Int)) (m:=r.parts.length) (by omega) pa
   have hnp:oi<r.parts.length:=by omega
   have hnw:oi<t.whr.length:=by rw [hwf.whr]; exact hnp
   obtain⟨p,hp,hp'⟩:=get_ex hnw
   cases b1
   case true=>
    have h1:t.ok r ⟨4,oi,wb,wc⟩=false:=by rw [ho]; rfl
    have h2:t.after r ⟨4,oi,wb,wc⟩=t:=by simp [RS.after,h1]
    simp only [h1,h2]
    simp -dsimp [Tryz.f109,E109,Reg.row,stRow,hrow,-lendN,-lend1]
    repeat' (first|omega|(exact sub0_snV _)|(exact sub0_dnV _)|(exact leaf_lsV _ _)|simp -dsimp [E109,ri,cellp,ints,-lendN,-lend1,cop_go',hcp,hFr,hBl,bmp,c_hset,stRow,oa,hol,hoi',hb1,hb1',rb,pa,hnp,hnw,hp,hp',cycV]|refine aI ?_ fun _=>?_|refine oI fun _=>?_|refine nI ?_ ?_)
   by_cases hb:wb=0
   case neg=>
    have h1:t.ok r ⟨4,oi,wb,wc⟩=false:=by rw [ho]; simp [hb]
    have h2:t.after r ⟨4,oi,wb,wc⟩=t:=by simp [RS.after,h1]
    simp only [h1,h2]
    simp -dsimp [Tryz.f109,E109,Reg.row,stRow,hrow,-lendN,-lend1]
    repeat' (first|omega|(exact sub0_snV _)|(exact sub0_dnV _)|(exact leaf_lsV _ _)|simp -dsimp [E109,ri,cellp,ints,-lendN,-lend1,cop_go',hcp,hFr,hBl,bmp,c_hset,stRow,oa,hol,hoi',hb1,hb1',rb,hb,pa,hnp,hnw,hp,hp',cycV]|refine aI ?_ fun _=>?_|refine oI fun _=>?_|refine nI ?_ ?_)
   by_cases hc:wc=0
   case neg=>
    have h1:t.ok r ⟨4,oi,wb,wc⟩=false:=by rw [ho]; simp [hc]
    have h2:t.after r ⟨4,oi,wb,wc⟩=t:=by simp [RS.after,h1]
    simp only [h1,h2]
    simp -dsimp [Tryz.f109,E109,Reg.row,stRow,hrow,-lendN,-lend1]
    repeat' (first|omega|(exact sub0_snV _)|(exact sub0_dnV _)|(exact leaf_lsV _ _)|simp -dsimp [E109,ri,cellp,ints,-lendN,-lend1,cop_go',hcp,hFr,hBl,bmp,c_hset,stRow,oa,hol,hoi',hb1,hb1',rb,hb,hc,pa,hnp,hnw,hp,hp',cycV]|refine aI ?_ fun _=>?_|refine oI fun _=>?_|refine nI ?_ ?_)
   subst hb
   subst hc
   have h1:t.ok r ⟨4,oi,0,0⟩=true:=by rw [ho]; rfl
   have h2:t.after r ⟨4,oi,0,0⟩={t with iss:=t.iss.set oi true}:=by simp [RS.after,h1,RS.act]
   simp only [h1,h2]
   have hw:=fun h=>x_iss (s:=t) (h:=h) (j:=oi) true
   simp -dsimp [Tryz.f109,E109,Reg.row,stRow,hrow,-lendN,-lend1]
   repeat' (first|omega|(exact sub0_snV _)|(exact sub0_dnV _)|(exact leaf_lsV _ _)|simp -dsimp [E109,ri,cellp,ints,-lendN,-lend1,cop_go',hcp,hFr,hBl,bmp,c_hset,stRow,oa,hol,hoi',hb1,hb1',rb,hw,pa,hnp,hnw,hp,hp',cycV]|refine aI ?_ fun _=>?_|refine oI fun _=>?_|refine nI ?_ ?_)
 by_cases k5:wk=5
 ·subst k5
  have ho:t.ok r ⟨5,wa,wb,wc⟩=(RS.partA r wa && (RS.ordA r wb && (t.iss.getD wb.toNat false && ((r.orders.getD wb.toNat default).kind == (r.parts.getD wa.toNat default).kind && (!((t.done.getD wb.toNat []).getD wa.toNat false) && wc == 0))))):=by simp [RS.ok]
  have neg:∀a b c,t.ok r ⟨5,a,b,c⟩=false→t.after r ⟨5,a,b,c⟩=t:=fun a b c h1=>by simp [RS.after,h1]
  cases pa:RS.partA r wa
  ·have h1:t.ok r ⟨5,wa,wb,wc⟩=false:=by rw [ho,pa]; rfl
   have h2:=neg _ _ _ h1
   simp only [h1,h2]
   simp only [RS.partA,wsub]at pa
   simp -dsimp [Tryz.f109,E109,Reg.row,stRow,hrow,-lendN,-lend1]
   repeat' (first|omega|(exact sub0_snV _)|(exact sub0_dnV _)|(exact leaf_lsV _ _)|simp -dsimp [E109,ri,cellp,ints,-lendN,-lend1,cop_go',hcp,hFr,hBl,bmp,c_hset,stRow,pa]|refine aI ?_ fun _=>?_|refine oI fun _=>?_|refine nI ?_ ?_)
  obtain⟨ni,rfl,hni⟩:=withinB_nat (m:=r.parts.length) (by omega) pa
  have hnw:ni<t.whr.length:=by rw [hwf.whr]; exact hni
  obtain⟨wp,hp,hp'⟩:=get_ex hnw
  obtain⟨pt,hpt,hpt'⟩:=get_ex hni
  have hgp:r.parts.getD ni default=pt:=by simp [List.getD,hpt]
  rw [pa,Int.toNat_natCast,hgp]at ho
  simp only [RS.partA,wsub]at pa
  cases oa:RS.ordA r wb
  ·have h1:t.ok r ⟨5,ni,wb,wc⟩=false:=by rw [ho,oa]; rfl
   have h2:=neg _ _ _ h1
   simp only [h1,h2]
   simp only [RS.ordA,wsub]at oa
   simp -dsimp [Tryz.f109,E109,Reg.row,stRow,hrow,-lendN,-lend1]
   repeat' (first|omega|(exact sub0_snV _)|(exact sub0_dnV _)|(exact leaf_lsV _ _)|simp -dsimp [E109,ri,cellp,ints,-lendN,-lend1,cop_go',hcp,hFr,hBl,bmp,c_hset,stRow,pa,hni,hnw,hp,hp',cycV,oa]|refine aI ?_ fun _=>?_|refine oI fun _=>?_|refine nI ?_ ?_)
  obtain⟨oi,rfl,hol⟩:=withinB_nat (m:=r.orders.length) (by omega) oa
  have hoi':oi<t.iss.length:=by rw [hwf.iss]; exact hol
  have hod':oi<t.done.length:=by rw [hwf.done]; exact hol
  obtain⟨b1,hb1,hb1'⟩:=get_ex hoi'
  obtain⟨od,hod,hodd⟩:=get_ex hol
  obtain⟨dr,hdr,hdr'⟩:=get_ex hod'
  have hdl:ni<dr.length:=by rw [hwf.doner dr (hdr' ▸ List.getElem_mem hod')]; exact hni
  obtain⟨b2,hb2,hb2'⟩:=get_ex hdl
  have hg:t.iss.getD oi false=b1:=by simp [List.getD,hb1]
  have hgo:r.orders.getD oi default=od:=by simp [List.getD,hod]
  have hgd:t.done.getD oi []=dr:=by simp [List.getD,hdr]
  have hgb:dr.getD ni false=b2:=by simp [List.getD,hb2]
  rw [oa,Int.toNat_natCast,hg,hgo,hgd,hgb]at ho
  simp only [RS.ordA,wsub]at oa
  cases b1
  ·have h1:t.ok r ⟨5,ni,oi,wc⟩=false:=by rw [ho]; rfl
   have h2:=neg _ _ _ h1
   simp only [h1,h2]
   simp -dsimp [Tryz.f109,E109,Reg.row,stRow,hrow,-lendN,-lend1]
   repeat' (first|omega|(exact sub0_snV _)|(exact sub0_dnV _)|(exact leaf_lsV _ _)|simp -dsimp [E109,ri,cellp,ints,-lendN,-lend1,cop_go',hcp,hFr,hBl,bmp,c_hset,stRow,pa,hni,hnw,hp,hp',cycV,oa,hol,hoi',hb1,hb1',rb]|refine aI ?_ fun _=>?_|refine oI fun _=>?_|refine nI ?_ ?_)
  by_cases hkd:od.kind=pt.kind
  case neg=>
   have hkd':(od.kind == pt.kind)=false:=by simpa using hkd
   have hkd2:(od.kind=pt.kind)=False:=eq_false hkd
   have hkd3:(od.kind != pt.kind)=true:=by simp [bne,hkd']
   have h1:t.ok r ⟨5,ni,oi,wc⟩=false:=by rw [ho,hkd']; rfl
   have h2:=neg _ _ _ h1
   simp only [h1,h2]
   simp -dsimp [Tryz.f109,E109,Reg.row,stRow,hrow,-lendN,-lend1]
   repeat' (first|omega|(exact sub0_snV _)|(exact sub0_dnV _)|(exact leaf_lsV _ _)|simp -dsimp [E109,ri,cellp,ints,-lendN,-lend1,cop_go',hcp,hFr,hBl,bmp,c_hset,stRow,pa,hni,hnw,hp,hp',cycV,oa,hol,hoi',hb1,hb1',rb,hod,hodd,hpt,hpt',Od.row,Pt.row,hkd',hkd2,hkd3]|refine aI ?_ fun _=>?_|refine oI fun _=>?_|refine nI ?_ ?_)
  have hlv:=lsV_ne (k:=17642) (n:=t.done.length) (by omega)
  have hlb:=lsB_ne (rows:=dnR t.done) (ty:=166) (by simp [dnR]; omega)
  have hdn:(dnR t.done)[oi]?=some [.bsl 17640 oi dr.length]:=by simp [dnR,hdr]
  have hdn':∀h:oi<(dnR t.done).length,(dnR t.done)[oi]=[.bsl 17640 oi dr.length]:=fun h=>by rw [List.getElem?_eq_getElem h]at hdn; exact Option.some.inj hdn
  have hdb:(t.done.map bbB)[oi]?=some {z:=1,els:=dr.map rb,ty:=4}:=by rw [List.getElem?_map,hdr]; rfl
  have hdl2:(dnR t.done).length=t.done.length:=by simp [dnR]
  cases b2
  case true=>
   have h1:t.ok r ⟨5,ni,oi,wc⟩=false:=by rw [ho]; simp
   have h2:=neg _ _ _ h1
   simp only [h1,h2]
   simp -dsimp [Tryz.f109,E109,Reg.row,stRow,hrow,-lendN,-lend1]
   repeat' (first|omega|(exact sub0_snV _)|(exact sub0_dnV _)|(exact leaf_lsV _ _)|simp -dsimp [E109,ri,cellp,ints,-lendN,-lend1,cop_go',hcp,hFr,hBl,bmp,c_hset,stRow,pa,hni,hnw,hp,hp',cycV,oa,hol,hoi',hb1,hb1',rb,hod,hodd,hpt,hpt',Od.row,Pt.row,hkd,hlv,hlb,hdn,hdn',hdb,hdl2,hod',hdl,hb2,hb2',bbB,hdr,hdr']|refine aI ?_ fun _=>?_|refine oI fun _=>?_|refine nI ?_ ?_)
  by_cases hc:wc=0
  case neg=>
   have h1:t.ok r ⟨5,ni,oi,wc⟩=false:=by rw [ho]; simp [hc]
   have h2:=neg _ _ _ h1
   simp only [h1,h2]
   simp -dsimp [Tryz.f109,E109,Reg.row,stRow,hrow,-lendN,-lend1]
   repeat' (first|omega|(exact sub0_snV _)|(exact sub0_dnV _)|(exact leaf_lsV _ _)|simp -dsimp [E109,ri,cellp,ints,-lendN,-lend1,cop_go',hcp,hFr,hBl,bmp,c_hset,stRow,pa,hni,hnw,hp,hp',cycV,oa,hol,hoi',hb1,hb1',rb,hod,hodd,hpt,hpt',Od.row,Pt.row,hkd,hlv,hlb,hdn,hdn',hdb,hdl2,hod',hdl,hb2,hb2',bbB,hdr,hdr',hc]|refine aI ?_ fun _=>?_|refine oI fun _=>?_|refine nI ?_ ?_)
  subst hc
  have h1:t.ok r ⟨5,ni,oi,0⟩=true:=by rw [ho]; simp [hkd]
  have h2:t.after r ⟨5,ni,oi,0⟩={t with done:=t.done.set oi (dr.set ni true)}:=by simp [RS.after,h1,RS.act,List.getD,hdr]
  simp only [h1,h2]
  have hw:=fun h=>x_dn (s:=t) (h:=h) (i:=oi) (j:=ni) hdr true
  have hld:∀h,lend1 (Ob cpL {t with done:=t.done.set oi (dr.set ni true)} h) (.bsl 17642 0 t.done.length)=(True,dnV (t.done.set oi (dr.set ni true))):=fun h=>by rw [←hlv]; exact len1_dn {t with done:=t.done.set oi (dr.set ni true)} h (by simp)
  simp -dsimp [Tryz.f109,E109,Reg.row,stRow,hrow,-lendN,-lend1]
  repeat' (first|omega|(exact sub0_snV _)|(exact sub0_dnV _)|(exact leaf_lsV _ _)|simp -dsimp [E109,ri,cellp,ints,-lendN,-lend1,cop_go',hcp,hFr,hBl,bmp,c_hset,stRow,pa,hni,hnw,hp,hp',cycV,oa,hol,hoi',hb1,hb1',rb,hod,hodd,hpt,hpt',Od.row,Pt.row,hkd,hlv,hlb,hdn,hdn',hdb,hdl2,hod',hdl,hb2,hb2',bbB,hdr,hdr',hw,hld]|refine aI ?_ fun _=>?_|refine oI fun _=>?_|refine nI ?_ ?_)
 by_cases k6:wk=6
 ·subst k6
  have ho:t.ok r ⟨6,wa,wb,wc⟩=((RS.partA r wa && (t.whr.getD wa.toNat (0,0)).1 == -1) && (wb == 0 && wc == 0)):=by simp [RS.ok,Wk.alone,RS.stored]
  cases pa:RS.partA r wa
  ·have h1:t.ok r ⟨6,wa,wb,wc⟩=false:=by rw [ho,pa]; rfl
   have h2:t.after r ⟨6,wa,wb,wc⟩=t:=by simp [RS.after,h1]
   simp only [h1,h2]
   simp only [RS.partA,wsub]at pa
   simp -dsimp [Tryz.f109,E109,Reg.row,stRow,hrow,-lendN,-lend1]
   repeat' (first|omega|(exact sub0_snV _)|(exact sub0_dnV _)|(exact leaf_lsV _ _)|simp -dsimp [E109,ri,cellp,ints,-lendN,-lend1,cop_go',hcp,hFr,hBl,bmp,c_hset,stRow,pa]|refine aI ?_ fun _=>?_|refine oI fun _=>?_|refine nI ?_ ?_)
  obtain⟨ni,rfl,hni⟩:=withinB_nat (m:=r.parts.length) (by omega) pa
  have hnw:ni<t.whr.length:=by rw [hwf.whr]; exact hni
  obtain⟨p,hp,hp'⟩:=get_ex hnw
  have hg:t.whr.getD ni (0,0)=p:=by simp [List.getD,hp]
  rw [pa,Int.toNat_natCast,hg]at ho
  simp only [RS.partA,wsub]at pa
  by_cases hp1:p.1 = -1
  case neg=>
   have hp1':(p.1 == -1)=false:=by simpa using hp1
   have h1:t.ok r ⟨6,ni,wb,wc⟩=false:=by rw [ho]; simp [hp1]
   have h2:t.after r ⟨6,ni,wb,wc⟩=t:=by simp [RS.after,h1]
   simp only [h1,h2]
   simp -dsimp [Tryz.f109,E109,Reg.row,stRow,hrow,-lendN,-lend1]
   repeat' (first|omega|(exact sub0_snV _)|(exact sub0_dnV _)|(exact leaf_lsV _ _)|simp -dsimp [E109,ri,cellp,ints,-lendN,-lend1,cop_go',hcp,hFr,hBl,bmp,c_hset,stRow,pa,hni,hnw,hp,hp',cycV,hp1,hp1']|refine aI ?_ fun _=>?_|refine oI fun _=>?_|refine nI ?_ ?_)
  by_cases hb:wb=0
  case neg=>
   have h1:t.ok r ⟨6,ni,wb,wc⟩=false:=by rw [ho]; simp [hb]
   have h2:t.after r ⟨6,ni,wb,wc⟩=t:=by simp [RS.after,h1]
   simp only [h1,h2]
   simp -dsimp [Tryz.f109,E109,Reg.row,stRow,hrow,-lendN,-lend1]
   repeat' (first|omega|(exact sub0_snV _)|(exact sub0_dnV _)|(exact leaf_lsV _ _)|simp -dsimp [E109,ri,cellp,ints,-lendN,-lend1,cop_go',hcp,hFr,hBl,bmp,c_hset,stRow,pa,hni,hnw,hp,hp',cycV,hp1,hb]|refine aI ?_ fun _=>?_|refine oI fun _=>?_|refine nI ?_ ?_)
  by_cases hc:wc=0
  case neg=>
   have h1:t.ok r ⟨6,ni,wb,wc⟩=false:=by rw [ho]; simp [hc]
   have h2:t.after r ⟨6,ni,wb,wc⟩=t:=by simp [RS.after,h1]
   simp only [h1,h2]
   simp -dsimp [Tryz.f109,E109,Reg.row,stRow,hrow,-lendN,-lend1]
   repeat' (first|omega|(exact sub0_snV _)|(exact sub0_dnV _)|(exact leaf_lsV _ _)|simp -dsimp [E109,ri,cellp,ints,-lendN,-lend1,cop_go',hcp,hFr,hBl,bmp,c_hset,stRow,pa,hni,hnw,hp,hp',cycV,hp1,hb,hc]|refine aI ?_ fun _=>?_|refine oI fun _=>?_|refine nI ?_ ?_)
  subst hb
  subst hc
  have h1:t.ok r ⟨6,ni,0,0⟩=true:=by rw [ho]; simp [hp1]
  have h2:t.after r ⟨6,ni,0,0⟩={t with whr:=t.whr.set ni (-2,-2)}:=by simp [RS.after,h1,RS.act]
  simp only [h1,h2]
  have hw:=fun h=>x_whr (s:=t) (h:=h) (j:=ni) (-2) (-2)
  simp -dsimp [Tryz.f109,E109,Reg.row,stRow,hrow,-lendN,-lend1]
  repeat' (first|omega|(exact sub0_snV _)|(exact sub0_dnV _)|(exact leaf_lsV _ _)|simp -dsimp [E109,ri,cellp,ints,-lendN,-lend1,cop_go',hcp,hFr,hBl,bmp,c_hset,stRow,pa,hni,hnw,hp,hp',cycV,hp1,hw]|refine aI ?_ fun _=>?_|refine oI fun _=>?_|refine nI ?_ ?_)
 have h1:t.ok r ⟨wk,wa,wb,wc⟩=false:=by simp [RS.ok,k1,k2,k3,k4,k5,k6]
 have h2:t.after r ⟨wk,wa,wb,wc⟩=t:=by simp [RS.after,h1]
 simp only [h1,h2]
 cases pa:withinB wa 0 (IntKind.wrap .i64 ((r.parts.length:Int) - 1))
 ·simp -dsimp [Tryz.f109,E109,Reg.row,stRow,hrow,-lendN,-lend1]
  repeat' (first|omega|(exact sub0_snV _)|(exact sub0_dnV _)|(exact leaf_lsV _ _)|simp -dsimp [E109,ri,cellp,ints,-lendN,-lend1,cop_go',hcp,hFr,hBl,bmp,c_hset,k1,k2,k3,k4,k5,k6,pa,stRow]|refine aI ?_ fun _=>?_|refine oI fun _=>?_|refine nI ?_ ?_)
 obtain⟨ni,rfl,hni⟩:=withinB_nat (m:=r.parts.length) (by omega) pa
 have hnw:ni<t.whr.length:=by rw [hwf.whr]; exact hni
 obtain⟨p,hp,hp'⟩:=get_ex hnw
 simp -dsimp [Tryz.f109,E109,Reg.row,stRow,hrow,-lendN,-lend1]
 repeat' (first|omega|(exact sub0_snV _)|(exact sub0_dnV _)|(exact leaf_lsV _ _)|simp -dsimp [E109,ri,cellp,ints,-lendN,-lend1,cop_go',hcp,hFr,hBl,bmp,c_hset,k1,k2,k3,k4,k5,k6,pa,hni,hnw,hp,hp',cycV,stRow]|refine aI ?_ fun _=>?_|refine oI fun _=>?_|refine nI ?_ ?_)
theorem ok109:FO 109 stepS:=pf b109 (.cons ok176 (.cons ok175 (.cons ok177 (.cons ok178 .nil))))
end Go.Sx
end
