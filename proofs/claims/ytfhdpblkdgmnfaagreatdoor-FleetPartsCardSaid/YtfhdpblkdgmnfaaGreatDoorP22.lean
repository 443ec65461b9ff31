/- A part of a proof; no conditions. -/
import Derived.Test.YtfhdpblkdgmnfaaGreatDoorP21
set_option linter.unusedSimpArgs false
set_option linter.unusedVariables false
set_option linter.unusedSectionVars false
set_option maxRecDepth 100000
set_option maxHeartbeats 8000000
noncomputable section
section
namespace Go.Sx
open Go.Proofs
attribute [local irreducible] HLe
abbrev E270:Env:={P:=Tryz.prog,fn:=tbl [],own:=[],key:=27000,nt:=15}
theorem b270:PureBody E270 [] Tryz.f270 rgS:=by
 refine pb ?_
 rintro⟨n,lo,hi⟩ _
 simp -dsimp [Tryz.f270,E270,rgB]
 repeat' (first|omega|simp -dsimp [E270,ri,cellp,ints,rgB]|refine aI ?_ fun _=>?_|refine oI fun _=>?_|refine nI ?_ ?_)
theorem ok270:FO 270 rgS:=pf b270 .nil
abbrev E105:Env:={P:=Tryz.prog,fn:=tbl [],own:=[],key:=10500,nt:=15}
theorem b105:PureBody E105 [] Tryz.f105 rgS:=by
 refine pb ?_
 rintro⟨n,lo,hi⟩ _
 simp -dsimp [Tryz.f105,E105,rgB]
 repeat' (first|omega|simp -dsimp [E105,ri,cellp,ints,rgB]|refine aI ?_ fun _=>?_|refine oI fun _=>?_|refine nI ?_ ?_)
theorem ok105:FO 105 rgS:=pf b105 .nil
theorem spN'_rg (a b:Int):(!spN' ⟨a,b⟩)=(rgB a (-1000000) 1000000 && rgB b a 1000000):=by
 unfold spN' rgB
 rw [Bool.not_not,Bool.eq_iff_iff]; simp; omega
abbrev vaS:PSpec:=mkP spE (fun _=>True) fun d=>.bool (!spN' d)
theorem spE_dec' (a b:Int):decC spE [.agg [.int .i64 a,.int .i64 b]]=⟨a,b⟩:=decC_eq spE_inj ⟨a,b⟩
abbrev E255:Env:={P:=Tryz.prog,fn:=tbl [(270,.pure rgS)],own:=[],key:=25500,nt:=13}
theorem b255:PureBody E255 [] Tryz.f255 vaS:=by
 refine pb ?_
 rintro⟨a,b⟩ _
 have e:=spN'_rg a b
 simp -dsimp [Tryz.f255,E255,Sp.row]
 repeat' (first|omega|simp -dsimp [E255,ri,cellp,ints,Sp.row,e]|refine aI ?_ fun _=>?_|refine oI fun _=>?_|refine nI ?_ ?_)
theorem ok255:FO 255 vaS:=pf b255 (.cons ok270 .nil)
abbrev twS:PSpec:=mkP s2pE (fun _=>True) fun d=>.int .i64 (if (spN' d.1 || spN' d.2)=true then 10 else 0)
abbrev E285:Env:={P:=Tryz.prog,fn:=tbl [(255,.pure vaS)],own:=[],key:=28500,nt:=13}
theorem b285:PureBody E285 [] Tryz.f285 twS:=by
 refine pb ?_
 rintro⟨⟨a,b⟩,⟨c,d⟩⟩ _
 generalize h1:spN' ⟨a,b⟩=p
 generalize h2:spN' ⟨c,d⟩=q
 cases p<;>cases q
 all_goals
  simp -dsimp [Tryz.f285,E285,Sp.row]
  repeat' (first|omega|simp -dsimp [E285,ri,cellp,ints,Sp.row,spE_dec',h1,h2]|refine aI ?_ fun _=>?_|refine oI fun _=>?_|refine nI ?_ ?_)
theorem ok285:FO 285 twS:=pf b285 (.cons ok255 .nil)
abbrev E271:Env:={P:=Tryz.prog,fn:=tbl [(285,.pure twS)],own:=[],key:=27100,nt:=33}
theorem b271:PureBody E271 [] Tryz.f271 meeS:=by
 refine pb ?_
 rintro⟨⟨a,b⟩,⟨c,d⟩⟩ _
 have hE:meeT ⟨a,b⟩ ⟨c,d⟩=if (spN' ⟨a,b⟩ || spN' ⟨c,d⟩)=true then (⟨0,0⟩,10)else if min b d<max a c then (⟨0,0⟩,3)else (⟨max a c,min b d⟩,0):=rfl
 generalize hM:max a c=x at *
 generalize hN:min b d=y at *
 have g1:=max_ite a c
 have g2:=min_ite b d
 rw [hM]at g1
 rw [hN]at g2
 by_cases hpq:spN' ⟨a,b⟩=true∨spN' ⟨c,d⟩=true
 ·rw [if_pos (by simpa using hpq)]at hE
  have hpq':(spN' ⟨a,b⟩=true∨spN' ⟨c,d⟩=true)=True:=eq_true hpq
  simp -dsimp [Tryz.f271,E271,Sp.row]
  repeat' (first|omega|simp -dsimp [E271,ri,cellp,ints,Sp.row,s2pE_dec,hpq',hE]|refine aI ?_ fun _=>?_|refine oI fun _=>?_|refine nI ?_ ?_)
 ·rw [if_neg (by simpa using hpq)]at hE
  have hp1:spN' ⟨a,b⟩=false:=by simpa using fun h=>hpq (.inl h)
  have hp2:spN' ⟨c,d⟩=false:=by simpa using fun h=>hpq (.inr h)
  by_cases hxy:y<x
  ·rw [if_pos hxy]at hE
   simp -dsimp [Tryz.f271,E271,Sp.row]
   repeat' (first|omega|simp -dsimp [E271,ri,cellp,ints,Sp.row,s2pE_dec,hp1,hp2,g1,g2,hxy,hE]|refine aI ?_ fun _=>?_|refine oI fun _=>?_|refine nI ?_ ?_)
  ·rw [if_neg hxy]at hE
   simp -dsimp [Tryz.f271,E271,Sp.row]
   repeat' (first|omega|simp -dsimp [E271,ri,cellp,ints,Sp.row,s2pE_dec,hp1,hp2,g1,g2,hxy,hE]|refine aI ?_ fun _=>?_|refine oI fun _=>?_|refine nI ?_ ?_)
theorem ok271:FO 271 meeS:=pf b271 (.cons ok285 .nil)
abbrev E229:Env:={P:=Tryz.prog,fn:=tbl [(255,.pure vaS)],own:=[],key:=22900,nt:=18}
theorem b229:PureBody E229 [] Tryz.f229 inS:=by
 refine pb ?_
 rintro⟨⟨a,b⟩,n⟩ _
 have e:insB ⟨a,b⟩ n=(!spN' ⟨a,b⟩ && decide (0≤a) && decide (b≤n)):=by
  unfold insB rgB
  rw [spN_N,Bool.eq_iff_iff]
  simp [spN']; omega
 generalize h1:spN' ⟨a,b⟩=p at e
 cases p
 ·simp -dsimp [Tryz.f229,E229,Sp.row]
  repeat' (first|omega|simp -dsimp [E229,ri,cellp,ints,Sp.row,spE_dec',h1,e]|refine aI ?_ fun _=>?_|refine oI fun _=>?_|refine nI ?_ ?_)
 ·simp -dsimp [Tryz.f229,E229,Sp.row]
  repeat' (first|omega|simp -dsimp [E229,ri,cellp,ints,Sp.row,spE_dec',h1,e]|refine aI ?_ fun _=>?_|refine oI fun _=>?_|refine nI ?_ ?_)
theorem ok229:FO 229 inS:=pf b229 (.cons ok255 .nil)
abbrev E173:Env:={P:=Tryz.prog,fn:=tbl [(229,.pure inS)],own:=[],key:=17300,nt:=16}
theorem b173:PureBody E173 [] Tryz.f173 skS:=by
 refine pb ?_
 rintro⟨⟨a,b⟩,⟨c,d⟩,⟨x,y⟩,u,v⟩ _
 have e:=sky_ok ⟨⟨a,b⟩,⟨c,d⟩,⟨x,y⟩,u,v⟩
 simp only at e
 generalize h1:insB ⟨a,b⟩ 300=p1 at e
 generalize h2:insB ⟨c,d⟩ 20000=p2 at e
 generalize h3:insB ⟨x,y⟩ 20000=p3 at e
 simp -dsimp [Tryz.f173,E173,Sky.row]
 repeat' (first|omega|simp -dsimp [E173,ri,cellp,ints,Sky.row,Sp.row,inW_dec,h1,h2,h3,e]|refine aI ?_ fun _=>?_|refine oI fun _=>?_|refine nI ?_ ?_)
theorem ok173:FO 173 skS:=pf b173 (.cons ok229 .nil)
abbrev vwS:PSpec:=mkP wtE (fun _=>True) fun d=>.bool d.ok
abbrev E174:Env:={P:=Tryz.prog,fn:=tbl [(105,.pure rgS)],own:=[],key:=17400,nt:=16}
theorem b174:PureBody E174 [] Tryz.f174 vwS:=by
 refine pb ?_
 rintro⟨a,b,c,x,y⟩ _
 have e:Wt.ok ⟨a,b,c,x,y⟩=(rgB a 0 300 && rgB b 0 20000 && rgB c 0 20000):=rfl
 simp -dsimp [Tryz.f174,E174,Wt.row]
 repeat' (first|omega|simp -dsimp [E174,ri,cellp,ints,Wt.row,e]|refine aI ?_ fun _=>?_|refine oI fun _=>?_|refine nI ?_ ?_)
theorem ok174:FO 174 vwS:=pf b174 (.cons ok105 .nil)
abbrev ctW:PSpec:=mkP s2pE (fun _=>True) fun d=>.tup [.agg (cutS d.1 d.2).1.row,.bool (cutS d.1 d.2).2]
abbrev E260:Env:={P:=Tryz.prog,fn:=tbl [(271,.pure meeS)],own:=[],key:=26000,nt:=18}
theorem b260:PureBody E260 [] Tryz.f260 ctW:=by
 refine pb ?_
 rintro⟨⟨a,b⟩,⟨c,d⟩⟩ _
 have e:=cutS_mee ⟨a,b⟩ ⟨c,d⟩
 by_cases he:(meeT ⟨a,b⟩ ⟨c,d⟩).2=0
 ·rw [if_pos he]at e
  simp -dsimp [Tryz.f260,E260,Sp.row]
  repeat' (first|omega|simp -dsimp [E260,ri,cellp,ints,Sp.row,s2pE_dec,he,e]|refine aI ?_ fun _=>?_|refine oI fun _=>?_|refine nI ?_ ?_)
 ·rw [if_neg he]at e
  simp -dsimp [Tryz.f260,E260,Sp.row]
  repeat' (first|omega|simp -dsimp [E260,ri,cellp,ints,Sp.row,s2pE_dec,he,e]|refine aI ?_ fun _=>?_|refine oI fun _=>?_|refine nI ?_ ?_)
theorem ok260:FO 260 ctW:=pf b260 (.cons ok271 .nil)
@[simp] def sk2E (d:Sky × Sky):List V:=[.agg d.1.row,.agg d.2.row]
theorem sk2E_inj (a b:Sky × Sky) (h:sk2E a=sk2E b):a=b:=by
 obtain⟨a1,a2⟩:=a; obtain⟨b1,b2⟩:=b
 simp only [sk2E,List.cons.injEq,V.agg.injEq,and_true]at h
 rw [Sky.row_inj _ _ h.1,Sky.row_inj _ _ h.2]
abbrev ckySx:PSpec:=mkP sk2E (fun _=>True) fun d=>.tup [.agg (cutK d.1 d.2).1.row,.bool (cutK d.1 d.2).2]
abbrev E258:Env:={P:=Tryz.prog,fn:=tbl [(260,.pure ctW)],own:=[],key:=25800,nt:=59}
theorem b258:PureBody E258 [] Tryz.f258 ckySx:=by
 refine pb ?_
 rintro⟨⟨⟨a,b⟩,⟨c,d⟩,⟨x,y⟩,u,v⟩,⟨⟨a',b'⟩,⟨c',d'⟩,⟨x',y'⟩,u',v'⟩⟩ _
 have e1:(cutK ⟨⟨a,b⟩,⟨c,d⟩,⟨x,y⟩,u,v⟩ ⟨⟨a',b'⟩,⟨c',d'⟩,⟨x',y'⟩,u',v'⟩)=(⟨(cutS ⟨a,b⟩ ⟨a',b'⟩).1,(cutS ⟨c,d⟩ ⟨c',d'⟩).1,(cutS ⟨x,y⟩ ⟨x',y'⟩).1,u && u',v && v'⟩,(cutS ⟨a,b⟩ ⟨a',b'⟩).2 || (cutS ⟨c,d⟩ ⟨c',d'⟩).2 || (cutS ⟨x,y⟩ ⟨x',y'⟩).2):=rfl
 generalize hA:cutS ⟨a,b⟩ ⟨a',b'⟩=A at e1
 generalize hB:cutS ⟨c,d⟩ ⟨c',d'⟩=B at e1
 generalize hC:cutS ⟨x,y⟩ ⟨x',y'⟩=C at e1
 obtain⟨⟨A1,A2⟩,A3⟩:=A
 obtain⟨⟨B1,B2⟩,B3⟩:=B
 obtain⟨⟨C1,C2⟩,C3⟩:=C
 cases u<;>cases v<;>cases A3<;>cases B3
 all_goals
  simp -dsimp [Tryz.f258,E258,Sky.row]
  repeat' (first|omega|simp -dsimp [E258,ri,cellp,ints,Sky.row,Sp.row,s2pE_dec,hA,hB,hC,e1]|refine aI ?_ fun _=>?_|refine oI fun _=>?_|refine nI ?_ ?_)
theorem ok258:FO 258 ckySx:=pf b258 (.cons ok260 .nil)
abbrev E261:Env:={P:=Tryz.prog,fn:=tbl [],own:=[],key:=26100,nt:=17}
theorem b261:PureBody E261 [] Tryz.f261 neaS:=by
 refine pb ?_
 rintro⟨n,b,m⟩ ⟨h1,h2,h3⟩
 simp only at h1 h2 h3
 have w1:IntKind.wrap .i64 (n - b)=n - b:=wrap_id (by omega) (by omega)
 have w2:IntKind.wrap .i64 (n+b)=n+b:=wrap_id (by omega) (by omega)
 simp -dsimp [Tryz.f261,E261,arS,Sp.row]
 repeat' (first|omega|simp -dsimp [E261,ri,cellp,ints,w1,w2,arS,Sp.row]|refine aI ?_ fun _=>?_|refine oI fun _=>?_|refine nI ?_ ?_)
 all_goals (repeat' split)<;>omega
theorem ok261:FO 261 neaS:=pf b261 .nil
abbrev E236:Env:={P:=Tryz.prog,fn:=tbl [],own:=[],key:=23600,nt:=17}
theorem b236:PureBody E236 [] Tryz.f236 wsS:=by
 refine pb ?_
 rintro⟨⟨a,b⟩,⟨c,d⟩,⟨e,f⟩,x,y⟩ _
 simp -dsimp [Tryz.f236,E236,Sky.row,wstK,Wt.row]
 repeat' (first|omega|simp -dsimp [E236,ri,cellp,ints,Sky.row,wstK,Wt.row]|refine aI ?_ fun _=>?_|refine oI fun _=>?_|refine nI ?_ ?_)
theorem ok236:FO 236 wsS:=pf b236 .nil
abbrev E235:Env:={P:=Tryz.prog,fn:=tbl [],own:=[],key:=23500,nt:=42}
theorem b235:PureBody E235 [] Tryz.f235 flyW:=by
 refine pb ?_
 rintro⟨⟨a,b,c,x,y⟩,⟨d,e,f,u,v⟩⟩ _
 have e1:fly1 ⟨a,b,c,x,y⟩ ⟨d,e,f,u,v⟩=(decide (a≤d) && decide (e≤b) && decide (f≤c) && (!x || u) && (!y || v)):=rfl
 by_cases h1:a≤d<;>by_cases h2:e≤b<;>by_cases h3:f≤c<;>cases x<;>cases u
 all_goals
  simp -dsimp only [h1,h2,h3,decide_true,decide_false,Bool.true_and,Bool.false_and,Bool.not_true,Bool.not_false,Bool.true_or,Bool.false_or,Bool.and_true,Bool.and_false]at e1
  simp -dsimp [Tryz.f235,E235,Wt.row]
  repeat' (first|omega|simp -dsimp [E235,ri,cellp,ints,Wt.row,h1,h2,h3,e1]|refine aI ?_ fun _=>?_|refine oI fun _=>?_|refine nI ?_ ?_)
theorem ok235:FO 235 flyW:=pf b235 .nil
end Go.Sx
end
section
namespace Go.Sx
open Go.Proofs
attribute [local irreducible] HLe
theorem covK_succ (m:Met) (p t:Int) (n:Nat):covK m p t (n+1)=if fcOn m p t n=true then sink (SrC.fc m).key (covK m p t n++[n]) (covK m p t n).length else covK m p t n:=by
 unfold covK
 rw [covs_succ]
 split
 ·rw [srtK_snoc]; rfl
 ·rw [List.append_nil]
theorem seeK_succ (m:Met) (p t:Int) (n:Nat):seeK m p t (n+1)=if sgOn m p t n=true then sink (SrC.sg m).key (seeK m p t n++[n]) (seeK m p t n).length else seeK m p t n:=by
 unfold seeK
 rw [seen_succ]
 split
 ·rw [srtK_snoc]; rfl
 ·rw [List.append_nil]
theorem covK_lt {m:Met} {p t:Int} {n x:Nat} (h:x∈covK m p t n):x<n:=(covs_lt (srtK_mem.1 h)).1
theorem seeK_lt {m:Met} {p t:Int} {n x:Nat} (h:x∈seeK m p t n):x<n:=(seen_lt (srtK_mem.1 h)).1
theorem covK_len (m:Met) (p t:Int) (n:Nat):(covK m p t n).length≤n:=by rw [covK,srtK_len]; exact covs_len m p t n
theorem seeK_len (m:Met) (p t:Int) (n:Nat):(seeK m p t n).length≤n:=by rw [seeK,srtK_len]; exact seen_len m p t n
structure MlP (d:Met × Int × Int):Prop where
 f:d.1.fs.length≤1000
 s:d.1.ss.length≤1000
abbrev coS4:PSpec:=mkP myE MlP fun d=>.sl 1 ((covK d.1 d.2.1 d.2.2 d.1.fs.length).map nR)
abbrev E257:Env:={P:=Tryz.prog,fn:=tbl [],own:=[],key:=25700,nt:=89,frz:=[(1,[3,50003])]}
theorem b257:PureBody E257 [] Tryz.f257 coS4:=by
 refine pb ?_
 rintro⟨m,p,t⟩ ⟨hf,hs⟩
 simp only at hf hs
 simp -dsimp [Tryz.f257,E257]
 repeat' (first|omega|simp -dsimp [E257,ri,cellp,ints, *]|refine aI ?_ fun _=>?_|refine oI fun _=>?_|refine nI ?_ ?_)
 refine awp_loop_g [(7,25742,1,3)] rfl (by simp) [11,12,13,14,15,18,19,20,21,22,9,23,24,25,26,27,28,29,30,31,32,33,34,35,36,37,38,39,40,41,42,7,43,44,45,10,46,47,48,49,50,51,52,53,54,55,56,57,58,59,60,61,62,63,64,65,66,67,68,69,72,73,74,75,76,77,78,79,80,81,82,83,84,85,86,87,70,71,16,17,8] (fun k:{k:Nat // k≤m.fs.length}=>[(8,(true,.int .i64 k.1)),(7,(true,.bsl 25742 0 (covK m p t k.1).length))]) (fun k=>hps [(25709,{base:=k.1,blks:=[]}),(25742,{base:=0,blks:=[srB (covK m p t k.1)]}),(25703,mS m)] noH) (fun k=>m.fs.length - k.1) ⟨0,by omega⟩ ?_ ?_ ?_
 ·simp [okAll,okv,covK,covs,srtK]
 ·exact(by(try simp -dsimp only [hpx]); refine hle_hps ?_; simp -dsimp [allK,srB,covK,covs,srtK,mS]<;>exact rz)
 rintro⟨i,hi⟩
 dsimp only
 have hS:=covK_succ m p t i
 have hlen:=covK_len m p t i
 have hlt:=fun x (hx:x∈covK m p t i)=>covK_lt hx
 generalize hN:covK m p t (i+1)=N at *
 by_cases hi1:i<m.fs.length
 case neg=>
  have hin:¬ (i:Int)<m.fs.length:=by omega
  have hie:i=m.fs.length:=by omega
  subst hie
  clear hS hN
  simp -dsimp [hin]
  repeat' (first|omega|simp -dsimp [E257,ri,cellp,ints,hin,srB]|refine aI ?_ fun _=>?_|refine oI fun _=>?_|refine nI ?_ ?_)
 generalize covK m p t i=K0 at *
 have hii:(i:Int)<m.fs.length:=by omega
 have wi:IntKind.wrap .i64 ((i:Int)+1)=(i+1:Nat):=wrap_id (by omega) (by omega)
 obtain⟨x,hx⟩:∃x,m.fs[i]?=some x:=⟨_,List.getElem?_eq_getElem hi1⟩
 have hx':m.fs[i]=x:=(List.getElem?_eq_some_iff.1 hx).2
 have hat:fcAt m i=x:=by simp [fcAt,List.getD,hx]
 have hoff:fcOn m p t i=false→N=K0:=fun h=>by rw [hS,h,if_neg (by simp)]
 have hdn:fcOn m p t i=decide (x.pl=p∧x.a≤t∧t<x.b):=by rw [fcOn,hat]
 by_cases c1:x.pl=p
 case neg=>
  have hN0:=hoff (by rw [hdn]; simp [c1])
  have c1':(x.pl=p)=False:=eq_false c1
  simp -dsimp [hii]
  repeat' (first|omega|simp -dsimp [E257,ri,cellp,ints,hii,hi1,hx,hx',Fc.row,c1',wi]|refine aI ?_ fun _=>?_|refine oI fun _=>?_|refine nI ?_ ?_)
  refine⟨i+1,tle_chain rfl ?_,?_,by omega,by omega⟩
  ·simp [okAll,okv,hN,hN0]
  ·rw [hN,hN0]; exact(by(try simp -dsimp only [hpx]); refine hle_hps ?_; simp -dsimp [allK]<;>exact rz)
 by_cases c2:t<x.a
 case pos=>
  have hN0:=hoff (by rw [hdn]; simp; omega)
  simp -dsimp [hii]
  repeat' (first|omega|simp -dsimp [E257,ri,cellp,ints,hii,hi1,hx,hx',Fc.row,c1,c2,wi]|refine aI ?_ fun _=>?_|refine oI fun _=>?_|refine nI ?_ ?_)
  refine⟨i+1,tle_chain rfl ?_,?_,by omega,by omega⟩
  ·simp [okAll,okv,hN,hN0]
  ·rw [hN,hN0]; exact(by(try simp -dsimp only [hpx]); refine hle_hps ?_; simp -dsimp [allK]<;>exact rz)
 by_cases c3:x.b≤t
 case pos=>
  have hN0:=hoff (by rw [hdn]; simp; omega)
  simp -dsimp [hii]
  repeat' (first|omega|simp -dsimp [E257,ri,cellp,ints,hii,hi1,hx,hx',Fc.row,c1,c2,c3,wi]|refine aI ?_ fun _=>?_|refine oI fun _=>?_|refine nI ?_ ?_)
  refine⟨i+1,tle_chain rfl ?_,?_,by omega,by omega⟩
  ·simp [okAll,okv,hN,hN0]
  ·rw [hN,hN0]; exact(by(try simp -dsimp only [hpx]); refine hle_hps ?_; simp -dsimp [allK]<;>exact rz)
 have hon:fcOn m p t i=true:=by rw [hdn]; simp; omega
 rw [if_pos hon]at hS
 have h8:(K0.length+1) * 8≤140737488355328:=by omega
 have wl:IntKind.wrap .i64 (K0.length:Int)=(K0.length:Nat):=wrap_id (by omega) (by omega)
 have hap:(K0++[i]).map nR=K0.map nR++[[.int .i64 i]]:=by rw [List.map_append]; rfl
 simp -dsimp [hii]
 repeat' (first|omega|simp -dsimp [E257,ri,cellp,ints,hii,hi1,hx,hx',Fc.row,c1,c2,c3,srB,h8,wl]|refine aI ?_ fun _=>?_|refine oI fun _=>?_|refine nI ?_ ?_)
 refine awp_loop [46,47,48,49,50,51,52,53,54,55,56,57,58,59,60,61,62,63,64,65,66,67,68,69,72,73,74,75,76,77,78,79,80,81,82,83,84,85,86,87,70,71,10] (fun q:InJ (SrC.fc m) N (K0.length+1) K0.length=>[(10,(true,.int .i64 q.j))]) (fun q=>hps [(25742,{base:=0,blks:=[srB q.M]}),(25709,{base:=i+1,blks:=[]}),(25703,mS m)] noH) (fun q=>q.j) ⟨K0++[i],K0.length,hS.symm,by simp,Nat.le_refl _,fun z hz=>by
  rcases List.mem_append.1 hz with hz|hz
  ·exact Nat.lt_trans (hlt z hz) hi1
  ·rw [List.mem_singleton.1 hz]; exact hi1⟩ ?_ ?_ ?_
 ·simp [okAll,okv]
 ·exact(by(try simp -dsimp only [hpx]); refine hle_hps ?_; simp -dsimp [allK,srB,nR,mS]<;>exact rz)
 rintro⟨M,j,ht,hl,hj,hbM⟩
 dsimp only
 cases j with
 | zero=>
  have e:M=N:=ht
  subst e
  simp -dsimp [srB]
  repeat' (first|omega|simp -dsimp [E257,ri,cellp,ints,wi,srB]|refine aI ?_ fun _=>?_|refine oI fun _=>?_|refine nI ?_ ?_)
  refine⟨i+1,tle_kept (kept_upds rfl (kept_forget rfl (kept_upds rfl kept_base))) ?_,?_,by omega,by omega⟩
  ·simp [okAll,okv,hN,hl]
  ·rw [hN]; exact(by(try simp -dsimp only [hpx]); refine hle_hps ?_; simp -dsimp [allK,srB,mS]<;>exact rz)
 | succ k=>
  have hk1:k+1<M.length:=by omega
  have hk0:k<M.length:=by omega
  have hki:((k:Int)+1)<(K0.length:Int)+1:=by omega
  have hki0:(k:Int)<(K0.length:Int)+1:=by omega
  obtain⟨u,hu⟩:∃x,M[k+1]?=some x:=⟨_,List.getElem?_eq_getElem hk1⟩
  obtain⟨v,hv⟩:∃x,M[k]?=some x:=⟨_,List.getElem?_eq_getElem hk0⟩
  have hud:M.getD (k+1) 0=u:=by simp [List.getD,hu]
  have hvd:M.getD k 0=v:=by simp [List.getD,hv]
  have hun:u<m.fs.length:=hud ▸ hbM _ (getD_mem0 hk1)
  have hvn:v<m.fs.length:=hvd ▸ hbM _ (getD_mem0 hk0)
  have hui:(u:Int)<m.fs.length:=by omega
  have hvi:(v:Int)<m.fs.length:=by omega
  obtain⟨fu,hfu⟩:∃x,m.fs[u]?=some x:=⟨_,List.getElem?_eq_getElem hun⟩
  obtain⟨fv,hfv⟩:∃x,m.fs[v]?=some x:=⟨_,List.getElem?_eq_getElem hvn⟩
  have hfu':m.fs[u]=fu:=(List.getElem?_eq_some_iff.1 hfu).2
  have hfv':m.fs[v]=fv:=(List.getElem?_eq_some_iff.1 hfv).2
  have ku:(SrC.fc m).key u=fu.iss:=by simp [SrC.key,fcAt,List.getD,hfu]
  have kv:(SrC.fc m).key v=fv.iss:=by simp [SrC.key,fcAt,List.getD,hfv]
  have wk:IntKind.wrap .i64 (k:Int)=(k:Nat):=wrap_id (by omega) (by omega)
  have hM':∀z∈(M.set (k+1) v).set k u,z<(SrC.fc m).n:=fun z hz=>hbM z (mem_set2 hk1 hk0 (by rw [hud,hvd]; exact hz))
  have hsk:sink (SrC.fc m).key M (k+1)=if fu.iss<fv.iss then sink (SrC.fc m).key ((M.set (k+1) v).set k u) k else M:=by rw [sink,hud,hvd,ku,kv]
  by_cases hc:fu.iss<fv.iss
  ·rw [hsk,if_pos hc]at ht
   simp -dsimp [srB]
   repeat' (first|omega|simp -dsimp [E257,ri,cellp,ints,hki,hki0,hk1,hk0,hu,hv,hui,hvi,hun,hvn,hfu,hfu',hfv,hfv',Fc.row,hl,srB,nR,wk,hc]|refine aI ?_ fun _=>?_|refine oI fun _=>?_|refine nI ?_ ?_)
   refine⟨⟨(M.set (k+1) v).set k u,k,ht,by simp [hl],by omega,hM'⟩,tle_chain rfl ?_,?_,by simp only; omega⟩
   ·simp [okAll,okv]
   ·exact(by(try simp -dsimp only [hpx]); refine hle_hps ?_; simp -dsimp [allK,srB,nR,mS]<;>exact rz)
  ·rw [hsk,if_neg hc]at ht
   subst ht
   simp -dsimp [srB]
   repeat' (first|omega|simp -dsimp [E257,ri,cellp,ints,hki,hki0,hk1,hk0,hu,hv,hui,hvi,hun,hvn,hfu,hfu',hfv,hfv',Fc.row,hl,srB,nR,wk,wi,hc]|refine aI ?_ fun _=>?_|refine oI fun _=>?_|refine nI ?_ ?_)
   refine⟨i+1,tle_kept (kept_upds rfl (kept_forget rfl (kept_upds rfl kept_base))) ?_,?_,by omega,by omega⟩
   ·simp [okAll,okv,hN,hl]
   ·rw [hN]; exact(by(try simp -dsimp only [hpx]); refine hle_hps ?_; simp -dsimp [allK,srB,nR,mS]<;>exact rz)
theorem ok257:FO 257 coS4:=pf b257 .nil
end Go.Sx
end
section
namespace Go.Sx
open Go.Proofs
attribute [local irreducible] HLe
abbrev seS4:PSpec:=mkP myE MlP fun d=>.sl 1 ((seeK d.1 d.2.1 d.2.2 d.1.ss.length).map nR)
abbrev E259:Env:={P:=Tryz.prog,fn:=tbl [],own:=[],key:=25900,nt:=85,frz:=[(1,[3,50003])]}
theorem b259:PureBody E259 [] Tryz.f259 seS4:=by
 refine pb ?_
 rintro⟨m,p,t⟩ ⟨hf,hs⟩
 simp only at hf hs
 simp -dsimp [Tryz.f259,E259]
 repeat' (first|omega|simp -dsimp [E259,ri,cellp,ints, *]|refine aI ?_ fun _=>?_|refine oI fun _=>?_|refine nI ?_ ?_)
 refine awp_loop_g [(7,25938,1,3)] rfl (by simp) [10,11,12,13,14,17,18,19,20,21,22,23,24,25,26,27,28,29,30,31,32,33,34,35,36,37,38,7,39,40,41,9,42,43,44,45,46,47,48,49,50,51,52,53,54,55,56,57,58,59,60,61,62,63,64,65,68,69,70,71,72,73,74,75,76,77,78,79,80,81,82,83,66,67,15,16,8] (fun k:{k:Nat // k≤m.ss.length}=>[(8,(true,.int .i64 k.1)),(7,(true,.bsl 25938 0 (seeK m p t k.1).length))]) (fun k=>hps [(25938,{base:=0,blks:=[srB (seeK m p t k.1)]}),(25903,mS m)] noH) (fun k=>m.ss.length - k.1) ⟨0,by omega⟩ ?_ ?_ ?_
 ·simp [okAll,okv,seeK,seen,srtK]
 ·exact(by(try simp -dsimp only [hpx]); refine hle_hps ?_; simp -dsimp [allK,srB,seeK,seen,srtK,mS]<;>exact rz)
 rintro⟨i,hi⟩
 dsimp only
 have hS:=seeK_succ m p t i
 have hlen:=seeK_len m p t i
 have hlt:=fun x (hx:x∈seeK m p t i)=>seeK_lt hx
 generalize hN:seeK m p t (i+1)=N at *
 by_cases hi1:i<m.ss.length
 case neg=>
  have hin:¬ (i:Int)<m.ss.length:=by omega
  have hie:i=m.ss.length:=by omega
  subst hie
  clear hS hN
  simp -dsimp [hin]
  repeat' (first|omega|simp -dsimp [E259,ri,cellp,ints,hin,srB]|refine aI ?_ fun _=>?_|refine oI fun _=>?_|refine nI ?_ ?_)
 generalize seeK m p t i=K0 at *
 have hii:(i:Int)<m.ss.length:=by omega
 have wi:IntKind.wrap .i64 ((i:Int)+1)=(i+1:Nat):=wrap_id (by omega) (by omega)
 obtain⟨x,hx⟩:∃x,m.ss[i]?=some x:=⟨_,List.getElem?_eq_getElem hi1⟩
 have hx':m.ss[i]=x:=(List.getElem?_eq_some_iff.1 hx).2
 have hat:sgAt m i=x:=by simp [sgAt,List.getD,hx]
 have hoff:sgOn m p t i=false→N=K0:=fun h=>by rw [hS,h,if_neg (by simp)]
 have hdn:sgOn m p t i=decide (x.pl=p∧x.at'≤t):=by rw [sgOn,hat]
 by_cases c1:x.pl=p
 case neg=>
  have hN0:=hoff (by rw [hdn]; simp [c1])
  have c1':(x.pl=p)=False:=eq_false c1
  simp -dsimp [hii]
  repeat' (first|omega|simp -dsimp [E259,ri,cellp,ints,hii,hi1,hx,hx',Sg.row,c1',wi]|refine aI ?_ fun _=>?_|refine oI fun _=>?_|refine nI ?_ ?_)
  refine⟨i+1,tle_chain rfl ?_,?_,by omega,by omega⟩
  ·simp [okAll,okv,hN,hN0]
  ·rw [hN,hN0]; exact(by(try simp -dsimp only [hpx]); refine hle_hps ?_; simp -dsimp [allK]<;>exact rz)
 by_cases c2:t<x.at'
 case pos=>
  have hN0:=hoff (by rw [hdn]; simp; omega)
  simp -dsimp [hii]
  repeat' (first|omega|simp -dsimp [E259,ri,cellp,ints,hii,hi1,hx,hx',Sg.row,c1,c2,wi]|refine aI ?_ fun _=>?_|refine oI fun _=>?_|refine nI ?_ ?_)
  refine⟨i+1,tle_chain rfl ?_,?_,by omega,by omega⟩
  ·simp [okAll,okv,hN,hN0]
  ·rw [hN,hN0]; exact(by(try simp -dsimp only [hpx]); refine hle_hps ?_; simp -dsimp [allK]<;>exact rz)
 have hon:sgOn m p t i=true:=by rw [hdn]; simp; omega
 rw [if_pos hon]at hS
 have h8:(K0.length+1) * 8≤140737488355328:=by omega
 have wl:IntKind.wrap .i64 (K0.length:Int)=(K0.length:Nat):=wrap_id (by omega) (by omega)
 have hap:(K0++[i]).map nR=K0.map nR++[[.int .i64 i]]:=by rw [List.map_append]; rfl
 simp -dsimp [hii]
 repeat' (first|omega|simp -dsimp [E259,ri,cellp,ints,hii,hi1,hx,hx',Sg.row,c1,c2,srB,h8,wl]|refine aI ?_ fun _=>?_|refine oI fun _=>?_|refine nI ?_ ?_)
 refine awp_loop [42,43,44,45,46,47,48,49,50,51,52,53,54,55,56,57,58,59,60,61,62,63,64,65,68,69,70,71,72,73,74,75,76,77,78,79,80,81,82,83,66,67,9] (fun q:InJ (SrC.sg m) N (K0.length+1) K0.length=>[(9,(true,.int .i64 q.j))]) (fun q=>hps [(25938,{base:=0,blks:=[srB q.M]}),(25903,mS m)] noH) (fun q=>q.j) ⟨K0++[i],K0.length,hS.symm,by simp,Nat.le_refl _,fun z hz=>by
  rcases List.mem_append.1 hz with hz|hz
  ·exact Nat.lt_trans (hlt z hz) hi1
  ·rw [List.mem_singleton.1 hz]; exact hi1⟩ ?_ ?_ ?_
 ·simp [okAll,okv]
 ·exact(by(try simp -dsimp only [hpx]); refine hle_hps ?_; simp -dsimp [allK,srB,nR,mS]<;>exact rz)
 rintro⟨M,j,ht,hl,hj,hbM⟩
 dsimp only
 cases j with
 | zero=>
  have e:M=N:=ht
  subst e
  simp -dsimp [srB]
  repeat' (first|omega|simp -dsimp [E259,ri,cellp,ints,wi,srB]|refine aI ?_ fun _=>?_|refine oI fun _=>?_|refine nI ?_ ?_)
  refine⟨i+1,tle_kept (kept_upds rfl (kept_forget rfl (kept_upds rfl kept_base))) ?_,?_,by omega,by omega⟩
  ·simp [okAll,okv,hN,hl]
  ·rw [hN]; exact(by(try simp -dsimp only [hpx]); refine hle_hps ?_; simp -dsimp [allK,srB,mS]<;>exact rz)
 | succ k=>
  have hk1:k+1<M.length:=by omega
  have hk0:k<M.length:=by omega
  have hki:((k:Int)+1)<(K0.length:Int)+1:=by omega
  have hki0:(k:Int)<(K0.length:Int)+1:=by omega
  obtain⟨u,hu⟩:∃x,M[k+1]?=some x:=⟨_,List.getElem?_eq_getElem hk1⟩
  obtain⟨v,hv⟩:∃x,M[k]?=some x:=⟨_,List.getElem?_eq_getElem hk0⟩
  have hud:M.getD (k+1) 0=u:=by simp [List.getD,hu]
  have hvd:M.getD k 0=v:=by simp [List.getD,hv]
  have hun:u<m.ss.length:=hud ▸ hbM _ (getD_mem0 hk1)
  have hvn:v<m.ss.length:=hvd ▸ hbM _ (getD_mem0 hk0)
  have hui:(u:Int)<m.ss.length:=by omega
  have hvi:(v:Int)<m.ss.length:=by omega
  obtain⟨fu,hfu⟩:∃x,m.ss[u]?=some x:=⟨_,List.getElem?_eq_getElem hun⟩
  obtain⟨fv,hfv⟩:∃x,m.ss[v]?=some x:=⟨_,List.getElem?_eq_getElem hvn⟩
  have hfu':m.ss[u]=fu:=(List.getElem?_eq_some_iff.1 hfu).2
  have hfv':m.ss[v]=fv:=(List.getElem?_eq_some_iff.1 hfv).2
  have ku:(SrC.sg m).key u=fu.at':=by simp [SrC.key,sgAt,List.getD,hfu]
  have kv:(SrC.sg m).key v=fv.at':=by simp [SrC.key,sgAt,List.getD,hfv]
  have wk:IntKind.wrap .i64 (k:Int)=(k:Nat):=wrap_id (by omega) (by omega)
  have hM':∀z∈(M.set (k+1) v).set k u,z<(SrC.sg m).n:=fun z hz=>hbM z (mem_set2 hk1 hk0 (by rw [hud,hvd]; exact hz))
  have hsk:sink (SrC.sg m).key M (k+1)=if fu.at'<fv.at' then sink (SrC.sg m).key ((M.set (k+1) v).set k u) k else M:=by rw [sink,hud,hvd,ku,kv]
  by_cases hc:fu.at'<fv.at'
  ·rw [hsk,if_pos hc]at ht
   simp -dsimp [srB]
   repeat' (first|omega|simp -dsimp [E259,ri,cellp,ints,hki,hki0,hk1,hk0,hu,hv,hui,hvi,hun,hvn,hfu,hfu',hfv,hfv',Sg.row,hl,srB,nR,wk,hc]|refine aI ?_ fun _=>?_|refine oI fun _=>?_|refine nI ?_ ?_)
   refine⟨⟨(M.set (k+1) v).set k u,k,ht,by simp [hl],by omega,hM'⟩,tle_chain rfl ?_,?_,by simp only; omega⟩
   ·simp [okAll,okv]
   ·exact(by(try simp -dsimp only [hpx]); refine hle_hps ?_; simp -dsimp [allK,srB,nR,mS]<;>exact rz)
  ·rw [hsk,if_neg hc]at ht
   subst ht
   simp -dsimp [srB]
   repeat' (first|omega|simp -dsimp [E259,ri,cellp,ints,hki,hki0,hk1,hk0,hu,hv,hui,hvi,hun,hvn,hfu,hfu',hfv,hfv',Sg.row,hl,srB,nR,wk,wi,hc]|refine aI ?_ fun _=>?_|refine oI fun _=>?_|refine nI ?_ ?_)
   refine⟨i+1,tle_kept (kept_upds rfl (kept_forget rfl (kept_upds rfl kept_base))) ?_,?_,by omega,by omega⟩
   ·simp [okAll,okv,hN,hl]
   ·rw [hN]; exact(by(try simp -dsimp only [hpx]); refine hle_hps ?_; simp -dsimp [allK,srB,nR,mS]<;>exact rz)
theorem ok259:FO 259 seS4:=pf b259 .nil
end Go.Sx
end
section
namespace Go.Sx
open Go.Proofs
attribute [local irreducible] HLe
def skR (k:Sky):Site:={base:=0,blks:=[{z:=8,els:=[k.row],ty:=25}]}
theorem sk2E_mk (a1 a2 a3 a4 a5 a6 b1 b2 b3 b4 b5 b6:Int) (a7 a8 b7 b8:Bool):decC sk2E [.agg [.int .i64 a1,.int .i64 a2,.int .i64 a3,.int .i64 a4,.int .i64 a5,.int .i64 a6,.bool a7,.bool a8],.agg [.int .i64 b1,.int .i64 b2,.int .i64 b3,.int .i64 b4,.int .i64 b5,.int .i64 b6,.bool b7,.bool b8]]=(⟨⟨a1,a2⟩,⟨a3,a4⟩,⟨a5,a6⟩,a7,a8⟩,⟨⟨b1,b2⟩,⟨b3,b4⟩,⟨b5,b6⟩,b7,b8⟩):=decC_eq sk2E_inj (⟨⟨a1,a2⟩,⟨a3,a4⟩,⟨a5,a6⟩,a7,a8⟩,⟨⟨b1,b2⟩,⟨b3,b4⟩,⟨b5,b6⟩,b7,b8⟩)
abbrev my4S:PSpec:=mkP myE MayP fun d=>.tup [.agg (mayK d.1 d.2.1 d.2.2).row,.sl 1 ((mayF d.1 d.2.1 d.2.2).2.map nR)]
abbrev E234:Env:={P:=Tryz.prog,fn:=tbl [(257,.pure coS4),(258,.pure ckySx),(259,.pure seS4),(260,.pure ctW),(261,.pure neaS)],own:=[],key:=23400,nt:=132,frz:=[(1,[3,50003])]}
theorem b234:PureBody E234 [(7,([2000,2,5,6,7,9,10],[[0,1,2,3,4,5,6,7,8,9,10,11,12,13,14,15,16]])),(15,([1,4,5,6,7],[[0,1,2,3,4,5,6,7,8,9]]))] Tryz.f234 my4S:=by
 refine pb ?_
 rintro⟨m,p,t⟩ ⟨hok,hf,hs,ht⟩
 simp only at hok hf hs ht
 have hF:=met_facts hok
 have hMl:MlP (m,p,t):=⟨by simp only; omega,by simp only; omega⟩
 have hLb:∀x∈covs m p t m.fs.length,x<m.fs.length:=fun x hx=>(covs_lt hx).1
 have hLl:=covs_len m p t m.fs.length
 have hKl:(covK m p t m.fs.length).length=(covs m p t m.fs.length).length:=srtK_len _ _
 have hKb:∀x∈covK m p t m.fs.length,x<m.fs.length:=srtK_lt hLb
 have hFe:mayF m p t=fcTo m (covK m p t m.fs.length) (covK m p t m.fs.length).length:=rfl
 have hGa:∀x∈seeK m p t m.ss.length,x<m.ss.length∧(sgAt m x).at'≤t:=fun x hx=>by
  have:=seen_lt (srtK_mem.1 hx)
  simp only [sgOn,decide_eq_true_eq]at this
  exact⟨this.1,this.2.2⟩
 have hGl:(seeK m p t m.ss.length).length=(seen m p t m.ss.length).length:=srtK_len _ _
 have hLl2:=seen_len m p t m.ss.length
 simp -dsimp [Tryz.f234,E234]
 repeat' (first|omega|simp -dsimp [E234,ri,cellp,ints,myE_dec,hMl,Sky.row]|refine aI ?_ fun _=>?_|refine oI fun _=>?_|refine nI ?_ ?_)
 generalize covK m p t m.fs.length=K at *
 generalize covs m p t m.fs.length=L at *
 refine awp_loop_g [(9,23452,1,3)] rfl (by simp) [24,25,26,27,31,32,33,34,35,36,37,38,39,40,41,30,42,43,12,13,44,45,46,47,48,49,50,51,52,9,28,29,11] (fun k:{k:Nat // k≤K.length}=>[(11,(true,.int .i64 k.1)),(9,(true,.bsl 23452 0 (fcTo m K k.1).2.length))]) (fun k=>hps [(23412,{base:=k.1,blks:=[]}),(23452,{base:=0,blks:=[srB (fcTo m K k.1).2]}),(23408,skR (fcTo m K k.1).1),(23406,skR ⟨⟨0,0⟩,⟨0,0⟩,⟨0,0⟩,false,false⟩),(23403,mS m)] noH) (fun k=>K.length - k.1) ⟨0,by omega⟩ ?_ ?_ ?_
 ·simp [okAll,okv,fcTo]
 ·exact(by(try simp -dsimp only [hpx]); refine hle_hps ?_; simp -dsimp [allK,srB,fcTo,skR,mS,Sky.row]<;>exact rz)
 rintro⟨k,hk⟩
 dsimp only
 by_cases hk1:k<K.length
 ·have hki:(k:Int)<K.length:=by omega
  have wk:IntKind.wrap .i64 ((k:Int)+1)=(k+1:Nat):=wrap_id (by omega) (by omega)
  obtain⟨q,hq⟩:∃q,K[k]?=some q:=⟨_,List.getElem?_eq_getElem hk1⟩
  have hq':K[k]=q:=(List.getElem?_eq_some_iff.1 hq).2
  have hqn:q<m.fs.length:=hKb q (hq' ▸ List.getElem_mem hk1)
  have hqi:(q:Int)<m.fs.length:=by omega
  obtain⟨x,hx⟩:∃x,m.fs[q]?=some x:=⟨_,List.getElem?_eq_getElem hqn⟩
  have hx':m.fs[q]=x:=(List.getElem?_eq_some_iff.1 hx).2
  have hat:fcAt m q=x:=by simp [fcAt,List.getD,hx]
  have hS1:(fcTo m K (k+1)).1=(cutK (fcTo m K k).1 x.k).1:=by simp [fcTo,List.getD,hq,hat]
  have hS2:(fcTo m K (k+1)).2=(fcTo m K k).2++if (cutK (fcTo m K k).1 x.k).2=true then [q]else []:=by simp [fcTo,List.getD,hq,hat]
  have hSl:=fcTo_len m K k
  have h8:((fcTo m K k).2.length+1) * 8≤140737488355328:=by omega
  generalize (fcTo m K k).1=Kp at *
  generalize (fcTo m K k).2=Sp0 at *
  obtain⟨⟨w1,w2⟩,⟨s1,s2⟩,⟨c1,c2⟩,ic,st⟩:=Kp
  obtain⟨x1,x2,x3,x4,⟨⟨y1,y2⟩,⟨y3,y4⟩,⟨y5,y6⟩,yi,ys⟩⟩:=x
  simp only at hS1 hS2
  rw [cutK_mk]at hS1
  cases hc:(cutK ⟨⟨w1,w2⟩,⟨s1,s2⟩,⟨c1,c2⟩,ic,st⟩ ⟨⟨y1,y2⟩,⟨y3,y4⟩,⟨y5,y6⟩,yi,ys⟩).2
  ·rw [hc,if_neg (by simp),List.append_nil]at hS2
   simp -dsimp [FreeAt,FoOk,hki,skR,Sky.row]
   repeat' (first|omega|simp -dsimp [E234,ri,cellp,ints,FreeAt,FoOk,hki,hk1,hq,hq',hqn,hqi,hx,hx',Fc.row,srB,nR,skR,Sky.row,sk2E_mk,hc,cutK_mk,wk]|refine aI ?_ fun _=>?_|refine oI fun _=>?_|refine nI ?_ ?_)
   all_goals
    refine⟨k+1,tle_chain rfl ?_,?_,by omega,by omega⟩
    ·simp [okAll,okv,hS2]
    ·rw [hS1,hS2]
     exact(by(try simp -dsimp only [hpx]); refine hle_hps ?_; simp -dsimp [allK,srB,nR,skR,Sky.row]<;>exact rz)
  ·rw [hc,if_pos rfl]at hS2
   simp -dsimp [FreeAt,FoOk,hki,skR,Sky.row]
   repeat' (first|omega|simp -dsimp [E234,ri,cellp,ints,FreeAt,FoOk,hki,hk1,hq,hq',hqn,hqi,hx,hx',Fc.row,srB,nR,skR,Sky.row,sk2E_mk,hc,cutK_mk,wk,h8]|refine aI ?_ fun _=>?_|refine oI fun _=>?_|refine nI ?_ ?_)
   all_goals
    refine⟨k+1,tle_chain rfl ?_,?_,by omega,by omega⟩
    ·simp [okAll,okv,hS2]
    ·rw [hS1,hS2]
     exact(by(try simp -dsimp only [hpx]); refine hle_hps ?_; simp -dsimp [allK,srB,nR,skR,Sky.row]<;>exact rz)
 have hkn:¬ (k:Int)<K.length:=by omega
 have hke:k=K.length:=by omega
 subst hke
 rw [←hFe]
 clear hk hk1
 have hMl2:(mayF m p t).2.length≤K.length:=by rw [hFe]; exact fcTo_len m K _
 have hKm:mayK m p t=sgTo m t (seeK m p t m.ss.length) (mayF m p t).1 (seeK m p t m.ss.length).length:=rfl
 generalize hMF:mayF m p t=MF at *
 obtain⟨k0,Ss⟩:=MF
 simp only at hMl2
 simp -dsimp [hkn]
 repeat' (first|omega|simp -dsimp [E234,ri,cellp,ints,hkn,myE_dec,hMl,srB]|refine aI ?_ fun _=>?_|refine oI fun _=>?_|refine nI ?_ ?_)
 generalize seeK m p t m.ss.length=G at *
 generalize seen m p t m.ss.length=L2 at *
 refine awp_loop [57,58,59,60,63,64,65,66,67,68,69,70,16,71,72,73,74,17,76,77,78,79,80,81,82,83,84,85,86,75,87,88,89,91,92,93,94,95,96,97,98,99,100,101,90,102,103,104,106,107,108,109,110,111,112,113,114,115,116,105,117,118,119,120,121,122,123,124,125,126,127,128,129,61,62,15] (fun k:{k:Nat // k≤G.length}=>[(15,(true,.int .i64 k.1))]) (fun k=>hps [(23416,{base:=k.1,blks:=[]}),(23408,skR (sgTo m t G k0 k.1)),(23412,{base:=K.length,blks:=[]}),(23452,{base:=0,blks:=[srB Ss]}),(23406,skR ⟨⟨0,0⟩,⟨0,0⟩,⟨0,0⟩,false,false⟩),(23403,mS m)] noH) (fun k=>G.length - k.1) ⟨0,by omega⟩ ?_ ?_ ?_
 ·simp [okAll,okv]
 ·exact(by(try simp -dsimp only [hpx]); refine hle_hps ?_; simp -dsimp [allK,srB,sgTo]<;>exact rz)
 rintro⟨k,hk⟩
 dsimp only
 by_cases hk1:k<G.length
 ·have hki:(k:Int)<G.length:=by omega
  have wk:IntKind.wrap .i64 ((k:Int)+1)=(k+1:Nat):=wrap_id (by omega) (by omega)
  obtain⟨q,hq⟩:∃q,G[k]?=some q:=⟨_,List.getElem?_eq_getElem hk1⟩
  have hq':G[k]=q:=(List.getElem?_eq_some_iff.1 hq).2
  obtain⟨hqn,hqt⟩:=hGa q (hq' ▸ List.getElem_mem hk1)
  have hqi:(q:Int)<m.ss.length:=by omega
  obtain⟨x,hx⟩:∃x,m.ss[q]?=some x:=⟨_,List.getElem?_eq_getElem hqn⟩
  have hx':m.ss[q]=x:=(List.getElem?_eq_some_iff.1 hx).2
  have hat:sgAt m q=x:=by simp [sgAt,List.getD,hx]
  rw [hat]at hqt
  have hS1:sgTo m t G k0 (k+1)=sgCut m t (sgTo m t G k0 k) x:=by simp [sgTo,List.getD,hq,hat]
  obtain⟨hxa,hxw,hxs,hxc⟩:=hF.g x (hx' ▸ List.getElem_mem hqn)
  obtain⟨hmw,hms,hmc⟩:=And.intro hF.w (And.intro hF.s hF.c)
  have hn0:0≤t - x.at'∧t - x.at'≤2000:=by omega
  unfold sgCut at hS1
  obtain⟨n,hne⟩:∃n,t - x.at'=n:=⟨_,rfl⟩
  rw [hne]at hS1 hn0
  have w0:IntKind.wrap .i64 (t - x.at')=n:=by rw [wrap_id (by omega) (by omega),hne]
  have pb1:∀c:Int,0≤c∧c≤20000→0≤n * c∧n * c≤40000000:=fun c hc=>⟨Int.mul_nonneg hn0.1 hc.1,by
   have:=Int.mul_le_mul hn0.2 hc.2 hc.1 (by omega:(0:Int)≤2000)
   omega⟩
  have p1:=pb1 _ hmw
  have p2:=pb1 _ hms
  have p3:=pb1 _ hmc
  clear pb1
  obtain⟨n1,hn1⟩:∃n1,n * m.w=n1:=⟨_,rfl⟩
  obtain⟨n2,hn2⟩:∃n2,n * m.s=n2:=⟨_,rfl⟩
  obtain⟨n3,hn3⟩:∃n3,n * m.c=n3:=⟨_,rfl⟩
  rw [hn1]at hS1 p1
  rw [hn2]at hS1 p2
  rw [hn3]at hS1 p3
  have w1:IntKind.wrap .i64 (n * m.w)=n1:=by rw [hn1]; exact wrap_id (by omega) (by omega)
  have w2:IntKind.wrap .i64 (n * m.s)=n2:=by rw [hn2]; exact wrap_id (by omega) (by omega)
  have w3:IntKind.wrap .i64 (n * m.c)=n3:=by rw [hn3]; exact wrap_id (by omega) (by omega)
  clear hn1 hn2 hn3 hne
  generalize hA1:arS x.k.w n1 300=A1 at *
  generalize hA2:arS x.k.s n2 20000=A2 at *
  generalize hA3:arS x.k.c n3 20000=A3 at *
  obtain⟨a1,b1⟩:=A1
  obtain⟨a2,b2⟩:=A2
  obtain⟨a3,b3⟩:=A3
  generalize hKp:sgTo m t G k0 k=Kp at *
  obtain⟨⟨w1',w2'⟩,⟨s1,s2⟩,⟨c1,c2⟩,ic,st⟩:=Kp
  simp only at hS1
  by_cases hn:n=0
  ·rw [if_pos hn,if_pos hn]at hS1
   have hn':(n=0)=True:=eq_true hn
   simp -dsimp [FreeAt,FoOk,hki,skR,Sky.row]
   repeat' (first|omega|simp -dsimp [E234,ri,cellp,ints,FreeAt,FoOk,hki,hk1,hq,hq',hqn,hqi,hx,hx',Sg.row,Sp.row,s2pE_dec,srB,nR,skR,Sky.row,wk,w0,w1,w2,w3,hA1,hA2,hA3,hn',hxw,hxs,hxc,p1,p2,p3]|refine aI ?_ fun _=>?_|refine oI fun _=>?_|refine nI ?_ ?_)
   all_goals
    refine⟨k+1,tle_chain rfl ?_,?_,by omega,by omega⟩
    ·simp [okAll,okv]
    ·rw [hS1]
     exact(by(try simp -dsimp only [hpx]); refine hle_hps ?_; simp -dsimp [allK,srB,nR,skR,Sky.row]<;>exact rz)
  ·rw [if_neg hn,if_neg hn]at hS1
   have hn':(n=0)=False:=eq_false hn
   simp -dsimp [FreeAt,FoOk,hki,skR,Sky.row]
   repeat' (first|omega|simp -dsimp [E234,ri,cellp,ints,FreeAt,FoOk,hki,hk1,hq,hq',hqn,hqi,hx,hx',Sg.row,Sp.row,s2pE_dec,srB,nR,skR,Sky.row,wk,w0,w1,w2,w3,hA1,hA2,hA3,hn',hxw,hxs,hxc,p1,p2,p3]|refine aI ?_ fun _=>?_|refine oI fun _=>?_|refine nI ?_ ?_)
   all_goals
    refine⟨k+1,tle_chain rfl ?_,?_,by omega,by omega⟩
    ·simp [okAll,okv]
    ·rw [hS1]
     exact(by(try simp -dsimp only [hpx]); refine hle_hps ?_; simp -dsimp [allK,srB,nR,skR,Sky.row]<;>exact rz)
 have hkn:¬ (k:Int)<G.length:=by omega
 have hke:k=G.length:=by omega
 subst hke
 rw [←hKm]
 simp -dsimp [hkn,skR,Sky.row]
 repeat' (first|omega|simp -dsimp [E234,ri,cellp,ints,hkn,skR,Sky.row,srB,hMF]|refine aI ?_ fun _=>?_|refine oI fun _=>?_|refine nI ?_ ?_)
theorem ok234:FO 234 my4S:=pf b234 (.cons ok257 (.cons ok258 (.cons ok259 (.cons ok260 (.cons ok261 .nil)))))
end Go.Sx
end
end
