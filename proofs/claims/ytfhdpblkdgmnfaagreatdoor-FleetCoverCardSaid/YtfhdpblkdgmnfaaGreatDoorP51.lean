/- A part of a proof; no conditions. -/
import Derived.Test.YtfhdpblkdgmnfaaGreatDoorP50
import Derived.Test.YtfhdpblkdgmnfaaGreatDoorP46
import Derived.Test.YtfhdpblkdgmnfaaGreatDoorP18
set_option linter.unusedSimpArgs false
set_option linter.unusedVariables false
set_option linter.unusedSectionVars false
set_option maxRecDepth 100000
set_option maxHeartbeats 8000000
noncomputable section
section
namespace Go.Sx
open Go.Proofs
attribute [local irreducible] bA
@[simp] def fiE (d:Fl):List V:=[flI d]
theorem atJ (a b:Fl) (h:fiE a=fiE b):a=b:=by
 simp only [fiE,List.cons.injEq,and_true]at h; exact xA _ _ h
theorem atK (f:Fl):aY fiE [.ip 41 [qs f] 0 0]=f:=aA atJ f
noncomputable abbrev at4:aB:=bS fiE (fun _=>True) fun f=>plI f []
theorem atL (f:Fl):j9 f []=f.wF:=by simp [j9]
theorem atM (f:Fl):vaF f []=0:=rfl
noncomputable abbrev E94:Env:={P:=Tryz.prog,fn:=bf [],own:=[],key:=9400,nt:=11}
theorem b94:af E94 [] Tryz.f94 at4:=pb <| by
 rintro f _
 have hR:plR f []=[.ip 41 [qs f] 0 0,.nil,.sl 3 (f.wF.map Du.row),.int .i64 0]:=by
  unfold plR; rw [asv,aso,atL,atM]
 simp -dsimp [Tryz.f94,E94]
 repeat' (first|omega|simp -dsimp [E94,ri,aa,ints,hR]|apply aI|refine oI fun _=>?_|apply nI)
theorem auL:FO 94 at4:=pf b94 .nil
structure NpP (d:Fl × List Sr):Prop where
 k:Cw d.1
 l:d.2.length≤100000000000000
noncomputable abbrev at5:aB:=bS yU NpP fun d=>.dB [if (O7 d.1 d.2).2=0 then plI d.1 d.2 else .lg,.int .i64 (O7 d.1 d.2).1,.int .i64 (O7 d.1 d.2).2]
noncomputable abbrev E42:Env:={P:=Tryz.prog,fn:=bf [(24,.pure nfS),(94,.pure at4),(95,.pure atU)],own:=[],key:=4200,nt:=35,jQ:=[(1,[2,50002])]}
theorem b42:af E42 [] Tryz.f42 at5:=pb <| by
 rintro⟨f,l⟩ ⟨hK,hl⟩
 simp only at hK hl
 have hf:=hK.ok
 have hE:O7 f l=if YV f l false<0 then (0,0)else (YV f l false,111):=if_pos (tC.2 hf)
 simp -dsimp [Tryz.f42,E42]
 repeat' (first|omega|simp -dsimp [E42,ri,aa,ints,fC,atK,hK]|apply aI|refine oI fun _=>?_|apply nI)
 refine ay [23,24,25,26,9,8,27,28,29,4,30,31,32,5,6,33,22] (fun k:{k:Nat // k≤l.length∧Good f false (l.take k)}=>[(22,(true,.int .i64 k.1)),(4,(true,.ip 4 [plR f (l.take k.1)] 0 0))]) (fun k=>hps [(4209,{base:=k.1,ah:=[]}),(4202,fS f)] cg) (fun k=>l.length - k.1) ⟨0,by omega,by rw [List.take_zero]; exact Good.nil⟩ ?_ ?_ ?_
 ·simp [aj,aT]
 ·(try simp -dsimp only [hpx]); refine ai ?_; simp -dsimp [aC,fS]<;>exact rz
 rintro⟨k,hk,hall⟩
 dsimp only
 by_cases aH:k<l.length
 ·have hki:(k:Int)<l.length:=by omega
  have wk:=wx k
  obtain⟨x,hx,hx'⟩:=gx aH
  have O5:l.getD k default=x:=by simp [List.getD,hx]
  have l7:wS f (l.take k) x false=false→YV f l false=k:=fun h=>ad0 aH hall (by rw [O5]; exact h)
  have sQ:wS f (l.take k) x false=true→Good f false (l.take (k+1)):=fun h=>Good.more aH hall (by rw [O5]; exact h)
  have hta:l.take (k+1)=l.take k++[x]:=by rw [List.take_add_one,hx]; rfl
  generalize auo:l.take (k+1)=l1 at *
  generalize l.take k=lk at *
  obtain⟨xj,xm,xc,xk⟩:=x
  have hAd:AdP ((f,lk),⟨xj,xm,xc,xk⟩,false):=⟨hK,hall.weak⟩
  cases c:wS f lk ⟨xj,xm,xc,xk⟩ false
  ·have hb:=l7 c
   have hE:O7 f l=((k:Int),111):=by rw [hE,hb,if_neg (by omega)]
   simp -dsimp [hki,fS]
   repeat' (first|omega|simp -dsimp [E42,ri,aa,ints,hki,aH,hx,hx',Sr.row,asz,hAd,c,hE]|apply aI|refine oI fun _=>?_|apply nI)
  ·have sQ:=sQ c
   simp -dsimp [hki,fS]
   repeat' (first|omega|simp -dsimp [E42,ri,aa,ints,hki,aH,hx,hx',Sr.row,asz,hAd,c,wk]|apply aI|refine oI fun _=>?_|apply nI)
   refine⟨k+1,ag rfl ?_,?_,⟨by omega,by rw [auo]; exact sQ⟩,by omega⟩
   ·simp [aj,aT,auo,hta]
   ·(try simp -dsimp only [hpx]); refine ai ?_; simp -dsimp [aC,fS]<;>exact rz
 have hkn:¬ (k:Int)<l.length:=by omega
 have hke:k=l.length:=by omega
 subst hke
 rw [List.take_length]at hall ⊢
 have hb:=zI.2 hall
 have hE:O7 f l=(0,0):=by rw [hE,hb,if_pos (by omega)]
 simp -dsimp [hkn]
 repeat' (first|omega|simp -dsimp [E42,ri,aa,ints,hkn,hE]|apply aI|refine oI fun _=>?_|apply nI)
theorem auM:FO 42 at5:=pf b42 (.cons ag0 (.cons auL (.cons aut .nil)))
def rdL (f:Fl) (l:List Sr) (t:Int) (k:Nat):List Int:=((List.range k).filter fun m:Nat=>GW f l m t).map fun m:Nat=>(m:Int)
theorem asE (f:Fl) (l:List Sr) (t:Int) (k:Nat):rdL f l t (k+1)=if GW f l k t=true then rdL f l t k++[(k:Int)]else rdL f l t k:=by
 unfold rdL
 rw [List.range_succ,List.filter_append,List.map_append]
 by_cases h:GW f l k t=true
 ·rw [if_pos h]; simp [h]
 ·rw [if_neg h]; simp [h]
theorem asx (f:Fl) (l:List Sr) (t:Int):∀k:Nat,((rdL f l t k).length:Int)=GX f l t k
 | 0=>rfl
 | k+1=>by
  have:=asx f l t k
  rw [asE,GX]
  split
  ·simp; omega
  ·omega
@[simp] def ato (d:(Fl × List Sr) × Int):List V:=[.agg d.1.1.row,.sl 4 (d.1.2.map Sr.row),.int .i64 d.2]
theorem atp (a b:(Fl × List Sr) × Int) (h:ato a=ato b):a=b:=by
 obtain⟨⟨a1,a2⟩,a3⟩:=a; obtain⟨⟨b1,b2⟩,b3⟩:=b
 simp only [ato,List.cons.injEq,V.agg.injEq,V.sl.injEq,V.int.injEq,true_and,and_true]at h
 rw [Fl.aq _ _ h.1,aR Sr.aq h.2.1,h.2.2]
theorem atq (f:Fl) (l:List Sr) (t:Int):aY ato [.agg f.row,.sl 4 (l.map Sr.row),.int .i64 t]=((f,l),t):=aA atp ((f,l),t)
structure ReP (d:(Fl × List Sr) × Int):Prop where
 k:Cw d.1.1
 g:Good d.1.1 false d.1.2
 t:0≤d.2∧d.2<d.1.1.gF
noncomputable abbrev at6:aB:=bS ato ReP fun d=>.dB [.sl 1 ((rdL d.1.1 d.1.2 d.2 d.1.1.dU.length).map ri),.int .i64 0]
noncomputable abbrev E20:Env:={P:=Tryz.prog,fn:=bf [(42,.pure at5),(43,.pure nA),(44,.pure atH)],own:=[],key:=2000,nt:=43,jQ:=[(1,[3,50003])]}
theorem b20:af E20 [] Tryz.f20 at6:=pb <| by
 rintro⟨⟨f,l⟩,t⟩ ⟨hK,hG,ht⟩
 simp only at hK hG ht
 have hf:=hK.ok
 have hl6:=hG.atw
 have hj6:=hf.jobs
 have hun:=hf.gF
 have hm8:=hf.JJ
 have hE:O7 f l=(0,0):=by
  have h2:(O7 f l).2=0:=Fe.2 ⟨hf,hG⟩
  have hb:=zI.2 hG
  unfold O7
  rw [if_pos (tC.2 hf),hb,if_pos (by omega)]
 have hNp:NpP (f,l):=⟨hK,by simp only; omega⟩
 have wu:=wi (f.gF - 1)
 have hrg:bQ t 0 (f.gF - 1)=true:=by simp [bQ]; omega
 obtain⟨N,hN,OT⟩:∃N:Nat,f.dU.length=N∧f.eH.ax=(N:Int):=⟨_,rfl,hf.dU.symm⟩
 have oy:l.length≤1000000:=by omega
 have h0:rdL f l t 0=[]:=rfl
 simp -dsimp [Tryz.f20,E20]
 repeat' (first|omega|simp -dsimp [E20,ri,aa,ints,gO,hNp,hE,wu,hrg,OT]|apply aI|refine oI fun _=>?_|apply nI)
 refine dA [(6,2040,1,3)] rfl (by simp) [31,32,10,33,34,35,36,37,38,39,40,6,41,30] (fun m:{m:Nat // m≤N}=>[(30,(true,.int .i64 m.1)),(6,(true,.bw 2040 0 (rdL f l t m.1).length))]) (fun m=>hps [(2040,{base:=0,ah:=[{z:=1,els:=(rdL f l t m.1).map ri,ty:=3}]}),(2003,fS f)] cg) (fun m=>N - m.1) ⟨0,by omega⟩ ?_ ?_ ?_
 ·simp [aj,aT,h0]
 ·(try simp -dsimp only [hpx]); refine ai ?_; simp -dsimp [aC,fS,h0]<;>exact rz
 rintro⟨m,hm⟩
 dsimp only
 have hle:=asx f l t m
 have hrb:=Su f l t m
 by_cases jW:m<N
 ·have oh:(m:Int)<N:=by omega
  have wm:=wx m
  have hS:=asE f l t m
  generalize CP:rdL f l t (m+1)=L1 at *
  generalize rdL f l t m=L0 at *
  have Aj:(L0.length+1) * 8≤140737488355328:=by omega
  cases hrd:GW f l m t
  ·rw [hrd,if_neg (by simp)]at hS
   simp -dsimp [oh,fS]
   repeat' (first|omega|simp -dsimp [E20,ri,aa,ints,oh,ash,oy,hrd,wm]|apply aI|refine oI fun _=>?_|apply nI)
   refine⟨m+1,ag rfl ?_,?_,by omega,by omega⟩
   ·simp [aj,aT,CP,hS]
   ·rw [CP,hS]; (try simp -dsimp only [hpx]); refine ai ?_; simp -dsimp [aC,fS]<;>exact rz
  ·rw [hrd,if_pos rfl]at hS
   simp -dsimp [oh,fS]
   repeat' (first|omega|simp -dsimp [E20,ri,aa,ints,oh,ash,oy,hrd,Aj,ri,wm]|apply aI|refine oI fun _=>?_|apply nI)
   refine⟨m+1,ag rfl ?_,?_,by omega,by omega⟩
   ·simp [aj,aT,CP,hS]
   ·rw [CP,hS]; (try simp -dsimp only [hpx]); refine ai ?_; simp -dsimp [aC,fS,ri]<;>exact rz
 have hmn:¬ (m:Int)<N:=by omega
 have hme:m=N:=by omega
 subst hme
 simp -dsimp [hmn,fS]
 repeat' (first|omega|simp -dsimp [E20,ri,aa,ints,hmn,hN]|apply aI|refine oI fun _=>?_|apply nI)
theorem auN:FO 20 at6:=pf b20 (.cons auM (.cons MB (.cons aum .nil)))
end Go.Sx
end
section
namespace Go.Sx
open Go.Proofs
attribute [local irreducible] bA
noncomputable abbrev asG:aB:=bS yU RiP fun _=>.bool true
noncomputable abbrev E6:Env:={P:=Tryz.prog,fn:=bf [(15,.pure XM),(16,.pure C0),(20,.pure at6),(11,.pure MH)],own:=[],key:=600,nt:=183,jQ:=[(1,[2,50002])]}
theorem b6:af E6 [] Tryz.f6 asG:=pb <| by
 rintro⟨f,l⟩ XN
 have hP:=XN.p
 have hl:=XN.l
 simp only at hP hl
 cases hR:AB f l
 case false=>
  simp -dsimp [Tryz.f6,E6]
  repeat' (first|omega|simp -dsimp [E6,ri,aa,ints,gO,XN,hR]|apply aI|refine oI fun _=>?_|apply nI)
 obtain⟨hlg,h4,hK,hG⟩:=RZ hR
 have hf:=hK.ok
 have oG:=hf.dU
 have hun:=hf.gF
 have auO:=Fk.1 (hG.rU hf)
 simp -dsimp [Tryz.f6,E6]
 repeat' (first|omega|simp -dsimp [E6,ri,aa,ints,gO,XN,hR]|apply aI|refine oI fun _=>?_|apply nI)
 refine ay [24,25,26,27,31,32,33,34,30,35,36,6,7,37,38,39,40,41,42,43,44,45,4,28,29,5] (fun t:{t:Nat // t≤2000}=>[(5,(true,.int .i64 t.1))]) (fun _=>hps [(602,fS f)] cg) (fun t=>2000 - t.1) ⟨0,by omega⟩ ?_ ?_ ?_
 ·simp [aj,aT]
 ·(try simp -dsimp only [hpx]); refine ai ?_; simp -dsimp [aC,fS]<;>exact rz
 rintro⟨t,ht⟩
 dsimp only
 by_cases ht1:(t:Int)<f.gF
 ·have wt:=wx t
  have hc:=auO t (by omega) ht1
  have hRe:ReP ((f,l),(t:Int)):=⟨hK,hG,by simp only; omega⟩
  have hle:=asx f l t f.dU.length
  have hge:(((rdL f l t f.dU.length).length:Int)<f.rU)=False:=eq_false (by
   unfold Nt at hc
   have:=of_decide_eq_true hc
   omega)
  simp -dsimp [ht1,fS]
  repeat' (first|omega|simp -dsimp [E6,ri,aa,ints,ht1,atq,hRe,hge,wt]|apply aI|refine oI fun _=>?_|apply nI)
  refine⟨t+1,ag rfl ?_,bA.refl _,by omega,by omega⟩
  simp [aj,aT]
 simp -dsimp [ht1,fS]
 repeat' (first|omega|simp -dsimp [E6,ri,aa,ints,ht1]|apply aI|refine oI fun _=>?_|apply nI)
 refine ay [46,47,48,49,53,54,55,56,57,58,59,60,61,62,63,64,52,65,66,67,68,9,10,11,12,69,70,71,72,73,74,75,76,77,78,79,80,81,82,83,4,13,84,85,86,90,91,92,93,94,95,96,97,98,99,100,101,89,102,103,104,105,14,15,16,17,106,107,108,109,110,111,112,113,114,115,116,117,118,119,120,121,122,123,124,125,126,127,128,129,130,131,132,133,134,135,136,137,138,139,140,141,142,143,144,145,146,147,148,149,150,151,152,153,154,155,156,157,158,159,160,161,162,163,164,165,166,167,168,169,170,18,171,172,173,174,175,176,177,178,179,180,181,87,88,50,51,8] (fun i:{i:Nat // i≤l.length}=>[(8,(true,.int .i64 i.1))]) (fun _=>hps [(602,fS f)] cg) (fun i=>l.length - i.1) ⟨0,by omega⟩ ?_ ?_ ?_
 ·simp [aj,aT]
 ·(try simp -dsimp only [hpx]); refine ai ?_; simp -dsimp [aC,fS]<;>exact rz
 rintro⟨i,hi⟩
 dsimp only
 by_cases hi1:i<l.length
 case neg=>
  have hin:¬ (i:Int)<l.length:=by omega
  simp -dsimp [hin]
  repeat' (first|omega|simp -dsimp [E6,ri,aa,ints,hin]|apply aI|refine oI fun _=>?_|apply nI)
 have hii:(i:Int)<l.length:=by omega
 have wi:=wx i
 have hB:=fun k (h:k<l.length)=>(hG.nx h)
 have iq:∀(k:Nat) (x:Sr),l[k]?=some x→BlP (f,x.j,x.m)∧jJ f x.j.toNat x.m.toNat=ew f x:=fun k x hx=>by
  have hk:k<l.length:=(List.getElem?_eq_some_iff.1 hx).1
  have O5:l.getD k default=x:=by simp [List.getD,hx]
  have hN:=hG.nx hk
  rw [O5]at hN
  refine⟨⟨hN.sr.jm hK,hN.can,?_⟩,rfl⟩
  rcases hN.opn with h|h
  ·cases h
  ·exact h
 obtain⟨x,hx,hx'⟩:=gx hi1
 have O5:l.getD i default=x:=by simp [List.getD,hx]
 obtain⟨hBx,hbx⟩:=iq i x hx
 have at7:=hG.two hi1
 rw [O5]at at7
 have hsame:=fun k (hk:k<i)=>hG.same hf hk hi1
 rw [O5]at hsame
 generalize hX:ew f x=X at *
 obtain⟨xj,xm,xc,xk⟩:=x
 obtain⟨b1,b2,b3,b4⟩:=X
 simp only at at7 hbx hBx
 have hne:(xc == xk)=false:=by simpa using at7
 simp -dsimp [hii,fS]
 repeat' (first|omega|simp -dsimp [E6,ri,aa,ints,hii,hi1,hx,hx',Sr.row,dS,hBx,hbx,hne]|apply aI|refine oI fun _=>?_|apply nI)
 refine ay [84,85,86,90,91,92,93,94,95,96,97,98,99,100,101,89,102,103,104,105,14,15,16,17,106,107,4,108,109,110,111,112,113,114,115,116,117,118,119,120,121,122,123,124,125,126,127,128,129,130,131,132,133,134,135,136,137,138,139,140,141,142,143,144,145,146,147,148,149,150,151,152,153,154,155,156,157,158,159,160,161,162,163,164,165,166,167,168,169,170,18,171,172,173,174,175,176,177,178,179,180,181,87,88,13] (fun k:{k:Nat // k≤i}=>[(13,(true,.int .i64 k.1))]) (fun _=>hps [(602,fS f)] cg) (fun k=>i - k.1) ⟨0,by omega⟩ ?_ ?_ ?_
 ·simp [aj,aT]
 ·(try simp -dsimp only [hpx]); refine ai ?_; simp -dsimp [aC,fS]<;>exact rz
 rintro⟨k,hk⟩
 dsimp only
 by_cases aH:k<i
 case neg=>
  have hkn:¬ (k:Int)<i:=by omega
  simp -dsimp [hkn,fS]
  repeat' (first|omega|simp -dsimp [E6,ri,aa,ints,hkn,wi]|apply aI|refine oI fun _=>?_|apply nI)
  refine⟨i+1,?_,?_,by omega,by omega⟩
  ·refine cq (aN rfl (br rfl (aN rfl bO))) ?_
   simp [aj,aT]
  ·(try simp -dsimp only [hpx]); refine ai ?_; simp -dsimp [aC,fS]<;>exact rz
 have hki:(k:Int)<i:=by omega
 have hk2:k<l.length:=by omega
 have iB:(k:Int)<l.length:=by omega
 have wk:=wx k
 obtain⟨y,hy,hy'⟩:=gx hk2
 have hyd:l.getD k default=y:=by simp [List.getD,hy]
 obtain⟨hBy,hby⟩:=iq k y hy
 have atr:=hsame k aH
 rw [hyd]at atr
 simp only [hX]at atr
 generalize ew f y=Y at *
 obtain⟨yj,ym,yc,yk⟩:=y
 obtain⟨c1,c2,c3,c4⟩:=Y
 simp only at atr hby hBy
 have uQ:∀s:Bool,(s=true→xm=ym∨xc=yc∨xc=yk∨xk=yc∨xk=yk)→(s && (decide (b1<c3) && decide (c1<b3)))=false:=fun s hs=>by
  cases s
  ·rfl
  ·have:=atr (hs rfl)
   simp only [Bool.true_and,Bool.and_eq_false_iff,decide_eq_false_iff_not]
   omega
 clear atr iq hsame hB
 have fin:∀s:Bool,(s=true→xm=ym∨xc=yc∨xc=yk∨xk=yc∨xk=yk)→s=false∨(b1<c3)=False∨((b1<c3)=True∧(c1<b3)=False):=fun s hs=>by
  have:=uQ s hs
  cases s
  ·exact .inl rfl
  ·by_cases q1:b1<c3
   ·refine .inr (.inr ⟨eq_true q1,eq_false fun q2=>?_⟩)
    simp [q1,q2]at this
   ·exact .inr (.inl (eq_false q1))
 cases q1:(xm == ym)
 case true=>
  have e:=eq_of_beq q1
  rcases fin true (fun _=>.inl e)with g|g|⟨g,g2⟩
  ·cases g
  ·
   simp -dsimp [hki,fS]
   repeat' (first|omega|simp -dsimp [E6,ri,aa,ints,hki,aH,iB,hk2,hii,hi1,hx,hx',hy,hy',Sr.row,dS,hBy,hby,q1,g,wk]|apply aI|refine oI fun _=>?_|apply nI)
   refine⟨k+1,ag rfl ?_,?_,by omega,by omega⟩
   ·simp [aj,aT]
   ·(try simp -dsimp only [hpx]); refine ai ?_; simp -dsimp [aC,fS]<;>exact rz
  ·
   simp -dsimp [hki,fS]
   repeat' (first|omega|simp -dsimp [E6,ri,aa,ints,hki,aH,iB,hk2,hii,hi1,hx,hx',hy,hy',Sr.row,dS,hBy,hby,q1,g,g2,wk]|apply aI|refine oI fun _=>?_|apply nI)
   refine⟨k+1,ag rfl ?_,?_,by omega,by omega⟩
   ·simp [aj,aT]
   ·(try simp -dsimp only [hpx]); refine ai ?_; simp -dsimp [aC,fS]<;>exact rz
 cases q2:(xc == yc)
 case true=>
  have e:=eq_of_beq q2
  rcases fin true (fun _=>.inr (.inl e))with g|g|⟨g,g2⟩
  ·cases g
  ·
   simp -dsimp [hki,fS]
   repeat' (first|omega|simp -dsimp [E6,ri,aa,ints,hki,aH,iB,hk2,hii,hi1,hx,hx',hy,hy',Sr.row,dS,hBy,hby,q1,q2,g,wk]|apply aI|refine oI fun _=>?_|apply nI)
   refine⟨k+1,ag rfl ?_,?_,by omega,by omega⟩
   ·simp [aj,aT]
   ·(try simp -dsimp only [hpx]); refine ai ?_; simp -dsimp [aC,fS]<;>exact rz
  ·
   simp -dsimp [hki,fS]
   repeat' (first|omega|simp -dsimp [E6,ri,aa,ints,hki,aH,iB,hk2,hii,hi1,hx,hx',hy,hy',Sr.row,dS,hBy,hby,q1,q2,g,g2,wk]|apply aI|refine oI fun _=>?_|apply nI)
   refine⟨k+1,ag rfl ?_,?_,by omega,by omega⟩
   ·simp [aj,aT]
   ·(try simp -dsimp only [hpx]); refine ai ?_; simp -dsimp [aC,fS]<;>exact rz
 cases q3:(xc == yk)
 case true=>
  have e:=eq_of_beq q3
  rcases fin true (fun _=>.inr (.inr (.inl e)))with g|g|⟨g,g2⟩
  ·cases g
  ·
   simp -dsimp [hki,fS]
   repeat' (first|omega|simp -dsimp [E6,ri,aa,ints,hki,aH,iB,hk2,hii,hi1,hx,hx',hy,hy',Sr.row,dS,hBy,hby,q1,q2,q3,g,wk]|apply aI|refine oI fun _=>?_|apply nI)
   refine⟨k+1,ag rfl ?_,?_,by omega,by omega⟩
   ·simp [aj,aT]
   ·(try simp -dsimp only [hpx]); refine ai ?_; simp -dsimp [aC,fS]<;>exact rz
  ·
   simp -dsimp [hki,fS]
   repeat' (first|omega|simp -dsimp [E6,ri,aa,ints,hki,aH,iB,hk2,hii,hi1,hx,hx',hy,hy',Sr.row,dS,hBy,hby,q1,q2,q3,g,g2,wk]|apply aI|refine oI fun _=>?_|apply nI)
   refine⟨k+1,ag rfl ?_,?_,by omega,by omega⟩
   ·simp [aj,aT]
   ·(try simp -dsimp only [hpx]); refine ai ?_; simp -dsimp [aC,fS]<;>exact rz
 cases q4:(xk == yc)
 case true=>
  have e:=eq_of_beq q4
  rcases fin true (fun _=>.inr (.inr (.inr (.inl e))))with g|g|⟨g,g2⟩
  ·cases g
  ·
   simp -dsimp [hki,fS]
   repeat' (first|omega|simp -dsimp [E6,ri,aa,ints,hki,aH,iB,hk2,hii,hi1,hx,hx',hy,hy',Sr.row,dS,hBy,hby,q1,q2,q3,q4,g,wk]|apply aI|refine oI fun _=>?_|apply nI)
   refine⟨k+1,ag rfl ?_,?_,by omega,by omega⟩
   ·simp [aj,aT]
   ·(try simp -dsimp only [hpx]); refine ai ?_; simp -dsimp [aC,fS]<;>exact rz
  ·
   simp -dsimp [hki,fS]
   repeat' (first|omega|simp -dsimp [E6,ri,aa,ints,hki,aH,iB,hk2,hii,hi1,hx,hx',hy,hy',Sr.row,dS,hBy,hby,q1,q2,q3,q4,g,g2,wk]|apply aI|refine oI fun _=>?_|apply nI)
   refine⟨k+1,ag rfl ?_,?_,by omega,by omega⟩
   ·simp [aj,aT]
   ·(try simp -dsimp only [hpx]); refine ai ?_; simp -dsimp [aC,fS]<;>exact rz
 cases q5:(xk == yk)
 case true=>
  have e:=eq_of_beq q5
  rcases fin true (fun _=>.inr (.inr (.inr (.inr e))))with g|g|⟨g,g2⟩
  ·cases g
  ·
   simp -dsimp [hki,fS]
   repeat' (first|omega|simp -dsimp [E6,ri,aa,ints,hki,aH,iB,hk2,hii,hi1,hx,hx',hy,hy',Sr.row,dS,hBy,hby,q1,q2,q3,q4,q5,g,wk]|apply aI|refine oI fun _=>?_|apply nI)
   refine⟨k+1,ag rfl ?_,?_,by omega,by omega⟩
   ·simp [aj,aT]
   ·(try simp -dsimp only [hpx]); refine ai ?_; simp -dsimp [aC,fS]<;>exact rz
  ·
   simp -dsimp [hki,fS]
   repeat' (first|omega|simp -dsimp [E6,ri,aa,ints,hki,aH,iB,hk2,hii,hi1,hx,hx',hy,hy',Sr.row,dS,hBy,hby,q1,q2,q3,q4,q5,g,g2,wk]|apply aI|refine oI fun _=>?_|apply nI)
   refine⟨k+1,ag rfl ?_,?_,by omega,by omega⟩
   ·simp [aj,aT]
   ·(try simp -dsimp only [hpx]); refine ai ?_; simp -dsimp [aC,fS]<;>exact rz
 simp -dsimp [hki,fS]
 repeat' (first|omega|simp -dsimp [E6,ri,aa,ints,hki,aH,iB,hk2,hii,hi1,hx,hx',hy,hy',Sr.row,dS,hBy,hby,q1,q2,q3,q4,q5,wk]|apply aI|refine oI fun _=>?_|apply nI)
 refine⟨k+1,ag rfl ?_,?_,by omega,by omega⟩
 ·simp [aj,aT]
 ·(try simp -dsimp only [hpx]); refine ai ?_; simp -dsimp [aC,fS]<;>exact rz
theorem ok6:FO 6 asG:=pf b6 (.cons aiF (.cons aiG (.cons auN (.cons Xd .nil))))
end Go.Sx
end
end
