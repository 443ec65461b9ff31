/- Fleet: the program's plans: one more sortie, all of them. No conditions. -/
import Derived.Test.YtfhdpblkdgmnfaaGreatDoorP49
import Derived.Test.YtfhdpblkdgmnfaaGreatDoorP42
set_option linter.unusedSimpArgs false
set_option linter.unusedVariables false
set_option linter.unusedSectionVars false
set_option maxRecDepth 100000
set_option maxHeartbeats 8000000
noncomputable section
namespace Go.Sx
open Go.Proofs
attribute [local irreducible] bA
@[simp] def asS (d:List (Int × Int) × Int × Int):List V:=[.sl 2 (d.1.map Tk),.agg [.int .i64 d.2.1,.int .i64 d.2.2]]
theorem as1 (a b:List (Int × Int) × Int × Int) (h:asS a=asS b):a=b:=by
 obtain⟨a1,a2,a3⟩:=a; obtain⟨b1,b2,b3⟩:=b
 simp only [asS,List.cons.injEq,V.sl.injEq,V.agg.injEq,V.int.injEq,true_and,and_true]at h
 rw [aR atu h.1,h.2.1,h.2.2]
theorem asb (l:List (Int × Int)) (a b:Int):aY asS [.sl 2 (l.map Tk),.agg [.int .i64 a,.int .i64 b]]=(l,a,b):=aA as1 (l,a,b)
def peq (a b:Int) (p:Int × Int):Bool:=a == p.1 && b == p.2
theorem atv (l:List (Int × Int)) (a b:Int):l.any (peq a b)=l.contains (a,b):=by
 rw [Bool.eq_iff_iff,List.any_eq_true,List.contains_iff_mem]
 constructor
 ·rintro⟨⟨p,q⟩,h1,h2⟩
  simp only [peq,Bool.and_eq_true,beq_iff_eq]at h2
  rw [h2.1,h2.2]; exact h1
 ·intro h
  exact⟨_,h,by simp [peq]⟩
noncomputable abbrev atO:aB:=bS asS (fun d=>d.1.length≤1000000) fun d=>.int .i64 (eB d.1 (peq d.2.1 d.2.2))
noncomputable abbrev as2:aB:=bS asS (fun d=>d.1.length≤1000000) fun d=>.bool (d.1.contains (d.2.1,d.2.2))
noncomputable abbrev asT:Env:={P:=Tryz.prog,fn:=bf [],own:=[],key:=22200,nt:=19,jQ:=[(1,[3,50003])]}
theorem aup:af asT [] Tryz.f222 atO:=pb <| by
 rintro⟨l,a,b⟩ hl
 have hl:l.length≤1000000:=hl
 simp -dsimp [Tryz.f222,asT]
 repeat' (first|omega|simp -dsimp [asT,ri,aa,ints,hl]|apply aI|refine oI fun _=>?_|apply nI)
 refine ay [9,10,5,11,12,13,14,15,16,17,4,18,8] (fun k:{k:Nat // k≤l.length∧∀j (h:j<l.length),j<k→peq a b l[j]=false}=>[(8,(true,.int .i64 k.1))]) (fun _=>_) (fun k=>l.length - k.1) ⟨0,by omega,fun _ _ h=>by omega⟩ ?_ (bA.refl _) ?_
 ·simp [aj,aT]
 rintro⟨k,hk,hall⟩
 by_cases aH:k<l.length
 ·have hki:(k:Int)<l.length:=by omega
  have wk:=wx k
  obtain⟨x,hx,hx'⟩:=gx aH
  have lC:=fun h=>cW l (peq a b) aH h hall
  rw [hx']at lC
  obtain⟨p,q⟩:=x
  have e:(a == p && b == q)=peq a b (p,q):=rfl
  cases hw:peq a b (p,q)
  ·rw [hw]at e
   simp -dsimp [hki]
   repeat' (first|omega|simp -dsimp [asT,ri,aa,ints,hki,aH,hl,hx,hx',Tk,e,wk]|apply aI|refine oI fun _=>?_|apply nI)
   refine⟨k+1,ag rfl ?_,bA.refl _,⟨by omega,fun j h hj=>?_⟩,by omega⟩
   ·simp [aj,aT]
   ·by_cases hjk:j=k
    ·subst hjk; rw [hx']; exact hw
    ·exact hall j h (by omega)
  ·rw [hw]at e
   have hz:=lC hw
   simp -dsimp [hki]
   repeat' (first|omega|simp -dsimp [asT,ri,aa,ints,hki,aH,hl,hx,hx',Tk,e,wk,hz]|apply aI|refine oI fun _=>?_|apply nI)
 ·have hkn:¬ (k:Int)<l.length:=by omega
  have hz:=bP l (peq a b) (fun j h=>hall j h (by omega))
  simp -dsimp [hkn]
  repeat' (first|omega|simp -dsimp [asT,ri,aa,ints,hkn,hz]|apply aI|refine oI fun _=>?_|apply nI)
theorem aua:FO 222 atO:=pf aup .nil
noncomputable abbrev atP:Env:={P:=Tryz.prog,fn:=bf [(222,.pure atO)],own:=[],key:=15700,nt:=9,jQ:=[(1,[3,50003])]}
theorem auq:af atP [] Tryz.f157 as2:=pb <| by
 rintro⟨l,a,b⟩ hl
 have hl:l.length≤1000000:=hl
 have hz:=cO l (peq a b)
 rw [atv]at hz
 simp -dsimp [Tryz.f157,atP]
 repeat' (first|omega|simp -dsimp [atP,ri,aa,ints,hl,asb,hz]|apply aI|refine oI fun _=>?_|apply nI)
theorem aub:FO 157 as2:=pf auq (.cons aua .nil)
def asy:bB where
 go args h:=match args with
  | [.sl z els]=>⟨z=8∧els≠[]∧els.length≤1000000,.bw 22405 (hnext h 22405) els.length,bD h 22405 {z:=8,els:=els,ty:=185}⟩
  | [.nil]=>⟨True,.bw 22405 (hnext h 22405) 0,bD h 22405 {z:=8,els:=[],ty:=185}⟩
  | _=>⟨False,.top,h⟩
noncomputable abbrev asU:Env:={P:=Tryz.prog,fn:=bf [],own:=[5],key:=22400,nt:=8}
theorem aur:vG asU [] Tryz.f224 asy:=by
 intro args h hc
 match args,hc with
 | [.sl z els],hc=>
  obtain⟨rfl,hne,hb⟩:=hc
  have hn:=fun B=>dI h 22405 B
  cases els with
  | nil=>exact absurd rfl hne
  | cons x els=>
   have hb':els.length+1≤1000000:=hb
   simp -dsimp [Tryz.f224,asU,asy]
   repeat' (first|omega|simp -dsimp [asU,ri,aa,ints,hn,hb',qI]|apply aI|refine oI fun _=>?_|apply nI)
   exact⟨_,.refl _,rfl,rfl,bA.refl _⟩
 | [.nil],hc=>
  simp -dsimp [Tryz.f224,asU,asy]
  repeat' (first|omega|simp -dsimp [asU,ri,aa,ints,qI]|apply aI|refine oI fun _=>?_|apply nI)
  exact⟨_,.nil _ _ 2 22405 8 185 rfl (by decide) (by decide) (.refl _),rfl,rfl,bA.refl _⟩
theorem auc:dM Tryz.prog 224 (.heap asy):=VM (E:=asU) rfl Mi.nil (ok:=[]) (fn:=Tryz.f224) (by kernel_rfl) (by kernel_rfl) (by kernel_rfl) (by kernel_rfl) rfl (fun args h hc=>by match args,hc with | [.sl z els],hc=>simp | [.nil],hc=>simp) aur
theorem asN (l:List Fw) (h:Hp):asy.go [asd l] h=⟨l.length≤1000000,.bw 22405 (hnext h 22405) l.length,bD h 22405 {z:=8,els:=l.map Fw.row,ty:=185}⟩:=by
 by_cases e:l=[]
 ·subst e; simp [asd,asy]
 ·rw [ase e]; simp [asy,e]
@[simp] def as3 (d:(Fl × List Sr) × Sr × Bk):List V:=[plI d.1.1 d.1.2,.agg d.2.1.row,.agg d.2.2.row]
theorem as4 (a b:(Fl × List Sr) × Sr × Bk) (h:as3 a=as3 b):a=b:=by
 obtain⟨⟨a1,a2⟩,a3,a4⟩:=a; obtain⟨⟨b1,b2⟩,b3,b4⟩:=b
 simp only [as3,List.cons.injEq,V.agg.injEq,and_true]at h
 obtain⟨e1,e2⟩:=ar8 h.1
 rw [e1,e2,Sr.aq _ _ h.2.1,Bk.aq _ _ h.2.2]
theorem as5 (f:Fl) (l:List Sr) (s1 s2 s3 s4 b1 b2 b3 b4:Int):aY as3 [.ip 4 [plR f l] 0 0,.agg [.int .i64 s1,.int .i64 s2,.int .i64 s3,.int .i64 s4],.agg [.int .i64 b1,.int .i64 b2,.int .i64 b3,.int .i64 b4]]=((f,l),⟨s1,s2,s3,s4⟩,⟨b1,b2,b3,b4⟩):=aA as4 ((f,l),⟨s1,s2,s3,s4⟩,⟨b1,b2,b3,b4⟩)
structure WiP (d:(Fl × List Sr) × Sr × Bk):Prop where
 jm:Xa (d.1.1,d.2.1.j,d.2.1.m)
 g:Good d.1.1 true d.1.2
 can:jR d.1.1 d.2.1.j.toNat d.2.1.m.toNat=true
 b:d.2.2=ew d.1.1 d.2.1
 cal:jx (Im d.1.1 d.2.1)=true
noncomputable abbrev atQ:aB:=bS as3 WiP fun d=>if wiB d.1.1 d.1.2 d.2.1=true then plI d.1.1 (d.1.2++[d.2.1])else .lg
theorem as6 {f:Fl} (hf:gu f):∀{l:List Sr},(∀x∈l,yW f x)→0≤vaF f l∧vaF f l≤1000000 * l.length
 | [],_=>by simp [vaF]
 | x::l,h=>by
  have ih:=as6 hf fun y hy=>h y (List.mem_cons_of_mem _ hy)
  have:=(hf.jb (h x (by simp)).j.2).2.2.2.2
  rw [vaF,List.length_cons]; omega
noncomputable abbrev asF:Env:={P:=Tryz.prog,fn:=bf [(77,.heap yY),(13,.pure chS),(224,.heap asy),(225,.pure atT)],own:=[],key:=15900,nt:=87,jQ:=[(1,[4,5,50004,50005])]}
theorem aus:af asF [(1,([3,6,8,10,13,15,17],[[0,1,2,3,4,5,6,7,8,9,10,11,12,13,14,15,16,17,18,19,20,21]])),(5,([3,7,9,10,18,22,26,28,29,31],[[0,1,2,3,4,5,6,7,8,9,10,11,12,13,14,15,16,17,18,19,20,21,22,23,24,25,26,27,28,29,30,31,32,33,34,35]]))] Tryz.f159 atQ:=pb <| by
 rintro⟨⟨f,l⟩,s,b⟩ ⟨hJ,hG,hcan,hb,SG⟩
 have hK:=hJ.ok
 have hj:=hJ.j
 have hm:=hJ.m
 simp only at hK hj hm hG hcan hb SG hJ
 have hf:=hK.ok
 have hl6:=hG.atw
 have hj6:=hf.jobs
 have hdl:=qB f l
 have Ip:=hf.dul
 have Ik:=abD hf
 have hvb:=as6 hf hG.sr
 have oR:=asn f s l
 have hd2:=TI f l s
 have hfw:fwL f (l++[s])=fwL f l++[⟨s,ew f s⟩]:=by simp [fwL]
 have Wh:=as7 (s:=s) (hG.rU hf)
 have hz:=hG.iV hf
 have atx:0≤(ew f s).lv∧(ew f s).lv<(ew f s).hm∧(ew f s).hm≤2000:=by
  unfold jx at SG
  rw [Bool.and_eq_true,gQ]at SG
  exact SG.1
 have hu:(ew f s).hm<f.gF:=by
  simp only [jR,Bool.and_eq_true,decide_eq_true_eq]at hcan; exact hcan.1.2
 have hwi:wiB f l s=(decide ((fL f.gv (j9 f (l++[s]))).2=0) && uZ f (l++[s])):=rfl
 have hval:Bi (j9 f (l++[s])):=by
  rw [hd2]
  intro d hd
  rcases List.mem_append.1 hd with hd|hd
  ·exact xB hz d hd
  ·simp only [GV,List.mem_cons,List.not_mem_nil,or_false]at hd
   rcases hd with rfl|rfl<;>exact atx
 have W5:=asV (Ro.si.2 (dN.1 hz).1) hval
 have aty:cvB f (l++[s]) (ew f s)=uZ f (l++[s]):=by
  rw [Bool.eq_iff_iff,asr atx.2.2,Wh]
  constructor
  ·intro h t h1 h2 h3 h4
   have:=h t.toNat (by omega) (by omega)
   rwa [Int.toNat_of_nonneg h1]at this
  ·intro h t h1 h2
   exact h t (by omega) h1 h2 (by omega)
 have hjb:=(hf.jb (j:=s.j.toNat) (by omega)).2.2.2.2
 obtain⟨sj,sm,sc,sk⟩:=s
 simp only at hj hm hjb oR
 obtain⟨sj,rfl⟩:=Int.eq_ofNat_of_zero_le hj.1
 simp only [Int.toNat_natCast]at hjb oR
 have hj1:sj<f.jobs.length:=by omega
 have hji:(sj:Int)<f.jobs.length:=by omega
 obtain⟨x,hx,hx'⟩:=gx hj1
 have Rl:fP f sj=x:=by simp [fP,List.getD,hx]
 rw [Rl]at hjb oR
 subst hb
 have hdu:GV f ⟨(sj:Int),sm,sc,sk⟩=[⟨sc,(ew f ⟨(sj:Int),sm,sc,sk⟩).lv,(ew f ⟨(sj:Int),sm,sc,sk⟩).hm⟩,⟨sk,(ew f ⟨(sj:Int),sm,sc,sk⟩).lv,(ew f ⟨(sj:Int),sm,sc,sk⟩).hm⟩]:=rfl
 rw [hdu]at hd2
 have hCv:CvP ((f,l++[⟨(sj:Int),sm,sc,sk⟩]),ew f ⟨(sj:Int),sm,sc,sk⟩):=⟨hf,by simp only [List.length_append,List.length_singleton]; omega,atx.1,atx.2.2,by simp only; omega⟩
 have hR:plR f (l++[⟨(sj:Int),sm,sc,sk⟩])=[.ip 41 [qs f] 0 0,asd (fwL f (l++[⟨(sj:Int),sm,sc,sk⟩])),.sl 3 ((j9 f (l++[⟨(sj:Int),sm,sc,sk⟩])).map Du.row),.int .i64 (vaF f (l++[⟨(sj:Int),sm,sc,sk⟩]))]:=rfl
 rw [ase (by rw [hfw]; simp),hfw,hd2,oR]at hR
 have hdP:=as8 f (l++[⟨(sj:Int),sm,sc,sk⟩])
 rw [hR]at hdP
 have hdC:=dw f.gv (j9 f (l++[⟨(sj:Int),sm,sc,sk⟩]))
 have hCh:MG (f.gv,j9 f (l++[⟨(sj:Int),sm,sc,sk⟩])):=⟨by simp only; omega,by simp only; rw [hd2]; simp only [List.length_append,List.length_cons,List.length_nil]; omega⟩
 rw [hd2]at hdC W5 hCh hwi
 generalize hB:ew f ⟨(sj:Int),sm,sc,sk⟩=B at *
 obtain⟨b1,b2,b3,b4⟩:=B
 simp only [List.map_append,List.map_cons,List.map_nil,Du.row,Fw.row]at hR hdP hdC
 have hfl:=ass f l
 have Aj:(j9 f l).length≤1000000:=by omega
 have am7:((j9 f l).length+2) * 24≤140737488355328:=by omega
 have aud:(fwL f l).length≤1000000:=by omega
 have aue:((fwL f l).length+1) * 64≤140737488355328:=by omega
 have wv:=wi (vaF f l+x.val)
 by_cases hc:(fL f.gv (j9 f l++[⟨sc,b1,b3⟩,⟨sk,b1,b3⟩])).2=0
 case neg=>
  rw [decide_eq_false hc]at hwi
  have hwi:wiB f l ⟨(sj:Int),sm,sc,sk⟩=false:=hwi
  rw [←W5]at hc
  simp -dsimp [Tryz.f159,asF,Sr.row,Bk.row]
  repeat' (first|omega|simp -dsimp [asF,ri,aa,ints,Sr.row,Bk.row,nO,Du.row,Aj,am7,hdC,hCh,hc,hwi,aS,cQ]|apply aI|refine oI fun _=>?_|apply nI)
 rw [decide_eq_true hc,Bool.true_and]at hwi
 rw [←W5]at hc
 cases hcB:uZ f (l++[⟨(sj:Int),sm,sc,sk⟩])
 ·rw [hcB]at hwi aty
  simp -dsimp [Tryz.f159,asF,Sr.row,Bk.row]
  repeat' (first|omega|simp -dsimp [asF,ri,aa,ints,Sr.row,Bk.row,nO,asN,Du.row,Fw.row,Aj,am7,aud,aue,hdC,hCh,hc,hx,hx',hj1,hji,Jb.row,wv,hdP,hCv,aty,hwi,hR,aS,cQ]|apply aI|refine oI fun _=>?_|apply nI)
 ·rw [hcB]at hwi aty
  simp -dsimp [Tryz.f159,asF,Sr.row,Bk.row]
  repeat' (first|omega|simp -dsimp [asF,ri,aa,ints,Sr.row,Bk.row,nO,asN,Du.row,Fw.row,Aj,am7,aud,aue,hdC,hCh,hc,hx,hx',hj1,hji,Jb.row,wv,hdP,hCv,aty,hwi,hR,aS,cQ]|apply aI|refine oI fun _=>?_|apply nI)
theorem auf:FO 159 atQ:=pf aus (.cons Yf (.cons W9 (.cons auc (.cons aug .nil))))
@[simp] def as9 (d:(Fl × List Sr) × Sr × Bool):List V:=[plI d.1.1 d.1.2,.agg d.2.1.row,.bool d.2.2]
theorem ata (a b:(Fl × List Sr) × Sr × Bool) (h:as9 a=as9 b):a=b:=by
 obtain⟨⟨a1,a2⟩,a3,a4⟩:=a; obtain⟨⟨b1,b2⟩,b3,b4⟩:=b
 simp only [as9,List.cons.injEq,V.agg.injEq,V.bool.injEq,and_true]at h
 obtain⟨e1,e2⟩:=ar8 h.1
 rw [e1,e2,Sr.aq _ _ h.2.1,h.2.2]
theorem asz (f:Fl) (l:List Sr) (s1 s2 s3 s4:Int) (w:Bool):aY as9 [.ip 4 [plR f l] 0 0,.agg [.int .i64 s1,.int .i64 s2,.int .i64 s3,.int .i64 s4],.bool w]=((f,l),⟨s1,s2,s3,s4⟩,w):=aA ata ((f,l),⟨s1,s2,s3,s4⟩,w)
structure AdP (d:(Fl × List Sr) × Sr × Bool):Prop where
 ok:Cw d.1.1
 g:Good d.1.1 true d.1.2
noncomputable abbrev atU:aB:=bS as9 AdP fun d=>if wS d.1.1 d.1.2 d.2.1 d.2.2=true then plI d.1.1 (d.1.2++[d.2.1])else .lg
theorem atz {f:Fl} (hf:gu f) (l:List Sr) (j m:Nat):(cwL f l j m).length≤144:=by
 unfold cwL
 split
 ·have:=uf f.gv (j9 f l) (Im f (sr2 j m (0,0))) f.gv.bM.length
  rw [zH]at this
  have h2:=Nat.mul_le_mul (abD hf) (abD hf)
  omega
 ·simp
noncomputable abbrev E95:Env:={P:=Tryz.prog,fn:=bf [(25,.pure ab5),(156,.pure atX),(158,.pure atY),(157,.pure as2),(159,.pure atQ)],own:=[],key:=9500,nt:=51,jQ:=[(1,[4,50004]),(4,[7,50007])]}
theorem b95:af E95 [] Tryz.f95 atU:=pb <| by
 rintro⟨⟨f,l⟩,s,w⟩ ⟨hK,hG⟩
 simp only at hK hG
 have hf:=hK.ok
 cases hth:Xc f s.j s.m
 ·have hn:wS f l s w=false:=by unfold wS; rw [hth]; simp
  obtain⟨sj,sm,sc,sk⟩:=s
  simp only at hth
  simp -dsimp [Tryz.f95,E95,Sr.row]
  repeat' (first|omega|simp -dsimp [E95,ri,aa,ints,Sr.row,nC,hK,hth,hn,aS,cQ]|apply aI|refine oI fun _=>?_|apply nI)
 obtain⟨hj,hm⟩:=PY.1 hth
 have hJ:Xa (f,s.j,s.m):=⟨hK,hj,hm⟩
 obtain⟨sj,sm,sc,sk⟩:=s
 simp only at hj hm hth hJ
 obtain⟨sj,rfl⟩:=Int.eq_ofNat_of_zero_le hj.1
 obtain⟨sm,rfl⟩:=Int.eq_ofNat_of_zero_le hm.1
 have hsp:=atb (f:=f) (q:=l) (j:=sj) (m:=sm) (c:=(sc,sk)) (any:=w) (by omega) (by omega)
 have cZ:=atz hf l sj sm
 have hFt:FtP ((f,l),(sj:Int),(sm:Int),w):=⟨hJ,hG⟩
 cases hft:ftB f l sj sm w
 ·have hn:wS f l ⟨(sj:Int),(sm:Int),sc,sk⟩ w=false:=by
   have:=hsp; rw [hft]at this; exact this
  generalize hB:D5 f sj sm=B at *
  obtain⟨b1,b2,b3,b4⟩:=B
  simp -dsimp [Tryz.f95,E95,Sr.row,sr2]
  repeat' (first|omega|simp -dsimp [E95,ri,aa,ints,Sr.row,Bk.row,nC,asf,hK,hth,hFt,hft,hB,hn,sr2,aS,cQ]|apply aI|refine oI fun _=>?_|apply nI)
 have hcan:jR f sj sm=true:=by
  unfold ftB akI at hft
  simp only [Bool.and_eq_true]at hft
  exact hft.1.1.1
 have hq:zZ f sj sm=true:=by
  simp only [jR,Bool.and_eq_true]at hcan; exact hcan.1.1.1
 have hO:=uJ hq
 rw [hft,Bool.true_and]at hsp
 have hcw:CwP ((f,l),(sj:Int),(sm:Int),jJ f sj sm):=⟨hJ,hG,hq,rfl⟩
 have hWi:(cwL f l sj sm).contains (sc,sk)=true→WiP ((f,l),sr2 sj sm (sc,sk),jJ f sj sm):=fun h=>⟨hJ,hG,hcan,rfl,by
  have hc:jx (Im f (sr2 sj sm (0,0)))=true:=by
   cases c:jx (Im f (sr2 sj sm (0,0)))
   ·unfold cwL at h; rw [c]at h; simp at h
   ·rfl
  exact hc⟩
 have oG:ew f (sr2 sj sm (sc,sk))=jJ f sj sm:=rfl
 generalize hCL:cwL f l sj sm=CL at *
 have atZ:CL.length≤1000000:=by omega
 generalize hB:jJ f sj sm=B at *
 obtain⟨b1,b2,b3,b4⟩:=B
 cases hct:CL.contains (sc,sk)
 ·rw [hct]at hsp
  have hn:wS f l ⟨(sj:Int),(sm:Int),sc,sk⟩ w=false:=hsp
  have hmem:((sc,sk)∈CL)=False:=eq_false fun h=>by rw [List.contains_iff_mem.2 h]at hct; cases hct
  simp -dsimp [Tryz.f95,E95,Sr.row,sr2]
  repeat' (first|omega|simp -dsimp [E95,ri,aa,ints,Sr.row,Bk.row,nC,asf,ar7,asb,hK,hth,hFt,hft,hO,hB,hcw,hCL,atZ,hct,hmem,hn,sr2,aS,cQ]|apply aI|refine oI fun _=>?_|apply nI)
 ·rw [hct,Bool.true_and]at hsp
  have hWi:=hWi hct
  have hn:wS f l ⟨(sj:Int),(sm:Int),sc,sk⟩ w=wiB f l ⟨(sj:Int),(sm:Int),sc,sk⟩:=hsp
  have hmem:((sc,sk)∈CL)=True:=eq_true (List.contains_iff_mem.1 hct)
  have hdW:=as5 f l sj sm sc sk b1 b2 b3 b4
  have auh:WiP ((f,l),⟨(sj:Int),(sm:Int),sc,sk⟩,⟨b1,b2,b3,b4⟩):=hWi
  clear hWi
  cases hw':wiB f l ⟨(sj:Int),(sm:Int),sc,sk⟩
  ·rw [hw']at hn
   simp -dsimp [Tryz.f95,E95,Sr.row,sr2]
   repeat' (first|omega|simp -dsimp [E95,ri,aa,ints,Sr.row,Bk.row,nC,asf,ar7,asb,hdW,hK,hth,hFt,hft,hO,hB,hcw,hCL,atZ,hct,hmem,auh,hw',hn,sr2,aS,cQ]|apply aI|refine oI fun _=>?_|apply nI)
  ·rw [hw']at hn
   simp -dsimp [Tryz.f95,E95,Sr.row,sr2]
   repeat' (first|omega|simp -dsimp [E95,ri,aa,ints,Sr.row,Bk.row,nC,asf,ar7,asb,hdW,hK,hth,hFt,hft,hO,hB,hcw,hCL,atZ,hct,hmem,auh,hw',hn,sr2,aS,cQ]|apply aI|refine oI fun _=>?_|apply nI)
theorem aut:FO 95 atU:=pf b95 (.cons amu (.cons aui (.cons auj (.cons aub (.cons auf .nil)))))
end Go.Sx
end
