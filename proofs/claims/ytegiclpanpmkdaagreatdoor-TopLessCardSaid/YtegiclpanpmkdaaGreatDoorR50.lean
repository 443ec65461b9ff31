/- A part of a proof; no conditions. -/
import Derived.Test.YtegiclpanpmkdaaGreatDoorR49
import Derived.Test.YtegiclpanpmkdaaGreatDoorR40
import Derived.Test.YtegiclpanpmkdaaGreatDoorR46
set_option linter.all false
set_option maxRecDepth 100000
set_option maxHeartbeats 8000000
noncomputable section
section
namespace Go.Sx
open Go.Proofs
attribute [local simp] ri aa ints
attribute [local irreducible] bA
@[simp] def asS(d:List (Int × Int) × Int × Int):List V:=[.sl 2 (d.1.map Tk),.agg [.int .i64 d.2.1,.int .i64 d.2.2]]
theorem as1(a b:List (Int × Int) × Int × Int)(h:asS a=asS b):a=b:=by obtain⟨a1,a2,a3⟩:=a;obtain⟨b1,b2,b3⟩:=b;simp only [asS,List.cons.injEq,V.sl.injEq,V.agg.injEq,V.int.injEq,true_and,and_true]at h;rw [aR atu h.1,h.2.1,h.2.2]
theorem asb(l:List (Int × Int))(a b:Int):aY asS [.sl 2 (l.map Tk),.agg [.int .i64 a,.int .i64 b]]=(l,a,b):=aA as1 (l,a,b)
def peq(a b:Int)(p:Int × Int):Bool:=a == p.1 && b == p.2
theorem atv(l:List (Int × Int))(a b:Int):l.any (peq a b)=l.contains (a,b):=by
 rw [Bool.eq_iff_iff,List.any_eq_true,List.contains_iff_mem];constructor
 ·rintro⟨⟨p,q⟩,h1,h2⟩;simp only [peq,Bool.and_eq_true,beq_iff_eq]at h2;rw [h2.1,h2.2];exact h1
 ·intro h;exact⟨_,h,by simp [peq]⟩
noncomputable abbrev atO:aB:=bS asS (fun d=>d.1.length<=1000000) fun d=>.int .i64 (eB d.1 (peq d.2.1 d.2.2))
noncomputable abbrev as2:aB:=bS asS (fun d=>d.1.length<=1000000) fun d=>.bool (d.1.contains (d.2.1,d.2.2))
noncomputable abbrev EL:=EV [] [] 18100 19 [(1,[3,50003])]
theorem amH:af EL [] Tryz.f181 atO:=pb <| by
 rintro⟨l,a,b⟩ hl;have hl:l.length<=1000000:=hl;simp -dsimp [Tryz.f181,EL];repeat' first|omega|simp -dsimp [EL,hl]|apply aI|apply nI|intro
 refine ay [9,10,5,11,12,13,14,15,16,17,4,18,8] (fun k:{k:Nat // k<=l.length/\∀j (h:j<l.length),j<k->peq a b l[j]=false}=>[(8,(true,.int .i64 k.1))]) (fun _=>_) (fun k=>l.length - k.1) ⟨0,by omega,fun _ _ h=>by omega⟩ ?_ (bA.refl _) ?_
 ·simp [aj,aT]
 rintro⟨k,hk,v0⟩;by_cases aH:k<l.length
 ·have v3:(k:Int)<l.length:=by omega
  have wk:=wx k;obtain⟨x,hx,hx'⟩:=gx aH;have lC:=fun h=>cW l (peq a b) aH h v0;rw [hx']at lC;obtain⟨p,q⟩:=x;have e:(a == p && b == q)=peq a b (p,q):=rfl;cases hw:peq a b (p,q)
  ·rw [hw]at e;simp -dsimp [v3];repeat' first|omega|simp -dsimp [EL,v3,aH,hl,hx,hx',Tk,e,wk]|apply aI|apply nI|intro
   refine⟨k+1,ag rfl ?_,bA.refl _,⟨by omega,fun j h hj=>?_⟩,by omega⟩
   ·simp [aj,aT]
   ·by_cases z6:j=k
    ·subst z6;rw [hx'];exact hw
    ·exact v0 j h (by omega)
  ·rw [hw]at e;have hz:=lC hw;simp -dsimp [v3];repeat' first|omega|simp -dsimp [EL,v3,aH,hl,hx,hx',Tk,e,wk,hz]|apply aI|apply nI|intro
 ·have v9:¬ (k:Int)<l.length:=by omega
  have hz:=bP l (peq a b) (fun j h=>v0 j h (by omega));simp -dsimp [v9];repeat' first|omega|simp -dsimp [EL,v9,hz]|apply aI|apply nI|intro
theorem ahV:FO 181 atO:=pf amH .nil
noncomputable abbrev aeF:=EV [(181,.pure atO)] [] 12300 9 [(1,[3,50003])]
theorem ao7:af aeF [] Tryz.f123 as2:=pb <| by rintro⟨l,a,b⟩ hl;have hl:l.length<=1000000:=hl;have hz:=cO l (peq a b);rw [atv]at hz;simp -dsimp [Tryz.f123,aeF];repeat' first|omega|simp -dsimp [aeF,hl,asb,hz]|apply aI|apply nI|intro
theorem akg:FO 123 as2:=pf ao7 (.cons ahV .nil)
def asy:bB where
 go args h:=match args with
  | [.sl z els]=>⟨z=8/\els≠[]/\els.length<=1000000,.bw 16005 (hnext h 16005) els.length,bD h 16005 {z:=8,els:=els,ty:=186}⟩
  | [.nil]=>⟨True,.bw 16005 (hnext h 16005) 0,bD h 16005 {z:=8,els:=[],ty:=186}⟩
  | _=>⟨False,.top,h⟩
noncomputable abbrev atf:=EV [] [5] 16000 8
theorem auA:vG atf [] Tryz.f160 asy:=by
 intro args h hc
 match args,hc with
 | [.sl z els],hc=>
  obtain⟨rfl,z7,hb⟩:=hc;have hn:=fun B=>dI h 16005 B;cases els with
  | nil=>exact absurd rfl z7
  | cons x els=>
   have hb':els.length+1<=1000000:=hb;simp -dsimp [Tryz.f160,atf,asy];repeat' first|omega|simp -dsimp [atf,hn,hb',qI]|apply aI|apply nI|intro
   exact⟨_,.refl _,rfl,rfl,bA.refl _⟩
 | [.nil],hc=>
  simp -dsimp [Tryz.f160,atf,asy];repeat' first|omega|simp -dsimp [atf,qI]|apply aI|apply nI|intro
  exact⟨_,.nil _ _ 2 16005 8 186 rfl (by decide) (by decide) (.refl _),rfl,rfl,bA.refl _⟩
theorem auk:dM Tryz.prog 160 (.heap asy):=VM (E:=atf) rfl Mi.nil (ok:=[]) (fn:=Tryz.f160) (by kernel_rfl) (by kernel_rfl) (by kernel_rfl) (by kernel_rfl) rfl (fun args h hc=>by match args,hc with | [.sl z els],hc=>simp | [.nil],hc=>simp) auA
theorem asN(l:List Fw)(h:Hp):asy.go [asd l] h=⟨l.length<=1000000,.bw 16005 (hnext h 16005) l.length,bD h 16005 {z:=8,els:=l.map Fw.row,ty:=186}⟩:=by
 by_cases e:l=[]
 ·subst e;simp [asd,asy]
 ·rw [ase e];simp [asy,e]
@[simp] def as3(d:(Fl × List Sr) × Sr × Bk):List V:=[plI d.1.1 d.1.2,.agg d.2.1.row,.agg d.2.2.row]
theorem as4(a b:(Fl × List Sr) × Sr × Bk)(h:as3 a=as3 b):a=b:=by obtain⟨⟨a1,a2⟩,a3,a4⟩:=a;obtain⟨⟨b1,b2⟩,b3,b4⟩:=b;simp only [as3,List.cons.injEq,V.agg.injEq,and_true]at h;obtain⟨e1,e2⟩:=ar8 h.1;rw [e1,e2,Sr.aq _ _ h.2.1,Bk.aq _ _ h.2.2]
theorem as5(f:Fl)(l:List Sr)(s1 s2 s3 s4 b1 b2 b3 b4:Int):aY as3 [.ip 4 [plR f l] 0 0,.agg [.int .i64 s1,.int .i64 s2,.int .i64 s3,.int .i64 s4],.agg [.int .i64 b1,.int .i64 b2,.int .i64 b3,.int .i64 b4]]=((f,l),⟨s1,s2,s3,s4⟩,⟨b1,b2,b3,b4⟩):=aA as4 ((f,l),⟨s1,s2,s3,s4⟩,⟨b1,b2,b3,b4⟩)
structure WiP (d:(Fl × List Sr) × Sr × Bk):Prop where
 jm:Xa (d.1.1,d.2.1.j,d.2.1.m)
 g:Good d.1.1 true d.1.2
 can:jR d.1.1 d.2.1.j.toNat d.2.1.m.toNat=true
 b:d.2.2=ew d.1.1 d.2.1
 cal:jx (Im d.1.1 d.2.1)=true
noncomputable abbrev atQ:aB:=bS as3 WiP fun d=>if wiB d.1.1 d.1.2 d.2.1=true then plI d.1.1 (d.1.2++[d.2.1])else .lg
theorem as6{f:Fl}(hf:gu f):∀{l:List Sr},(∀x∈l,yW f x)->0<=V1 f l/\V1 f l<=1000000 * l.length
 | [],_=>by simp [V1]
 | x::l,h=>by have ih:=as6 hf fun y hy=>h y (List.mem_cons_of_mem _ hy);have:=(hf.jb (h x (by simp)).j.2).2.2.2.2;rw [V1,List.length_cons];omega
noncomputable abbrev ae4:=EV [(159,.heap yY),(87,.pure chS),(160,.heap asy),(161,.pure atT)] [] 10300 87 [(1,[4,5,50004,50005])]
theorem apm:af ae4 [(1,([3,6,8,10,13,15,17],[[0,1,2,3,4,5,6,7,8,9,10,11,12,13,14,15,16,17,18,19,20,21]])),(5,([3,7,9,10,18,22,26,28,29,31],[[0,1,2,3,4,5,6,7,8,9,10,11,12,13,14,15,16,17,18,19,20,21,22,23,24,25,26,27,28,29,30,31,32,33,34,35]]))] Tryz.f103 atQ:=pb <| by
 rintro⟨⟨f,l⟩,s,b⟩ ⟨hJ,hG,v2,hb,SG⟩;have hK:=hJ.ok;have hj:=hJ.j;have hm:=hJ.m;simp only at hK hj hm hG v2 hb SG hJ;have hf:=hK.ok;have zo:=hG.atw;have zp:=hf.jobs;have zr:=qB f l;have Ip:=hf.dul;have Ik:=abD hf;have zs:=as6 hf hG.sr;have oR:=asn f s l;have va:=TI f l s;have vX:E1 f (l++[s])=E1 f l++[⟨s,ew f s⟩]:=by simp [E1]
 have z8:=as7 (s:=s) (hG.rU hf);have hz:=hG.iV hf;have atx:0<=(ew f s).lv/\(ew f s).lv<(ew f s).hm/\(ew f s).hm<=2000:=by unfold jx at SG;rw [Bool.and_eq_true,gQ]at SG;exact SG.1
 have hu:(ew f s).hm<f.gF:=by simp only [jR,Bool.and_eq_true,decide_eq_true_eq]at v2;exact v2.1.2
 have v1:wiB f l s=(decide ((fL f.gv (j9 f (l++[s]))).2=0) && uZ f (l++[s])):=rfl;have z5:Bi (j9 f (l++[s])):=by
  rw [va];intro d hd;rcases List.mem_append.1 hd with hd|hd
  ·exact xB hz d hd
  ·simp only [GV,List.mem_cons,List.not_mem_nil,or_false]at hd;rcases hd with rfl|rfl<;>exact atx
 have W5:=asV (Ro.si.2 (dN.1 hz).1) z5;have aty:cvB f (l++[s]) (ew f s)=uZ f (l++[s]):=by
  rw [Bool.eq_iff_iff,asr atx.2.2,z8];constructor
  ·intro h t h1 h2 h3 h4;have:=h t.toNat (by omega) (by omega)
   rwa [Int.toNat_of_nonneg h1]at this
  ·intro h t h1 h2;exact h t (by omega) h1 h2 (by omega)
 have vy:=(hf.jb (j:=s.j.toNat) (by omega)).2.2.2.2;obtain⟨sj,sm,sc,sk⟩:=s;simp only at hj hm vy oR;obtain⟨sj,rfl⟩:=Int.eq_ofNat_of_zero_le hj.1;simp only [Int.toNat_natCast]at vy oR;have vP:sj<f.jobs.length:=by omega
 have z0:(sj:Int)<f.jobs.length:=by omega
 obtain⟨x,hx,hx'⟩:=gx vP;have Rl:fP f sj=x:=by simp [fP,List.getD,hx]
 rw [Rl]at vy oR;subst hb;have z9:GV f ⟨(sj:Int),sm,sc,sk⟩=[⟨sc,(ew f ⟨(sj:Int),sm,sc,sk⟩).lv,(ew f ⟨(sj:Int),sm,sc,sk⟩).hm⟩,⟨sk,(ew f ⟨(sj:Int),sm,sc,sk⟩).lv,(ew f ⟨(sj:Int),sm,sc,sk⟩).hm⟩]:=rfl;rw [z9]at va;have z1:CvP ((f,l++[⟨(sj:Int),sm,sc,sk⟩]),ew f ⟨(sj:Int),sm,sc,sk⟩):=⟨hf,by simp only [List.length_append,List.length_singleton];omega,atx.1,atx.2.2,by simp only;omega⟩
 have hR:plR f (l++[⟨(sj:Int),sm,sc,sk⟩])=[.ip 41 [qs f] 0 0,asd (E1 f (l++[⟨(sj:Int),sm,sc,sk⟩])),.sl 3 ((j9 f (l++[⟨(sj:Int),sm,sc,sk⟩])).map Du.row),.int .i64 (V1 f (l++[⟨(sj:Int),sm,sc,sk⟩]))]:=rfl;rw [ase (by rw [vX];simp),vX,va,oR]at hR;have vd:=as8 f (l++[⟨(sj:Int),sm,sc,sk⟩]);rw [hR]at vd;have vb:=dw f.gv (j9 f (l++[⟨(sj:Int),sm,sc,sk⟩]));have vr:MG (f.gv,j9 f (l++[⟨(sj:Int),sm,sc,sk⟩])):=⟨by simp only;omega,by simp only;rw [va];simp only [List.length_append,List.length_cons,List.length_nil];omega⟩
 rw [va]at vb W5 vr v1;generalize hB:ew f ⟨(sj:Int),sm,sc,sk⟩=B at *;obtain⟨b1,b2,b3,b4⟩:=B;simp only [List.map_append,List.map_cons,List.map_nil,Du.row,Fw.row]at hR vd vb;have hfl:=ass f l;have Aj:(j9 f l).length<=1000000:=by omega
 have am7:((j9 f l).length+2) * 24<=140737488355328:=by omega
 have aud:(E1 f l).length<=1000000:=by omega
 have aue:((E1 f l).length+1) * 64<=140737488355328:=by omega
 have wv:=wi (V1 f l+x.val);by_cases hc:(fL f.gv (j9 f l++[⟨sc,b1,b3⟩,⟨sk,b1,b3⟩])).2=0
 case neg=>
  rw [decide_eq_false hc]at v1;have v1:wiB f l ⟨(sj:Int),sm,sc,sk⟩=false:=v1;rw [<-W5]at hc;simp -dsimp [Tryz.f103,ae4,Sr.row,Bk.row];repeat' first|omega|simp -dsimp [ae4,Sr.row,Bk.row,nO,Du.row,Aj,am7,vb,vr,hc,v1,aS,cQ]|apply aI|apply nI|intro
 rw [decide_eq_true hc,Bool.true_and]at v1;rw [<-W5]at hc;cases z2:uZ f (l++[⟨(sj:Int),sm,sc,sk⟩])
 ·rw [z2]at v1 aty;simp -dsimp [Tryz.f103,ae4,Sr.row,Bk.row];repeat' first|omega|simp -dsimp [ae4,Sr.row,Bk.row,nO,asN,Du.row,Fw.row,Aj,am7,aud,aue,vb,vr,hc,hx,hx',vP,z0,Jb.row,wv,vd,z1,aty,v1,hR,aS,cQ]|apply aI|apply nI|intro
 ·rw [z2]at v1 aty;simp -dsimp [Tryz.f103,ae4,Sr.row,Bk.row];repeat' first|omega|simp -dsimp [ae4,Sr.row,Bk.row,nO,asN,Du.row,Fw.row,Aj,am7,aud,aue,vb,vr,hc,hx,hx',vP,z0,Jb.row,wv,vd,z1,aty,v1,hR,aS,cQ]|apply aI|apply nI|intro
theorem aku:FO 103 atQ:=pf apm (.cons auf (.cons anf (.cons auk (.cons Ua .nil))))
@[simp] def as9(d:(Fl × List Sr) × Sr × Bool):List V:=[plI d.1.1 d.1.2,.agg d.2.1.row,.bool d.2.2]
theorem ata(a b:(Fl × List Sr) × Sr × Bool)(h:as9 a=as9 b):a=b:=by obtain⟨⟨a1,a2⟩,a3,a4⟩:=a;obtain⟨⟨b1,b2⟩,b3,b4⟩:=b;simp only [as9,List.cons.injEq,V.agg.injEq,V.bool.injEq,and_true]at h;obtain⟨e1,e2⟩:=ar8 h.1;rw [e1,e2,Sr.aq _ _ h.2.1,h.2.2]
theorem asz(f:Fl)(l:List Sr)(s1 s2 s3 s4:Int)(w:Bool):aY as9 [.ip 4 [plR f l] 0 0,.agg [.int .i64 s1,.int .i64 s2,.int .i64 s3,.int .i64 s4],.bool w]=((f,l),⟨s1,s2,s3,s4⟩,w):=aA ata ((f,l),⟨s1,s2,s3,s4⟩,w)
structure AdP (d:(Fl × List Sr) × Sr × Bool):Prop where
 ok:Cw d.1.1
 g:Good d.1.1 true d.1.2
noncomputable abbrev atU:aB:=bS as9 AdP fun d=>if wS d.1.1 d.1.2 d.2.1 d.2.2=true then plI d.1.1 (d.1.2++[d.2.1])else .lg
theorem atz{f:Fl}(hf:gu f)(l:List Sr)(j m:Nat):(cwL f l j m).length<=144:=by
 unfold cwL;split
 ·have:=uf f.gv (j9 f l) (Im f (E0 j m (0,0))) f.gv.bM.length;rw [zH]at this;have h2:=Nat.mul_le_mul (abD hf) (abD hf);omega
 ·simp
noncomputable abbrev OQ:=EV [(38,.pure ab5),(101,.pure atX),(102,.pure atY),(123,.pure as2),(103,.pure atQ)] [] 5800 51 [(1,[4,50004]),(4,[7,50007])]
theorem b58:af OQ [] Tryz.f58 atU:=pb <| by
 rintro⟨⟨f,l⟩,s,w⟩ ⟨hK,hG⟩;simp only at hK hG;have hf:=hK.ok;cases v4:Xc f s.j s.m
 ·have hn:wS f l s w=false:=by unfold wS;rw [v4];simp
  obtain⟨sj,sm,sc,sk⟩:=s;simp only at v4;simp -dsimp [Tryz.f58,OQ,Sr.row];repeat' first|omega|simp -dsimp [OQ,Sr.row,nC,hK,v4,hn,aS,cQ]|apply aI|apply nI|intro
 obtain⟨hj,hm⟩:=PY.1 v4;have hJ:Xa (f,s.j,s.m):=⟨hK,hj,hm⟩
 obtain⟨sj,sm,sc,sk⟩:=s;simp only at hj hm v4 hJ;obtain⟨sj,rfl⟩:=Int.eq_ofNat_of_zero_le hj.1;obtain⟨sm,rfl⟩:=Int.eq_ofNat_of_zero_le hm.1;have v7:=atb (f:=f) (q:=l) (j:=sj) (m:=sm) (c:=(sc,sk)) (any:=w) (by omega) (by omega);have cZ:=atz hf l sj sm;have vs:FtP ((f,l),(sj:Int),(sm:Int),w):=⟨hJ,hG⟩
 cases v5:ftB f l sj sm w
 ·have hn:wS f l ⟨(sj:Int),(sm:Int),sc,sk⟩ w=false:=by have:=v7;rw [v5]at this;exact this
  generalize hB:D5 f sj sm=B at *;obtain⟨b1,b2,b3,b4⟩:=B;simp -dsimp [Tryz.f58,OQ,Sr.row,E0];repeat' first|omega|simp -dsimp [OQ,Sr.row,Bk.row,nC,asf,hK,v4,vs,v5,hB,hn,E0,aS,cQ]|apply aI|apply nI|intro
 have v2:jR f sj sm=true:=by unfold ftB akI at v5;simp only [Bool.and_eq_true]at v5;exact v5.1.1.1
 have hq:zZ f sj sm=true:=by simp only [jR,Bool.and_eq_true]at v2;exact v2.1.1.1
 have hO:=uJ hq;rw [v5,Bool.true_and]at v7;have vV:CwP ((f,l),(sj:Int),(sm:Int),jJ f sj sm):=⟨hJ,hG,hq,rfl⟩
 have vx:(cwL f l sj sm).contains (sc,sk)=true->WiP ((f,l),E0 sj sm (sc,sk),jJ f sj sm):=fun h=>⟨hJ,hG,v2,rfl,by
  have hc:jx (Im f (E0 sj sm (0,0)))=true:=by
   cases c:jx (Im f (E0 sj sm (0,0)))
   ·unfold cwL at h;rw [c]at h;simp at h
   ·rfl
  exact hc⟩
 have oG:ew f (E0 sj sm (sc,sk))=jJ f sj sm:=rfl;generalize vW:cwL f l sj sm=CL at *;have atZ:CL.length<=1000000:=by omega
 generalize hB:jJ f sj sm=B at *;obtain⟨b1,b2,b3,b4⟩:=B;cases v6:CL.contains (sc,sk)
 ·rw [v6]at v7;have hn:wS f l ⟨(sj:Int),(sm:Int),sc,sk⟩ w=false:=v7;have v8:((sc,sk)∈CL)=False:=eq_false fun h=>by rw [List.contains_iff_mem.2 h]at v6;cases v6
  simp -dsimp [Tryz.f58,OQ,Sr.row,E0];repeat' first|omega|simp -dsimp [OQ,Sr.row,Bk.row,nC,asf,ar7,asb,hK,v4,vs,v5,hO,hB,vV,vW,atZ,v6,v8,hn,E0,aS,cQ]|apply aI|apply nI|intro
 ·rw [v6,Bool.true_and]at v7;have vx:=vx v6;have hn:wS f l ⟨(sj:Int),(sm:Int),sc,sk⟩ w=wiB f l ⟨(sj:Int),(sm:Int),sc,sk⟩:=v7;have v8:((sc,sk)∈CL)=True:=eq_true (List.contains_iff_mem.1 v6);have z3:=as5 f l sj sm sc sk b1 b2 b3 b4;have auh:WiP ((f,l),⟨(sj:Int),(sm:Int),sc,sk⟩,⟨b1,b2,b3,b4⟩):=vx;clear vx;cases hw':wiB f l ⟨(sj:Int),(sm:Int),sc,sk⟩
  ·rw [hw']at hn;simp -dsimp [Tryz.f58,OQ,Sr.row,E0];repeat' first|omega|simp -dsimp [OQ,Sr.row,Bk.row,nC,asf,ar7,asb,z3,hK,v4,vs,v5,hO,hB,vV,vW,atZ,v6,v8,auh,hw',hn,E0,aS,cQ]|apply aI|apply nI|intro
  ·rw [hw']at hn;simp -dsimp [Tryz.f58,OQ,Sr.row,E0];repeat' first|omega|simp -dsimp [OQ,Sr.row,Bk.row,nC,asf,ar7,asb,z3,hK,v4,vs,v5,hO,hB,vV,vW,atZ,v6,v8,auh,hw',hn,E0,aS,cQ]|apply aI|apply nI|intro
theorem apP:FO 58 atU:=pf b58 (.cons agW (.cons ako (.cons aks (.cons akg (.cons aku .nil)))))
@[simp] def fiE(d:Fl):List V:=[flI d]
theorem atJ(a b:Fl)(h:fiE a=fiE b):a=b:=by simp only [fiE,List.cons.injEq,and_true]at h;exact xA _ _ h
theorem atK(f:Fl):aY fiE [.ip 41 [qs f] 0 0]=f:=aA atJ f
noncomputable abbrev at4:aB:=bS fiE (fun _=>True) fun f=>plI f []
theorem atL(f:Fl):j9 f []=f.wF:=by simp [j9]
theorem atM(f:Fl):V1 f []=0:=rfl
noncomputable abbrev E43:=EV [] [] 4300 11
theorem b43:af E43 [] Tryz.f43 at4:=pb <| by
 rintro f _;have hR:plR f []=[.ip 41 [qs f] 0 0,.nil,.sl 3 (f.wF.map Du.row),.int .i64 0]:=by unfold plR;rw [asv,aso,atL,atM]
 simp -dsimp [Tryz.f43,E43];repeat' first|omega|simp -dsimp [E43,hR]|apply aI|apply nI|intro
theorem MB:FO 43 at4:=pf b43 .nil
structure NpP (d:Fl × List Sr):Prop where
 k:Cw d.1
 l:d.2.length<=100000000000000
noncomputable abbrev at5:aB:=bS yU NpP fun d=>.dB [if (O7 d.1 d.2).2=0 then plI d.1 d.2 else .lg,.int .i64 (O7 d.1 d.2).1,.int .i64 (O7 d.1 d.2).2]
noncomputable abbrev Sz:=EV [(37,.pure nfS),(43,.pure at4),(58,.pure atU)] [] 3500 35 [(1,[2,50002])]
theorem b35:af Sz [] Tryz.f35 at5:=pb <| by
 rintro⟨f,l⟩ ⟨hK,hl⟩;simp only at hK hl;have hf:=hK.ok;have hE:O7 f l=if YV f l false<0 then (0,0)else (YV f l false,111):=if_pos (tC.2 hf);simp -dsimp [Tryz.f35,Sz];repeat' first|omega|simp -dsimp [Sz,fC,atK,hK]|apply aI|apply nI|intro
 refine ay [23,24,25,26,9,8,27,28,29,4,30,31,32,5,6,33,22] (fun k:{k:Nat // k<=l.length/\Good f false (l.take k)}=>[(22,(true,.int .i64 k.1)),(4,(true,.ip 4 [plR f (l.take k.1)] 0 0))]) (fun k=>hps [(3509,{base:=k.1,ah:=[]}),(3502,fS f)] cg) (fun k=>l.length - k.1) ⟨0,by omega,by rw [List.take_zero];exact Good.nil⟩ ?_ ?_ ?_
 ·simp [aj,aT]
 ·(try simp -dsimp only [hpx]);refine ai ?_;simp -dsimp [aC,fS]<;>exact rz
 rintro⟨k,hk,v0⟩;dsimp only;by_cases aH:k<l.length
 ·have v3:(k:Int)<l.length:=by omega
  have wk:=wx k;obtain⟨x,hx,hx'⟩:=gx aH;have O5:l.getD k default=x:=by simp [List.getD,hx]
  have l7:wS f (l.take k) x false=false->YV f l false=k:=fun h=>ad0 aH v0 (by rw [O5];exact h);have sQ:wS f (l.take k) x false=true->Good f false (l.take (k+1)):=fun h=>Good.more aH v0 (by rw [O5];exact h);have za:l.take (k+1)=l.take k++[x]:=by rw [List.take_add_one,hx];rfl
  generalize auo:l.take (k+1)=l1 at *;generalize l.take k=lk at *;obtain⟨xj,xm,xc,xk⟩:=x;have z4:AdP ((f,lk),⟨xj,xm,xc,xk⟩,false):=⟨hK,v0.weak⟩
  cases c:wS f lk ⟨xj,xm,xc,xk⟩ false
  ·have hb:=l7 c;have hE:O7 f l=((k:Int),111):=(by rw [hE,hb,if_neg (by omega)]);simp -dsimp [v3,fS];repeat' first|omega|simp -dsimp [Sz,v3,aH,hx,hx',Sr.row,asz,z4,c,hE]|apply aI|apply nI|intro
  ·have sQ:=sQ c;simp -dsimp [v3,fS];repeat' first|omega|simp -dsimp [Sz,v3,aH,hx,hx',Sr.row,asz,z4,c,wk]|apply aI|apply nI|intro
   refine⟨k+1,ag rfl ?_,?_,⟨by omega,by rw [auo];exact sQ⟩,by omega⟩
   ·simp [aj,aT,auo,za]
   ·(try simp -dsimp only [hpx]);refine ai ?_;simp -dsimp [aC,fS]<;>exact rz
 have v9:¬ (k:Int)<l.length:=by omega
 have zd:k=l.length:=by omega
 subst zd;rw [List.take_length]at v0 ⊢;have hb:=zI.2 v0;have hE:O7 f l=(0,0):=by rw [hE,hb,if_pos (by omega)]
 simp -dsimp [v9];repeat' first|omega|simp -dsimp [Sz,v9,hE]|apply aI|apply nI|intro
theorem Ye:FO 35 at5:=pf b35 (.cons anj (.cons MB (.cons apP .nil)))
@[simp] def ato(d:(Fl × List Sr) × Int):List V:=[.agg d.1.1.row,.sl 4 (d.1.2.map Sr.row),.int .i64 d.2]
structure ReP (d:(Fl × List Sr) × Int):Prop where
 k:Cw d.1.1
 g:Good d.1.1 false d.1.2
 t:0<=d.2/\d.2<d.1.1.gF
theorem aAF{f:Fl}{l:List Sr}(hf:gu f)(hG:Good f false l):O7 f l=(0,0):=by have hb:=zI.2 hG;unfold O7;rw [if_pos (tC.2 hf),hb,if_pos (by omega)]
noncomputable abbrev awM:aB:=bS yU NpP fun d=>.dB [.int .i64 (if (O7 d.1 d.2).2=0 then V1 d.1 d.2 else 0),.int .i64 (O7 d.1 d.2).2]
noncomputable abbrev E12:=EV [(35,.pure at5)] [] 1200 23 [(1,[2,50002])]
theorem b12:af E12 [] Tryz.f12 awM:=pb <| by
 rintro⟨f,l⟩ hN;by_cases c:(O7 f l).2=0
 all_goals
  simp -dsimp [Tryz.f12,E12];repeat' first|omega|simp -dsimp [E12,gO,hN,c]|apply aI|apply nI|intro
theorem anw:FO 12 awM:=pf b12 (.cons Ye .nil)
noncomputable abbrev axN:aB:=bS yU NpP fun d=>.dB [.int .i64 (O7 d.1 d.2).1,.int .i64 (O7 d.1 d.2).2]
noncomputable abbrev FK:=EV [(35,.pure at5)] [] 1300 15 [(1,[2,50002])]
theorem b13:af FK [] Tryz.f13 axN:=pb <| by rintro⟨f,l⟩ hN;simp -dsimp [Tryz.f13,FK];repeat' first|omega|simp -dsimp [FK,gO,hN]|apply aI|apply nI|intro
theorem W9:FO 13 axN:=pf b13 (.cons Ye .nil)
end Go.Sx
end
end
