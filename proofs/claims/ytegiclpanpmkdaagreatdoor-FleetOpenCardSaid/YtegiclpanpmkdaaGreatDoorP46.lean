/- A part of a proof; no conditions. -/
import Derived.Test.YtegiclpanpmkdaaGreatDoorP44
import Derived.Test.YtegiclpanpmkdaaGreatDoorP42
set_option linter.all false
set_option maxRecDepth 100000
set_option maxHeartbeats 8000000
noncomputable section
section
namespace Go.Sx
open Go.Proofs
attribute [local simp] ri aa ints
attribute [local irreducible] bA
def apW (f:Fl) (a b:Bk):Bool:=decide (wr (b.hm+f.turn)<=a.lv) || decide (wr (a.hm+f.turn)<=b.lv)
def XP (f:Fl):V:=.fn 172 [.ip 1 [[.ip 41 [qs f] 0 0]] 0 0]
@[simp] def apE (d:Bk × Bk × Fl):List V:=[.agg d.1.row,.agg d.2.1.row,.ip 1 [[.ip 41 [qs d.2.2] 0 0]] 0 0]
theorem XQ (a b:Bk × Bk × Fl) (h:apE a=apE b):a=b:=by obtain⟨a1,a2,a3⟩:=a; obtain⟨b1,b2,b3⟩:=b;simp only [apE,List.cons.injEq,V.agg.injEq,V.ip.injEq,true_and,and_true]at h;rw [Bk.aq _ _ h.1,Bk.aq _ _ h.2.1,Fl.aq _ _ (List.append_inj h.2.2 rfl).1]
theorem XR (a1 a2 a3 a4 b1 b2 b3 b4:Int) (f:Fl):aY apE [.agg [.int .i64 a1,.int .i64 a2,.int .i64 a3,.int .i64 a4],.agg [.int .i64 b1,.int .i64 b2,.int .i64 b3,.int .i64 b4],.ip 1 [[.ip 41 [qs f] 0 0]] 0 0]=(⟨a1,a2,a3,a4⟩,⟨b1,b2,b3,b4⟩,f):=aA XQ (⟨a1,a2,a3,a4⟩,⟨b1,b2,b3,b4⟩,f)
noncomputable abbrev apS:aB:=bS apE (fun _=>True) fun d=>.bool (apW d.2.2 d.1 d.2.1)
noncomputable abbrev I9:=EV [] [] 17200 30
theorem apn:af I9 [] Tryz.f172 apS:=pb <| by
 rintro⟨⟨a1,a2,a3,a4⟩,⟨b1,b2,b3,b4⟩,f⟩ _;have e:apW f ⟨a1,a2,a3,a4⟩ ⟨b1,b2,b3,b4⟩=(decide (IntKind.wrap .i64 (b3+f.turn)<=a1) || decide (IntKind.wrap .i64 (a3+f.turn)<=b1)):=rfl;rcases Classical.propComplete (IntKind.wrap .i64 (b3+f.turn)<=a1)with c1|c1<;>rcases Classical.propComplete (IntKind.wrap .i64 (a3+f.turn)<=b1)with c2|c2
 all_goals
  simp only [c1,c2,decide_true,decide_false,Bool.or_true,Bool.or_false,Bool.true_or,Bool.false_or]at e;simp -dsimp [Tryz.f172,I9,Bk.row];repeat' (first|omega|simp -dsimp [I9,Bk.row,c1,c2,e]|apply aI|apply nI|intro)
theorem akv:FO 172 apS:=pf apn .nil
abbrev FB:=Fl × Bk
def Ni (q:FB) (x:Bk):Bool:=!apW q.1 q.2 x
def O6 (q:FB):V:=.fn 174 [.ip 1 [[XP q.1]] 0 0,.ip 4 [q.2.row] 0 0]
theorem XS (a b:FB) (h:O6 a=O6 b):a=b:=by obtain⟨a1,a2⟩:=a; obtain⟨b1,b2⟩:=b;simp only [O6,XP,V.fn.injEq,List.cons.injEq,V.ip.injEq,true_and,and_true]at h;rw [Fl.aq _ _ (List.append_inj h.1 rfl).1,Bk.aq _ _ h.2]
@[simp] def nbE (d:Bk × Fl × Bk):List V:=[.agg d.1.row,.ip 1 [[.fn 172 [.ip 1 [[.ip 41 [qs d.2.1] 0 0]] 0 0]]] 0 0,.ip 4 [d.2.2.row] 0 0]
theorem XT (a b:Bk × Fl × Bk) (h:nbE a=nbE b):a=b:=by obtain⟨a1,a2,a3⟩:=a; obtain⟨b1,b2,b3⟩:=b;simp only [nbE,List.cons.injEq,V.agg.injEq,V.fn.injEq,V.ip.injEq,true_and,and_true]at h;rw [Bk.aq _ _ h.1,Fl.aq _ _ (List.append_inj h.2.1 rfl).1,Bk.aq _ _ h.2.2]
theorem KU (x:Bk) (q:Fl × Bk):aY nbE [.agg [.int .i64 x.lv,.int .i64 x.ar,.int .i64 x.hm,.int .i64 x.mD],.ip 1 [[.fn 172 [.ip 1 [[.ip 41 [qs q.1] 0 0]] 0 0]]] 0 0,.ip 4 [[.int .i64 q.2.lv,.int .i64 q.2.ar,.int .i64 q.2.hm,.int .i64 q.2.mD]] 0 0]=(x,q.1,q.2):=aA XT (x,q.1,q.2)
noncomputable abbrev nbS:aB:=bS nbE (fun _=>True) fun d=>.bool (Ni (d.2.1,d.2.2) d.1)
noncomputable abbrev afr:=EV [(172,.pure apS)] [] 17400 10
theorem ap1:af afr [] Tryz.f174 nbS:=pb <| by
 rintro⟨⟨a1,a2,a3,a4⟩,f,⟨b1,b2,b3,b4⟩⟩ _;cases c:apW f ⟨b1,b2,b3,b4⟩ ⟨a1,a2,a3,a4⟩
 all_goals
  simp -dsimp [Tryz.f174,afr,Bk.row,Ni];repeat' (first|omega|simp -dsimp [afr,Bk.row,XR,c,Ni]|apply aI|apply nI|intro)
theorem akO:FO 174 nbS:=pf ap1 (.cons akv .nil)
@[simp] def Br (d:FB × List Bk):List V:=[.sl 4 (d.2.map Bk.row),O6 d.1]
theorem Nj (a b:FB × List Bk) (h:Br a=Br b):a=b:=by obtain⟨a1,a2⟩:=a; obtain⟨b1,b2⟩:=b;simp only [Br,List.cons.injEq,V.sl.injEq,true_and,and_true]at h;rw [aR Bk.aq h.1,XS _ _ h.2]
theorem Bs (q:FB) (l:List Bk):aY Br [.sl 4 (l.map Bk.row),O6 q]=(q,l):=aA Nj (q,l)
structure R7 (d:FB × List Bk):Prop where
 l:d.2.length<=1000000
 q:(fun q:FB=>True) d.1
noncomputable abbrev H9:aB:=bS Br R7 fun d=>.int .i64 (eB d.2 (Ni d.1))
noncomputable abbrev Ia:aB:=bS Br R7 fun d=>.bool (d.2.any (Ni d.1))
noncomputable abbrev Vq:=EV [(174,.pure nbS)] [] 22900 19
theorem apZ:af Vq [] Tryz.f229 H9:=pb <| by
 rintro⟨q,l⟩ ⟨hl,hq⟩;have hl:l.length<=1000000:=hl;try dsimp only at hq
 simp -dsimp [Tryz.f229,Vq];refine ay [9,10,5,11,12,13,14,15,16,17,4,18,8] (fun k:{k:Nat // k<=l.length/\∀j (h:j<l.length),j<k->Ni q l[j]=false}=>[(8,(true,.int .i64 k.1))]) (fun _=>cg) (fun k=>l.length - k.1) ⟨0,by omega,fun _ _ h=>by omega⟩ ?_ (bA.refl _) ?_
 ·simp [aj,aT]
 rintro⟨k,hk,hall⟩;by_cases aH:k<l.length
 ·have hki:(k:Int)<l.length:=by omega
  have wk:=wx k;obtain⟨x,hx,hx'⟩:=gx aH;cases hw:Ni q x
  ·simp -dsimp [hki];repeat' (first|omega|simp -dsimp [Vq,hki,aH,hl,hx,hx',hw,wk,hq,O6,XP,KU,Bk.row]|apply aI|apply nI|intro)
   refine⟨k+1,ag rfl ?_,bA.refl _,⟨by omega,fun j h hj=>?_⟩,by omega⟩
   ·simp [aj,aT]
   ·by_cases hjk:j=k
    ·subst hjk; rw [hx']; exact hw
    ·exact hall j h (by omega)
  ·have hz:=cW l (Ni q) aH (by rw [hx']; exact hw) hall;simp -dsimp [hki];repeat' (first|omega|simp -dsimp [Vq,hki,aH,hl,hx,hx',hw,wk,hz,hq,O6,XP,KU,Bk.row]|apply aI|apply nI|intro)
 ·have hkn:¬ (k:Int)<l.length:=by omega
  have hz:=bP l (Ni q) (fun j h=>hall j h (by omega));simp -dsimp [hkn];repeat' (first|omega|simp -dsimp [Vq,hkn,hz]|apply aI|apply nI|intro)
theorem akM:FO 229 H9:=pf apZ (.cons akO .nil)
noncomputable abbrev afq:=EV [(229,.pure H9)] [] 17300 9
theorem ap0:af afq [] Tryz.f173 Ia:=pb <| by rintro⟨q,l⟩ hP;have hz:=cO l (Ni q);have hd:=Bs q l;simp -dsimp only [O6,XP]at hd;simp -dsimp [Tryz.f173,afq,O6,XP];repeat' (first|omega|simp -dsimp [afq,hP,hd,hz,O6,XP]|apply aI|apply nI|intro)
theorem akN:FO 173 Ia:=pf ap0 (.cons akM .nil)
end Go.Sx
end
section
namespace Go.Sx
open Go.Proofs
attribute [local simp] ri aa ints
attribute [local irreducible] bA
def uX (n:Int):Bool:=!bQ n 0 1000000
noncomputable abbrev afX:=EV [(56,.pure Pq)] [] 11400 6
theorem aqq:af afX [] Tryz.f114 (Wr uX):=pb <| by rintro n _;simp -dsimp [Tryz.f114,afX,uX];repeat' (first|omega|simp -dsimp [afX,uX]|apply aI|apply nI|intro)
theorem aky:dM Tryz.prog 114 (.pure (Wr uX)):=pf aqq (.cons Sl .nil)
namespace Fc
@[simp] def Bt (d:List Int):List V:=[.sl 1 (d.map ri),.fn 114 []]
theorem Nk (a b:List Int) (h:Bt a=Bt b):a=b:=by simp only [Bt,List.cons.injEq,V.sl.injEq,true_and,and_true]at h;exact aR Cu h
theorem Bu (l:List Int):aY Bt [.sl 1 (l.map ri),.fn 114 []]=l:=aA Nk l
noncomputable abbrev Ib:aB:=bS Bt (fun d=>d.length<=1000000) fun d=>.int .i64 (eB d uX)
noncomputable abbrev Ic:aB:=bS Bt (fun d=>d.length<=1000000) fun d=>.bool (d.any uX)
noncomputable abbrev SL:=EV [(114,.pure (Wr uX))] [] 13000 19
theorem anE:af SL [] Tryz.f130 Ib:=pb <| by
 rintro l hl;have hl:l.length<=1000000:=hl;simp -dsimp [Tryz.f130,SL];refine ay [9,10,5,11,12,13,14,15,16,17,4,18,8] (fun k:{k:Nat // k<=l.length/\∀j (h:j<l.length),j<k->uX l[j]=false}=>[(8,(true,.int .i64 k.1))]) (fun _=>cg) (fun k=>l.length - k.1) ⟨0,by omega,fun _ _ h=>by omega⟩ ?_ (bA.refl _) ?_
 ·simp [aj,aT]
 rintro⟨k,hk,hall⟩;by_cases aH:k<l.length
 ·have hki:(k:Int)<l.length:=by omega
  have wk:=wx k;cases hw:uX l[k]
  ·simp -dsimp [hki];repeat' (first|omega|simp -dsimp [SL,hki,aH,hl,hw,wk,ri]|apply aI|apply nI|intro)
   refine⟨k+1,ag rfl ?_,bA.refl _,⟨by omega,fun j h hj=>?_⟩,by omega⟩
   ·simp [aj,aT]
   ·by_cases hjk:j=k
    ·subst hjk; exact hw
    ·exact hall j h (by omega)
  ·have hz:=cW l uX aH hw hall;simp -dsimp [hki];repeat' (first|omega|simp -dsimp [SL,hki,aH,hl,hw,wk,hz,ri]|apply aI|apply nI|intro)
 ·have hkn:¬ (k:Int)<l.length:=by omega
  have hz:=bP l uX (fun j h=>hall j h (by omega));simp -dsimp [hkn];repeat' (first|omega|simp -dsimp [SL,hkn,hz]|apply aI|apply nI|intro)
theorem ahS:FO 130 Ib:=pf anE (.cons aky .nil)
noncomputable abbrev E68:=EV [(130,.pure Ib)] [] 6800 9
theorem b68:af E68 [] Tryz.f68 Ic:=pb <| by rintro l hl;have hl:l.length<=1000000:=hl;have hz:=cO l uX;simp -dsimp [Tryz.f68,E68];repeat' (first|omega|simp -dsimp [E68,hl,Bu,hz]|apply aI|apply nI|intro)
theorem ams:FO 68 Ic:=pf b68 (.cons ahS .nil)
end Fc
@[simp] def fqE (d:Fl × List Int):List V:=[flI d.1,.sl 1 (d.2.map ri)]
theorem XU (a b:Fl × List Int) (h:fqE a=fqE b):a=b:=by obtain⟨a1,a2⟩:=a; obtain⟨b1,b2⟩:=b;simp only [fqE,List.cons.injEq,V.sl.injEq,true_and,and_true]at h;rw [xA _ _ h.1,ee h.2]
theorem XV (f:Fl) (l:List Int):aY fqE [.ip 41 [qs f] 0 0,.sl 1 (l.map ri)]=(f,l):=aA XU (f,l)
structure PrP (f:Fl) (l:List Int):Prop where
 ok:Cw f
 n:l.length=f.jobs.length
 a:l.any uX=false
noncomputable abbrev acZ:aB:=bS fqE (fun d=>PrP d.1 d.2) fun _=>.int .i64 0
noncomputable abbrev Wp:=EV [(68,.pure Fc.Ic)] [] 5100 18
theorem b51:af Wp [] Tryz.f51 acZ:=pb <| by
 rintro⟨f,l⟩ ⟨hK,hn,ha⟩;simp only at hK hn ha;have hj:=hK.ok.jobs;have hl:l.length<=1000000:=by omega
 have hd:=Fc.Bu l;simp -dsimp [Tryz.f51,Wp];repeat' (first|omega|simp -dsimp [Wp,hn,hl,hd,ha]|apply aI|apply nI|intro)
theorem aiy:FO 51 acZ:=pf b51 (.cons Fc.ams .nil)
structure Er where
 bl:List Bk
 sum:Int
 mD:Int
 ok:Bool
structure Er2 where
 a:Nat
 b:Nat
def rG (f:Fl) (m:Nat) (ps:List Int) (s:Nat):Nat->Er
 | 0=>⟨[],0,0,true⟩
 | j+1=>if wP s j=true then ⟨(rG f m ps s j).bl++[D5 f j m],wr ((rG f m ps s j).sum+wr ((fP f j).val - ps.getD j 0)),wr ((rG f m ps s j).mD+(D5 f j m).mD),((rG f m ps s j).ok && (jR f j m && DY f j m)) && !((rG f m ps s j).bl.any (Ni (f,D5 f j m)))⟩else rG f m ps s j
def KV (f:Fl) (m:Nat) (ps:List Int):Nat->Int
 | 0=>0
 | s+1=>if ((rG f m ps s f.jobs.length).ok && decide ((rG f m ps s f.jobs.length).mD<=max (Ai f m) 0))=true then max (KV f m ps s) (rG f m ps s f.jobs.length).sum else KV f m ps s
theorem KW (f:Fl) (m:Nat) (ps:List Int) (s:Nat):∀j,(rG f m ps s j).bl.length<=j
 | 0=>by simp [rG]
 | j+1=>by
  have:=KW f m ps s j;rw [rG]; split
  ·simp; omega
  ·omega
@[simp] def eqE (d:Fl × Int × List Int):List V:=[flI d.1,.int .i64 d.2.1,.sl 1 (d.2.2.map ri)]
theorem XW (a b:Fl × Int × List Int) (h:eqE a=eqE b):a=b:=by obtain⟨a1,a2,a3⟩:=a; obtain⟨b1,b2,b3⟩:=b;simp only [eqE,List.cons.injEq,V.sl.injEq,V.int.injEq,true_and,and_true]at h;rw [xA _ _ h.1,h.2.1,ee h.2.2]
theorem XX (f:Fl) (m:Int) (l:List Int):aY eqE [.ip 41 [qs f] 0 0,.int .i64 m,.sl 1 (l.map ri)]=(f,m,l):=aA XW (f,m,l)
structure ErP (d:Fl × Int × List Int):Prop where
 ok:Cw d.1
 m:0<=d.2.1/\d.2.1<d.1.dU.length
 n:d.2.2.length=d.1.jobs.length
noncomputable abbrev erS:aB:=bS eqE ErP fun d=>.int .i64 (KV d.1 d.2.1.toNat d.2.2 (2 ^ d.1.jobs.length))
theorem aiM {n:Nat} (h:n<=6):1<=2 ^ n/\2 ^ n<=64:=⟨Nat.one_le_two_pow,by have:2 ^ n<=2 ^ 6:=Nat.pow_le_pow_right (by decide) h;omega⟩
def Nl (f:Fl):Site:={base:=0,ah:=[{z:=1,els:=[[.ip 41 [qs f] 0 0]],ty:=98,fz:=true}]}
def Nn (f:Fl):Site:={base:=0,ah:=[{z:=1,els:=[[.fn 172 [.ip 1 [[.ip 41 [qs f] 0 0]] 0 0]]],ty:=263}]}
noncomputable abbrev aco:=EV [(39,.pure Xb),(173,.pure Ia)] [] 11500 101 [(1,[3,50003])]
theorem amy:af aco [] Tryz.f115 erS:=pb <| by
 rintro⟨f,m,ps⟩ ⟨hK,hm,hn⟩;simp only at hK hm hn;have hf:=hK.ok;obtain⟨m,rfl⟩:=Int.eq_ofNat_of_zero_le hm.1;have jW:m<f.dU.length:=by omega
 have hj6:=hf.jobs;obtain⟨J,hJ⟩:∃J,f.jobs.length=J:=⟨_,rfl⟩
 have hsh:=XY J (by omega);have hpw:pw J=2 ^ J:=rfl;have hp2:=aiM (n:=J) (by omega);have ac0:rR f f.eH.ax.toNat≠[]:=fun h=>by have:=congrArg List.length h;rw [nB,hf.Np,List.length_nil]at this;omega
 have hV:Cv (rR f f.eH.ax.toNat)=.sl 1 ((rR f f.eH.ax.toNat).map ri):=by rw [Cv,if_neg ac0]
 have hLl:(rR f f.eH.ax.toNat).length=f.dU.length:=by rw [nB,hf.Np]
 have XZ:(rR f f.eH.ax.toNat)[m]?=some (Ai f m):=by rw [hf.Np]; simp [rR,jW]
 have C5:∀h,(rR f f.eH.ax.toNat)[m]'h=Ai f m:=fun h=>by rw [List.getElem?_eq_getElem h]at XZ; exact Option.some.inj XZ
 generalize hLL:rR f f.eH.ax.toNat=L at *;have hmL:m<L.length:=by omega
 have R9:(m:Int)<L.length:=by omega
 have C5:=C5 hmL;rw [hpw]at hsh;generalize hNN:2 ^ J=N at *;simp -dsimp [Tryz.f115,aco];repeat' (first|omega|simp -dsimp [aco,hJ,hsh]|apply aI|apply nI|intro)
 refine ay [25,26,8,9,10,11,12,27,28,29,30,31,32,33,34,35,13,36,37,38,39,40,42,43,44,45,41,46,47,14,15,48,49,50,51,52,53,54,55,56,57,58,59,60,61,62,63,64,65,66,67,68,69,70,71,72,73,74,75,76,77,78,79,80,81,82,83,84,85,86,87,88,89,90,91,92,93,94,95,96,97,98,6,99,24] (fun p:{p:Er2 // p.a<=N}=>[(24,(true,.int .i64 p.1.a)),(6,(true,.int .i64 (KV f m ps p.1.a)))]) (fun p=>hps [(11561,{base:=p.1.a,ah:=[]}),(11514,{base:=p.1.b,ah:=[]}),(11507,Nn f),(11503,Nl f)] cg) (fun p=>N - p.1.a) ⟨⟨0,0⟩,by simp⟩ ?_ ?_ ?_
 ·simp [aj,aT,KV]
 ·(try simp -dsimp only [hpx]); refine ai ?_; simp -dsimp [aC,Nn,Nl]<;>exact rz
 rintro⟨⟨s,c⟩,hs⟩;dsimp only at hs ⊢;by_cases hs1:s<N
 case neg=>
  have xT:¬ (s:Int)<N:=by omega
  have hse:s=N:=by omega
  subst hse;simp -dsimp [xT];repeat' (first|omega|simp -dsimp [aco,xT,hJ,hNN]|apply aI|apply nI|intro)
 have hsi:(s:Int)<N:=by omega
 have ws:=wx s;have yV:∀j:Nat,j<J->r8 .and .i64 (tB .i64 (s:Int) (j:Int)) 1=if wP s j=true then 1 else 0:=fun j hj=>Ie (by omega) (by omega);have hM:KV f m ps (s+1)=if ((rG f m ps s f.jobs.length).ok && decide ((rG f m ps s f.jobs.length).mD<=max (Ai f m) 0))=true then max (KV f m ps s) (rG f m ps s f.jobs.length).sum else KV f m ps s:=rfl;simp -dsimp [hsi,Nn,Nl];repeat' (first|omega|simp -dsimp [aco,hsi,hJ]|apply aI|apply nI|intro)
 refine dA [(9,11561,4,111)] rfl (by simp) [34,35,13,36,37,38,39,40,42,43,44,45,41,46,47,14,15,48,49,50,51,52,53,54,55,56,57,12,58,59,60,61,9,62,63,64,65,11,66,67,68,69,70,71,72,73,74,75,76,77,78,79,80,81,10,82,33] (fun q:{q:Er2 // q.a<=J}=>[(33,(true,.int .i64 q.1.a)),(12,(true,.bool (rG f m ps s q.1.a).ok)),(11,(true,.int .i64 (rG f m ps s q.1.a).mD)),(10,(true,.int .i64 (rG f m ps s q.1.a).sum)),(9,(true,.bw 11561 s (rG f m ps s q.1.a).bl.length))]) (fun q=>hps [(11561,{base:=s,ah:=[{z:=4,els:=(rG f m ps s q.1.a).bl.map Bk.row,ty:=111}]}),(11514,{base:=q.1.b,ah:=[]}),(11507,Nn f),(11503,Nl f)] cg) (fun q=>J - q.1.a) ⟨⟨0,c⟩,by simp⟩ ?_ ?_ ?_
 ·simp [aj,aT,rG]
 ·(try simp -dsimp only [hpx]); refine ai ?_; simp -dsimp [aC,Nn,Nl,rG]<;>exact rz
 rintro⟨⟨j,c⟩,hj⟩;dsimp only at hj ⊢;have hel:=KW f m ps s j;by_cases hj1:j<J
 ·have hji:(j:Int)<J:=by omega
  have wj:=wx j;have hb:=yV j hj1;have hE:rG f m ps s (j+1)=if wP s j=true then ⟨(rG f m ps s j).bl++[D5 f j m],wr ((rG f m ps s j).sum+wr ((fP f j).val - ps.getD j 0)),wr ((rG f m ps s j).mD+(D5 f j m).mD),((rG f m ps s j).ok && (jR f j m && DY f j m)) && !((rG f m ps s j).bl.any (Ni (f,D5 f j m)))⟩else rG f m ps s j:=rfl;have hj2:j<f.jobs.length:=by omega
  have hj3:j<ps.length:=by omega
  have anh:(j:Int)<ps.length:=by omega
  obtain⟨x,hx,hx'⟩:=gx hj2;have Rl:fP f j=x:=by simp [fP,List.getD,hx]
  obtain⟨p,hp,hp'⟩:=gx hj3;have hpd:ps.getD j 0=p:=by simp [List.getD,hp]
  have hCn:CnP (f,(j:Int),(m:Int),false):=⟨⟨hK,by simp only; omega,by simp only; omega⟩⟩
  rw [Rl,hpd]at hE;generalize hEj:rG f m ps s (j+1)=E1 at *;generalize rG f m ps s j=E0 at *;obtain⟨bl,sm,mD,ok⟩:=E0;obtain⟨xa,xc,xd,xv,xw⟩:=x;simp only at hE hel;cases hbt:wP s j
  ·rw [hbt]at hb hE;have hE:E1=⟨bl,sm,mD,ok⟩:=hE;have hb:r8 .and .i64 (tB .i64 (s:Int) (j:Int)) 1=0:=hb;simp -dsimp [hji,Nn,Nl];repeat' (first|omega|simp -dsimp [aco,hji,hb,wj]|apply aI|apply nI|intro)
   refine⟨⟨j+1,c⟩,?_,?_,by simp only; omega,by simp only; omega⟩
   ·refine ag rfl ?_;simp [aj,aT,hEj,hE]
   ·rw [hEj,hE]; (try simp -dsimp only [hpx]); refine ai ?_; simp -dsimp [aC,Nn,Nl]<;>exact rz
  ·rw [hbt]at hb hE;have hb:r8 .and .i64 (tB .i64 (s:Int) (j:Int)) 1=1:=hb;generalize hB:D5 f j m=B at *;obtain⟨b1,b2,b3,b4⟩:=B;have hnd:=Bs (f,⟨b1,b2,b3,b4⟩) bl;simp -dsimp only [O6,XP,Bk.row]at hnd;have hnp:R7 ((f,⟨b1,b2,b3,b4⟩),bl):=⟨by simp only; omega,trivial⟩
   have Aj:(bl.length+1) * 32<=140737488355328:=(by omega);cases ok<;>cases hc1:(jR f j m && DY f j m)<;>cases ha:bl.any (Ni (f,⟨b1,b2,b3,b4⟩))
   all_goals
    simp only [hc1,ha,if_true,Bool.and_true,Bool.and_false,Bool.true_and,Bool.false_and,Bool.not_true,Bool.not_false]at hE;simp -dsimp [hji,Nn,Nl];repeat' (first|omega|simp -dsimp [aco,hji,hb,hB,hc1,ha,hx,hx',hp,hp',hj2,hj3,anh,Bk.row,Jb.row,ri,Em,hCn,hnd,hnp,O6,XP,Aj,wj]|apply aI|apply nI|intro)
    all_goals
     refine⟨⟨j+1,c+1⟩,?_,?_,by simp only; omega,by simp only; omega⟩
     ·refine ag rfl ?_;simp [aj,aT,hEj,hE]
     ·rw [hEj,hE]; (try simp -dsimp only [hpx]); refine ai ?_; simp -dsimp [aC,Nn,Nl,Bk.row]<;>exact rz
 have hjn:¬ (j:Int)<J:=by omega
 have AD:j=J:=by omega
 subst AD;rw [hJ]at hM;generalize hM1:KV f m ps (s+1)=M1 at *;generalize KV f m ps s=M0 at *;generalize rG f m ps s j=E0 at *;obtain⟨bl,sm,mD,ok⟩:=E0;simp only at hM;cases ok
 ·have hM:M1=M0:=by rw [hM]; simp
  simp -dsimp [hjn,Nn,Nl];repeat' (first|omega|simp -dsimp [aco,hjn,ws]|apply aI|apply nI|intro)
  refine⟨⟨s+1,c⟩,?_,?_,by simp only; omega,by simp only; omega⟩
  ·refine cq (aN rfl (br rfl (aN rfl bO))) ?_;simp [aj,aT,hM1,hM]
  ·(try simp -dsimp only [hpx]); refine ai ?_; simp -dsimp [aC,Nn,Nl]<;>exact rz
 have hM:M1=if mD<=max (Ai f m) 0 then max M0 sm else M0:=by rw [hM]; by_cases h:mD<=max (Ai f m) 0<;>simp [h]
 generalize Ai f m=Y at *;have wZ:max Y 0=if Y<0 then 0 else Y:=by split<;>omega
 have OT:max M0 sm=if M0<sm then sm else M0:=by split<;>omega
 rw [wZ,OT]at hM;rcases Classical.propComplete (mD<=if Y<0 then 0 else Y)with hx|hx
 all_goals
  simp only [hx,if_true,if_false]at hM;simp -dsimp [hjn,Nn,Nl];repeat' (first|omega|simp -dsimp [aco,hjn,ws,hLL,hV,hmL,R9,XZ,C5,ri,hx]|apply aI|apply nI|intro)
  refine⟨⟨s+1,c⟩,?_,?_,by simp only; omega,by simp only; omega⟩
  ·refine cq (aN rfl (br rfl (aN rfl bO))) ?_;simp [aj,aT,hM1,hM]
  ·(try simp -dsimp only [hpx]); refine ai ?_; simp -dsimp [aC,Nn,Nl]<;>exact rz
theorem ahG:FO 115 erS:=pf amy (.cons abS (.cons akN .nil))
def boP (ps:List Int):Nat->Int
 | 0=>0
 | j+1=>wr (boP ps j+ps.getD j 0)
def boM (f:Fl) (ps:List Int):Nat->Int
 | 0=>boP ps ps.length
 | m+1=>wr (boM f ps m+KV f m ps (2 ^ f.jobs.length))
noncomputable abbrev Ig:aB:=bS fqE (fun d=>PrP d.1 d.2) fun d=>.int .i64 (boM d.1 d.2 d.1.dU.length)
noncomputable abbrev GO:=EV [(115,.pure erS)] [] 5200 35
theorem b52:af GO [] Tryz.f52 Ig:=pb <| by
 rintro⟨f,ps⟩ ⟨hK,hn,ha⟩;simp only at hK hn ha;have hf:=hK.ok;have hj6:=hf.jobs;obtain⟨N,hN⟩:∃N,f.dU.length=N:=⟨_,rfl⟩
 have OT:f.eH.ax=(N:Int):=by have:=hf.dU; omega
 have hm8:=hf.JJ;simp -dsimp [Tryz.f52,GO];repeat' (first|omega|simp -dsimp [GO,hn]|apply aI|apply nI|intro)
 refine ay [11,12,13,6,14,15,16,4,17,10] (fun k:{k:Nat // k<=ps.length}=>[(10,(true,.int .i64 k.1)),(4,(true,.int .i64 (boP ps k.1)))]) (fun _=>_) (fun k=>ps.length - k.1) ⟨0,by omega⟩ ?_ (bA.refl _) ?_
 ·simp [aj,aT,boP]
 rintro⟨k,hk⟩;dsimp only;by_cases aH:k<ps.length
 ·have hki:(k:Int)<ps.length:=by omega
  have wk:=wx k;obtain⟨p,hp,hp'⟩:=gx aH;have hB:boP ps (k+1)=wr (boP ps k+p):=by simp [boP,List.getD,hp]
  simp -dsimp [hki];repeat' (first|omega|simp -dsimp [GO,hki,aH,wk,hp,hp',ri]|apply aI|apply nI|intro)
  refine⟨k+1,ag rfl ?_,bA.refl _,by omega,by omega⟩;simp [aj,aT,hB]
 have hkn:¬ (k:Int)<ps.length:=by omega
 have hke:k=ps.length:=by omega
 subst hke;have hB0:boM f ps 0=boP ps ps.length:=rfl;simp -dsimp [hkn];repeat' (first|omega|simp -dsimp [GO,hkn]|apply aI|apply nI|intro)
 refine ay [25,26,7,27,28,29,30,31,32,4,33,24] (fun m:{m:Nat // m<=N}=>[(24,(true,.int .i64 m.1)),(4,(true,.int .i64 (boM f ps m.1)))]) (fun _=>_) (fun m=>N - m.1) ⟨0,by omega⟩ ?_ (bA.refl _) ?_
 ·simp [aj,aT,hB0]
 rintro⟨m,hm⟩;dsimp only;by_cases jW:m<N
 ·have oh:(m:Int)<N:=by omega
  have wm:=wx m;have hE:ErP (f,(m:Int),ps):=⟨hK,⟨by simp only; omega,by simp only; omega⟩,hn⟩
  have hB:boM f ps (m+1)=wr (boM f ps m+KV f m ps (2 ^ f.jobs.length)):=rfl;generalize hX:KV f m ps (2 ^ f.jobs.length)=X at *;have hX':KV f (m:Int).toNat ps (2 ^ f.jobs.length)=X:=by rw [Int.toNat_natCast]; exact hX
  simp -dsimp [oh];repeat' (first|omega|simp -dsimp [GO,oh,OT,wm,hE,hX',hX,XX]|apply aI|apply nI|intro)
  refine⟨m+1,ag rfl ?_,bA.refl _,by omega,by omega⟩;simp [aj,aT,hB]
 have hmn:¬ (m:Int)<N:=by omega
 have hme:m=N:=by omega
 subst hme;simp -dsimp [hmn];repeat' (first|omega|simp -dsimp [GO,hmn,hN]|apply aI|apply nI|intro)
theorem afk:FO 52 Ig:=pf b52 (.cons ahG .nil)
end Go.Sx
end
section
namespace Go.Sx
open Go.Proofs
attribute [local simp] ri aa ints
attribute [local irreducible] bA
@[simp] def Sa (d:Fl × List Int):List V:=[.agg d.1.row,.sl 1 (d.2.map ri)]
theorem Sb (a b:Fl × List Int) (h:Sa a=Sa b):a=b:=by obtain⟨a1,a2⟩:=a; obtain⟨b1,b2⟩:=b;simp only [Sa,List.cons.injEq,V.sl.injEq,V.agg.injEq,true_and,and_true]at h;rw [Fl.aq _ _ h.1,ee h.2]
theorem Sc (f:Fl) (l:List Int):aY Sa [.agg f.row,.sl 1 (l.map ri)]=(f,l):=aA Sb (f,l)
noncomputable abbrev ac1:aB:=bS Sa (fun d=>PrP d.1 d.2) fun d=>.dB [.int .i64 (boM d.1 d.2 d.1.dU.length),.int .i64 0]
noncomputable abbrev E21:=EV [(37,.pure nfS),(51,.pure acZ),(52,.pure Ig)] [] 2100 26 [(1,[2,50002])]
theorem b21:af E21 [] Tryz.f21 ac1:=pb <| by rintro⟨f,ps⟩ hP;have hK:=hP.ok;simp only at hP hK;simp -dsimp [Tryz.f21,E21];repeat' (first|omega|simp -dsimp [E21,fC,XV,hK,hP]|apply aI|apply nI|intro)
theorem aph:FO 21 ac1:=pf b21 (.cons anj (.cons aiy (.cons afk .nil)))
def Nq:Fl:={met:={n:=3,any:=⟨⟨0,0⟩,⟨9000,9000⟩,⟨3000,3000⟩,false,false⟩,w:=0,s:=0,c:=0,fs:=[],ss:=[]},mn:=⟨0,0,0,false,false⟩,Ah:=[⟨0,1,5⟩,⟨1,2,4⟩],eH:={kinds:=[⟨1000,1000,0⟩],parts:=[],ax:=2,az:=[]},ko:=[],gv:={bM:=[⟨1,2,0⟩,⟨1,2,0⟩,⟨1,1,0⟩,⟨1,1,0⟩],lY:=60,fN:=0,win:=100,tot:=100,iW:=100},wF:=[],dU:=[0,1],lz:=[0,0],turn:=2,hour:=10,rU:=1,gF:=60,jobs:=[⟨0,1,10,5,false⟩,⟨1,2,12,4,false⟩,⟨0,2,30,7,false⟩]}
theorem ac2:Nr Nq=0:=by decide +kernel
theorem abn:Cw Nq:=⟨tC.1 ac2,by decide,by decide⟩
theorem X4:jR Nq 2 1=true:=by decide +kernel
theorem ac3:DY Nq 2 1=true:=by decide +kernel
theorem ac4:jJ Nq 2 1=⟨23,39,45,18⟩:=by decide +kernel
theorem ac5:boM Nq [0,0,0] 2=24:=by decide +kernel
noncomputable abbrev ac6:aB:=bS (D:=Unit) (fun _=>[]) (fun _=>True) fun _=>.agg Nq.row
noncomputable abbrev E34:=EV [] [] 3400 26
theorem b34:af E34 [] Tryz.f34 ac6:=pb <| by rintro _ _;simp -dsimp [Tryz.f34,E34,Nq,Fl.row,Met.row,Wt.row,eN.row,aZ.row,Kd.row,Ro.row,bp,Pn.row,Jb.row];repeat' (first|omega|simp -dsimp [E34,Nq,Fl.row,Met.row,Wt.row,eN.row,aZ.row,Kd.row,Ro.row,bp,Pn.row,Jb.row]|apply aI|apply nI|intro)
theorem ajj:FO 34 ac6:=pf b34 .nil
noncomputable abbrev C0:aB:=bS (D:=Unit) (fun _=>[]) (fun _=>True) fun _=>.bool true
noncomputable abbrev E11:=EV [(34,.pure ac6),(15,.pure MH),(21,.pure ac1)] [] 1100 42
theorem b11:af E11 [] Tryz.f11 C0:=pb <| by
 rintro _ _;have p1:BlP (Nq,2,1):=⟨⟨abn,by decide,by decide⟩,X4,ac3⟩
 have p2:PrP Nq [0,0,0]:=⟨abn,rfl,by decide⟩
 have e1:=ac4;have e2:=ac5;have hb:Nq.dU.length=2:=rfl;have d2:=Sc Nq [0,0,0];simp only [List.map,ri]at d2;have h2:(2:Int).toNat=2:=rfl;have h1:(1:Int).toNat=1:=rfl;simp -dsimp [Tryz.f11,E11];repeat' (first|omega|simp -dsimp [E11,dS,d2,p1,p2,e1,e2,hb,h1,h2]|apply aI|apply nI|intro)
theorem Xd:FO 11 C0:=pf b11 (.cons ajj (.cons aiF (.cons aph .nil)))
def AB (f:Fl) (l:List Sr):Bool:=!R5 f && decide (l.length<=4) && decide ((O7 f l).2=0)
structure RiP (d:Fl × List Sr):Prop where
 p:KD d.1
 l:d.2.length<=100000000000000
noncomputable abbrev XM:aB:=bS yU RiP fun d=>.bool (AB d.1 d.2)
noncomputable abbrev E10:=EV [(18,.pure lgS),(19,.pure X6),(22,.pure cpS)] [] 1000 22 [(1,[2,50002])]
theorem b10:af E10 [] Tryz.f10 XM:=pb <| by
 rintro⟨f,l⟩ ⟨hP,hl⟩;simp only at hP hl;have hR:AB f l=(!R5 f && decide (l.length<=4) && decide ((O7 f l).2=0)):=rfl;cases hL:R5 f
 case true=>
  rw [hL]at hR;have hR:AB f l=false:=by rw [hR]; rfl
  simp -dsimp [Tryz.f10,E10];repeat' (first|omega|simp -dsimp [E10,fC,hP,hL,hR]|apply aI|apply nI|intro)
 by_cases hF:l.length<=4
 case neg=>
  have hR:AB f l=false:=by rw [hR,decide_eq_false hF]; simp
  simp -dsimp [Tryz.f10,E10];repeat' (first|omega|simp -dsimp [E10,fC,mR,hP,hL,hF,hR]|apply aI|apply nI|intro)
 have hk:=C6 hL;have zY:CpP (f,l):=⟨hP,hk,by simp only; omega⟩
 rw [hL,decide_eq_true hF]at hR;by_cases hc:(O7 f l).2=0
 ·have hR:AB f l=true:=by rw [hR,decide_eq_true hc]; rfl
  simp -dsimp [Tryz.f10,E10];repeat' (first|omega|simp -dsimp [E10,fC,mR,gO,hP,hL,hF,zY,hc,hR]|apply aI|apply nI|intro)
 ·have hR:AB f l=false:=by rw [hR,decide_eq_false hc]; rfl
  simp -dsimp [Tryz.f10,E10];repeat' (first|omega|simp -dsimp [E10,fC,mR,gO,hP,hL,hF,zY,hc,hR]|apply aI|apply nI|intro)
theorem aiO:FO 10 XM:=pf b10 (.cons agV (.cons an2 (.cons apQ .nil)))
theorem RZ {f:Fl} {l:List Sr} (h:AB f l=true):R5 f=false/\l.length<=4/\Cw f/\Good f false l:=by unfold AB at h;rw [Bool.and_eq_true,Bool.and_eq_true,decide_eq_true_eq,decide_eq_true_eq,Bool.not_eq_true']at h;obtain⟨⟨h1,h2⟩,h3⟩:=h;obtain⟨hf,hG⟩:=Fe.1 h3;exact⟨h1,h2,C6 h1 hf,hG⟩
end Go.Sx
end
end
