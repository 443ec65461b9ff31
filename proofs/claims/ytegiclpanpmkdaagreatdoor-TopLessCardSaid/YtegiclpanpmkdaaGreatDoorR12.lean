/- A part of a proof; no conditions. -/
import Derived.Test.YtegiclpanpmkdaaGreatDoorR11
import Derived.Test.YtegiclpanpmkdaaGreatDoorR08
set_option linter.all false
set_option maxRecDepth 100000
set_option maxHeartbeats 8000000
noncomputable section
section
namespace Go.Sx
open Go.Proofs
attribute [local simp] ri aa ints
attribute [local irreducible] bA
noncomputable abbrev E82:=EV [] [] 8200 15
theorem b82:af E82 [] Tryz.f82 rgS:=pb <| by rintro⟨n,lo,hi⟩ _;simp -dsimp [Tryz.f82,E82,bQ];repeat' first|omega|simp -dsimp [E82,bQ]|apply aI|apply nI|intro
theorem aqw:FO 82 rgS:=pf b82 .nil
noncomputable abbrev E81:=EV [(82,.pure rgS)] [] 8100 9
theorem b81:af E81 [] Tryz.f81 plS:=pb <| by rintro⟨n,m⟩ ⟨h1,h2⟩;simp only at h1 h2;have w:=wi (m.n - 1);simp -dsimp [Tryz.f81,E81,w];repeat' first|omega|simp -dsimp [E81,w]|apply aI|apply nI|intro
theorem aqx:FO 81 plS:=pf b81 (.cons aqw .nil)
def Fv(m:Met):V:=.ip 1 [[.fn 81 [.ip 14 [m.row] 0 0]]] 0 0
theorem S9(a b:Met)(h:Fv a=Fv b):a=b:=Met.aq _ _ (by simpa [Fv]using h)
@[simp] def leE(d:Met × eN):List V:=[.agg d.2.row,Fv d.1]
theorem Yw(a b:Met × eN)(h:leE a=leE b):a=b:=by obtain⟨a1,a2⟩:=a;obtain⟨b1,b2⟩:=b;simp only [leE,List.cons.injEq,V.agg.injEq,true_and,and_true]at h;rw [eN.aq _ _ h.1,S9 _ _ h.2]
theorem Ld(m:Met)(x:eN):aY leE [.agg [.int .i64 x.a,.int .i64 x.b,.int .i64 x.t],.ip 1 [[.fn 81 [.ip 14 [m.row] 0 0]]] 0 0]=(m,x):=aA Yw (m,x)
def Ta(m:Met)(x:eN):Bool:=eN.bad m.n x
noncomputable abbrev leS:aB:=bS leE (fun d=>1<=d.1.n/\d.1.n<=8) fun d=>.bool (Ta d.1 d.2)
theorem adF(m:Met)(x:eN):Ta m x=(!bQ x.a 0 (m.n - 1) || !bQ x.b 0 (m.n - 1) || decide (x.a=x.b) || !bQ x.t 1 200):=by unfold Ta eN.bad;simp only [Bool.not_and,ne_eq,decide_not,Bool.not_not]
noncomputable abbrev E84:=EV [(81,.pure plS),(82,.pure rgS)] [] 8400 29
theorem b84:af E84 [] Tryz.f84 leS:=pb <| by
 rintro⟨m,x⟩ ⟨h1,h2⟩;simp only at h1 h2;have e:=adF m x;have hm:1<=m.n/\m.n<=8:=⟨h1,h2⟩
 generalize g1:bQ x.a 0 (m.n - 1)=p1 at e;generalize g2:bQ x.b 0 (m.n - 1)=p2 at e;generalize g3:bQ x.t 1 200=p3 at e;simp -dsimp [Tryz.f84,E84,Fv,eN.row];repeat' first|omega|simp -dsimp [E84,Fv,eN.row,Dc,hm,g1,g2,g3,e]|apply aI|apply nI|intro
theorem aoy:FO 84 leS:=pf b84 (.cons aqx (.cons aqw .nil))
def asm(m:Met):V:=.fn 84 [.ip 1 [[.fn 81 [.ip 14 [m.row] 0 0]]] 0 0]
theorem Tc(a b:Met)(h:asm a=asm b):a=b:=Met.aq _ _ (by simpa [asm]using h)
@[simp] def Bz(d:Met × List eN):List V:=[.sl 3 (d.2.map eN.row),asm d.1]
theorem NB(a b:Met × List eN)(h:Bz a=Bz b):a=b:=by obtain⟨a1,a2⟩:=a;obtain⟨b1,b2⟩:=b;simp only [Bz,List.cons.injEq,V.sl.injEq,true_and,and_true]at h;rw [aR eN.aq h.1,Tc _ _ h.2]
theorem BA(q:Met)(l:List eN):aY Bz [.sl 3 (l.map eN.row),asm q]=(q,l):=aA NB (q,l)
structure Td (d:Met × List eN):Prop where
 l:d.2.length<=1000000
 q:(fun q:Met=>1<=q.n/\q.n<=8) d.1
noncomputable abbrev Iv:aB:=bS Bz Td fun d=>.int .i64 (eB d.2 (Ta d.1))
noncomputable abbrev Iw:aB:=bS Bz Td fun d=>.bool (d.2.any (Ta d.1))
noncomputable abbrev adV:=EV [(84,.pure leS)] [] 14500 19
theorem aod:af adV [] Tryz.f145 Iv:=pb <| by
 rintro⟨q,l⟩ ⟨hl,hq⟩;have hl:l.length<=1000000:=hl;dsimp only at hq;simp -dsimp [Tryz.f145,adV];refine ay [9,10,5,11,12,13,14,15,16,17,4,18,8] (fun k:{k:Nat // k<=l.length/\∀j (h:j<l.length),j<k->Ta q l[j]=false}=>[(8,(true,.int .i64 k.1))]) (fun _=>cg) (fun k=>l.length - k.1) ⟨0,by omega,fun _ _ h=>by omega⟩ ?_ (bA.refl _) ?_
 ·simp [aj,aT]
 rintro⟨k,hk,v6⟩;by_cases aH:k<l.length
 ·have v1:(k:Int)<l.length:=by omega
  have wk:=wx k;obtain⟨x,hx,hx'⟩:=gx aH;cases hw:Ta q x
  ·simp -dsimp [v1];repeat' first|omega|simp -dsimp [adV,v1,aH,hl,hx,hx',hw,wk,hq,asm,Ld,eN.row,Fv]|apply aI|apply nI|intro
   refine⟨k+1,ag rfl ?_,bA.refl _,⟨by omega,fun j h hj=>?_⟩,by omega⟩
   ·simp [aj,aT]
   ·by_cases v8:j=k
    ·subst v8;rw [hx'];exact hw
    ·exact v6 j h (by omega)
  ·have hz:=cW l (Ta q) aH (by rw [hx'];exact hw) v6;simp -dsimp [v1];repeat' first|omega|simp -dsimp [adV,v1,aH,hl,hx,hx',hw,wk,hz,hq,asm,Ld,eN.row,Fv]|apply aI|apply nI|intro
 ·have v5:¬ (k:Int)<l.length:=by omega
  have hz:=bP l (Ta q) (fun j h=>v6 j h (by omega));simp -dsimp [v5];repeat' first|omega|simp -dsimp [adV,v5,hz]|apply aI|apply nI|intro
theorem ajq:FO 145 Iv:=pf aod (.cons aoy .nil)
noncomputable abbrev E83:=EV [(145,.pure Iv)] [] 8300 9
theorem b83:af E83 [] Tryz.f83 Iw:=pb <| by rintro⟨q,l⟩ hP;have hz:=cO l (Ta q);have hd:=BA q l;simp -dsimp only [asm]at hd;simp -dsimp [Tryz.f83,E83,asm];repeat' first|omega|simp -dsimp [E83,hP,hd,hz,asm]|apply aI|apply nI|intro
theorem aox:FO 83 Iw:=pf b83 (.cons ajq .nil)
def gz(r:List Int):dZ:={z:=1,els:=r.map ri,ty:=3}
def NC(b n k:Nat):List (List V):=(List.range k).map fun j=>[.gY 14630 (b+j) n 0 n n]
def u9(b n:Nat):dZ:={z:=1,els:=NC b n n,ty:=43,cl:=false}
theorem Tf(b n k:Nat):NC b n (k+1)=NC b n k++[[.gY 14630 (b+k) n 0 n n]]:=by simp [NC,List.range_succ]
theorem ajd(v:Int)(n:Nat):bR v n n=gz (List.replicate n v):=by simp [bR,gz,jj]
structure SqP (n:Int) (h:Hp):Prop where
 n:1<=n/\n<=8
 b:Blank [8513] h
 f1:(h 14630).fl=false
 f2:(h 8514).fl=false
noncomputable def ND:bB where
 go args h:=match args with
  | [.int .i64 n,.int .i64 v]=>⟨SqP n h,.bw 8514 (hnext h 8514) n.toNat,hps [(14630,{base:=(h 14630).base,ah:=(h 14630).ah++List.replicate n.toNat (gz (List.replicate n.toNat v))}),(8514,{base:=(h 8514).base,ah:=(h 8514).ah++[u9 (hnext h 14630) n.toNat]}),(8513,{base:=(h 8513).base+n.toNat,ah:=[]})] h⟩
  | _=>bad h
theorem Le{args:List V}{h:Hp}(hc:(ND.go args h).c):∃(n:Nat) (v:Int),args=[.int .i64 n,.int .i64 v]/\SqP n h:=by
 unfold ND at hc;simp only at hc;split at hc
 ·rename_i n v;have:=hc.n;obtain⟨k,rfl⟩:=Int.eq_ofNat_of_zero_le (show 0<=n by omega);exact⟨k,v,rfl,hc⟩
 ·exact hc.elim
theorem Th(n v:Int)(h:Hp):ND.go [.int .i64 n,.int .i64 v] h=⟨SqP n h,.bw 8514 (hnext h 8514) n.toNat,hps [(14630,{base:=(h 14630).base,ah:=(h 14630).ah++List.replicate n.toNat (gz (List.replicate n.toNat v))}),(8514,{base:=(h 8514).base,ah:=(h 8514).ah++[u9 (hnext h 14630) n.toNat]}),(8513,{base:=(h 8513).base+n.toNat,ah:=[]})] h⟩:=rfl
theorem adI(v n:Int)(h:Hp):Lf [.sl 1 [[.int .i64 v]],.int .i64 n] h=⟨1<=n/\n<=12,.gY 14630 (hnext h 14630) n.toNat 0 n.toNat n.toNat,bD h 14630 (bR v n.toNat n.toNat)⟩:=rfl
theorem EB{α:Type}(O:List α)(x y:α):(O++[x]).set O.length y=O++[y]:=by rw [List.set_append_right _ _ (Nat.le_refl _),Nat.sub_self];rfl
noncomputable abbrev E85:=EV [(146,.heap adJ)] [13] 8500 17
theorem b85:ct E85 [] Tryz.f85 ND:=by
 intro args h hc;obtain⟨n,v,rfl,⟨hn,hb,f1,f2⟩⟩:=Le hc;rw [Th];have h3:=hb 8513 (by simp);have hH:h=hps [(14630,{base:=(h 14630).base,ah:=(h 14630).ah}),(8514,{base:=(h 8514).base,ah:=(h 8514).ah}),(8513,{base:=(h 8513).base,ah:=[]})] h:=by
  refine(gJ fun q hq=>?_).symm;simp only [List.map_cons,List.map_nil,List.mem_cons,List.not_mem_nil,or_false]at hq;rcases hq with rfl|rfl|rfl
  ·simp only [eU,if_true];rw [<-f1]
  ·simp only [eU,if_true];rw [if_neg (by decide),<-f2]
  ·exact h3
 rw [hH];generalize (h 14630).base=b at *;generalize (h 14630).ah=B at *;generalize (h 8514).base=o at *;generalize (h 8514).ah=O at *;generalize (h 8513).base=c at *;generalize h=h0 at *;clear hH hb h3 f1 f2 hc;simp only [Int.toNat_natCast];have PU:n<=8:=by omega
 have MR:1<=n:=by omega
 have g1:∀x y:Nat,(x+y<x)=False:=fun x y=>eq_false (by omega);simp -dsimp [Tryz.f85,E85];repeat' first|omega|simp -dsimp [E85, *]|apply aI|apply nI|intro
 refine dA [(4,8514,1,43)] rfl (by simp) [7,8,9,10,11,12,13,14,4,15,6] (fun k:{k:Nat // k<=n}=>[(6,(true,.int .i64 k.1)),(4,(true,.bw 8514 (o+O.length) k.1))]) (fun k=>hps [(14630,{base:=b,ah:=B++List.replicate k.1 (gz (List.replicate n v))}),(8514,{base:=o,ah:=O++[{z:=1,els:=NC (b+B.length) n k.1,ty:=43,cl:=decide (k.1=0)}]}),(8513,{base:=c+k.1,ah:=[]})] h0) (fun k=>n - k.1) ⟨0,by omega⟩ ?_ ?_ ?_
 ·simp [aj,aT]
 ·exact(by(try simp -dsimp only [hpx]);refine bK ?_;simp -dsimp [aC,NC]<;>exact rz)
 rintro⟨k,hk⟩;dsimp only;by_cases aH:k<n
 ·have v1:(k:Int)<n:=by omega
  have wk:=wx k;have v9:(1:Int)<=n/\(n:Int)<=12:=by omega
  have jU:(NC (b+B.length) n k).length=k:=by simp [NC]
  have hr:B++List.replicate (k+1) (gz (List.replicate n v))=B++(List.replicate k (gz (List.replicate n v))++[gz (List.replicate n v)]):=by rw [List.replicate_succ']
  simp -dsimp [v1];repeat' first|omega|simp -dsimp [E85,v1,adI,v9,ajd,g1,EB,jU,wk]|apply aI|apply nI|intro
  refine⟨k+1,ag rfl ?_,⟨by omega,?_⟩,by omega⟩
  ·simp [aj,aT]
  ·rw [hr,Tf];exact(by(try simp -dsimp only [hpx]);refine bK ?_;simp -dsimp [aC,Nat.add_assoc]<;>exact rz)
 ·have v5:¬ (k:Int)<n:=by omega
  have va:k=n:=by omega
  subst va;have hd:decide (k=0)=false:=decide_eq_false (by omega);simp -dsimp [v5];repeat' first|omega|simp -dsimp [E85,v5]|apply aI|apply nI|intro
  simp -dsimp only [aG,List.cons_append,List.nil_append];exact(by(try simp -dsimp only [hpx]);refine bK ?_;simp -dsimp [aC,u9,hd]<;>exact rz)
theorem aiT:dM Tryz.prog 85 (.heap ND):=yE b85 (.cons abr .nil) (fun args h hc=>by obtain⟨n,v,rfl,_⟩:=Le hc;simp)
def eF(R:T2):Site:={base:=0,ah:=R.map gz}
def kF(n:Nat):Site:={base:=0,ah:=[u9 0 n,u9 n n]}
theorem Yx(a b:List Int)(h:gz a=gz b):a=b:=by simp only [gz,dZ.mk.injEq,and_true,true_and]at h;exact ee h
theorem Yy{a b:T2}(h:eF a=eF b):a=b:=by simp only [eF,Site.mk.injEq,and_true,true_and]at h;exact(List.map_inj_right (f:=gz) Yx).1 h
open Classical in
noncomputable def AG(S:Site):T2:=if x:∃R,S=eF R then x.choose else default
theorem Lg(R:T2):AG (eF R)=R:=by
 have x:∃R',eF R=eF R':=⟨R,rfl⟩
 unfold AG;rw [dif_pos x];exact(Yy x.choose_spec).symm
structure ShP (s o n:Nat) (a b:Int) (h:Hp):Prop where
 o:s=8514/\(o=0\/o=1)
 a:(0<=a/\a<n)/\0<=b/\b<n
 u:h 8514=kF n
 r:h 14630=eF (AG (h 14630))
 l:(AG (h 14630)).length=2 * n
 q:∀r∈AG (h 14630),r.length=n
noncomputable def NF:bB where
 go args h:=match args with
  | [.bw s o n,.int .i64 a,.int .i64 b,.int .i64 x]=>⟨ShP s o n a b h,.dB [],hps [(14630,eF (sh (AG (h 14630)) (o * n+a.toNat) b.toNat x))] h⟩
  | _=>bad h
theorem Dd(s o n:Nat)(a b x:Int)(h:Hp):NF.go [.bw s o n,.int .i64 a,.int .i64 b,.int .i64 x] h=⟨ShP s o n a b h,.dB [],hps [(14630,eF (sh (AG (h 14630)) (o * n+a.toNat) b.toNat x))] h⟩:=rfl
theorem Lh{args:List V}{h:Hp}(hc:(NF.go args h).c):∃(o n a b:Nat) (x:Int),args=[.bw 8514 o n,.int .i64 a,.int .i64 b,.int .i64 x]/\ShP 8514 o n a b h:=by
 unfold NF at hc;simp only at hc;split at hc
 ·rename_i s o n a b x;obtain⟨rfl,_⟩:=hc.o;obtain⟨⟨h1,_⟩,h2,_⟩:=hc.a;obtain⟨a,rfl⟩:=Int.eq_ofNat_of_zero_le h1;obtain⟨b,rfl⟩:=Int.eq_ofNat_of_zero_le h2;exact⟨o,n,a,b,x,rfl,hc⟩
 ·exact hc.elim
theorem tK(b n:Nat){a:Nat}(h:a<n):(NC b n n)[a]?=some [.gY 14630 (b+a) n 0 n n]:=by simp [NC,h]
theorem tL(b n k:Nat):(NC b n k).length=k:=by simp [NC]
theorem CH{R:T2}{i b:Nat}{r:List Int}(hr:R[i]?=some r)(x:Int):(R.map gz).set i (gz (r.set b x))=(s2 R i b x).map gz:=by rw [s2,List.map_set];simp [List.getD,hr]
noncomputable abbrev E86:=EV [] [] 8600 34
theorem b86:ct E86 [] Tryz.f86 NF:=by
 intro args h hc;obtain⟨o,n,a,b,x,rfl,⟨⟨_,ho⟩,⟨ha,hb⟩,hu,hr,hl,hq⟩⟩:=Lh hc;rw [Dd];generalize AG (h 14630)=R at *;have hH:h=hps [(14630,eF R),(8514,kF n)] h:=by
  refine(gJ fun q hq=>?_).symm;simp only [List.map_cons,List.map_nil,List.mem_cons,List.not_mem_nil,or_false]at hq;rcases hq with rfl|rfl
  ·exact hr
  ·exact hu
 rw [hH];generalize h=h0 at *;clear hH hu hr hc;simp only [Int.toNat_natCast];have Kn:a<n:=by omega
 have Hw:b<n:=by omega
 have v4:(a:Int)<n:=by omega
 have sN:(b:Int)<n:=by omega
 rcases ho with rfl|rfl
 ·have v0:a<R.length:=by omega
  obtain⟨r,D6⟩:∃r,R[a]?=some r:=⟨_,List.getElem?_eq_getElem v0⟩
  have v2:r.length=n:=hq r (List.mem_of_getElem? D6);have Yz:b<r.length:=by omega
  obtain⟨y,hy⟩:∃y,r[b]?=some y:=⟨_,List.getElem?_eq_getElem Yz⟩
  have hg:g2 R (a) b=y:=by simp [g2,List.getD,D6,hy]
  have ho:=tK 0 n Kn;have jU:=tL 0 n n;have ow:=CH (b:=b) D6 x;have v7:gz (r.set b x)={z:=1,els:=(r.map ri).set b [.int .i64 x],ty:=3}:=by rw [gz,List.map_set];rfl
  rw [v7]at ow;try simp only [Nat.zero_add]at ho
  have Ak:=(List.getElem?_eq_some_iff.1 ho).2;have Iy:=(List.getElem?_eq_some_iff.1 D6).2;have v3:=(List.getElem?_eq_some_iff.1 hy).2;by_cases hc:y<0\/x<y
  ·have hS:sh R (a) b x=s2 R (a) b x:=(by rw [sh,hg,if_pos hc]);rw [show 0 * n+a=a by omega,hS];by_cases h1:y<0
   ·have pI:(y<0)=True:=eq_true h1;simp -dsimp [Tryz.f86,E86,kF,eF];repeat' first|omega|simp -dsimp [E86,kF,eF,u9,gz,ho,Ak,jU,v4,sN,Kn,Hw,v0,D6,Iy,v2,Yz,hy,v3,ri,pI,bU,ow]|apply aI|apply nI|intro
    try simp -dsimp only [aG,List.cons_append,List.nil_append]
    exact(by(try simp -dsimp only [hpx]);refine bK ?_;simp -dsimp [aC,eF]<;>exact rz)
   ·have pI:(y<0)=False:=eq_false h1;have CN:(x<y)=True:=eq_true (by omega);simp -dsimp [Tryz.f86,E86,kF,eF];repeat' first|omega|simp -dsimp [E86,kF,eF,u9,gz,ho,Ak,jU,v4,sN,Kn,Hw,v0,D6,Iy,v2,Yz,hy,v3,ri,pI,CN,bU,ow]|apply aI|apply nI|intro
    try simp -dsimp only [aG,List.cons_append,List.nil_append]
    exact(by(try simp -dsimp only [hpx]);refine bK ?_;simp -dsimp [aC,eF]<;>exact rz)
  ·have hS:sh R (a) b x=R:=(by rw [sh,hg,if_neg hc]);rw [show 0 * n+a=a by omega,hS];have pI:(y<0)=False:=eq_false (by omega);have CN:(x<y)=False:=eq_false (by omega);simp -dsimp [Tryz.f86,E86,kF,eF];repeat' first|omega|simp -dsimp [E86,kF,eF,u9,gz,ho,Ak,jU,v4,sN,Kn,Hw,v0,D6,Iy,v2,Yz,hy,v3,ri,pI,CN,bU]|apply aI|apply nI|intro
   try simp -dsimp only [aG,List.cons_append,List.nil_append]
   exact(by(try simp -dsimp only [hpx]);refine bK ?_;simp -dsimp [aC,eF]<;>exact rz)
 ·have v0:n+a<R.length:=by omega
  obtain⟨r,D6⟩:∃r,R[n+a]?=some r:=⟨_,List.getElem?_eq_getElem v0⟩
  have v2:r.length=n:=hq r (List.mem_of_getElem? D6);have Yz:b<r.length:=by omega
  obtain⟨y,hy⟩:∃y,r[b]?=some y:=⟨_,List.getElem?_eq_getElem Yz⟩
  have hg:g2 R (n+a) b=y:=by simp [g2,List.getD,D6,hy]
  have ho:=tK n n Kn;have jU:=tL n n n;have ow:=CH (b:=b) D6 x;have v7:gz (r.set b x)={z:=1,els:=(r.map ri).set b [.int .i64 x],ty:=3}:=by rw [gz,List.map_set];rfl
  rw [v7]at ow;try simp only [Nat.zero_add]at ho
  have Ak:=(List.getElem?_eq_some_iff.1 ho).2;have Iy:=(List.getElem?_eq_some_iff.1 D6).2;have v3:=(List.getElem?_eq_some_iff.1 hy).2;by_cases hc:y<0\/x<y
  ·have hS:sh R (n+a) b x=s2 R (n+a) b x:=(by rw [sh,hg,if_pos hc]);rw [show 1 * n+a=n+a by omega,hS];by_cases h1:y<0
   ·have pI:(y<0)=True:=eq_true h1;simp -dsimp [Tryz.f86,E86,kF,eF];repeat' first|omega|simp -dsimp [E86,kF,eF,u9,gz,ho,Ak,jU,v4,sN,Kn,Hw,v0,D6,Iy,v2,Yz,hy,v3,ri,pI,bU,ow]|apply aI|apply nI|intro
    try simp -dsimp only [aG,List.cons_append,List.nil_append]
    exact(by(try simp -dsimp only [hpx]);refine bK ?_;simp -dsimp [aC,eF]<;>exact rz)
   ·have pI:(y<0)=False:=eq_false h1;have CN:(x<y)=True:=eq_true (by omega);simp -dsimp [Tryz.f86,E86,kF,eF];repeat' first|omega|simp -dsimp [E86,kF,eF,u9,gz,ho,Ak,jU,v4,sN,Kn,Hw,v0,D6,Iy,v2,Yz,hy,v3,ri,pI,CN,bU,ow]|apply aI|apply nI|intro
    try simp -dsimp only [aG,List.cons_append,List.nil_append]
    exact(by(try simp -dsimp only [hpx]);refine bK ?_;simp -dsimp [aC,eF]<;>exact rz)
  ·have hS:sh R (n+a) b x=R:=(by rw [sh,hg,if_neg hc]);rw [show 1 * n+a=n+a by omega,hS];have pI:(y<0)=False:=eq_false (by omega);have CN:(x<y)=False:=eq_false (by omega);simp -dsimp [Tryz.f86,E86,kF,eF];repeat' first|omega|simp -dsimp [E86,kF,eF,u9,gz,ho,Ak,jU,v4,sN,Kn,Hw,v0,D6,Iy,v2,Yz,hy,v3,ri,pI,CN,bU]|apply aI|apply nI|intro
   try simp -dsimp only [aG,List.cons_append,List.nil_append]
   exact(by(try simp -dsimp only [hpx]);refine bK ?_;simp -dsimp [aC,eF]<;>exact rz)
theorem azU:dM Tryz.prog 86 (.heap NF):=yE b86 .nil (fun args h hc=>by obtain⟨o,n,a,b,x,rfl,_⟩:=Lh hc;simp)
end Go.Sx
end
end
