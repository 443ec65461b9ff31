/- A part of a proof; no conditions. -/
import Derived.Test.YtegiclpanpmkdaaGreatDoorR07
import Derived.Test.YtegiclpanpmkdaaGreatDoorR08
import Derived.Test.YtegiclpanpmkdaaGreatDoorR09
set_option linter.all false
set_option maxRecDepth 100000
set_option maxHeartbeats 8000000
noncomputable section
section
namespace Go.Sx
open Go.Proofs
instance:aO:=⟨fun g=>if g=0 then some (.ip 2 [[.int .i64 (-1),.int .i64 (-1)]] 0 0)else if g=1 then some (.ip 2 [[.int .i64 (-2),.int .i64 (-2)]] 0 0)else none⟩
def au(n lo hi:Int):Bool:=decide (lo<=n/\n<=hi)
abbrev bF:aB:={dom:=Int × Int × Int,enc:=fun d=>[.int .i64 d.1,.int .i64 d.2.1,.int .i64 d.2.2],dec:=fun l=>((l.getD 0 .top).toInt,(l.getD 1 .top).toInt,(l.getD 2 .top).toInt),pre:=fun _=>True,res:=fun d=>.bool (au d.1 d.2.1 d.2.2)}
noncomputable abbrev E79:=EV [] [] 7900 15
theorem b79:af E79 [] Tryz.f79 bF:=pb <| by rintro⟨n,lo,hi⟩ _;simp -dsimp [Tryz.f79,E79,au];repeat' first|omega|simp -dsimp [E79,ri,aa,ints,au]|apply aI|refine oI fun _=>?_|apply nI
theorem aoz:FO 79 bF:=pf b79 .nil
noncomputable abbrev AH:=EV [] [] 16400 15
theorem aoD:af AH [] Tryz.f164 bF:=pb <| by rintro⟨n,lo,hi⟩ _;simp -dsimp [Tryz.f164,AH,au];repeat' first|omega|simp -dsimp [AH,ri,aa,ints,au]|apply aI|refine oI fun _=>?_|apply nI
theorem ajS:FO 164 bF:=pf aoD .nil
def aa(n:Int):V:=.ip 1 [[.int .i64 n]] 0 0
end Go.Sx
end
section
namespace Go.Sx
open Go.Proofs
attribute [local irreducible] bA
@[simp] def spE(f:Sp):List V:=[.agg f.row]
theorem L9(a b:Sp)(h:spE a=spE b):a=b:=Sp.aq _ _ (by simpa using h)
theorem DM(f:Sp):aY spE [.agg [.int .i64 f.lo,.int .i64 f.hi]]=f:=aA L9 f
noncomputable abbrev afv:=EV [] [] 23600 15
theorem ap5:af afv [] Tryz.f236 bF:=pb <| by rintro⟨n,a,b⟩ _;simp -dsimp [Tryz.f236,afv,au];repeat' first|omega|simp -dsimp [afv,ri,aa,ints, *]|apply aI|refine oI fun _=>?_|apply nI
theorem akR:FO 236 bF:=pf ap5 .nil
def wQ(f:Sp):Bool:=!(au f.lo (-1000000) f.hi && decide (f.hi<=1000000))
noncomputable abbrev afF:aB:=bS spE (fun _=>True) fun f=>.bool (!wQ f)
noncomputable abbrev afG:aB:=bS spE (fun _=>True) fun f=>.bool (wQ f)
noncomputable abbrev adC:=EV [(236,.pure bF)] [] 24200 13
theorem anQ:af adC [] Tryz.f242 afF:=pb <| by rintro f _;simp -dsimp [Tryz.f242,adC,Sp.row,wQ];repeat' first|omega|simp -dsimp [adC,ri,aa,ints,Sp.row,wQ]|apply aI|refine oI fun _=>?_|apply nI
theorem ahL:FO 242 afF:=pf anQ (.cons akR .nil)
noncomputable abbrev Iq:=EV [(242,.pure afF)] [] 24100 6
theorem anH:af Iq [] Tryz.f241 afG:=pb <| by rintro f _;simp -dsimp [Tryz.f241,Iq,Sp.row];repeat' first|omega|simp -dsimp [Iq,ri,aa,ints,Sp.row,DM]|apply aI|refine oI fun _=>?_|apply nI
theorem abp:FO 241 afG:=pf anH (.cons ahL .nil)
@[simp] def BX(d:List Sp):List V:=[.sl 2 (d.map Sp.row),.fn 241 []]
theorem Ow(a b:List Sp)(h:BX a=BX b):a=b:=by simp only [BX,List.cons.injEq,V.sl.injEq,true_and,and_true]at h;exact aR Sp.aq h
theorem vE(l:List Sp):aY BX [.sl 2 (l.map Sp.row),.fn 241 []]=l:=aA Ow l
noncomputable abbrev Jo:aB:=bS BX (fun d=>d.length<=1000000) fun d=>.int .i64 (eB d wQ)
noncomputable abbrev Jp:aB:=bS BX (fun d=>d.length<=1000000) fun d=>.bool (d.any wQ)
noncomputable abbrev axK:=EV [(241,.pure afG)] [] 28000 19
theorem aAq:af axK [] Tryz.f280 Jo:=pb <| by
 rintro l hl;have hl:l.length<=1000000:=hl;simp -dsimp [Tryz.f280,axK];refine ay [9,10,5,11,12,13,14,15,16,17,4,18,8] (fun k:{k:Nat // k<=l.length/\∀j (h:j<l.length),j<k->wQ l[j]=false}=>[(8,(true,.int .i64 k.1))]) (fun _=>cg) (fun k=>l.length - k.1) ⟨0,by omega,fun _ _ h=>by omega⟩ ?_ (bA.refl _) ?_
 ·simp [aj,aT]
 rintro⟨k,hk,v0⟩;by_cases aH:k<l.length
 ·have v1:(k:Int)<l.length:=by omega
  have wk:=wx k;cases hw:wQ l[k]
  ·simp -dsimp [v1];repeat' first|omega|simp -dsimp [axK,ri,aa,ints,v1,aH,hl,hw,wk,Sp.row,DM]|apply aI|refine oI fun _=>?_|apply nI
   refine⟨k+1,ag rfl ?_,bA.refl _,⟨by omega,fun j h hj=>?_⟩,by omega⟩
   ·simp [aj,aT]
   ·by_cases v3:j=k
    ·subst v3;exact hw
    ·exact v0 j h (by omega)
  ·have hz:=cW l wQ aH hw v0;simp -dsimp [v1];repeat' first|omega|simp -dsimp [axK,ri,aa,ints,v1,aH,hl,hw,wk,hz,Sp.row,DM]|apply aI|refine oI fun _=>?_|apply nI
 ·have v2:¬ (k:Int)<l.length:=by omega
  have hz:=bP l wQ (fun j h=>v0 j h (by omega));simp -dsimp [v2];repeat' first|omega|simp -dsimp [axK,ri,aa,ints,v2,hz]|apply aI|refine oI fun _=>?_|apply nI
theorem azH:FO 280 Jo:=pf aAq (.cons abp .nil)
noncomputable abbrev ads:=EV [(280,.pure Jo)] [] 24000 9
theorem anI:af ads [] Tryz.f240 Jp:=pb <| by rintro l hl;have hl:l.length<=1000000:=hl;have hz:=cO l wQ;simp -dsimp [Tryz.f240,ads];repeat' first|omega|simp -dsimp [ads,ri,aa,ints,hl,vE,hz]|apply aI|refine oI fun _=>?_|apply nI
theorem ai2:FO 240 Jp:=pf anI (.cons azH .nil)
@[simp] def Ys(d:List Sp):List V:=[.sl 2 (d.map Sp.row)]
theorem xF(a b:List Sp)(h:Ys a=Ys b):a=b:=by simp only [Ys,List.cons.injEq,V.sl.injEq,true_and,and_true]at h;exact aR Sp.aq h
theorem ZB(l:List Sp):aY Ys [.sl 2 (l.map Sp.row)]=l:=aA xF l
noncomputable abbrev SZ:aB:=bS Ys (fun d=>d.length<=1000000) fun d=>.int .i64 (if d.any wQ=true then 10 else 0)
noncomputable abbrev VQ:=EV [(240,.pure Jp)] [] 18300 5
theorem aqp:af VQ [] Tryz.f183 SZ:=pb <| by
 rintro l hl;have hl:l.length<=1000000:=hl;generalize h1:l.any wQ=b;cases b
 ·simp -dsimp [Tryz.f183,VQ];repeat' first|omega|simp -dsimp [VQ,ri,aa,ints,hl,h1,vE]|apply aI|refine oI fun _=>?_|apply nI
 ·simp -dsimp [Tryz.f183,VQ];repeat' first|omega|simp -dsimp [VQ,ri,aa,ints,hl,h1,vE]|apply aI|refine oI fun _=>?_|apply nI
theorem alh:FO 183 SZ:=pf aqp (.cons ai2 .nil)
noncomputable abbrev aeu:aB:=bS Ys (fun d=>d.length<=1000000) fun d=>.int .i64 (if au d.length 1 3=true/\d.any wQ=false then 0 else 10)
end Go.Sx
end
section
namespace Go.Sx
structure cR where
 w:Sp
 s:Sp
 c:Sp
 pE:Bool
 pF:Bool
 deriving DecidableEq,Inhabited
def cR.row(k:cR):List V:=[.int .i64 k.w.lo,.int .i64 k.w.hi,.int .i64 k.s.lo,.int .i64 k.s.hi,.int .i64 k.c.lo,.int .i64 k.c.hi,.bool k.pE,.bool k.pF]
theorem cR.aq(a b:cR)(h:a.row=b.row):a=b:=by obtain⟨⟨a1,a2⟩,⟨a3,a4⟩,⟨a5,a6⟩,a7,a8⟩:=a;obtain⟨⟨b1,b2⟩,⟨b3,b4⟩,⟨b5,b6⟩,b7,b8⟩:=b;simp [cR.row]at h;simp [h]
structure Fc where
 pl:Int
 a:Int
 b:Int
 aX:Int
 k:cR
 deriving DecidableEq,Inhabited
def Fc.row(f:Fc):List V:=[.int .i64 f.pl,.int .i64 f.a,.int .i64 f.b,.int .i64 f.aX,.int .i64 f.k.w.lo,.int .i64 f.k.w.hi,.int .i64 f.k.s.lo,.int .i64 f.k.s.hi,.int .i64 f.k.c.lo,.int .i64 f.k.c.hi,.bool f.k.pE,.bool f.k.pF]
theorem Fc.aq(a b:Fc)(h:a.row=b.row):a=b:=by obtain⟨x1,x2,x3,x4,⟨a1,a2⟩,⟨a3,a4⟩,⟨a5,a6⟩,a7,a8⟩:=a;obtain⟨y1,y2,y3,y4,⟨b1,b2⟩,⟨b3,b4⟩,⟨b5,b6⟩,b7,b8⟩:=b;simp [Fc.row]at h;simp [h]
structure Wt where
 w:Int
 s:Int
 c:Int
 pE:Bool
 pF:Bool
 deriving DecidableEq,Inhabited
def Wt.row(k:Wt):List V:=[.int .i64 k.w,.int .i64 k.s,.int .i64 k.c,.bool k.pE,.bool k.pF]
theorem Wt.aq(a b:Wt)(h:a.row=b.row):a=b:=by cases a;cases b;simp [Wt.row]at h;simp [h]
structure Sg where
 pl:Int
 at':Int
 k:Wt
 deriving DecidableEq,Inhabited
def Sg.row(x:Sg):List V:=[.int .i64 x.pl,.int .i64 x.at',.int .i64 x.k.w,.int .i64 x.k.s,.int .i64 x.k.c,.bool x.k.pE,.bool x.k.pF]
theorem Sg.aq(a b:Sg)(h:a.row=b.row):a=b:=by obtain⟨x1,x2,⟨a1,a2,a3,a4,a5⟩⟩:=a;obtain⟨y1,y2,⟨b1,b2,b3,b4,b5⟩⟩:=b;simp [Sg.row]at h;simp [h]
structure Met where
 n:Int
 any:cR
 w:Int
 s:Int
 c:Int
 fs:List Fc
 ss:List Sg
 deriving DecidableEq,Inhabited
def Met.row(m:Met):List V:=[.int .i64 m.n,.int .i64 m.any.w.lo,.int .i64 m.any.w.hi,.int .i64 m.any.s.lo,.int .i64 m.any.s.hi,.int .i64 m.any.c.lo,.int .i64 m.any.c.hi,.bool m.any.pE,.bool m.any.pF,
 .int .i64 m.w,.int .i64 m.s,.int .i64 m.c,.sl 12 (m.fs.map Fc.row),.sl 7 (m.ss.map Sg.row)]
theorem lP{α:Type}{f:α->List V}(hf:∀a b,f a=f b->a=b):∀{l m:List α},l.map f=m.map f->l=m
 | [],[],_=>rfl
 | [],_::_,h=>by simp at h
 | _::_,[],h=>by simp at h
 | x::a,y::b,h=>by
  simp only [List.map_cons,List.cons.injEq]at h
  rw [hf _ _ h.1,lP hf h.2]
theorem Met.aq(a b:Met)(h:a.row=b.row):a=b:=by obtain⟨x1,⟨⟨a1,a2⟩,⟨a3,a4⟩,⟨a5,a6⟩,a7,a8⟩,x3,x4,x5,x6,x7⟩:=a;obtain⟨y1,⟨⟨b1,b2⟩,⟨b3,b4⟩,⟨b5,b6⟩,b7,b8⟩,y3,y4,y5,y6,y7⟩:=b;simp only [Met.row,List.cons.injEq,V.int.injEq,V.bool.injEq,V.sl.injEq,true_and,and_true]at h;obtain⟨h1,h2,h3,h4,h5,h6,h7,h8,h9,v6,v7,v8,v4,v5⟩:=h;rw [lP Fc.aq v4,lP Sg.aq v5];simp [*]
abbrev Mn:=Wt
def bQ(n a b:Int):Bool:=decide (a<=n/\n<=b)
def inB(p:Sp)(most:Int):Bool:=decide (0<=p.lo/\p.lo<=p.hi/\p.hi<=most)
def cR.ok(k:cR):Bool:=inB k.w 300 && inB k.s 20000 && inB k.c 20000
def Wt.ok(k:Wt):Bool:=bQ k.w 0 300 && bQ k.s 0 20000 && bQ k.c 0 20000
def Fc.bad(n:Int)(f:Fc):Bool:=!(bQ f.pl 0 (n - 1) && decide (0<=f.a/\f.a<f.b/\f.b<=2000) && bQ f.aX 0 2000 && f.k.ok)
def Sg.bad(n:Int)(x:Sg):Bool:=!(bQ x.pl 0 (n - 1) && bQ x.at' 0 2000 && x.k.ok)
def Met.ok(m:Met):Bool:=(bQ m.n 1 8 && m.any.ok && bQ m.w 0 20000 && bQ m.s 0 20000 && bQ m.c 0 20000) && (decide (m.fs.length<=40) && !(m.fs.any (Fc.bad m.n))) && (decide (m.ss.length<=20) && !(m.ss.any (Sg.bad m.n)))
def uH(m:Met):Int:=if m.ok=true then 0 else 40
def uz(m:Met)(l:Mn):Int:=if m.ok=true then (if l.ok=true then 0 else 41)else 40
def jE(p:Sp):Bool:=!decide (-1000000<=p.lo/\p.lo<=p.hi/\p.hi<=1000000)
def eM(a b:Sp):Sp × Bool:=if (jE a || jE b)=true then (b,true)else if min a.hi b.hi<max a.lo b.lo then (b,true)else (⟨max a.lo b.lo,min a.hi b.hi⟩,false)
def pz(k b:cR):cR × Bool:=(⟨(eM k.w b.w).1,(eM k.s b.s).1,(eM k.c b.c).1,k.pE && b.pE,k.pF && b.pF⟩,(eM k.w b.w).2 || (eM k.s b.s).2 || (eM k.c b.c).2)
def Kq(n by' most:Int):Sp:=⟨max 0 (n - by'),min most (n+by')⟩
def sink(key:Nat->Int)(l:List Nat):Nat->List Nat
 | 0=>l
 | j+1=>if key (l.getD (j+1) 0)<key (l.getD j 0)then sink key ((l.set (j+1) (l.getD j 0)).set j (l.getD (j+1) 0)) j else l
def fT(key:Nat->Int)(l:List Nat):List Nat:=l.foldl (fun acc x=>sink key (acc++[x]) acc.length) []
def lD(m:Met)(i:Nat):Fc:=m.fs.getD i default
def lE(m:Met)(i:Nat):Sg:=m.ss.getD i default
def Am(m:Met)(p t:Int)(i:Nat):Bool:=decide ((lD m i).pl=p/\(lD m i).a<=t/\t<(lD m i).b)
def wL(m:Met)(p t:Int)(i:Nat):Bool:=decide ((lE m i).pl=p/\(lE m i).at'<=t)
def lW(m:Met)(p t:Int)(n:Nat):List Nat:=(List.range n).filter (Am m p t)
def seen(m:Met)(p t:Int)(n:Nat):List Nat:=(List.range n).filter (wL m p t)
def je(m:Met)(p t:Int)(n:Nat):List Nat:=fT (fun i=>(lD m i).aX) (lW m p t n)
def jf(m:Met)(p t:Int)(n:Nat):List Nat:=fT (fun i=>(lE m i).at') (seen m p t n)
def fq(m:Met)(l:List Nat):Nat->cR × List Nat
 | 0=>(m.any,[])
 | k+1=>((pz (fq m l k).1 (lD m (l.getD k 0)).k).1,(fq m l k).2++if (pz (fq m l k).1 (lD m (l.getD k 0)).k).2=true then [l.getD k 0]else [])
def EG(m:Met)(t:Int)(k:cR)(x:Sg):cR:=
 ⟨(eM k.w (Kq x.k.w ((t - x.at') * m.w) 300)).1,(eM k.s (Kq x.k.s ((t - x.at') * m.s) 20000)).1,(eM k.c (Kq x.k.c ((t - x.at') * m.c) 20000)).1,if t - x.at'=0 then x.k.pE else k.pE,if t - x.at'=0 then x.k.pF else k.pF⟩
def qR(m:Met)(t:Int)(l:List Nat)(k0:cR):Nat->cR
 | 0=>k0
 | k+1=>EG m t (qR m t l k0 k) (lE m (l.getD k 0))
def Al(m:Met)(p t:Int):cR × List Nat:=fq m (je m p t m.fs.length) (je m p t m.fs.length).length
def ED(m:Met)(p t:Int):cR:=qR m t (jf m p t m.ss.length) (Al m p t).1 (jf m p t m.ss.length).length
def ahO(k:cR)(l:Mn):Bool:=decide (k.w.hi<=l.w) && decide (l.s<=k.s.lo) && decide (l.c<=k.c.lo) && (!k.pE || l.pE) && (!k.pF || l.pF)
def EI(m:Met)(l:Mn)(p t:Int):Bool:=ahO (ED m p t) l
def atB(m:Met)(p t:Int):Bool:=bQ p 0 (m.n - 1) && bQ t 0 2000
def uS(m:Met)(l:Mn)(p t:Int):Int:=if uz m l=0 then (if atB m p t=true then 0 else 1)else uz m l
theorem avy(key:Nat->Int):∀(j:Nat) (l:List Nat),(sink key l j).length=l.length
 | 0,l=>rfl
 | j+1,l=>by
  unfold sink;split
  ·rw [avy key j];simp
  ·rfl
theorem Gq(key:Nat->Int)(r:List Nat):∀(j:Nat) (l:List Nat),j<l.length->sink key (l++r) j=sink key l j++r
 | 0,l,_=>rfl
 | j+1,l,h=>by
  have e1:(l++r).getD (j+1) 0=l.getD (j+1) 0:=by simp [List.getD,List.getElem?_append_left h]
  have e2:(l++r).getD j 0=l.getD j 0:=by simp [List.getD,List.getElem?_append_left (by omega:j<l.length)]
  unfold sink;rw [e1,e2];split
  ·rw [List.set_append_left _ _ h,List.set_append_left _ _ (by simp;omega),Gq key r j _ (by simp;omega)]
  ·rfl
theorem vA(key:Nat->Int)(l:List Nat)(x:Nat):fT key (l++[x])=sink key (fT key l++[x]) (fT key l).length:=by simp [fT,List.foldl_append]
theorem jV(key:Nat->Int)(l:List Nat):(fT key l).length=l.length:=by
 have:∀(l acc:List Nat),(l.foldl (fun acc x=>sink key (acc++[x]) acc.length) acc).length=acc.length+l.length:=by
  intro l
  induction l with
  | nil=>intro acc;rfl
  | cons x l ih=>intro acc;rw [List.foldl_cons,ih,avy];simp;omega
 have:=this l [];simpa [fT]using this
theorem BZ(key:Nat->Int):∀(j:Nat) (l:List Nat),j<l.length->(sink key l j).Perm l
 | 0,l,_=>.refl _
 | j+1,l,h=>by
  unfold sink;split
  ·refine(BZ key j _ (by simp;omega)).trans ?_;have h1:l.getD (j+1) 0=l[j+1]:=(by simp [List.getD,h]);have h2:l.getD j 0=l[j]'(by omega):=(by simp [List.getD,(by omega:j<l.length)]);rw [h1,h2];refine List.perm_iff_count.2 fun a=>?_;rw [List.count_set (by simp;omega),List.count_set (by omega)];have g1:0<l.count l[j+1]:=List.count_pos_iff.2 (List.getElem_mem _);have g2:0<l.count (l[j]'(by omega)):=List.count_pos_iff.2 (List.getElem_mem _);rw [List.getElem_set_ne (by omega)];by_cases e1:l[j+1]=a<;>by_cases e2:(l[j]'(by omega))=a<;>simp [e1,e2]<;>(try rw [e1]at g1)<;>(try rw [e2]at g2)<;>omega
  ·exact .refl _
theorem Ox(key:Nat->Int)(l:List Nat):(fT key l).Perm l:=by
 have:∀(l acc:List Nat),(l.foldl (fun acc x=>sink key (acc++[x]) acc.length) acc).Perm (acc++l):=by
  intro l
  induction l with
  | nil=>intro acc;simp
  | cons x l ih=>
   intro acc;rw [List.foldl_cons];refine(ih _).trans ?_;have:=(BZ key acc.length (acc++[x]) (by simp)).append_right l;simpa using this
 simpa [fT]using this l []
theorem mQ{key:Nat->Int}{l:List Nat}{x:Nat}:x∈fT key l↔x∈l:=(Ox key l).mem_iff
theorem aBd{key:Nat->Int}{l:List Nat}{x:Nat}(h:∀y∈l,key y<=key x):sink key (l++[x]) l.length=l++[x]:=by
 cases hl:l.length with
 | zero=>rfl
 | succ j=>
  have e1:(l++[x]).getD (j+1) 0=x:=by rw [<-hl];simp [List.getD]
  have hj:j<l.length:=by omega
  have e2:(l++[x]).getD j 0=l[j]:=by simp [List.getD,List.getElem?_append_left hj,hj]
  unfold sink;rw [e1,e2,if_neg];have:=h l[j] (List.getElem_mem _);omega
theorem Nz(key:Nat->Int)(l:List Nat){k:Nat}(h:k<l.length):sink key (fT key (l.take k)++l.drop k) k=fT key (l.take (k+1))++l.drop (k+1):=by
 have e:l.drop k=[l[k]]++l.drop (k+1):=by rw [List.drop_eq_getElem_cons h];rfl
 have e2:l.take (k+1)=l.take k++[l[k]]:=by rw [List.take_add_one];simp [h]
 have hlen:(fT key (l.take k)).length=k:=by rw [jV];simp;omega
 rw [e,<-List.append_assoc,Gq _ _ _ _ (by simp [hlen]),e2,vA,hlen]
theorem Bg(m:Met)(p t:Int)(n:Nat):lW m p t (n+1)=lW m p t n++if Am m p t n=true then [n]else []:=by unfold lW;rw [List.range_succ,List.filter_append];congr 1;simp [List.filter_cons]
theorem aAL(m:Met)(p t:Int)(n:Nat):seen m p t (n+1)=seen m p t n++if wL m p t n=true then [n]else []:=by unfold seen;rw [List.range_succ,List.filter_append];congr 1;simp [List.filter_cons]
theorem CJ{m:Met}{p t:Int}{n i:Nat}(h:i∈lW m p t n):i<n/\Am m p t i=true:=by simpa [lW]using h
theorem xo{m:Met}{p t:Int}{n i:Nat}(h:i∈seen m p t n):i<n/\wL m p t i=true:=by simpa [seen]using h
theorem tn(m:Met)(p t:Int)(n:Nat):(lW m p t n).length<=n:=by unfold lW;exact Nat.le_trans (List.length_filter_le _ _) (by simp)
theorem tr(m:Met)(p t:Int)(n:Nat):(seen m p t n).length<=n:=by unfold seen;exact Nat.le_trans (List.length_filter_le _ _) (by simp)
structure eN where
 a:Int
 b:Int
 t:Int
 deriving DecidableEq,Inhabited
def eN.row(x:eN):List V:=[.int .i64 x.a,.int .i64 x.b,.int .i64 x.t]
theorem eN.aq(a b:eN)(h:a.row=b.row):a=b:=by cases a;cases b;simp [eN.row]at h;simp [h]
def eN.bad(n:Int)(x:eN):Bool:=!(bQ x.a 0 (n - 1) && bQ x.b 0 (n - 1) && decide (x.a≠x.b) && bQ x.t 1 200)
def o9(m:Met)(l:List eN):Bool:=decide (l.length<=20) && !(l.any (eN.bad m.n))
def pq(m:Met)(l:List eN):Int:=if m.ok=true then (if o9 m l=true then 0 else 50)else 40
abbrev T2:=List (List Int)
def g2(t:T2)(a b:Nat):Int:=(t.getD a []).getD b 0
def s2(t:T2)(a b:Nat)(x:Int):T2:=t.set a ((t.getD a []).set b x)
def Sq(n:Nat)(t:T2):Prop:=t.length=n/\∀r∈t,r.length=n
theorem Sq.row{n:Nat}{t:T2}(h:Sq n t){a:Nat}(ha:a<n):(t.getD a []).length=n:=by
 have:a<t.length:=by rw [h.1];exact ha
 rw [List.getD_eq_getElem?_getD,List.getElem?_eq_getElem this];exact h.2 _ (List.getElem_mem _)
theorem Sq.s2{n:Nat}{t:T2}(h:Sq n t){a:Nat}(ha:a<n)(b:Nat)(x:Int):Sq n (s2 t a b x):=by
 refine⟨by simp [Sx.s2,h.1],fun r hr=>?_⟩;rcases List.mem_or_eq_of_mem_set hr with hr|rfl
 ·exact h.2 r hr
 ·rw [List.length_set];exact h.row ha
theorem abE{n:Nat}{t:T2}(h:Sq n t){a b:Nat}(ha:a<n)(hb:b<n)(x:Int)(c d:Nat):g2 (s2 t a b x) c d=if c=a/\d=b then x else g2 t c d:=by
 have hl:a<t.length:=by rw [h.1];exact ha
 have hr:=h.row ha;unfold g2 Sx.s2;by_cases hc:c=a
 ·subst hc;have e:(t.set c ((t.getD c []).set b x)).getD c []=(t.getD c []).set b x:=by simp [List.getD,hl]
  rw [e];by_cases hd:d=b
  ·subst hd;simp only [and_self,if_true];rw [List.getD_eq_getElem?_getD,List.getElem?_set_self (by omega)];rfl
  ·rw [if_neg (by simp [hd])];rw [List.getD_eq_getElem?_getD,List.getElem?_set_ne (Ne.symm hd),<-List.getD_eq_getElem?_getD]
 ·rw [if_neg (by simp [hc])];have e:(t.set a ((t.getD a []).set b x)).getD c []=t.getD c []:=by simp [List.getD,List.getElem?_set_ne (Ne.symm hc)]
  rw [e]
def sh(t:T2)(a b:Nat)(x:Int):T2:=if g2 t a b<0\/x<g2 t a b then s2 t a b x else t
theorem Sq.sh{n:Nat}{t:T2}(h:Sq n t){a:Nat}(ha:a<n)(b:Nat)(x:Int):Sq n (sh t a b x):=by
 unfold Sx.sh;split
 ·exact h.s2 ha b x
 ·exact h
theorem VC{n:Nat}{t:T2}(h:Sq n t){a b:Nat}(ha:a<n)(hb:b<n)(x:Int)(c d:Nat):g2 (sh t a b x) c d=if (c=a/\d=b)/\(g2 t a b<0\/x<g2 t a b)then x else g2 t c d:=by
 unfold Sx.sh;by_cases hx:g2 t a b<0\/x<g2 t a b
 ·rw [if_pos hx,abE h ha hb];simp [hx]
 ·rw [if_neg hx,if_neg (fun h=>hx h.2)]
def nX(l:List eN)(k:Nat):eN:=l.getD k default
def nW(n:Nat)(l:List eN):Nat->T2
 | 0=>List.replicate n (List.replicate n (-1))
 | k+1=>sh (sh (nW n l k) (nX l k).a.toNat (nX l k).b.toNat (nX l k).t) (nX l k).b.toNat (nX l k).a.toNat (nX l k).t
def vv(t:T2):Nat->T2
 | 0=>t
 | k+1=>s2 (vv t k) k k 0
def ov(t:T2)(y a:Nat):Nat->T2
 | 0=>t
 | b+1=>if 0<=g2 (ov t y a b) a y/\0<=g2 (ov t y a b) y b then sh (ov t y a b) a b (g2 (ov t y a b) a y+g2 (ov t y a b) y b)else ov t y a b
def oc(t:T2)(n y:Nat):Nat->T2
 | 0=>t
 | a+1=>ov (oc t n y a) y a n
def lU(t:T2)(n:Nat):Nat->T2
 | 0=>t
 | y+1=>oc (lU t n y) n y n
def wJ(n:Nat)(l:List eN):T2:=vv (nW n l l.length) n
def rV(n:Nat)(l:List eN):T2:=lU (wJ n l) n n
structure Gg (n y:Nat) (B:Int) (t:T2):Prop where
 sq:Sq n t
 dg:∀a,a<n->g2 t a a=0
 lo:∀a b,a<n->b<n->-1<=g2 t a b
 hi:∀a b,a<n->b<n->g2 t a b<=2 * B
 ro:∀b,b<n->g2 t y b<=B
 co:∀a,a<n->g2 t a y<=B
theorem Gg.step{n y:Nat}{B:Int}{t:T2}(h:Gg n y B t)(hy:y<n){a b:Nat}(ha:a<n)(hb:b<n):Gg n y B (if 0<=g2 t a y/\0<=g2 t y b then sh t a b (g2 t a y+g2 t y b)else t):=by
 split
 case isFalse=>exact h
 rename_i hc;have e:=VC h.sq ha hb (g2 t a y+g2 t y b);have h1:=h.co a ha;have h2:=h.ro b hb;have hd:=h.dg y hy;refine⟨h.sq.sh ha b _,fun c Hv=>?_,fun c d Hv hd'=>?_,fun c d Hv hd'=>?_,fun d hd'=>?_,fun c Hv=>?_⟩
 ·rw [e];split
  ·rename_i g;obtain⟨⟨rfl,rfl⟩,g⟩:=g;rw [h.dg c Hv]at g;omega
  ·exact h.dg c Hv
 ·rw [e];split
  ·omega
  ·exact h.lo c d Hv hd'
 ·rw [e];split
  ·omega
  ·exact h.hi c d Hv hd'
 ·rw [e];split
  ·rename_i g;obtain⟨⟨rfl,rfl⟩,g⟩:=g;rw [hd]at hc g ⊢;omega
  ·exact h.ro d hd'
 ·rw [e];split
  ·rename_i g;obtain⟨⟨rfl,rfl⟩,g⟩:=g;rw [hd]at hc g ⊢;omega
  ·exact h.co c Hv
theorem Gg.ov{n y:Nat}{B:Int}{t:T2}(h:Gg n y B t)(hy:y<n){a:Nat}(ha:a<n):∀{b:Nat},b<=n->Gg n y B (ov t y a b)
 | 0,_=>h
 | b+1,hb=>(Gg.ov h hy ha (b:=b) (by omega)).step hy ha (by omega)
theorem Gg.oc{n y:Nat}{B:Int}{t:T2}(h:Gg n y B t)(hy:y<n):∀{a:Nat},a<=n->Gg n y B (oc t n y a)
 | 0,_=>h
 | a+1,ha=>(Gg.oc h hy (a:=a) (by omega)).ov hy (by omega) (Nat.le_refl n)
theorem Gg.of{n y:Nat}{B:Int}{t:T2}(sq:Sq n t)(dg:∀a,a<n->g2 t a a=0)(lo:∀a b,a<n->b<n->-1<=g2 t a b)(hi:∀a b,a<n->b<n->g2 t a b<=B)(hB:0<=B)(hy:y<n):Gg n y B t:=
 ⟨sq,dg,lo,fun a b ha hb=>by have:=hi a b ha hb;omega,fun b hb=>hi y b hy hb,fun a ha=>hi a y ha hy⟩
structure Ji (n:Nat) (B:Int) (t:T2):Prop where
 sq:Sq n t
 dg:∀a,a<n->g2 t a a=0
 lo:∀a b,a<n->b<n->-1<=g2 t a b
 hi:∀a b,a<n->b<n->g2 t a b<=B
theorem Ji.stg{n y:Nat}{B:Int}{t:T2}(h:Ji n B t)(hB:0<=B)(hy:y<n):Gg n y B t:=.of h.sq h.dg h.lo h.hi hB hy
theorem Gg.tim{n y:Nat}{B:Int}{t:T2}(h:Gg n y B t):Ji n (2 * B) t:=⟨h.sq,h.dg,h.lo,h.hi⟩
theorem Ji.lU{n:Nat}{t:T2}(h:Ji n 200 t):∀{y:Nat},y<=n->Ji n (200 * 2 ^ y) (lU t n y)
 | 0,_=>by simpa [Sx.lU]using h
 | y+1,hy=>by have ih:=Ji.lU h (y:=y) (by omega);have:=((ih.stg (y:=y) (by have:(0:Int)<2 ^ y:=Int.pow_pos (by decide);omega) (by omega)).oc (by omega) (a:=n) (Nat.le_refl n)).tim;rw [show(200:Int) * 2 ^ (y+1)=2 * (200 * 2 ^ y) by rw [Int.pow_succ];omega];exact this
theorem L4{y:Nat}(h:y<=8):(2:Int) ^ y<=256:=by
 have:(2:Nat) ^ y<=2 ^ 8:=Nat.pow_le_pow_right (by decide) h;have e:((2 ^ y:Nat):Int)=(2:Int) ^ y:=by norm_cast
 omega
theorem Ji.le{n:Nat}{B C:Int}{t:T2}(h:Ji n B t)(v9:B<=C):Ji n C t:=⟨h.sq,h.dg,h.lo,fun a b ha hb=>by have:=h.hi a b ha hb;omega⟩
def vz(n:Nat)(l:List eN):Prop:=∀x∈l,(0<=x.a/\x.a<n)/\(0<=x.b/\x.b<n)/\x.a≠x.b/\1<=x.t/\x.t<=200
theorem uP{m:Met}{l:List eN}(hm:0<=m.n)(h:o9 m l=true):vz m.n.toNat l:=by intro x hx;simp only [o9,Bool.and_eq_true,Bool.not_eq_true',List.any_eq_false]at h;have:=h.2 x hx;simp [eN.bad,bQ]at this;omega
theorem zP{l:List eN}{k:Nat}(h:k<l.length):nX l k∈l:=by simp [nX,List.getD,h]
theorem qv{n:Nat}{l:List eN}(h:vz n l):∀{k:Nat},k<=l.length->Sq n (nW n l k)
 | 0,_=>⟨by simp [nW],fun r hr=>by simp [nW]at hr;simp [hr.2]⟩
 | k+1,hk=>by have hx:=h _ (zP (l:=l) (k:=k) (by omega));exact((qv h (k:=k) (by omega)).sh (by omega) _ _).sh (by omega) _ _
def kK(l:List eN)(a b:Nat):Nat->Int
 | 0=>-1
 | k+1=>if (((nX l k).a=a/\(nX l k).b=b)\/((nX l k).a=b/\(nX l k).b=a))/\(kK l a b k<0\/(nX l k).t<kK l a b k)then (nX l k).t else kK l a b k
theorem DI{n:Nat}{l:List eN}(h:vz n l)(a b:Nat):∀{k:Nat},k<=l.length->-1<=kK l a b k/\kK l a b k<=200
 | 0,_=>by simp [kK]
 | k+1,hk=>by have hx:=h _ (zP (l:=l) (k:=k) (by omega));have ih:=DI h a b (k:=k) (by omega);unfold kK;split<;>omega
theorem tc{n:Nat}{l:List eN}(h:vz n l):∀{k:Nat},k<=l.length->∀a b,a<n->b<n->g2 (nW n l k) a b=kK l a b k
 | 0,_,a,b,ha,hb=>by simp [nW,g2,kK,List.getD,ha,hb]
 | k+1,hk,a,b,ha,hb=>by
  have hx:=h _ (zP (l:=l) (k:=k) (by omega));have ih:=tc h (k:=k) (by omega);have s1:=qv h (k:=k) (by omega);rw [nW,kK];generalize nX l k=x at *;obtain⟨xa,xb,xt⟩:=x;simp only at hx ⊢;obtain⟨a',rfl⟩:=Int.eq_ofNat_of_zero_le hx.1.1;obtain⟨b',rfl⟩:=Int.eq_ofNat_of_zero_le hx.2.1.1;have GQ:a'<n:=by omega
  have hb':b'<n:=by omega
  have va:a'≠b':=by omega
  simp only [Int.toNat_natCast];have q1:=VC s1 GQ hb' xt;rw [VC (s1.sh GQ b' xt) hb' GQ xt a b,q1 b' a',q1 a b,if_neg (by omega:¬ ((b'=a'/\a'=b')/\_)),ih b' a' hb' GQ,ih a' b' GQ hb',ih a b ha hb];by_cases e1:a=a'/\b=b'
  ·obtain⟨rfl,rfl⟩:=e1;rw [if_neg (by omega:¬ ((a=b/\b=a)/\_))];simp
  ·by_cases e2:a=b'/\b=a'
   ·obtain⟨rfl,rfl⟩:=e2;rw [if_neg (by omega:¬ ((a=b/\b=a)/\_))];simp
   ·rw [if_neg (by omega),if_neg (by omega),if_neg (by omega)]
def bn(p:Int × Int):List V:=[.int .i64 p.1,.int .i64 p.2]
theorem FG{a b:List (Int × Int)}(h:a.map bn=b.map bn):a=b:=by
 induction a generalizing b with
 | nil=>cases b with
  | nil=>rfl
  | cons=>simp at h
 | cons x a ih=>
  cases b with
  | nil=>simp at h
  | cons y b=>
   simp only [List.map_cons,List.cons.injEq,bn,V.int.injEq,true_and,and_true]at h;rw [ih h.2,Prod.ext h.1.1 h.1.2]
theorem jk{a b:List Int}(h:ints a=ints b):a=b:=by simp only [ints,V.sl.injEq,true_and]at h;exact ee h
def prs(l:List (Int × Int)):V:=.sl 2 (l.map bn)
end Go.Sx
end
end
