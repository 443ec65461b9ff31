/- A part of a proof; no conditions. -/
import Derived.Test.YtegiclpanpmkdaaGreatDoorR14
set_option linter.all false
set_option maxRecDepth 100000
set_option maxHeartbeats 8000000
noncomputable section
section
namespace Go.Sx
open Go.Proofs
attribute [local simp] ri aa ints
attribute [local irreducible] bA
attribute [local simp] aG
@[simp] theorem arK:aO.G 0=some (.ip 2 [[.int .i64 (-1),.int .i64 (-1)]] 0 0):=rfl
@[simp] theorem arL:aO.G 1=some (.ip 2 [[.int .i64 (-2),.int .i64 (-2)]] 0 0):=rfl
def PS.new(r:aZ)(p:Pt):PS:={kind:=p.kind,hours:=p.hours,bh:=p.bh,known:=p.known,a:=-1,b:=-1,since:=List.replicate r.az.length 0,iV:=List.replicate r.az.length false}
def HG.new(r:aZ):HG:={r:=r,ps:=r.parts.map (PS.new r),aX:=List.replicate r.az.length false,fl:=List.replicate r.ax.toNat (0,0),wk:=0,hi:=List.replicate r.parts.length none,hb:=[],cZ:=true}
structure aZ.Small (r:aZ):Prop where
 kinds:r.kinds.length<=1000
 parts:r.parts.length<=1000
 m0:0<=r.ax
 m1:r.ax<=1000
 az:r.az.length<=1000
abbrev lK:List Nat:=[14101,14105,14144]
def Ff(h:Hp):Prop:=∀k∈hkeys,h k={base:=0,ah:=[]}
noncomputable def Ih:bB where
 go args h:=⟨(args=[.agg (aY Aq args).row]/\(aY Aq args).Small)/\Ff h/\Blank lK h,.bG 14119 0 1 0 0,Ob dh (HG.new (aY Aq args)) (ec lK 1000000 h)⟩
theorem Sd(r:aZ)(h:Hp):Ih.go [.agg r.row] h=⟨r.Small/\Ff h/\Blank lK h,.bG 14119 0 1 0 0,Ob dh (HG.new r) (ec lK 1000000 h)⟩:=by simp only [Ih,Fg,true_and]
theorem KX{args:List V}{h:Hp}(hc:(Ih.go args h).c):∃r:aZ,args=[.agg r.row]/\r.Small/\Ff h/\Blank lK h:=by obtain⟨⟨h1,h2⟩,h3,h4⟩:=hc;exact⟨_,h1,h2,h3,h4⟩
theorem PS.ac7(k:Nat)(p:PS):p.blk k={z:=8,els:=[[.int .i64 p.kind,.int .i64 p.hours,.int .i64 p.bh,.bool p.known,.int .i64 p.a,.int .i64 p.b,.bw 14137 k p.since.length,.bw 14141 k p.iV.length]],ty:=157,cl:=false}:=rfl
theorem Ns(k:Nat):Cg (k+1)=[{z:=1,els:=((List.range k).map fun k=>[.bG 14143 k 1 0 0])++[[.bG 14143 k 1 0 0]],ty:=151,cl:=false}]:=by simp [Cg,List.range_succ]
def oz(r:aZ)(k:Nat):List PS:=(r.parts.take k).map (PS.new r)
noncomputable abbrev C4:=EV [] [44] 14100 50
theorem ang:ct C4 [(1,([2000,2002,2006,2009],[[0,1,2,3,4,5,6,7,8,9,10,11,12,13,14]])),(5,([2004,2005,6,2008,2012],[[0,1,2,3,4,5,6,7,8,9,10,11,12,13,14,15,16,17,18,19,20,21]]))] Tryz.f141 Ih:=by
 intro args h hc;obtain⟨r,rfl,ow,vx,ry⟩:=KX hc;rw [Sd];clear hc;obtain⟨s1,s2,s3,s4,s5⟩:=ow;obtain⟨mn,vy⟩:∃mn:Nat,r.ax=mn:=⟨r.ax.toNat,by omega⟩
 have anl:mn<=1000:=by omega
 have hh:h=hps ([(14119,{base:=0,ah:=[]}),(14145,{base:=0,ah:=[]}),(14143,{base:=0,ah:=[]}),(14137,{base:=0,ah:=[]}),(14141,{base:=0,ah:=[]}),(14110,{base:=0,ah:=[]}),(14113,{base:=0,ah:=[]}),(14117,{base:=0,ah:=[]}),(20315,{base:=0,ah:=[]}),(14101,{base:=(h 14101).base,ah:=[]}),(14105,{base:=(h 14105).base,ah:=[]}),(14144,{base:=(h 14144).base,ah:=[]})]) h:=by
  refine(gJ fun k hk=>?_).symm;have f:=fun k hk=>vx k hk;have b:=fun k hk=>ry k hk;simp only [List.map_cons,List.map_nil,List.mem_cons,List.not_mem_nil,or_false]at hk;rcases hk with rfl|rfl|rfl|rfl|rfl|rfl|rfl|rfl|rfl|rfl|rfl|rfl
  all_goals first
   | exact f _ (by simp)
   | exact b _ (by simp)
 clear vx ry;have v7:Ob dh (HG.new r) (ec lK 1000000 h)=hps (dh (HG.new r)++[(14101,{base:=(h 14101).base+1000000,ah:=[]}),(14105,{base:=(h 14105).base+1000000,ah:=[]}),(14144,{base:=(h 14144).base+1000000,ah:=[]})]) h:=by simp only [Ob,ec,aG,lK,List.map_cons,List.map_nil]
 rw [v7];clear v7;generalize (h 14101).base=b1 at *;generalize (h 14105).base=b5 at *;generalize (h 14144).base=b44 at *;rw [hh];simp only [aG];clear hh;simp -dsimp [Tryz.f141,C4,aZ.row];repeat' first|omega|simp -dsimp [C4,cQ,aZ.row,vy,anl,s1,s2,s5]|apply aI|apply nI|intro
 refine ay [24,25,26,5,27,28,29,30,31,32,33,34,35,36,37,38,39,40,41,42,43,44,45,46,47,48,23] (fun k:Fin (r.parts.length+1)=>[(23,(true,.int .i64 (k.1:Nat)))])
  (fun k=>hps [(14119,{base:=0,ah:=[{z:=9,els:=[[.sl 3 (r.kinds.map Kd.row),.sl 4 (r.parts.map Pt.row),.int .i64 (mn:Nat),.sl 2 (r.az.map Od.row),qO k.1,.bw 14110 0 r.az.length,.bw 14113 0 mn,.int .i64 0,.bw 14117 0 r.parts.length]],ty:=234,cl:=false}]}),
   (14145,{base:=0,ah:=Cg k.1}),(14143,{base:=0,ah:=(oz r k.1).mapIdx PS.blk}),(14137,{base:=0,ah:=(oz r k.1).map wD}),(14141,{base:=0,ah:=(oz r k.1).map sR}),
   (14117,{base:=0,ah:=[{z:=1,els:=List.replicate r.parts.length [.nil],ty:=293}]}),(14113,{base:=0,ah:=[{z:=2,els:=List.replicate mn [.int .i64 0,.int .i64 0],ty:=154}]}),(14110,{base:=0,ah:=[{z:=1,els:=List.replicate r.az.length [.bool false],ty:=4}]}),
   (20315,{base:=0,ah:=[]}),
   (14101,{base:=b1,ah:=[{z:=4,els:=[[.sl 3 (r.kinds.map Kd.row),.sl 4 (r.parts.map Pt.row),.int .i64 (mn:Nat),.sl 2 (r.az.map Od.row)]],ty:=37}]}),(14105,{base:=b5+k.1,ah:=[]}),(14144,{base:=b44+k.1,ah:=[]})] h) (fun k=>r.parts.length - k.1) ⟨0,by omega⟩ ?_ ?_ ?_
 ·simp [aj,aT]
 ·exact(by(try simp -dsimp only [hpx]);refine bK ?_;simp -dsimp [aC,oz,Cg,qO]<;>exact rz)
 rintro⟨k,hk⟩;simp only;by_cases aH:k<r.parts.length
 ·have v0:(k:Int)<r.parts.length:=by omega
  have wk:=wx k;obtain⟨p,hp,hp'⟩:=aM aH;have HJ:(oz r k).length=k:=by simp [oz];omega
  have hT:oz r (k+1)=oz r k++[PS.new r p]:=by simp [oz,List.take_add_one,hp]
  have vP:(oz r (k+1)).mapIdx PS.blk=(oz r k).mapIdx PS.blk++[{z:=8,els:=[[.int .i64 p.kind,.int .i64 p.hours,.int .i64 p.bh,.bool p.known,.int .i64 (-1),.int .i64 (-1),.bw 14137 k r.az.length,.bw 14141 k r.az.length]],ty:=157,cl:=false}]:=by rw [hT,List.mapIdx_concat,HJ];simp [PS.ac7,PS.new]
  have vV:(oz r (k+1)).map wD=(oz r k).map wD++[{z:=1,els:=List.replicate r.az.length [.int .i64 0],ty:=3}]:=by rw [hT];simp [wD,PS.new,ri]
  have vW:(oz r (k+1)).map sR=(oz r k).map sR++[{z:=1,els:=List.replicate r.az.length [.bool false],ty:=4}]:=by rw [hT];simp [sR,PS.new,rb]
  clear hT;generalize oz r k=T at *;have yC:((k:Nat)+1) * 8<=140737488355328:=by omega
  have hB:=Ns k;have hV:qO (k+1)=.bw 14145 0 (k+1):=l8 (by omega);by_cases kW:k=0
  ·subst kW;have z7:T=[]:=List.length_eq_zero_iff.1 HJ;subst z7;have z1:qO 0=.nil:=rfl;have z2:Cg 0=[]:=rfl;have vX:¬ r.parts=[]:=(by rintro e;rw [e]at aH;simp at aH);simp -dsimp [v0,aH,vX];repeat' first|omega|simp -dsimp [C4,cQ,aS,v0,aH,vX,hp,hp',wk,Pt.row,s5,yC,z1,z2]|apply aI|apply nI|intro
   refine⟨⟨0+1,by omega⟩,ag rfl ?_,(by(try simp -dsimp only [hpx]);refine bK ?_;simp -dsimp [aC,vP,vV,vW,hB,hV]<;>exact rz),by simp only;omega⟩;simp [aj,aT];exact wk
  ·have z1:qO k=.bw 14145 0 k:=l8 (by omega);have z2:=nj (n:=k) (by omega);simp -dsimp [v0];repeat' first|omega|simp -dsimp [C4,cQ,aS,v0,aH,hp,hp',wk,Pt.row,s5,yC,z1,z2,HJ]|apply aI|apply nI|intro
   refine⟨⟨k+1,by omega⟩,ag rfl ?_,(by(try simp -dsimp only [hpx]);refine bK ?_;simp -dsimp [aC,vP,vV,vW,hB,hV]<;>exact rz),by simp only;omega⟩;simp [aj,aT]
 ·have v6:¬ (k:Int)<r.parts.length:=by omega
  have v9:k=r.parts.length:=by omega
  subst v9;have z8:oz r r.parts.length=r.parts.map (PS.new r):=by simp [oz]
  simp -dsimp [v6];repeat' first|omega|simp -dsimp [C4,v6]|apply aI|apply nI|intro
  exact(by(try simp -dsimp only [hpx]);refine bK ?_;simp -dsimp [aC,dh,HG.new,HG.row,z8,vy,DX,rb,bn]<;>exact rz)
theorem aiN:dM Tryz.prog 141 (.heap Ih):=yE ang .nil (fun args h hc=>by obtain⟨_,rfl,_⟩:=KX hc;simp)
def oJ.close(fl:List (Int × Int))(to:Int)(t:oJ):oJ:={t with to:=to,hours:=cM (fl.getD t.machine.toNat (0,0)).1 t.hours,bh:=cM (fl.getD t.machine.toNat (0,0)).2 t.bh}
def Fh(fl:List (Int × Int))(to:Int)(l:List oJ):List oJ:=l.set (l.length - 1) ((l.getD (l.length - 1) default).close fl to)
def HG.ET(s:HG)(i:Nat)(to:Int):HG:={s with hb:=s.hb.set i (Fh s.fl to (s.hb.getD i []))}
structure KH (s:HG) (i:Nat) (l:List oJ):Prop where
 at_:s.hb[i]?=some l
 ne:0<l.length
 len:l.length<=1000000
 m0:0<=(l.getD (l.length - 1) default).machine
 m1:(l.getD (l.length - 1) default).machine<s.fl.length
structure aiP where
 i:Nat
 n:Nat
 to:Int
@[simp] def ann(_:HG)(d:aiP):List V:=[.bG 14119 0 1 0 0,.bw 20315 d.i d.n,.int .i64 d.to]
noncomputable abbrev XH:bB:=ES dh hkeys ann (fun s d _=>∃l,KH s d.i l/\d.n=l.length) (fun _ _ _=>.dB []) (fun s d=>s.ET d.i d.to) fun _ _ h=>h
theorem acO(s:HG)(i n:Nat)(to:Int)(h:Hp):XH.go [.bG 14119 0 1 0 0,.bw 20315 i n,.int .i64 to] (Ob dh s h)=⟨∃l,KH s i l/\n=l.length,.dB [],Ob dh (s.ET i to) (Ob dh s h)⟩:=
 lH bW sS (fun s (d d':aiP) h=>by obtain⟨a,b,c⟩:=d;obtain⟨a',b',c'⟩:=d';simp at h;simp [h]) s ⟨i,n,to⟩ h
noncomputable abbrev ayv:=EV [] [] 20500 54
theorem azM:ct ayv [] Tryz.f205 XH:=by
 intro args h hc;obtain⟨s,⟨i,n,to⟩,hh,rfl,⟨l,⟨q1,q2,q3,q4,q5⟩,q6⟩,fV⟩:=dG bW hc;rw [fV];clear fV hc;obtain⟨h0,rfl⟩:∃h0,h=Ob dh s h0:=⟨h,hh⟩
 clear hh;simp only at q1 q6;subst q6;have oy:l.length - 1<l.length:=by omega
 obtain⟨t,ht,ht'⟩:=aM oy;have hg:l.getD (l.length - 1) default=t:=by simp [List.getD,ht]
 rw [hg]at q4 q5;obtain⟨mi,oh⟩:∃mi:Nat,t.machine=mi:=⟨t.machine.toNat,by omega⟩
 have jW:mi<s.fl.length:=by omega
 obtain⟨f,hf,hf'⟩:=aM jW;have z0:s.fl.getD mi (0,0)=f:=by simp [List.getD,hf]
 have EV:s.hb.getD i []=l:=by simp [List.getD,q1]
 have w1:IntKind.wrap .i64 ((l.length:Int) - 1)=(l.length - 1:Nat):=by rw [aK (by omega) (by omega)];omega
 obtain⟨s',f1,f2,f3,f4,f5⟩:∃s':oJ->HG,(∀t,(s' t).hb[i]?=some (l.set (l.length - 1) t))/\(∀t,(s' t).fl=s.fl)/\
   (∀t a b c d e f h,bE (Ob dh (s' t) h) 20315 i {z:=6,els:=(l.map oJ.row).set (l.length - 1) [.int .i64 a,.int .i64 b,.int .i64 c,.int .i64 d,.int .i64 e,.int .i64 f],ty:=339,fz:=false,cl:=true}=Ob dh (s' ⟨a,b,c,d,e,f⟩) h)/\
   s=s' t/\s.ET i to=s' (t.close s.fl to):=by
  refine⟨fun t=>{s with hb:=s.hb.set i (l.set (l.length - 1) t)},fun t=>?_,fun t=>rfl,fun t a b c d e f h=>?_,?_,?_⟩
  ·have:i<s.hb.length:=(List.getElem?_eq_some_iff.1 q1).1;simp [this]
  ·have:=agM (s:={s with hb:=s.hb.set i (l.set (l.length - 1) t)}) (h:=h) (i:=i) (l.set (l.length - 1) ⟨a,b,c,d,e,f⟩);simp only [GP,List.map_set,oJ.row,List.set_set]at this;exact this
  ·simp only [iz ht,iz q1]
  ·simp only [HG.ET,Fh,EV,hg]
 have cZ:t.close s.fl to={t with to:=to,hours:=IntKind.wrap .i64 (f.1 - t.hours),bh:=IntKind.wrap .i64 (f.2 - t.bh)}:=by simp only [oJ.close,cM,oh,Int.toNat_natCast,z0]
 rw [f5,cZ,f4];simp only [f4 ▸ f2 t];clear f4 f5 cZ hg z0 EV ht';simp -dsimp [Tryz.f205,ayv];repeat' first|omega|simp -dsimp [ayv,w1,oy,q2,q3,f1,f2,f3,GP,oJ.row,oh,jW,hf,hf',bn,bU]|apply aI|apply nI|intro
theorem azc:dM Tryz.prog 205 (.heap XH):=yE azM .nil (fun args h hc=>by obtain⟨_,_,_,rfl,_⟩:=dG bW hc;simp)
structure HG.Ok (s:HG):Prop where
 hok:s.Hok
 ps:s.ps.length<=1000
 kinds:s.r.kinds.length<=1000
 az:s.r.az.length<=1000
 places:∀kd∈s.r.kinds,kd.places<=1000
 fit:∀p∈s.ps,s.i.Fit p
 tf:s.hi.length=s.ps.length
 m0:0<=s.r.ax
 m1:s.r.ax<=1000
 aX:s.aX.length=s.r.az.length
 fl:(s.fl.length:Int)=s.r.ax
 hl:∀(i:Nat) (l:List oJ),s.hb[i]?=some l->l.length<=1000000/\s.hb.length<=1000000
 at_:∀(k:Nat) (p:PS),s.ps[k]?=some p->0<=p.a->p.a<s.r.ax/\∃(i:Nat) (l:List oJ),s.hi[k]?=some (some (i,l.length))/\KH s i l
theorem HG.Ok.small{s:HG}(h:s.Ok):s.i.Small:=⟨h.ps,h.kinds,h.places⟩
theorem aW{n:Int}{m:Nat}(hm:m<=1000000)(h:au n 0 (cM m 1)=true):∃k:Nat,n=k/\k<m:=by have hw:cM (m:Int) 1=m - 1:=aK (by omega) (by omega);rw [hw]at h;simp only [au,decide_eq_true_eq]at h;exact⟨n.toNat,by omega,by omega⟩
def HG.iO(s:HG)(n o:Int):Bool:=
 s.i.part n && (s.i.order o && (s.aX.getD o.toNat false && (((s.ps.getD n.toNat default).kind == (s.r.az.getD o.toNat default).kind) && !(s.ps.getD n.toNat default).iV.getD o.toNat false)))
def HG.yK(s:HG)(n o:Int):HG:={s with ps:=s.ps.set n.toNat {s.ps.getD n.toNat default with iV:=(s.ps.getD n.toNat default).iV.set o.toNat true}}
structure N2 where
 a:Int
 b:Int
@[simp] def n2E(_:HG)(d:N2):List V:=[.bG 14119 0 1 0 0,.int .i64 d.a,.int .i64 d.b]
noncomputable abbrev CT:bB:=ES dh hkeys n2E (fun s _ _=>s.Ok) (fun s d _=>.bool (s.iO d.a d.b)) (fun s d=>if s.iO d.a d.b=true then s.yK d.a d.b else s) fun _ _ h=>h
theorem X7(s:HG)(d d':N2)(h:n2E s d=n2E s d'):d=d':=by obtain⟨a,b⟩:=d;obtain⟨a',b'⟩:=d';simp at h;simp [h]
theorem EU(s:HG)(a b:Int)(h:Hp):CT.go [.bG 14119 0 1 0 0,.int .i64 a,.int .i64 b] (Ob dh s h)=⟨s.Ok,.bool (s.iO a b),Ob dh (if s.iO a b=true then s.yK a b else s) (Ob dh s h)⟩:=
 lH bW sS X7 s ⟨a,b⟩ h
noncomputable abbrev vc:=EV [(204,.pure Eb),(206,.pure Ck)] [] 20300 65
theorem an0:ct vc [] Tryz.f203 CT:=by
 intro args h hc;obtain⟨s,⟨n,o⟩,hh,rfl,hok,fV⟩:=dG bW hc;rw [fV];clear fV hc;obtain⟨h0,rfl⟩:∃h0,h=Ob dh s h0:=⟨h,hh⟩
 clear hh;have hk:=hok.hok;cases c1:s.i.part n
 ·have hf:s.iO n o=false:=by simp [HG.iO,c1]
  simp -dsimp [Tryz.f203,vc,-ak,-av];repeat' first|omega|simp -dsimp [vc,-ak,-av,hk,HI.v,bJ,c1,hf,bU]|apply aI|apply nI|intro
 cases c2:s.i.order o
 ·have hf:s.iO n o=false:=by simp [HG.iO,c2]
  simp -dsimp [Tryz.f203,vc,-ak,-av];repeat' first|omega|simp -dsimp [vc,-ak,-av,hk,HI.v,bJ,c1,c2,hf,bU]|apply aI|apply nI|intro
 obtain⟨ni,rfl,v4⟩:=aW (m:=s.ps.length) (by have:=hok.ps;omega) c1;obtain⟨oi,rfl,O3⟩:=aW (m:=s.r.az.length) (by have:=hok.az;omega) c2;obtain⟨p,hp,hp'⟩:=aM v4;obtain⟨od,xS,nk⟩:=aM O3;have va:=hok.fit p (hp' ▸ List.getElem_mem v4);have l1:oi<s.aX.length:=by have:=hok.aX;omega
 have l2:oi<p.iV.length:=by rw [va.iV];exact O3
 obtain⟨b1,ez,iC⟩:=aM l1;obtain⟨b2,kJ,rN⟩:=aM l2;have nJ:=l8 (n:=s.ps.length) (by omega);have nK:=nj (n:=s.ps.length) (by omega);have wZ:=iy hp;have v5:s.iO ni oi=(b1 && ((p.kind == od.kind) && !b2)):=by simp [HG.iO,c1,c2,List.getD,hp,xS,ez,kJ]
 cases b1
 ·have hf:s.iO ni oi=false:=by simp [v5]
  simp -dsimp [Tryz.f203,vc,-ak,-av];repeat' first|omega|simp -dsimp [vc,-ak,-av,hk,HI.v,bJ,c1,c2,hf,bU,v4,O3,l1,l2,ez,iC,rb]|apply aI|apply nI|intro
 by_cases kj:p.kind=od.kind
 case neg=>
  have hf:s.iO ni oi=false:=by simp [v5,kj]
  simp -dsimp [Tryz.f203,vc,-ak,-av];repeat' first|omega|simp -dsimp [vc,-ak,-av,hk,HI.v,bJ,c1,c2,hf,bU,v4,O3,l1,l2,ez,iC,kJ,rN,hp,hp',xS,nk,nJ,nK,PS.blk,PS.row,Od.row,sR,rb,kj]|apply aI|apply nI|intro
 cases b2
 ·have hf:s.iO ni oi=true:=by simp [v5,kj]
  have hw:=fun h=>agJ (s:=s) (h:=h) (j:=oi) hp true;have XF:s.yK ni oi={s with ps:=s.ps.set ni {p with iV:=p.iV.set oi true}}:=by simp [HG.yK,List.getD,hp]
  simp -dsimp [Tryz.f203,vc,-ak,-av];repeat' first|omega|simp -dsimp [vc,-ak,-av,hk,HI.v,bJ,c1,c2,hf,bU,v4,O3,l1,l2,ez,iC,kJ,rN,hp,hp',xS,nk,nJ,nK,PS.blk,PS.row,Od.row,sR,rb,kj,hw,XF]|apply aI|apply nI|intro
 ·have hf:s.iO ni oi=false:=by simp [v5,kj]
  simp -dsimp [Tryz.f203,vc,-ak,-av];repeat' first|omega|simp -dsimp [vc,-ak,-av,hk,HI.v,bJ,c1,c2,hf,bU,v4,O3,l1,l2,ez,iC,kJ,rN,hp,hp',xS,nk,nJ,nK,PS.blk,PS.row,Od.row,sR,rb,kj]|apply aI|apply nI|intro
theorem ajg:dM Tryz.prog 203 (.heap CT):=yE an0 (.cons awL (.cons aya .nil)) (fun args h hc=>by obtain⟨_,_,_,rfl,_⟩:=dG bW hc;simp)
def dX(aX:List Bool)(iI:Int)(l:List Int):Nat->List Int
 | 0=>l
 | i+1=>if aX.getD i false=true then (dX aX iI l i).set i (eZ ((dX aX iI l i).getD i 0) iI)else dX aX iI l i
theorem iP(aX:List Bool)(iI:Int)(l:List Int):∀i,(dX aX iI l i).length=l.length
 | 0=>rfl
 | i+1=>by simp only [dX];split<;>simp [iP aX iI l i]
def kB(aX:List Bool)(m iI lM:Int)(p:PS):PS:=if p.a=m then {p with hours:=eZ p.hours iI,bh:=eZ p.bh lM,since:=dX aX iI p.since aX.length}else p
def HG.iN(s:HG)(m iI lM:Int):Bool:=s.i.machine m && (au iI 0 100 && (au lM 0 100 && decide (iI<=s.i.cE m lM)))
def HG.kE(s:HG)(m iI lM:Int):HG:={s with ps:=s.ps.map (kB s.aX m iI lM),fl:=s.fl.set m.toNat (eZ (s.fl.getD m.toNat (0,0)).1 iI,eZ (s.fl.getD m.toNat (0,0)).2 lM)}
structure N3 where
 a:Int
 b:Int
 c:Int
@[simp] def n3E(_:HG)(d:N3):List V:=[.bG 14119 0 1 0 0,.int .i64 d.a,.int .i64 d.b,.int .i64 d.c]
theorem KE(s:HG)(d d':N3)(h:n3E s d=n3E s d'):d=d':=by obtain⟨a,b,c⟩:=d;obtain⟨a',b',c'⟩:=d';simp at h;simp [h]
noncomputable abbrev fK:bB:=ES dh hkeys n3E (fun s _ _=>s.Ok) (fun s d _=>.bool (s.iN d.a d.b d.c)) (fun s d=>if s.iN d.a d.b d.c=true then s.kE d.a d.b d.c else s) fun _ _ h=>h
theorem acN(s:HG)(a b c:Int)(h:Hp):fK.go [.bG 14119 0 1 0 0,.int .i64 a,.int .i64 b,.int .i64 c] (Ob dh s h)=⟨s.Ok,.bool (s.iN a b c),Ob dh (if s.iN a b c=true then s.kE a b c else s) (Ob dh s h)⟩:=
 lH bW sS KE s ⟨a,b,c⟩ h
theorem tD(x:HI)(m c:Int):aY hmE [.ip 9 [[.sl 3 (x.r.kinds.map Kd.row),.sl 4 (x.r.parts.map Pt.row),.int .i64 x.r.ax,.sl 2 (x.r.az.map Od.row),oK x.ps,.sl 1 (x.aX.map rb),x.v1,x.v2,x.v3]] 0 0,.int .i64 m,.int .i64 c]=(x,m,c):=X8 x m c
def mT(f:PS->PS)(l:List PS)(k:Nat):List PS:=(l.take k).map f++l.drop k
theorem Sf(f:PS->PS)(l:List PS)(k:Nat):(mT f l k).length=l.length:=by simp [mT];omega
theorem Sh(f:PS->PS)(l:List PS){k:Nat}{p:PS}(h:l[k]?=some p):(mT f l k)[k]?=some p:=by
 have hk:=(List.getElem?_eq_some_iff.1 h).1;have:min k l.length=k:=by omega
 simp [mT,List.getElem?_append,this,h]
theorem Si(f:PS->PS)(l:List PS){k:Nat}{p:PS}(h:l[k]?=some p):(mT f l k).set k (f p)=mT f l (k+1):=by
 obtain⟨hk,he⟩:=List.getElem?_eq_some_iff.1 h;have:min k l.length=k:=by omega
 rw [mT,mT,List.drop_eq_getElem_cons hk,he,List.take_add_one,h];simp [List.set_append,this]
noncomputable abbrev adG:=EV [(78,.pure oL),(79,.pure bF),(80,.pure tE)] [] 20100 121
theorem anW:ct adG [] Tryz.f201 fK:=by
 intro args h hc;obtain⟨s,⟨m,iI,lM⟩,hh,rfl,hok,fV⟩:=dG bW hc;rw [fV];clear fV hc;obtain⟨h0,rfl⟩:∃h0,h=Ob dh s h0:=⟨h,hh⟩
 clear hh;have hk:=hok.hok;cases c1:s.i.machine m
 ·have hf:s.iN m iI lM=false:=by simp [HG.iN,c1]
  simp -dsimp [Tryz.f201,adG,-ak,-av];repeat' first|omega|simp -dsimp [adG,-ak,-av,hk,HI.v,bJ,c1,hf,bU]|apply aI|apply nI|intro
 cases c2:au iI 0 100
 ·have hf:s.iN m iI lM=false:=by simp [HG.iN,c1,c2]
  simp -dsimp [Tryz.f201,adG,-ak,-av];repeat' first|omega|simp -dsimp [adG,-ak,-av,hk,HI.v,bJ,c1,c2,hf,bU]|apply aI|apply nI|intro
 cases c3:au lM 0 100
 ·have hf:s.iN m iI lM=false:=by simp [HG.iN,c1,c2,c3]
  simp -dsimp [Tryz.f201,adG,-ak,-av];repeat' first|omega|simp -dsimp [adG,-ak,-av,hk,HI.v,bJ,c1,c2,c3,hf,bU]|apply aI|apply nI|intro
 have ow:=hok.small;have vb:∀p∈s.i.ps,s.i.Fit p:=hok.fit;by_cases c4:iI<=s.i.cE m lM
 case neg=>
  have hf:s.iN m iI lM=false:=by simp [HG.iN,c1,c2,c3,c4]
  have c4':s.i.cE m lM<iI:=by omega
  simp -dsimp [Tryz.f201,adG,-ak,-av];repeat' first|omega|simp -dsimp [adG,-ak,-av,hk,HI.v,bJ,tD,c1,c2,c3,c4',ow,vb,hf,bU]|apply aI|apply nI|intro
 have c4':¬ s.i.cE m lM<iI:=by omega
 have hf:s.iN m iI lM=true:=by simp [HG.iN,c1,c2,c3,c4]
 have za:(s.r.ax:Int)<=1000:=hok.m1;have hfl:=hok.fl;obtain⟨mi,rfl,oh⟩:∃k:Nat,m=k/\k<s.fl.length:=by have:=aW (n:=m) (m:=s.fl.length) (by omega) (by rw [hfl];exact c1);exact this
 have hps:=hok.ps;simp -dsimp [Tryz.f201,adG,-ak,-av];repeat' first|omega|simp -dsimp [adG,-ak,-av,hk,HI.v,bJ,tD,c1,c2,c3,c4',ow,vb,hf]|apply aI|apply nI|intro
 refine ay [40,41,42,10,43,44,45,46,47,48,49,50,51,52,53,54,55,56,57,58,59,60,61,62,63,64,65,66,67,68,69,70,71,72,73,74,75,76,77,11,78,79,80,81,82,83,84,85,86,87,88,89,90,91,92,93,94,95,96,39] (fun k:Fin (s.ps.length+1)=>[(39,(true,.int .i64 (k.1:Nat)))]) (fun k=>Ob dh {s with ps:=mT (kB s.aX mi iI lM) s.ps k.1} h0) (fun k=>s.ps.length - k.1) ⟨0,by omega⟩ ?_ ?_ ?_
 ·simp [aj,aT]
 ·exact bA.of_eq (by simp [mT])
 rintro⟨k,zd⟩;simp only;by_cases aH:k<s.ps.length
 ·have v0:(k:Int)<s.ps.length:=by omega
  have wk:=wx k;obtain⟨p,hp,hp'⟩:=aM aH;have va:=hok.fit p (hp' ▸ List.getElem_mem aH);have HJ:=Sf (kB s.aX mi iI lM) s.ps k;have z3:=Sh (kB s.aX mi iI lM) s.ps hp;have z4:=Si (kB s.aX mi iI lM) s.ps hp;have nJ:=l8 (n:=s.ps.length) (by omega);have nK:=nj (n:=s.ps.length) (by omega);have arM:s.aX.length=p.since.length:=by rw [hok.aX,va.since];rfl
  have aq0:s.aX.length<=1000:=by rw [hok.aX];exact hok.az
  obtain⟨s',f1,f2,f3,f4,f5,f6,f7⟩:∃s':PS->HG,(∀q,(s' q).ps[k]?=some q)/\(∀q,(s' q).ps.length=s.ps.length)/\(∀q,(s' q).aX=s.aX)/\
    (∀q a b c d e f h,bE (Ob dh (s' q) h) 14143 k {z:=8,els:=[[.int .i64 a,.int .i64 b,.int .i64 c,.bool d,.int .i64 e,.int .i64 f,.bw 14137 k q.since.length,.bw 14141 k q.iV.length]],ty:=157,fz:=false,cl:=false}=Ob dh (s' ⟨a,b,c,d,e,f,q.since,q.iV⟩) h)/\
    (∀q j x h,bE (Ob dh (s' q) h) 14137 k {z:=1,els:=(q.since.map ri).set j [.int .i64 x],ty:=3,fz:=false,cl:=true}=Ob dh (s' {q with since:=q.since.set j x}) h)/\
    ({s with ps:=mT (kB s.aX mi iI lM) s.ps k}:HG)=s' p/\({s with ps:=mT (kB s.aX mi iI lM) s.ps (k+1)}:HG)=s' (kB s.aX mi iI lM p):=by
   have vd:k<(mT (kB s.aX mi iI lM) s.ps k).length:=(by omega);refine⟨fun q=>{s with ps:=(mT (kB s.aX mi iI lM) s.ps k).set k q},fun q=>?_,fun q=>?_,fun q=>rfl,fun q a b c d e f h=>?_,fun q j x h=>?_,?_,?_⟩
   ·simp [vd]
   ·simp [HJ]
   ·have:=Ci (s:={s with ps:=(mT (kB s.aX mi iI lM) s.ps k).set k q}) (h:=h) (i:=k) (p:=q) (by simp [vd]) a b c e f d;simp only [List.set_set]at this;exact this
   ·have:=WJ (s:={s with ps:=(mT (kB s.aX mi iI lM) s.ps k).set k q}) (h:=h) (i:=k) (j:=j) (p:=q) (by simp [vd]) x;simp only [List.set_set]at this;exact this
   ·simp only [iz z3]
   ·simp only [z4]
  rw [f6];clear f6 HJ z3 z4;have O8:∀q (h:k<(s' q).ps.length),(s' q).ps[k]=q:=fun q h=>by have:=f1 q;rw [List.getElem?_eq_getElem h]at this;exact Option.some.inj this
  by_cases hm:p.a=mi
  case neg=>
   have hm':((p.a:Int)=(mi:Int))=False:=eq_false hm;have vr:kB s.aX mi iI lM p=p:=(by simp [kB,hm]);rw [vr]at f7;simp -dsimp [v0];repeat' first|omega|simp -dsimp [adG,-ak,-av,v0,aH,hp,hp',wk,nJ,nK,f1,O8,f2,PS.blk,PS.row,hm']|apply aI|apply nI|intro
   refine⟨⟨k+1,by omega⟩,ag rfl ?_,bA.of_eq (by simp only [f7]),by simp only;omega⟩;simp [aj,aT]
  simp -dsimp [v0];repeat' first|omega|simp -dsimp [adG,-ak,-av,v0,aH,hp,hp',wk,nJ,nK,f1,O8,f2,f3,f4,PS.blk,PS.row,hm]|apply aI|apply nI|intro
  refine ay [76,77,11,78,79,80,81,82,83,84,85,86,87,88,89,90,91,92,93,94,95,75] (fun j:Fin (s.aX.length+1)=>[(75,(true,.int .i64 (j.1:Nat)))]) (fun j=>Ob dh (s' {p with hours:=eZ p.hours iI,bh:=eZ p.bh lM,since:=dX s.aX iI p.since j.1}) h0) (fun j=>s.aX.length - j.1) ⟨0,by omega⟩ ?_ ?_ ?_
  ·simp [aj,aT]
  ·exact bA.of_eq (by simp [dX,eZ,hm])
  rintro⟨j,zo⟩;simp only;by_cases vs:j<s.aX.length
  ·have v8:(j:Int)<s.aX.length:=(by omega);have wj:=wx j;obtain⟨b,hb,hb'⟩:=aM vs;have hS:dX s.aX iI p.since (j+1)=if b=true then (dX s.aX iI p.since j).set j (eZ ((dX s.aX iI p.since j).getD j 0) iI)else dX s.aX iI p.since j:=by simp only [dX,List.getD,hb,Option.getD_some]
   have zp:=iP s.aX iI p.since j;generalize dX s.aX iI p.since j=S at *;have z5:j<S.length:=(by omega);obtain⟨x,hx,hx'⟩:=aM z5;have z9:S.getD j 0=x:=(by simp [List.getD,hx]);rw [z9]at hS;cases b
   ·rw [if_neg (by simp)]at hS;simp -dsimp [v8,f3];repeat' first|omega|simp -dsimp [adG,-ak,-av,v8,vs,hb,hb',wj,f1,O8,f2,f3,rb]|apply aI|apply nI|intro
    refine⟨⟨j+1,by omega⟩,ag rfl ?_,bA.of_eq (by simp only [hS]),by simp only;omega⟩;simp [aj,aT]
   ·rw [if_pos rfl]at hS;simp -dsimp [v8,f3];repeat' first|omega|simp -dsimp [adG,-ak,-av,v8,vs,hb,hb',wj,f1,O8,f2,f3,f4,f5,rb,PS.blk,PS.row,wD,z5,hx,hx',ri]|apply aI|apply nI|intro
    refine⟨⟨j+1,by omega⟩,ag rfl ?_,bA.of_eq (by simp only [hS,eZ]),by simp only;omega⟩;simp [aj,aT]
  ·have AD:j=s.aX.length:=(by omega);have z6:¬ (j:Int)<s.aX.length:=(by omega);have vr:kB s.aX mi iI lM p={p with hours:=eZ p.hours iI,bh:=eZ p.bh lM,since:=dX s.aX iI p.since s.aX.length}:=(by simp [kB,hm]);rw [vr]at f7;simp -dsimp [z6,f3];repeat' first|omega|simp -dsimp [adG,z6,f3,wk]|apply aI|apply nI|intro
   refine⟨⟨k+1,by omega⟩,cq (aN rfl (br rfl (aN rfl bO))) ?_,bA.of_eq (by simp only [f7,AD]),by simp only;omega⟩;simp [aj,aT]
 ·have v6:¬ (k:Int)<s.ps.length:=by omega
  have v9:k=s.ps.length:=by omega
  subst v9;obtain⟨f,W6,acM⟩:=aM oh
  obtain⟨s',f1,f3,f6,f7⟩:∃s':Int × Int->HG,(∀q,(s' q).fl=s.fl.set mi q)/\
    (∀q x y h,bE (Ob dh (s' q) h) 14113 0 {z:=2,els:=(s.fl.map bn).set mi [.int .i64 x,.int .i64 y],ty:=154,fz:=false,cl:=true}=Ob dh (s' (x,y)) h)/\
    ({s with ps:=mT (kB s.aX mi iI lM) s.ps s.ps.length}:HG)=s' f/\s.kE mi iI lM=s' (eZ f.1 iI,eZ f.2 lM):=by
   refine⟨fun q=>{s with ps:=mT (kB s.aX mi iI lM) s.ps s.ps.length,fl:=s.fl.set mi q},fun q=>rfl,fun q x y h=>?_,?_,?_⟩
   ·have:=amd (s:={s with ps:=mT (kB s.aX mi iI lM) s.ps s.ps.length,fl:=s.fl.set mi q}) (h:=h) (j:=mi) x y;simp only [List.set_set,List.map_set]at this;exact this
   ·simp only [iz W6]
   ·simp [HG.kE,List.getD,W6,mT]
  rw [f6];have f1':∀q,(s' q).fl[mi]?=some q:=fun q=>by rw [f1];simp [oh]
  simp -dsimp [v6];repeat' first|omega|simp -dsimp [adG,-ak,-av,v6,hf,f1,f1',f3,f7,bn,oh,eZ,bU]|apply aI|apply nI|intro
theorem aja:dM Tryz.prog 201 (.heap fK):=yE anW (.cons alp (.cons aoz (.cons ajP .nil))) (fun args h hc=>by obtain⟨_,_,_,rfl,_⟩:=dG bW hc;simp)
end Go.Sx
end
end
