/- A part of a proof; no conditions. -/
import Derived.Test.YtfhdpblkdgmnfaaGreatDoorP14
set_option linter.unusedSimpArgs false
set_option linter.unusedVariables false
set_option linter.unusedSectionVars false
set_option maxRecDepth 100000
set_option maxHeartbeats 8000000
noncomputable section
section
namespace Go.Sx
open Go.Proofs
attribute [local irreducible] HLe
attribute [local simp] hps_app
@[simp] theorem gls0:Gls.G 0=some (.ip 2 [[.int .i64 (-1),.int .i64 (-1)]] 0 0):=rfl
@[simp] theorem gls1:Gls.G 1=some (.ip 2 [[.int .i64 (-2),.int .i64 (-2)]] 0 0):=rfl
def PS.new (r:Reg) (p:Pt):PS:={kind:=p.kind,hours:=p.hours,cycles:=p.cycles,known:=p.known,a:=-1,b:=-1,since:=List.replicate r.orders.length 0,chk:=List.replicate r.orders.length false}
def HG.new (r:Reg):HG:={r:=r,ps:=r.parts.map (PS.new r),iss:=List.replicate r.orders.length false,fl:=List.replicate r.machines.toNat (0,0),wk:=0,hi:=List.replicate r.parts.length none,hb:=[],hcl:=true}
structure Reg.Small (r:Reg):Prop where
 kinds:r.kinds.length≤1000
 parts:r.parts.length≤1000
 m0:0≤r.machines
 m1:r.machines≤1000
 orders:r.orders.length≤1000
abbrev newOwn:List Nat:=[9001,9005,9044]
def Fresh (h:Hp):Prop:=∀k∈hkeys,h k={base:=0,blks:=[]}
def newS:HSpec where
 go args h:=⟨(args=[.agg (decC regE args).row]∧(decC regE args).Small)∧Fresh h∧Blank newOwn h,.bptr 9019 0 1 0 0,Ob hgL (HG.new (decC regE args)) (bmp newOwn 1000000 h)⟩
theorem new_go (r:Reg) (h:Hp):newS.go [.agg r.row] h=⟨r.Small∧Fresh h∧Blank newOwn h,.bptr 9019 0 1 0 0,Ob hgL (HG.new r) (bmp newOwn 1000000 h)⟩:=by
 simp only [newS,regE_dec,true_and]
theorem new_inv {args:List V} {h:Hp} (hc:(newS.go args h).c):∃r:Reg,args=[.agg r.row]∧r.Small∧Fresh h∧Blank newOwn h:=by
 obtain⟨⟨h1,h2⟩,h3,h4⟩:=hc
 exact⟨_,h1,h2,h3,h4⟩
theorem PS.blk_eq (k:Nat) (p:PS):p.blk k={z:=8,els:=[[.int .i64 p.kind,.int .i64 p.hours,.int .i64 p.cycles,.bool p.known,.int .i64 p.a,.int .i64 p.b,.bsl 9037 k p.since.length,.bsl 9041 k p.chk.length]],ty:=177,cl:=false}:=rfl
theorem ptsB_succ (k:Nat):ptsB (k+1)=[{z:=1,els:=((List.range k).map fun k=>[.bptr 9043 k 1 0 0])++[[.bptr 9043 k 1 0 0]],ty:=172,cl:=false}]:=by
 simp [ptsB,List.range_succ]
def newT (r:Reg) (k:Nat):List PS:=(r.parts.take k).map (PS.new r)
abbrev E90:Env:={P:=Tryz.prog,fn:=tbl [],own:=[44],key:=9000,nt:=50}
theorem b90:HeapBody E90 [(1,([2000,2002,2006,2009],[[0,1,2,3,4,5,6,7,8,9,10,11,12,13,14]])),(5,([2004,2005,6,2008,2012],[[0,1,2,3,4,5,6,7,8,9,10,11,12,13,14,15,16,17,18,19,20,21]]))] Tryz.f90 newS:=by
 intro args h hc
 obtain⟨r,rfl,hsm,hfr,hbl⟩:=new_inv hc
 rw [new_go]
 clear hc
 obtain⟨s1,s2,s3,s4,s5⟩:=hsm
 obtain⟨mn,hmn⟩:∃mn:Nat,r.machines=mn:=⟨r.machines.toNat,by omega⟩
 have hmn':mn≤1000:=by omega
 have hh:h=hps ([(9019,{base:=0,blks:=[]}),(9045,{base:=0,blks:=[]}),(9043,{base:=0,blks:=[]}),(9037,{base:=0,blks:=[]}),(9041,{base:=0,blks:=[]}),(9010,{base:=0,blks:=[]}),(9013,{base:=0,blks:=[]}),(9017,{base:=0,blks:=[]}),(15115,{base:=0,blks:=[]}),(9001,{base:=(h 9001).base,blks:=[]}),(9005,{base:=(h 9005).base,blks:=[]}),(9044,{base:=(h 9044).base,blks:=[]})]) h:=by
  refine(hps_self fun k hk=>?_).symm
  have f:=fun k hk=>hfr k hk
  have b:=fun k hk=>hbl k hk
  simp only [List.map_cons,List.map_nil,List.mem_cons,List.not_mem_nil,or_false]at hk
  rcases hk with rfl|rfl|rfl|rfl|rfl|rfl|rfl|rfl|rfl|rfl|rfl|rfl
  all_goals first
   | exact f _ (by simp)
   | exact b _ (by simp)
 clear hfr hbl
 have hpost:Ob hgL (HG.new r) (bmp newOwn 1000000 h)=hps (hgL (HG.new r)++[(9001,{base:=(h 9001).base+1000000,blks:=[]}),(9005,{base:=(h 9005).base+1000000,blks:=[]}),(9044,{base:=(h 9044).base+1000000,blks:=[]})]) h:=by
  simp only [Ob,bmp,hps_app,newOwn,List.map_cons,List.map_nil]
 rw [hpost]
 clear hpost
 generalize (h 9001).base=b1 at *
 generalize (h 9005).base=b5 at *
 generalize (h 9044).base=b44 at *
 rw [hh]
 simp only [hps_app]
 clear hh
 simp -dsimp [Tryz.f90,E90,Reg.row]
 repeat' (first|omega|simp -dsimp [E90,ri,cellp,ints,FoOk,Reg.row,hmn,hmn',s1,s2,s5]|refine aI ?_ fun _=>?_|refine oI fun _=>?_|refine nI ?_ ?_)
 refine awp_loop [24,25,26,5,27,28,29,30,31,32,33,34,35,36,37,38,39,40,41,42,43,44,45,46,47,48,23] (fun k:Fin (r.parts.length+1)=>[(23,(true,.int .i64 (k.1:Nat)))])
  (fun k=>hps [(9019,{base:=0,blks:=[{z:=9,els:=[[.sl 3 (r.kinds.map Kd.row),.sl 4 (r.parts.map Pt.row),.int .i64 (mn:Nat),.sl 2 (r.orders.map Od.row),ptsV k.1,.bsl 9010 0 r.orders.length,.bsl 9013 0 mn,.int .i64 0,.bsl 9017 0 r.parts.length]],ty:=170,cl:=false}]}),
   (9045,{base:=0,blks:=ptsB k.1}),(9043,{base:=0,blks:=(newT r k.1).mapIdx PS.blk}),(9037,{base:=0,blks:=(newT r k.1).map sinB}),(9041,{base:=0,blks:=(newT r k.1).map chkB}),
   (9017,{base:=0,blks:=[{z:=1,els:=List.replicate r.parts.length [.nil],ty:=240}]}),(9013,{base:=0,blks:=[{z:=2,els:=List.replicate mn [.int .i64 0,.int .i64 0],ty:=175}]}),(9010,{base:=0,blks:=[{z:=1,els:=List.replicate r.orders.length [.bool false],ty:=4}]}),
   (15115,{base:=0,blks:=[]}),
   (9001,{base:=b1,blks:=[{z:=4,els:=[[.sl 3 (r.kinds.map Kd.row),.sl 4 (r.parts.map Pt.row),.int .i64 (mn:Nat),.sl 2 (r.orders.map Od.row)]],ty:=37}]}),(9005,{base:=b5+k.1,blks:=[]}),(9044,{base:=b44+k.1,blks:=[]})] h) (fun k=>r.parts.length - k.1) ⟨0,by omega⟩ ?_ ?_ ?_
 ·simp [okAll,okv]
 ·exact(by(try simp -dsimp only [hpx]); refine hle_hpsb ?_; simp -dsimp [allK,newT,ptsB,ptsV]<;>exact rz)
 rintro⟨k,hk⟩
 simp only
 by_cases hk1:k<r.parts.length
 ·have hki:(k:Int)<r.parts.length:=by omega
  have wk:IntKind.wrap .i64 ((k:Int)+1)=(k+1:Nat):=wrap_id (by omega) (by omega)
  obtain⟨p,hp,hp'⟩:=get_ex hk1
  have hTl:(newT r k).length=k:=by simp [newT]; omega
  have hT:newT r (k+1)=newT r k++[PS.new r p]:=by simp [newT,List.take_add_one,hp]
  have hT1:(newT r (k+1)).mapIdx PS.blk=(newT r k).mapIdx PS.blk++[{z:=8,els:=[[.int .i64 p.kind,.int .i64 p.hours,.int .i64 p.cycles,.bool p.known,.int .i64 (-1),.int .i64 (-1),.bsl 9037 k r.orders.length,.bsl 9041 k r.orders.length]],ty:=177,cl:=false}]:=by
   rw [hT,List.mapIdx_concat,hTl]; simp [PS.blk_eq,PS.new]
  have hT2:(newT r (k+1)).map sinB=(newT r k).map sinB++[{z:=1,els:=List.replicate r.orders.length [.int .i64 0],ty:=3}]:=by
   rw [hT]; simp [sinB,PS.new,ri]
  have hT3:(newT r (k+1)).map chkB=(newT r k).map chkB++[{z:=1,els:=List.replicate r.orders.length [.bool false],ty:=4}]:=by
   rw [hT]; simp [chkB,PS.new,rb]
  clear hT
  generalize newT r k=T at *
  have hb8:((k:Nat)+1) * 8≤140737488355328:=by omega
  have hB:=ptsB_succ k
  have hV:ptsV (k+1)=.bsl 9045 0 (k+1):=ptsV_ne (by omega)
  by_cases hk0:k=0
  ·subst hk0
   have hTn:T=[]:=List.length_eq_zero_iff.1 hTl
   subst hTn
   have z1:ptsV 0=.nil:=rfl
   have z2:ptsB 0=[]:=rfl
   have hk2:¬ r.parts=[]:=by rintro e; rw [e]at hk1; simp at hk1
   simp -dsimp [hki,hk1,hk2]
   repeat' (first|omega|simp -dsimp [E90,ri,cellp,ints,FoOk,FreeAt,hki,hk1,hk2,hp,hp',wk,Pt.row,s5,hb8,z1,z2]|refine aI ?_ fun _=>?_|refine oI fun _=>?_|refine nI ?_ ?_)
   refine⟨⟨0+1,by omega⟩,tle_chain rfl ?_,(by(try simp -dsimp only [hpx]); refine hle_hpsb ?_; simp -dsimp [allK,hT1,hT2,hT3,hB,hV]<;>exact rz),by simp only; omega⟩
   simp [okAll,okv]
   exact wk
  ·have z1:ptsV k=.bsl 9045 0 k:=ptsV_ne (by omega)
   have z2:=ptsB_ne (n:=k) (by omega)
   simp -dsimp [hki]
   repeat' (first|omega|simp -dsimp [E90,ri,cellp,ints,FoOk,FreeAt,hki,hk1,hp,hp',wk,Pt.row,s5,hb8,z1,z2,hTl]|refine aI ?_ fun _=>?_|refine oI fun _=>?_|refine nI ?_ ?_)
   refine⟨⟨k+1,by omega⟩,tle_chain rfl ?_,(by(try simp -dsimp only [hpx]); refine hle_hpsb ?_; simp -dsimp [allK,hT1,hT2,hT3,hB,hV]<;>exact rz),by simp only; omega⟩
   simp [okAll,okv]
 ·have hkn:¬ (k:Int)<r.parts.length:=by omega
  have hke:k=r.parts.length:=by omega
  subst hke
  have hTf:newT r r.parts.length=r.parts.map (PS.new r):=by simp [newT]
  simp -dsimp [hkn]
  repeat' (first|omega|simp -dsimp [E90,ri,cellp,ints,hkn]|refine aI ?_ fun _=>?_|refine oI fun _=>?_|refine nI ?_ ?_)
  exact(by(try simp -dsimp only [hpx]); refine hle_hpsb ?_; simp -dsimp [allK,hgL,HG.new,HG.row,hTf,hmn,hiV,rb,cycV]<;>exact rz)
theorem ok90:FnOK Tryz.prog 90 (.heap newS):=pfH b90 .nil (fun args h hc=>by obtain⟨_,rfl,_⟩:=new_inv hc; simp)
end Go.Sx
end
section
namespace Go.Sx
open Go.Proofs
attribute [local irreducible] HLe
attribute [local simp] hps_app
def Stt.close (fl:List (Int × Int)) (to:Int) (t:Stt):Stt:={t with to:=to,hours:=wsub (fl.getD t.machine.toNat (0,0)).1 t.hours,cycles:=wsub (fl.getD t.machine.toNat (0,0)).2 t.cycles}
def endL (fl:List (Int × Int)) (to:Int) (l:List Stt):List Stt:=l.set (l.length - 1) ((l.getD (l.length - 1) default).close fl to)
def HG.endd (s:HG) (i:Nat) (to:Int):HG:={s with hb:=s.hb.set i (endL s.fl to (s.hb.getD i []))}
structure EndOk (s:HG) (i:Nat) (l:List Stt):Prop where
 at_:s.hb[i]?=some l
 ne:0<l.length
 len:l.length≤1000000
 m0:0≤(l.getD (l.length - 1) default).machine
 m1:(l.getD (l.length - 1) default).machine<s.fl.length
structure EndD where
 i:Nat
 n:Nat
 to:Int
@[simp] def endE (_:HG) (d:EndD):List V:=[.bptr 9019 0 1 0 0,.bsl 15115 d.i d.n,.int .i64 d.to]
abbrev endS:HSpec:=obS hgL hkeys endE (fun s d _=>∃l,EndOk s d.i l∧d.n=l.length) (fun _ _ _=>.tup []) (fun s d=>s.endd d.i d.to) fun _ _ h=>h
theorem end_go (s:HG) (i n:Nat) (to:Int) (h:Hp):endS.go [.bptr 9019 0 1 0 0,.bsl 15115 i n,.int .i64 to] (Ob hgL s h)=⟨∃l,EndOk s i l∧n=l.length,.tup [],Ob hgL (s.endd i to) (Ob hgL s h)⟩:=
 obS_go hgL_keys hgL_inj (fun s (d d':EndD) h=>by obtain⟨a,b,c⟩:=d; obtain⟨a',b',c'⟩:=d'; simp at h; simp [h]) s ⟨i,n,to⟩ h
abbrev E153:Env:={P:=Tryz.prog,fn:=tbl [],own:=[],key:=15300,nt:=54}
theorem b153:HeapBody E153 [] Tryz.f153 endS:=by
 intro args h hc
 obtain⟨s,⟨i,n,to⟩,hh,rfl,⟨l,⟨q1,q2,q3,q4,q5⟩,q6⟩,hgo⟩:=obS_inv hgL_keys hc
 rw [hgo]
 clear hgo hc
 obtain⟨h0,rfl⟩:∃h0,h=Ob hgL s h0:=⟨h,hh⟩
 clear hh
 simp only at q1 q6
 subst q6
 have hl1:l.length - 1<l.length:=by omega
 obtain⟨t,ht,ht'⟩:=get_ex hl1
 have hg:l.getD (l.length - 1) default=t:=by simp [List.getD,ht]
 rw [hg]at q4 q5
 obtain⟨mi,hmi⟩:∃mi:Nat,t.machine=mi:=⟨t.machine.toNat,by omega⟩
 have hm1:mi<s.fl.length:=by omega
 obtain⟨f,hf,hf'⟩:=get_ex hm1
 have hgf:s.fl.getD mi (0,0)=f:=by simp [List.getD,hf]
 have hgb:s.hb.getD i []=l:=by simp [List.getD,q1]
 have w1:IntKind.wrap .i64 ((l.length:Int) - 1)=(l.length - 1:Nat):=by rw [wrap_id (by omega) (by omega)]; omega
 obtain⟨s',f1,f2,f3,f4,f5⟩:∃s':Stt→HG,(∀t,(s' t).hb[i]?=some (l.set (l.length - 1) t))∧(∀t,(s' t).fl=s.fl)∧
   (∀t a b c d e f h,hset (Ob hgL (s' t) h) 15115 i {z:=6,els:=(l.map Stt.row).set (l.length - 1) [.int .i64 a,.int .i64 b,.int .i64 c,.int .i64 d,.int .i64 e,.int .i64 f],ty:=303,fz:=false,cl:=true}=Ob hgL (s' ⟨a,b,c,d,e,f⟩) h)∧
   s=s' t∧s.endd i to=s' (t.close s.fl to):=by
  refine⟨fun t=>{s with hb:=s.hb.set i (l.set (l.length - 1) t)},fun t=>?_,fun t=>rfl,fun t a b c d e f h=>?_,?_,?_⟩
  ·have:i<s.hb.length:=(List.getElem?_eq_some_iff.1 q1).1
   simp [this]
  ·have:=w_hb (s:={s with hb:=s.hb.set i (l.set (l.length - 1) t)}) (h:=h) (i:=i) (l.set (l.length - 1) ⟨a,b,c,d,e,f⟩)
   simp only [hbB,List.map_set,Stt.row,List.set_set]at this
   exact this
  ·simp only [set_id ht,set_id q1]
  ·simp only [HG.endd,endL,hgb,hg]
 have hcl:t.close s.fl to={t with to:=to,hours:=IntKind.wrap .i64 (f.1 - t.hours),cycles:=IntKind.wrap .i64 (f.2 - t.cycles)}:=by
  simp only [Stt.close,wsub,hmi,Int.toNat_natCast,hgf]
 rw [f5,hcl,f4]
 simp only [f4 ▸ f2 t]
 clear f4 f5 hcl hg hgf hgb ht'
 simp -dsimp [Tryz.f153,E153]
 repeat' (first|omega|simp -dsimp [E153,ri,cellp,ints,w1,hl1,q2,q3,f1,f2,f3,hbB,Stt.row,hmi,hm1,hf,hf',cycV,hle_refl]|refine aI ?_ fun _=>?_|refine oI fun _=>?_|refine nI ?_ ?_)
theorem ok153:FnOK Tryz.prog 153 (.heap endS):=pfH b153 .nil (fun args h hc=>by obtain⟨_,_,_,rfl,_⟩:=obS_inv hgL_keys hc; simp)
end Go.Sx
end
section
namespace Go.Sx
open Go.Proofs
attribute [local irreducible] HLe
attribute [local simp] hps_app
structure HG.Ok (s:HG):Prop where
 hok:s.Hok
 ps:s.ps.length≤1000
 kinds:s.r.kinds.length≤1000
 orders:s.r.orders.length≤1000
 places:∀kd∈s.r.kinds,kd.places≤1000
 fit:∀p∈s.ps,s.i.Fit p
 hil:s.hi.length=s.ps.length
 m0:0≤s.r.machines
 m1:s.r.machines≤1000
 iss:s.iss.length=s.r.orders.length
 fl:(s.fl.length:Int)=s.r.machines
 hl:∀(i:Nat) (l:List Stt),s.hb[i]?=some l→l.length≤1000000∧s.hb.length≤1000000
 at_:∀(k:Nat) (p:PS),s.ps[k]?=some p→0≤p.a→p.a<s.r.machines∧∃(i:Nat) (l:List Stt),s.hi[k]?=some (some (i,l.length))∧EndOk s i l
theorem HG.Ok.small {s:HG} (h:s.Ok):s.i.Small:=⟨h.ps,h.kinds,h.places⟩
theorem withinB_nat {n:Int} {m:Nat} (hm:m≤1000000) (h:withinB n 0 (wsub m 1)=true):∃k:Nat,n=k∧k<m:=by
 have hw:wsub (m:Int) 1=m - 1:=wrap_id (by omega) (by omega)
 rw [hw]at h
 simp only [withinB,decide_eq_true_eq]at h
 exact⟨n.toNat,by omega,by omega⟩
def HG.chkOk (s:HG) (n o:Int):Bool:=
 s.i.part n && (s.i.order o && (s.iss.getD o.toNat false && (((s.ps.getD n.toNat default).kind == (s.r.orders.getD o.toNat default).kind) && !(s.ps.getD n.toNat default).chk.getD o.toNat false)))
def HG.chkDo (s:HG) (n o:Int):HG:={s with ps:=s.ps.set n.toNat {s.ps.getD n.toNat default with chk:=(s.ps.getD n.toNat default).chk.set o.toNat true}}
structure N2 where
 a:Int
 b:Int
@[simp] def n2E (_:HG) (d:N2):List V:=[.bptr 9019 0 1 0 0,.int .i64 d.a,.int .i64 d.b]
abbrev checkS:HSpec:=obS hgL hkeys n2E (fun s _ _=>s.Ok) (fun s d _=>.bool (s.chkOk d.a d.b)) (fun s d=>if s.chkOk d.a d.b=true then s.chkDo d.a d.b else s) fun _ _ h=>h
theorem n2E_inj (s:HG) (d d':N2) (h:n2E s d=n2E s d'):d=d':=by
 obtain⟨a,b⟩:=d; obtain⟨a',b'⟩:=d'; simp at h; simp [h]
theorem check_go (s:HG) (a b:Int) (h:Hp):checkS.go [.bptr 9019 0 1 0 0,.int .i64 a,.int .i64 b] (Ob hgL s h)=⟨s.Ok,.bool (s.chkOk a b),Ob hgL (if s.chkOk a b=true then s.chkDo a b else s) (Ob hgL s h)⟩:=
 obS_go hgL_keys hgL_inj n2E_inj s ⟨a,b⟩ h
abbrev E151:Env:={P:=Tryz.prog,fn:=tbl [(152,.pure partS),(154,.pure orderS)],own:=[],key:=15100,nt:=65}
theorem b151:HeapBody E151 [] Tryz.f151 checkS:=by
 intro args h hc
 obtain⟨s,⟨n,o⟩,hh,rfl,hok,hgo⟩:=obS_inv hgL_keys hc
 rw [hgo]
 clear hgo hc
 obtain⟨h0,rfl⟩:∃h0,h=Ob hgL s h0:=⟨h,hh⟩
 clear hh
 have hk:=hok.hok
 cases c1:s.i.part n
 ·have hf:s.chkOk n o=false:=by simp [HG.chkOk,c1]
  simp -dsimp [Tryz.f151,E151,-lendN,-lend1]
  repeat' (first|omega|simp -dsimp [E151,ri,cellp,ints,-lendN,-lend1,hk,HI.v,hiE_dec',c1,hf,hle_refl]|refine aI ?_ fun _=>?_|refine oI fun _=>?_|refine nI ?_ ?_)
 cases c2:s.i.order o
 ·have hf:s.chkOk n o=false:=by simp [HG.chkOk,c2]
  simp -dsimp [Tryz.f151,E151,-lendN,-lend1]
  repeat' (first|omega|simp -dsimp [E151,ri,cellp,ints,-lendN,-lend1,hk,HI.v,hiE_dec',c1,c2,hf,hle_refl]|refine aI ?_ fun _=>?_|refine oI fun _=>?_|refine nI ?_ ?_)
 obtain⟨ni,rfl,hni⟩:=withinB_nat (m:=s.ps.length) (by have:=hok.ps; omega) c1
 obtain⟨oi,rfl,hoi⟩:=withinB_nat (m:=s.r.orders.length) (by have:=hok.orders; omega) c2
 obtain⟨p,hp,hp'⟩:=get_ex hni
 obtain⟨od,hod,hod'⟩:=get_ex hoi
 have hpf:=hok.fit p (hp' ▸ List.getElem_mem hni)
 have l1:oi<s.iss.length:=by have:=hok.iss; omega
 have l2:oi<p.chk.length:=by rw [hpf.chk]; exact hoi
 obtain⟨b1,hb1,hb1'⟩:=get_ex l1
 obtain⟨b2,hb2,hb2'⟩:=get_ex l2
 have hpts:=ptsV_ne (n:=s.ps.length) (by omega)
 have hptB:=ptsB_ne (n:=s.ps.length) (by omega)
 have hmx:=mapIdx_get hp
 have hval:s.chkOk ni oi=(b1 && ((p.kind == od.kind) && !b2)):=by
  simp [HG.chkOk,c1,c2,List.getD,hp,hod,hb1,hb2]
 cases b1
 ·have hf:s.chkOk ni oi=false:=by simp [hval]
  simp -dsimp [Tryz.f151,E151,-lendN,-lend1]
  repeat' (first|omega|simp -dsimp [E151,ri,cellp,ints,-lendN,-lend1,hk,HI.v,hiE_dec',c1,c2,hf,hle_refl,hni,hoi,l1,l2,hb1,hb1',rb]|refine aI ?_ fun _=>?_|refine oI fun _=>?_|refine nI ?_ ?_)
 by_cases hkd:p.kind=od.kind
 case neg=>
  have hf:s.chkOk ni oi=false:=by simp [hval,hkd]
  simp -dsimp [Tryz.f151,E151,-lendN,-lend1]
  repeat' (first|omega|simp -dsimp [E151,ri,cellp,ints,-lendN,-lend1,hk,HI.v,hiE_dec',c1,c2,hf,hle_refl,hni,hoi,l1,l2,hb1,hb1',hb2,hb2',hp,hp',hod,hod',hpts,hptB,PS.blk,PS.row,Od.row,chkB,rb,hkd]|refine aI ?_ fun _=>?_|refine oI fun _=>?_|refine nI ?_ ?_)
 cases b2
 ·have hf:s.chkOk ni oi=true:=by simp [hval,hkd]
  have hw:=fun h=>w_chk (s:=s) (h:=h) (j:=oi) hp true
  have hdo:s.chkDo ni oi={s with ps:=s.ps.set ni {p with chk:=p.chk.set oi true}}:=by simp [HG.chkDo,List.getD,hp]
  simp -dsimp [Tryz.f151,E151,-lendN,-lend1]
  repeat' (first|omega|simp -dsimp [E151,ri,cellp,ints,-lendN,-lend1,hk,HI.v,hiE_dec',c1,c2,hf,hle_refl,hni,hoi,l1,l2,hb1,hb1',hb2,hb2',hp,hp',hod,hod',hpts,hptB,PS.blk,PS.row,Od.row,chkB,rb,hkd,hw,hdo]|refine aI ?_ fun _=>?_|refine oI fun _=>?_|refine nI ?_ ?_)
 ·have hf:s.chkOk ni oi=false:=by simp [hval,hkd]
  simp -dsimp [Tryz.f151,E151,-lendN,-lend1]
  repeat' (first|omega|simp -dsimp [E151,ri,cellp,ints,-lendN,-lend1,hk,HI.v,hiE_dec',c1,c2,hf,hle_refl,hni,hoi,l1,l2,hb1,hb1',hb2,hb2',hp,hp',hod,hod',hpts,hptB,PS.blk,PS.row,Od.row,chkB,rb,hkd]|refine aI ?_ fun _=>?_|refine oI fun _=>?_|refine nI ?_ ?_)
theorem ok151:FnOK Tryz.prog 151 (.heap checkS):=pfH b151 (.cons ok152 (.cons ok154 .nil)) (fun args h hc=>by obtain⟨_,_,_,rfl,_⟩:=obS_inv hgL_keys hc; simp)
end Go.Sx
end
section
namespace Go.Sx
open Go.Proofs
attribute [local irreducible] HLe
attribute [local simp] hps_app
def sinceTo (iss:List Bool) (hrs:Int) (l:List Int):Nat→List Int
 | 0=>l
 | i+1=>if iss.getD i false=true then (sinceTo iss hrs l i).set i (wadd ((sinceTo iss hrs l i).getD i 0) hrs)else sinceTo iss hrs l i
theorem sinceTo_len (iss:List Bool) (hrs:Int) (l:List Int):∀i,(sinceTo iss hrs l i).length=l.length
 | 0=>rfl
 | i+1=>by simp only [sinceTo]; split<;>simp [sinceTo_len iss hrs l i]
def flyP (iss:List Bool) (m hrs cyc:Int) (p:PS):PS:=if p.a=m then {p with hours:=wadd p.hours hrs,cycles:=wadd p.cycles cyc,since:=sinceTo iss hrs p.since iss.length}else p
def HG.flyOk (s:HG) (m hrs cyc:Int):Bool:=s.i.machine m && (withinB hrs 0 100 && (withinB cyc 0 100 && decide (hrs≤s.i.longest m cyc)))
def HG.flyDo (s:HG) (m hrs cyc:Int):HG:={s with ps:=s.ps.map (flyP s.iss m hrs cyc),fl:=s.fl.set m.toNat (wadd (s.fl.getD m.toNat (0,0)).1 hrs,wadd (s.fl.getD m.toNat (0,0)).2 cyc)}
structure N3 where
 a:Int
 b:Int
 c:Int
@[simp] def n3E (_:HG) (d:N3):List V:=[.bptr 9019 0 1 0 0,.int .i64 d.a,.int .i64 d.b,.int .i64 d.c]
theorem n3E_inj (s:HG) (d d':N3) (h:n3E s d=n3E s d'):d=d':=by
 obtain⟨a,b,c⟩:=d; obtain⟨a',b',c'⟩:=d'; simp at h; simp [h]
abbrev flyS:HSpec:=obS hgL hkeys n3E (fun s _ _=>s.Ok) (fun s d _=>.bool (s.flyOk d.a d.b d.c)) (fun s d=>if s.flyOk d.a d.b d.c=true then s.flyDo d.a d.b d.c else s) fun _ _ h=>h
theorem fly_go (s:HG) (a b c:Int) (h:Hp):flyS.go [.bptr 9019 0 1 0 0,.int .i64 a,.int .i64 b,.int .i64 c] (Ob hgL s h)=⟨s.Ok,.bool (s.flyOk a b c),Ob hgL (if s.flyOk a b c=true then s.flyDo a b c else s) (Ob hgL s h)⟩:=
 obS_go hgL_keys hgL_inj n3E_inj s ⟨a,b,c⟩ h
theorem hmE_dec' (x:HI) (m c:Int):decC hmE [.ip 9 [[.sl 3 (x.r.kinds.map Kd.row),.sl 4 (x.r.parts.map Pt.row),.int .i64 x.r.machines,.sl 2 (x.r.orders.map Od.row),ptsI x.ps,.sl 1 (x.iss.map rb),x.v1,x.v2,x.v3]] 0 0,.int .i64 m,.int .i64 c]=(x,m,c):=hmE_dec x m c
def flyT (f:PS→PS) (l:List PS) (k:Nat):List PS:=(l.take k).map f++l.drop k
theorem flyT_len (f:PS→PS) (l:List PS) (k:Nat):(flyT f l k).length=l.length:=by simp [flyT]; omega
theorem flyT_get (f:PS→PS) (l:List PS) {k:Nat} {p:PS} (h:l[k]?=some p):(flyT f l k)[k]?=some p:=by
 have hk:=(List.getElem?_eq_some_iff.1 h).1
 have:min k l.length=k:=by omega
 simp [flyT,List.getElem?_append,this,h]
theorem flyT_set (f:PS→PS) (l:List PS) {k:Nat} {p:PS} (h:l[k]?=some p):(flyT f l k).set k (f p)=flyT f l (k+1):=by
 obtain⟨hk,he⟩:=List.getElem?_eq_some_iff.1 h
 have:min k l.length=k:=by omega
 rw [flyT,flyT,List.drop_eq_getElem_cons hk,he,List.take_add_one,h]
 simp [List.set_append,this]
abbrev E149:Env:={P:=Tryz.prog,fn:=tbl [(39,.pure machineS),(40,.pure withinS),(41,.pure longestS)],own:=[],key:=14900,nt:=121}
theorem b149:HeapBody E149 [] Tryz.f149 flyS:=by
 intro args h hc
 obtain⟨s,⟨m,hrs,cyc⟩,hh,rfl,hok,hgo⟩:=obS_inv hgL_keys hc
 rw [hgo]
 clear hgo hc
 obtain⟨h0,rfl⟩:∃h0,h=Ob hgL s h0:=⟨h,hh⟩
 clear hh
 have hk:=hok.hok
 cases c1:s.i.machine m
 ·have hf:s.flyOk m hrs cyc=false:=by simp [HG.flyOk,c1]
  simp -dsimp [Tryz.f149,E149,-lendN,-lend1]
  repeat' (first|omega|simp -dsimp [E149,ri,cellp,ints,-lendN,-lend1,hk,HI.v,hiE_dec',c1,hf,hle_refl]|refine aI ?_ fun _=>?_|refine oI fun _=>?_|refine nI ?_ ?_)
 cases c2:withinB hrs 0 100
 ·have hf:s.flyOk m hrs cyc=false:=by simp [HG.flyOk,c1,c2]
  simp -dsimp [Tryz.f149,E149,-lendN,-lend1]
  repeat' (first|omega|simp -dsimp [E149,ri,cellp,ints,-lendN,-lend1,hk,HI.v,hiE_dec',c1,c2,hf,hle_refl]|refine aI ?_ fun _=>?_|refine oI fun _=>?_|refine nI ?_ ?_)
 cases c3:withinB cyc 0 100
 ·have hf:s.flyOk m hrs cyc=false:=by simp [HG.flyOk,c1,c2,c3]
  simp -dsimp [Tryz.f149,E149,-lendN,-lend1]
  repeat' (first|omega|simp -dsimp [E149,ri,cellp,ints,-lendN,-lend1,hk,HI.v,hiE_dec',c1,c2,c3,hf,hle_refl]|refine aI ?_ fun _=>?_|refine oI fun _=>?_|refine nI ?_ ?_)
 have hsm:=hok.small
 have hfit:∀p∈s.i.ps,s.i.Fit p:=hok.fit
 by_cases c4:hrs≤s.i.longest m cyc
 case neg=>
  have hf:s.flyOk m hrs cyc=false:=by simp [HG.flyOk,c1,c2,c3,c4]
  have c4':s.i.longest m cyc<hrs:=by omega
  simp -dsimp [Tryz.f149,E149,-lendN,-lend1]
  repeat' (first|omega|simp -dsimp [E149,ri,cellp,ints,-lendN,-lend1,hk,HI.v,hiE_dec',hmE_dec',c1,c2,c3,c4',hsm,hfit,hf,hle_refl]|refine aI ?_ fun _=>?_|refine oI fun _=>?_|refine nI ?_ ?_)
 have c4':¬ s.i.longest m cyc<hrs:=by omega
 have hf:s.flyOk m hrs cyc=true:=by simp [HG.flyOk,c1,c2,c3,c4]
 have hml:(s.r.machines:Int)≤1000:=hok.m1
 have hfl:=hok.fl
 obtain⟨mi,rfl,hmi⟩:∃k:Nat,m=k∧k<s.fl.length:=by
  have:=withinB_nat (n:=m) (m:=s.fl.length) (by omega) (by rw [hfl]; exact c1)
  exact this
 have hps:=hok.ps
 simp -dsimp [Tryz.f149,E149,-lendN,-lend1]
 repeat' (first|omega|simp -dsimp [E149,ri,cellp,ints,-lendN,-lend1,hk,HI.v,hiE_dec',hmE_dec',c1,c2,c3,c4',hsm,hfit,hf]|refine aI ?_ fun _=>?_|refine oI fun _=>?_|refine nI ?_ ?_)
 refine awp_loop [40,41,42,10,43,44,45,46,47,48,49,50,51,52,53,54,55,56,57,58,59,60,61,62,63,64,65,66,67,68,69,70,71,72,73,74,75,76,77,11,78,79,80,81,82,83,84,85,86,87,88,89,90,91,92,93,94,95,96,39] (fun k:Fin (s.ps.length+1)=>[(39,(true,.int .i64 (k.1:Nat)))]) (fun k=>Ob hgL {s with ps:=flyT (flyP s.iss mi hrs cyc) s.ps k.1} h0) (fun k=>s.ps.length - k.1) ⟨0,by omega⟩ ?_ ?_ ?_
 ·simp [okAll,okv]
 ·exact HLe.of_eq (by simp [flyT])
 rintro⟨k,hkk⟩
 simp only
 by_cases hk1:k<s.ps.length
 ·have hki:(k:Int)<s.ps.length:=by omega
  have wk:IntKind.wrap .i64 ((k:Int)+1)=(k+1:Nat):=wrap_id (by omega) (by omega)
  obtain⟨p,hp,hp'⟩:=get_ex hk1
  have hpf:=hok.fit p (hp' ▸ List.getElem_mem hk1)
  have hTl:=flyT_len (flyP s.iss mi hrs cyc) s.ps k
  have hTg:=flyT_get (flyP s.iss mi hrs cyc) s.ps hp
  have hTs:=flyT_set (flyP s.iss mi hrs cyc) s.ps hp
  have hpts:=ptsV_ne (n:=s.ps.length) (by omega)
  have hptB:=ptsB_ne (n:=s.ps.length) (by omega)
  have hiss:s.iss.length=p.since.length:=by rw [hok.iss,hpf.since]; rfl
  have hissn:s.iss.length≤1000:=by rw [hok.iss]; exact hok.orders
  obtain⟨s',f1,f2,f3,f4,f5,f6,f7⟩:∃s':PS→HG,(∀q,(s' q).ps[k]?=some q)∧(∀q,(s' q).ps.length=s.ps.length)∧(∀q,(s' q).iss=s.iss)∧
    (∀q a b c d e f h,hset (Ob hgL (s' q) h) 9043 k {z:=8,els:=[[.int .i64 a,.int .i64 b,.int .i64 c,.bool d,.int .i64 e,.int .i64 f,.bsl 9037 k q.since.length,.bsl 9041 k q.chk.length]],ty:=177,fz:=false,cl:=false}=Ob hgL (s' ⟨a,b,c,d,e,f,q.since,q.chk⟩) h)∧
    (∀q j x h,hset (Ob hgL (s' q) h) 9037 k {z:=1,els:=(q.since.map ri).set j [.int .i64 x],ty:=3,fz:=false,cl:=true}=Ob hgL (s' {q with since:=q.since.set j x}) h)∧
    ({s with ps:=flyT (flyP s.iss mi hrs cyc) s.ps k}:HG)=s' p∧({s with ps:=flyT (flyP s.iss mi hrs cyc) s.ps (k+1)}:HG)=s' (flyP s.iss mi hrs cyc p):=by
   have hkT:k<(flyT (flyP s.iss mi hrs cyc) s.ps k).length:=by omega
   refine⟨fun q=>{s with ps:=(flyT (flyP s.iss mi hrs cyc) s.ps k).set k q},fun q=>?_,fun q=>?_,fun q=>rfl,fun q a b c d e f h=>?_,fun q j x h=>?_,?_,?_⟩
   ·simp [hkT]
   ·simp [hTl]
   ·have:=w_part (s:={s with ps:=(flyT (flyP s.iss mi hrs cyc) s.ps k).set k q}) (h:=h) (i:=k) (p:=q) (by simp [hkT]) a b c e f d
    simp only [List.set_set]at this
    exact this
   ·have:=w_since (s:={s with ps:=(flyT (flyP s.iss mi hrs cyc) s.ps k).set k q}) (h:=h) (i:=k) (j:=j) (p:=q) (by simp [hkT]) x
    simp only [List.set_set]at this
    exact this
   ·simp only [set_id hTg]
   ·simp only [hTs]
  rw [f6]
  clear f6 hTl hTg hTs
  have f1g:∀q (h:k<(s' q).ps.length),(s' q).ps[k]=q:=fun q h=>by have:=f1 q; rw [List.getElem?_eq_getElem h]at this; exact Option.some.inj this
  by_cases hm:p.a=mi
  case neg=>
   have hm':((p.a:Int)=(mi:Int))=False:=eq_false hm
   have hfp:flyP s.iss mi hrs cyc p=p:=by simp [flyP,hm]
   rw [hfp]at f7
   simp -dsimp [hki]
   repeat' (first|omega|simp -dsimp [E149,ri,cellp,ints,-lendN,-lend1,hki,hk1,hp,hp',wk,hpts,hptB,f1,f1g,f2,PS.blk,PS.row,hm']|refine aI ?_ fun _=>?_|refine oI fun _=>?_|refine nI ?_ ?_)
   refine⟨⟨k+1,by omega⟩,tle_chain rfl ?_,HLe.of_eq (by simp only [f7]),by simp only; omega⟩
   simp [okAll,okv]
  simp -dsimp [hki]
  repeat' (first|omega|simp -dsimp [E149,ri,cellp,ints,-lendN,-lend1,hki,hk1,hp,hp',wk,hpts,hptB,f1,f1g,f2,f3,f4,PS.blk,PS.row,hm]|refine aI ?_ fun _=>?_|refine oI fun _=>?_|refine nI ?_ ?_)
  refine awp_loop [76,77,11,78,79,80,81,82,83,84,85,86,87,88,89,90,91,92,93,94,95,75] (fun j:Fin (s.iss.length+1)=>[(75,(true,.int .i64 (j.1:Nat)))]) (fun j=>Ob hgL (s' {p with hours:=wadd p.hours hrs,cycles:=wadd p.cycles cyc,since:=sinceTo s.iss hrs p.since j.1}) h0) (fun j=>s.iss.length - j.1) ⟨0,by omega⟩ ?_ ?_ ?_
  ·simp [okAll,okv]
  ·exact HLe.of_eq (by simp [sinceTo,wadd,hm])
  rintro⟨j,hjj⟩
  simp only
  by_cases hj1:j<s.iss.length
  ·have hji:(j:Int)<s.iss.length:=by omega
   have wj:IntKind.wrap .i64 ((j:Int)+1)=(j+1:Nat):=wrap_id (by omega) (by omega)
   obtain⟨b,hb,hb'⟩:=get_ex hj1
   have hS:sinceTo s.iss hrs p.since (j+1)=if b=true then (sinceTo s.iss hrs p.since j).set j (wadd ((sinceTo s.iss hrs p.since j).getD j 0) hrs)else sinceTo s.iss hrs p.since j:=by
    simp only [sinceTo,List.getD,hb,Option.getD_some]
   have hSl:=sinceTo_len s.iss hrs p.since j
   generalize sinceTo s.iss hrs p.since j=S at *
   have hjS:j<S.length:=by omega
   obtain⟨x,hx,hx'⟩:=get_ex hjS
   have hxg:S.getD j 0=x:=by simp [List.getD,hx]
   rw [hxg]at hS
   cases b
   ·rw [if_neg (by simp)]at hS
    simp -dsimp [hji,f3]
    repeat' (first|omega|simp -dsimp [E149,ri,cellp,ints,-lendN,-lend1,hji,hj1,hb,hb',wj,f1,f1g,f2,f3,rb]|refine aI ?_ fun _=>?_|refine oI fun _=>?_|refine nI ?_ ?_)
    refine⟨⟨j+1,by omega⟩,tle_chain rfl ?_,HLe.of_eq (by simp only [hS]),by simp only; omega⟩
    simp [okAll,okv]
   ·rw [if_pos rfl]at hS
    simp -dsimp [hji,f3]
    repeat' (first|omega|simp -dsimp [E149,ri,cellp,ints,-lendN,-lend1,hji,hj1,hb,hb',wj,f1,f1g,f2,f3,f4,f5,rb,PS.blk,PS.row,sinB,hjS,hx,hx',ri]|refine aI ?_ fun _=>?_|refine oI fun _=>?_|refine nI ?_ ?_)
    refine⟨⟨j+1,by omega⟩,tle_chain rfl ?_,HLe.of_eq (by simp only [hS,wadd]),by simp only; omega⟩
    simp [okAll,okv]
  ·have hje:j=s.iss.length:=by omega
   have hjn:¬ (j:Int)<s.iss.length:=by omega
   have hfp:flyP s.iss mi hrs cyc p={p with hours:=wadd p.hours hrs,cycles:=wadd p.cycles cyc,since:=sinceTo s.iss hrs p.since s.iss.length}:=by simp [flyP,hm]
   rw [hfp]at f7
   simp -dsimp [hjn,f3]
   repeat' (first|omega|simp -dsimp [E149,ri,cellp,ints,hjn,f3,wk]|refine aI ?_ fun _=>?_|refine oI fun _=>?_|refine nI ?_ ?_)
   refine⟨⟨k+1,by omega⟩,tle_kept (kept_upds rfl (kept_forget rfl (kept_upds rfl kept_base))) ?_,HLe.of_eq (by simp only [f7,hje]),by simp only; omega⟩
   simp [okAll,okv]
 ·have hkn:¬ (k:Int)<s.ps.length:=by omega
  have hke:k=s.ps.length:=by omega
  subst hke
  obtain⟨f,hfm,hfm'⟩:=get_ex hmi
  obtain⟨s',f1,f3,f6,f7⟩:∃s':Int × Int→HG,(∀q,(s' q).fl=s.fl.set mi q)∧
    (∀q x y h,hset (Ob hgL (s' q) h) 9013 0 {z:=2,els:=(s.fl.map cycV).set mi [.int .i64 x,.int .i64 y],ty:=175,fz:=false,cl:=true}=Ob hgL (s' (x,y)) h)∧
    ({s with ps:=flyT (flyP s.iss mi hrs cyc) s.ps s.ps.length}:HG)=s' f∧s.flyDo mi hrs cyc=s' (wadd f.1 hrs,wadd f.2 cyc):=by
   refine⟨fun q=>{s with ps:=flyT (flyP s.iss mi hrs cyc) s.ps s.ps.length,fl:=s.fl.set mi q},fun q=>rfl,fun q x y h=>?_,?_,?_⟩
   ·have:=w_fl (s:={s with ps:=flyT (flyP s.iss mi hrs cyc) s.ps s.ps.length,fl:=s.fl.set mi q}) (h:=h) (j:=mi) x y
    simp only [List.set_set,List.map_set]at this
    exact this
   ·simp only [set_id hfm]
   ·simp [HG.flyDo,List.getD,hfm,flyT]
  rw [f6]
  have f1':∀q,(s' q).fl[mi]?=some q:=fun q=>by rw [f1]; simp [hmi]
  simp -dsimp [hkn]
  repeat' (first|omega|simp -dsimp [E149,ri,cellp,ints,-lendN,-lend1,hkn,hf,f1,f1',f3,f7,cycV,hmi,wadd,hle_refl]|refine aI ?_ fun _=>?_|refine oI fun _=>?_|refine nI ?_ ?_)
theorem ok149:FnOK Tryz.prog 149 (.heap flyS):=pfH b149 (.cons ok39 (.cons ok40 (.cons ok41 .nil))) (fun args h hc=>by obtain⟨_,_,_,rfl,_⟩:=obS_inv hgL_keys hc; simp)
end Go.Sx
end
end
