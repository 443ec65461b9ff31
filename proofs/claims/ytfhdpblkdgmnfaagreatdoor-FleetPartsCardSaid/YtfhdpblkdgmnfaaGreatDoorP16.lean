/- A part of a proof; no conditions. -/
import Derived.Test.YtfhdpblkdgmnfaaGreatDoorP15
set_option linter.unusedSimpArgs false
set_option linter.unusedVariables false
set_option linter.unusedSectionVars false
set_option maxRecDepth 100000
set_option maxHeartbeats 8000000
noncomputable section
section
namespace Go.Sx
open Go.Proofs
attribute [local irreducible] HLe
attribute [local simp] hps_app
section
variable [Gls]
theorem p_hb1 (s:HG) (h:Hp) (a b c d e f:Int) :
  hpush (Ob hgL s h) 15115 {z:=6,els:=[[.int .i64 a,.int .i64 b,.int .i64 c,.int .i64 d,.int .i64 e,.int .i64 f]],ty:=303,fz:=false,cl:=true}=Ob hgL {s with hb:=s.hb++[[⟨a,b,c,d,e,f⟩]]} h:=p_hb (s:=s) (h:=h) [⟨a,b,c,d,e,f⟩]
theorem w_hb1 (s:HG) (h:Hp) (i:Nat) (l:List Stt) (a b c d e f:Int) :
  hset (Ob hgL s h) 15115 i {z:=6,els:=l.map Stt.row++[[.int .i64 a,.int .i64 b,.int .i64 c,.int .i64 d,.int .i64 e,.int .i64 f]],ty:=303,fz:=false,cl:=true}=Ob hgL {s with hb:=s.hb.set i (l++[⟨a,b,c,d,e,f⟩])} h:=by
 have:=w_hb (s:=s) (h:=h) (i:=i) (l++[⟨a,b,c,d,e,f⟩])
 simp only [hbB,List.map_append,List.map_cons,List.map_nil,Stt.row]at this
 exact this
end
theorem hiV_none:hiV none=.nil:=rfl
theorem hiV_some (i n:Nat):hiV (some (i,n))=.bsl 15115 i n:=rfl
def HG.fitOk (s:HG) (n m pl:Int):Bool:=
 s.i.part n && (s.i.machine m && (((s.ps.getD n.toNat default).a == -1 && (s.ps.getD n.toNat default).b == -1) && ((s.ps.getD n.toNat default).known &&
  (withinB pl 0 (wsub (s.r.kinds.getD (s.ps.getD n.toNat default).kind.toNat default).places 1) && decide (s.i.at (s.ps.getD n.toNat default).kind m pl<0)))))
def HG.stt (s:HG) (m pl:Int):Stt:=⟨m,pl,s.wk,-1,(s.fl.getD m.toNat (0,0)).1,(s.fl.getD m.toNat (0,0)).2⟩
def HG.fitDo (s:HG) (n m pl:Int):HG:=
 match s.hi.getD n.toNat none with
 | none=>{s with ps:=s.ps.set n.toNat {s.ps.getD n.toNat default with a:=m,b:=pl},hi:=s.hi.set n.toNat (some (s.hb.length,1)),hb:=s.hb++[[s.stt m pl]],hcl:=false}
 | some (i,k)=>{s with ps:=s.ps.set n.toNat {s.ps.getD n.toNat default with a:=m,b:=pl},hi:=s.hi.set n.toNat (some (i,k+1)),hb:=s.hb.set i (s.hb.getD i []++[s.stt m pl]),hcl:=false}
abbrev fitS:HSpec:=obS hgL hkeys n3E (fun s _ h=>s.Ok∧Blank [15010] h) (fun s d _=>.bool (s.fitOk d.a d.b d.c)) (fun s d=>if s.fitOk d.a d.b d.c=true then s.fitDo d.a d.b d.c else s) fun _ _ h=>bmp [15010] 1 h
theorem fit_go (s:HG) (a b c:Int) (h:Hp):fitS.go [.bptr 9019 0 1 0 0,.int .i64 a,.int .i64 b,.int .i64 c] (Ob hgL s h)=⟨s.Ok∧Blank [15010] (Ob hgL s h),.bool (s.fitOk a b c),Ob hgL (if s.fitOk a b c=true then s.fitDo a b c else s) (bmp [15010] 1 (Ob hgL s h))⟩:=
 obS_go hgL_keys hgL_inj n3E_inj s ⟨a,b,c⟩ h
abbrev E150:Env:={P:=Tryz.prog,fn:=tbl [(39,.pure machineS),(40,.pure withinS),(152,.pure partS),(155,.pure haS)],own:=[],key:=15000,nt:=117}
theorem b150:HeapBody E150 [(7,([],[[0,1,2,3,4,5,6,7,8,9,10,11,12,13,14,15,16,17,18,19,20,21,22,23,24,25,26,27,28,29,30,31,32,33,34,35,36,37,38],[0,1,2,4,5,6,7,8,9,10,11,12,13,14,15,16,17,18,19,20,21,22,23,24,25,26,27,28,29,30,31,32,33,34,35,36,3,37,38]]))] Tryz.f150 fitS:=by
 intro args h hc
 obtain⟨s,⟨n,m,pl⟩,hh,rfl,⟨hok,hbk⟩,hgo⟩:=obS_inv hgL_keys hc
 rw [hgo]
 clear hgo hc
 obtain⟨h0,rfl⟩:∃h0,h=Ob hgL s h0:=⟨h,hh⟩
 clear hh
 have hk:=hok.hok
 have hb:h0 15010={base:=(h0 15010).base,blks:=[]}:=by simpa [Blank]using hbk
 clear hbk
 have hh0:h0=hps [(15010,{base:=(h0 15010).base,blks:=[]})] h0:=Blank.self (own:=[15010]) (by simpa [Blank]using hb)
 clear hb
 generalize (h0 15010).base=b at hh0
 rw [hh0]
 clear hh0
 simp only [bmp,List.map_cons,List.map_nil]
 cases c1:s.i.part n
 ·have hf:s.fitOk n m pl=false:=by simp [HG.fitOk,c1]
  simp -dsimp [Tryz.f150,E150,-lendN,-lend1]
  repeat' (first|omega|simp -dsimp [E150,ri,cellp,ints,-lendN,-lend1,hk,g_hset,HI.v,hiE_dec',c1,hf,g_hset,bmp]|refine aI ?_ fun _=>?_|refine oI fun _=>?_|refine nI ?_ ?_)
  exact(by(try simp -dsimp only [hpush_hps,hps_app,List.cons_append,List.nil_append,hps_over]); refine ob_hle ?_; simp -dsimp [allK]<;>exact rz)
 cases c2:s.i.machine m
 ·have hf:s.fitOk n m pl=false:=by simp [HG.fitOk,c1,c2]
  simp -dsimp [Tryz.f150,E150,-lendN,-lend1]
  repeat' (first|omega|simp -dsimp [E150,ri,cellp,ints,-lendN,-lend1,hk,g_hset,HI.v,hiE_dec',c1,c2,hf,bmp]|refine aI ?_ fun _=>?_|refine oI fun _=>?_|refine nI ?_ ?_)
  exact(by(try simp -dsimp only [hpush_hps,hps_app,List.cons_append,List.nil_append,hps_over]); refine ob_hle ?_; simp -dsimp [allK]<;>exact rz)
 have hml:(s.r.machines:Int)≤1000:=hok.m1
 have hfl:=hok.fl
 obtain⟨mi,rfl,hmi⟩:∃k:Nat,m=k∧k<s.fl.length:=by
  have:=withinB_nat (n:=m) (m:=s.fl.length) (by omega) (by rw [hfl]; exact c2)
  exact this
 have hps:=hok.ps
 obtain⟨ni,rfl,hni⟩:=withinB_nat (m:=s.ps.length) (by omega) c1
 obtain⟨p,hp,hp'⟩:=get_ex hni
 have hpf:=hok.fit p (hp' ▸ List.getElem_mem hni)
 have hpts:=ptsV_ne (n:=s.ps.length) (by omega)
 have hptB:=ptsB_ne (n:=s.ps.length) (by omega)
 have hmx:=mapIdx_get hp
 have hgp:s.ps.getD ni default=p:=by simp [List.getD,hp]
 obtain⟨ki,hki⟩:∃ki:Nat,p.kind=ki:=⟨p.kind.toNat,by have:=hpf.k0; omega⟩
 have hk2:ki<s.r.kinds.length:=by have:p.kind<s.r.kinds.length:=hpf.k1; omega
 obtain⟨kd,hkd,hkd'⟩:=get_ex hk2
 have hgk:s.r.kinds.getD ki default=kd:=by simp [List.getD,hkd]
 have hval:s.fitOk ni mi pl=((p.a == -1 && p.b == -1) && (p.known && (withinB pl 0 (IntKind.wrap .i64 (kd.places - 1)) && decide (s.i.at ki mi pl<0)))):=by
  simp only [HG.fitOk,c1,c2,Int.toNat_natCast,hgp,hki,hgk,Bool.true_and,wsub]
 have h92:s.i.ps.length≤9223372036854775807:=by have:s.i.ps.length≤1000:=hok.ps; omega
 cases c3:(p.a == -1 && p.b == -1)
 ·have hf:s.fitOk ni mi pl=false:=by rw [hval,c3]; rfl
  simp -dsimp [Tryz.f150,E150,-lendN,-lend1]
  repeat' (first|omega|simp -dsimp [E150,ri,cellp,ints,-lendN,-lend1,hk,g_hset,HI.v,hiE_dec',c1,c2,c3,hf,hni,hp,hp',hpts,hptB,PS.blk,PS.row]|refine aI ?_ fun _=>?_|refine oI fun _=>?_|refine nI ?_ ?_)
  exact(by(try simp -dsimp only [hpush_hps,hps_app,List.cons_append,List.nil_append,hps_over]); refine ob_hle ?_; simp -dsimp [allK]<;>exact rz)
 cases c4:p.known
 ·have hf:s.fitOk ni mi pl=false:=by rw [hval,c3,c4]; rfl
  simp -dsimp [Tryz.f150,E150,-lendN,-lend1]
  repeat' (first|omega|simp -dsimp [E150,ri,cellp,ints,-lendN,-lend1,hk,g_hset,HI.v,hiE_dec',c1,c2,c3,c4,hf,hni,hp,hp',hpts,hptB,PS.blk,PS.row]|refine aI ?_ fun _=>?_|refine oI fun _=>?_|refine nI ?_ ?_)
  exact(by(try simp -dsimp only [hpush_hps,hps_app,List.cons_append,List.nil_append,hps_over]); refine ob_hle ?_; simp -dsimp [allK]<;>exact rz)
 cases c5:withinB pl 0 (IntKind.wrap .i64 (kd.places - 1))
 ·have hf:s.fitOk ni mi pl=false:=by rw [hval,c3,c4,c5]; rfl
  simp -dsimp [Tryz.f150,E150,-lendN,-lend1]
  repeat' (first|omega|simp -dsimp [E150,ri,cellp,ints,-lendN,-lend1,hk,g_hset,HI.v,hiE_dec',c1,c2,c3,c4,c5,hf,hni,hp,hp',hpts,hptB,PS.blk,PS.row,hki,hk2,hkd,hkd',Kd.row]|refine aI ?_ fun _=>?_|refine oI fun _=>?_|refine nI ?_ ?_)
  exact(by(try simp -dsimp only [hpush_hps,hps_app,List.cons_append,List.nil_append,hps_over]); refine ob_hle ?_; simp -dsimp [allK]<;>exact rz)
 by_cases c6:s.i.at ki mi pl<0
 case neg=>
  have hf:s.fitOk ni mi pl=false:=by rw [hval,c3,c4,c5,decide_eq_false c6]; rfl
  have c6':0≤s.i.at ki mi pl:=by omega
  simp -dsimp [Tryz.f150,E150,-lendN,-lend1]
  repeat' (first|omega|simp -dsimp [E150,ri,cellp,ints,-lendN,-lend1,hk,g_hset,HI.v,hiE_dec',haE_dec',h92,c1,c2,c3,c4,c5,c6',hf,hni,hp,hp',hpts,hptB,PS.blk,PS.row,hki,hk2,hkd,hkd',Kd.row]|refine aI ?_ fun _=>?_|refine oI fun _=>?_|refine nI ?_ ?_)
  exact(by(try simp -dsimp only [hpush_hps,hps_app,List.cons_append,List.nil_append,hps_over]); refine ob_hle ?_; simp -dsimp [allK]<;>exact rz)
 have hf:s.fitOk ni mi pl=true:=by rw [hval,c3,c4,c5,decide_eq_true c6]; rfl
 have c6':¬ 0≤s.i.at ki mi pl:=by omega
 obtain⟨f,hfm,hfm'⟩:=get_ex hmi
 have hgf:s.fl.getD mi (0,0)=f:=by simp [List.getD,hfm]
 have hnh:ni<s.hi.length:=by rw [hok.hil]; exact hni
 obtain⟨o,ho,ho'⟩:=get_ex hnh
 have hgo:s.hi.getD ni none=o:=by simp [List.getD,ho]
 have hst:s.stt mi pl=⟨mi,pl,s.wk,-1,f.1,f.2⟩:=by simp only [HG.stt,Int.toNat_natCast,hgf]
 have hw:=fun h a b c e f d=>w_part (s:=s) (h:=h) hp a b c e f d
 cases o with
 | none=>
  have hdo:s.fitDo ni mi pl={s with ps:=s.ps.set ni ⟨p.kind,p.hours,p.cycles,p.known,mi,pl,p.since,p.chk⟩,hi:=s.hi.set ni (some (s.hb.length,1)),hb:=s.hb++[[⟨mi,pl,s.wk,-1,f.1,f.2⟩]],hcl:=false}:=by
   simp only [HG.fitDo,Int.toNat_natCast,hgo,hgp,hst]
  have hw2:=fun s h j i k=>w_hi (s:=s) (h:=h) (j:=j) (i,k)
  simp only at hw2
  simp -dsimp [Tryz.f150,E150,-lendN,-lend1]
  repeat' (first|omega|simp -dsimp [E150,ri,cellp,ints,-lendN,-lend1,hk,g_hset,HI.v,hiE_dec',haE_dec',h92,c1,c2,c3,c4,c5,c6',hf,hni,hp,hp',hpts,hptB,PS.blk,PS.row,hki,hk2,hkd,hkd',Kd.row,hw,hnh,ho,ho',hiV_none,hiV_some,hmi,hfm,hfm',cycV,hw2,p_hb1,hdo]|refine aI ?_ fun _=>?_|refine oI fun _=>?_|refine nI ?_ ?_)
  all_goals exact(by(try simp -dsimp only [hpush_hps,hps_app,List.cons_append,List.nil_append,hps_over]); refine ob_hle ?_; simp -dsimp [allK]<;>exact rz)
 | some x=>
  obtain⟨i,k⟩:=x
  obtain⟨l,hl,hlk⟩:=hk.hi _ (ho' ▸ List.getElem_mem hnh) i k rfl
  subst hlk
  have hll:=(hok.hl i l hl).1
  have hll':(l.length+1) * 48≤140737488355328:=by omega
  have hgl:s.hb.getD i []=l:=by simp [List.getD,hl]
  have hlb:(s.hb.map hbB)[i]?=some {z:=6,els:=l.map Stt.row,ty:=303}:=by rw [List.getElem?_map,hl]; rfl
  have hdo:s.fitDo ni mi pl={s with ps:=s.ps.set ni ⟨p.kind,p.hours,p.cycles,p.known,mi,pl,p.since,p.chk⟩,hi:=s.hi.set ni (some (i,l.length+1)),hb:=s.hb.set i (l++[⟨mi,pl,s.wk,-1,f.1,f.2⟩]),hcl:=false}:=by
   simp only [HG.fitDo,Int.toNat_natCast,hgo,hgp,hst,hgl]
  have hw2:=fun s h j i k=>w_hi (s:=s) (h:=h) (j:=j) (i,k)
  simp only at hw2
  simp -dsimp [Tryz.f150,E150,-lendN,-lend1]
  repeat' (first|omega|simp -dsimp [E150,ri,cellp,ints,-lendN,-lend1,hk,g_hset,HI.v,hiE_dec',haE_dec',h92,c1,c2,c3,c4,c5,c6',hf,hni,hp,hp',hpts,hptB,PS.blk,PS.row,hki,hk2,hkd,hkd',Kd.row,hw,hnh,ho,ho',hiV_none,hiV_some,hmi,hfm,hfm',cycV,hw2,w_hb1,hl,hll,hll',hbB,hdo]|refine aI ?_ fun _=>?_|refine oI fun _=>?_|refine nI ?_ ?_)
  all_goals exact(by(try simp -dsimp only [hpush_hps,hps_app,List.cons_append,List.nil_append,hps_over]); refine ob_hle ?_; simp -dsimp [allK]<;>exact rz)
theorem ok150:FnOK Tryz.prog 150 (.heap fitS):=pfH b150 (.cons ok39 (.cons ok40 (.cons ok152 (.cons ok155 .nil)))) (fun args h hc=>by obtain⟨_,_,_,rfl,_⟩:=obS_inv hgL_keys hc; simp)
end Go.Sx
end
section
namespace Go.Sx
open Go.Proofs
attribute [local irreducible] HLe
attribute [local simp] hps_app
def Wk.alone (w:Wk):Bool:=w.b == 0 && w.c == 0
def HG.takeOk (s:HG) (n:Int):Bool:=s.i.part n && decide (0≤(s.ps.getD n.toNat default).a)
def HG.put (s:HG) (n a b:Int):HG:={s with ps:=s.ps.set n.toNat {s.ps.getD n.toNat default with a:=a,b:=b}}
def HG.hist (s:HG) (n:Int):Nat:=match s.hi.getD n.toNat none with|some (i,_)=>i|none=>0
def HG.takeDo (s:HG) (n:Int):HG:=(s.put n (-1) (-1)).endd (s.hist n) s.wk
def HG.issueOk (s:HG) (n:Int):Bool:=s.i.order n && !s.iss.getD n.toNat false
def HG.issueDo (s:HG) (n:Int):HG:={s with iss:=s.iss.set n.toNat true}
def HG.scrapOk (s:HG) (n:Int):Bool:=s.i.part n && ((s.ps.getD n.toNat default).a == -1 && (s.ps.getD n.toNat default).b == -1)
def HG.doOk (s:HG) (w:Wk):Bool:=
 if w.kind=1 then s.flyOk w.a w.b w.c else if w.kind=2 then s.fitOk w.a w.b w.c else if w.kind=5 then (w.c == 0 && s.chkOk w.a w.b)else
 if w.kind=3 then (w.alone && s.takeOk w.a)else if w.kind=4 then (w.alone && s.issueOk w.a)else if w.kind=6 then (w.alone && s.scrapOk w.a)else false
def HG.doDo (s:HG) (w:Wk):HG:=
 if w.kind=1 then s.flyDo w.a w.b w.c else if w.kind=2 then s.fitDo w.a w.b w.c else if w.kind=5 then s.chkDo w.a w.b else
 if w.kind=3 then s.takeDo w.a else if w.kind=4 then s.issueDo w.a else if w.kind=6 then s.put w.a (-2) (-2)else s
def HG.after (s:HG) (w:Wk):HG:=if s.doOk w=true then s.doDo w else s
@[simp] def doE (_:HG) (w:Wk):List V:=[.bptr 9019 0 1 0 0,.agg w.row]
theorem doE_inj (s:HG) (d d':Wk) (h:doE s d=doE s d'):d=d':=Wk.row_inj _ _ (by simpa using h)
abbrev doOwn:List Nat:=[9103,15010]
abbrev doS:HSpec:=obS hgL hkeys doE (fun s _ h=>s.Ok∧Blank doOwn h) (fun s w _=>.bool (s.doOk w)) HG.after fun _ _ h=>bmp doOwn 1 h
theorem do_go (s:HG) (w:Wk) (h:Hp):doS.go [.bptr 9019 0 1 0 0,.agg w.row] (Ob hgL s h)=⟨s.Ok∧Blank doOwn (Ob hgL s h),.bool (s.doOk w),Ob hgL (s.after w) (bmp doOwn 1 (Ob hgL s h))⟩:=
 obS_go hgL_keys hgL_inj doE_inj s w h
theorem take_eq {s:HG} {n:Nat} {p:PS} (hp:s.ps[n]?=some p) (a b:Int):s.put n a b={s with ps:=s.ps.set n ⟨p.kind,p.hours,p.cycles,p.known,a,b,p.since,p.chk⟩}:=by simp [HG.put,List.getD,hp]
abbrev E91:Env:={P:=Tryz.prog,fn:=tbl [(149,.heap flyS),(150,.heap fitS),(151,.heap checkS),(152,.pure partS),(154,.pure orderS),(153,.heap endS)],own:=[],key:=9100,nt:=165}
theorem b91:HeapBody E91 [] Tryz.f91 doS:=by
 intro args h hc
 obtain⟨s,⟨k,a,b,c⟩,hh,rfl,⟨hok,hbk⟩,hgo⟩:=obS_inv hgL_keys hc
 rw [hgo]
 clear hgo hc
 obtain⟨h0,rfl⟩:∃h0,h=Ob hgL s h0:=⟨h,hh⟩
 clear hh
 have hk:=hok.hok
 have hb:∀k∈doOwn,h0 k={base:=(h0 k).base,blks:=[]}:=by
  intro k hk
  have:=hbk k hk
  rw [g_ne _ _ (by simp only [doOwn,List.mem_cons,List.not_mem_nil,or_false]at hk; rcases hk with rfl|rfl<;>simp)]at this
  exact this
 clear hbk
 have hh0:h0=hps [(9103,{base:=(h0 9103).base,blks:=[]}),(15010,{base:=(h0 15010).base,blks:=[]})] h0:=Blank.self (own:=doOwn) hb
 clear hb
 generalize (h0 9103).base=e1 at hh0
 generalize (h0 15010).base=e2 at hh0
 rw [hh0]
 clear hh0
 have hrow:∀k a b c,Wk.row ⟨k,a,b,c⟩=[.int .i64 k,.int .i64 a,.int .i64 b,.int .i64 c]:=fun _ _ _ _=>rfl
 simp only [bmp,doOwn,List.map_cons,List.map_nil,doE,hrow]
 have hbl:∀(S:Site) (x:Nat),Blank [15010] (Ob hgL s (hps [(9103,S),(15010,{base:=x,blks:=[]})] h0)):=by
  intro S x k hk
  simp only [List.mem_cons,List.not_mem_nil,or_false]at hk
  subst hk; simp
 by_cases k1:k=1
 ·subst k1
  have h1:s.doOk ⟨1,a,b,c⟩=s.flyOk a b c:=by simp [HG.doOk]
  have h2:s.after ⟨1,a,b,c⟩=if s.flyOk a b c=true then s.flyDo a b c else s:=by simp [HG.after,HG.doDo,h1]
  rw [h1,h2]
  by_cases hb:b=0<;>by_cases hc:c=0<;>simp -dsimp [Tryz.f91,E91,hb,hc,-lendN,-lend1]<;>repeat' (first|omega|simp -dsimp [E91,ri,cellp,ints,-lendN,-lend1,hb,hc,hk,g_hset,fly_go,hok]|refine aI ?_ fun _=>?_|refine oI fun _=>?_|refine nI ?_ ?_)
  all_goals exact(by(try simp -dsimp only [hpush_hps,hps_app,List.cons_append,List.nil_append,hps_over]); refine ob_hle ?_; simp -dsimp [allK]<;>exact rz)
 by_cases k2:k=2
 ·subst k2
  have h1:s.doOk ⟨2,a,b,c⟩=s.fitOk a b c:=by simp [HG.doOk]
  have h2:s.after ⟨2,a,b,c⟩=if s.fitOk a b c=true then s.fitDo a b c else s:=by simp [HG.after,HG.doDo,h1]
  rw [h1,h2]
  by_cases hb:b=0<;>by_cases hc:c=0<;>simp -dsimp [Tryz.f91,E91,hb,hc,-lendN,-lend1]<;>repeat' (first|omega|simp -dsimp [E91,ri,cellp,ints,-lendN,-lend1,hb,hc,hk,g_hset,fit_go,hok,hbl,bmp]|refine aI ?_ fun _=>?_|refine oI fun _=>?_|refine nI ?_ ?_)
  all_goals exact(by(try simp -dsimp only [hpush_hps,hps_app,List.cons_append,List.nil_append,hps_over]); refine ob_hle ?_; simp -dsimp [allK]<;>exact rz)
 by_cases k5:k=5
 ·subst k5
  by_cases hc:c=0
  ·subst hc
   have h1:s.doOk ⟨5,a,b,0⟩=s.chkOk a b:=by simp [HG.doOk]
   have h2:s.after ⟨5,a,b,0⟩=if s.chkOk a b=true then s.chkDo a b else s:=by rw [←h1]; simp [HG.after,HG.doDo]
   rw [h1,h2]
   by_cases hb:b=0<;>simp -dsimp [Tryz.f91,E91,hb,-lendN,-lend1]<;>repeat' (first|omega|simp -dsimp [E91,ri,cellp,ints,-lendN,-lend1,hb,hk,g_hset,check_go,hok]|refine aI ?_ fun _=>?_|refine oI fun _=>?_|refine nI ?_ ?_)
   all_goals exact(by(try simp -dsimp only [hpush_hps,hps_app,List.cons_append,List.nil_append,hps_over]); refine ob_hle ?_; simp -dsimp [allK]<;>exact rz)
  ·have hc':(c == 0)=false:=by simpa using hc
   have h1:s.doOk ⟨5,a,b,c⟩=false:=by simp [HG.doOk,hc]
   have h2:s.after ⟨5,a,b,c⟩=s:=by simp [HG.after,h1]
   rw [h1,h2]
   by_cases hb:b=0<;>simp -dsimp [Tryz.f91,E91,hb,hc,-lendN,-lend1]<;>repeat' (first|omega|simp -dsimp [E91,ri,cellp,ints,-lendN,-lend1,hb,hc,hc',hk,g_hset,check_go,hok]|refine aI ?_ fun _=>?_|refine oI fun _=>?_|refine nI ?_ ?_)
   all_goals exact(by(try simp -dsimp only [hpush_hps,hps_app,List.cons_append,List.nil_append,hps_over]); refine ob_hle ?_; simp -dsimp [allK]<;>exact rz)
 by_cases hal:b=0∧c=0
 case neg=>
  have hal':(b == 0 && c == 0)=false:=by
   cases h:(b == 0 && c == 0)
   ·rfl
   ·exact absurd (by simpa using h) hal
  have h1:s.doOk ⟨k,a,b,c⟩=false:=by simp [HG.doOk,Wk.alone,k1,k2,k5,hal']
  have h2:s.after ⟨k,a,b,c⟩=s:=by simp [HG.after,h1]
  rw [h1,h2]
  by_cases k3:k=3
  ·subst k3
   by_cases hb:b=0
   ·have hc:¬ c=0:=fun h=>hal ⟨hb,h⟩
    simp -dsimp [Tryz.f91,E91,hb,hc,-lendN,-lend1]
    repeat' (first|omega|simp -dsimp [E91,ri,cellp,ints,-lendN,-lend1,hb,hc,hk,g_hset]|refine aI ?_ fun _=>?_|refine oI fun _=>?_|refine nI ?_ ?_)
    exact(by(try simp -dsimp only [hpush_hps,hps_app,List.cons_append,List.nil_append,hps_over]); refine ob_hle ?_; simp -dsimp [allK]<;>exact rz)
   ·simp -dsimp [Tryz.f91,E91,hb,-lendN,-lend1]
    repeat' (first|omega|simp -dsimp [E91,ri,cellp,ints,-lendN,-lend1,hb,hk,g_hset]|refine aI ?_ fun _=>?_|refine oI fun _=>?_|refine nI ?_ ?_)
    exact(by(try simp -dsimp only [hpush_hps,hps_app,List.cons_append,List.nil_append,hps_over]); refine ob_hle ?_; simp -dsimp [allK]<;>exact rz)
  by_cases k4:k=4
  ·subst k4
   by_cases hb:b=0
   ·have hc:¬ c=0:=fun h=>hal ⟨hb,h⟩
    simp -dsimp [Tryz.f91,E91,hb,hc,-lendN,-lend1]
    repeat' (first|omega|simp -dsimp [E91,ri,cellp,ints,-lendN,-lend1,hb,hc,hk,g_hset]|refine aI ?_ fun _=>?_|refine oI fun _=>?_|refine nI ?_ ?_)
    exact(by(try simp -dsimp only [hpush_hps,hps_app,List.cons_append,List.nil_append,hps_over]); refine ob_hle ?_; simp -dsimp [allK]<;>exact rz)
   ·simp -dsimp [Tryz.f91,E91,hb,-lendN,-lend1]
    repeat' (first|omega|simp -dsimp [E91,ri,cellp,ints,-lendN,-lend1,hb,hk,g_hset]|refine aI ?_ fun _=>?_|refine oI fun _=>?_|refine nI ?_ ?_)
    exact(by(try simp -dsimp only [hpush_hps,hps_app,List.cons_append,List.nil_append,hps_over]); refine ob_hle ?_; simp -dsimp [allK]<;>exact rz)
  by_cases k6:k=6
  ·subst k6
   by_cases hb:b=0
   ·have hc:¬ c=0:=fun h=>hal ⟨hb,h⟩
    simp -dsimp [Tryz.f91,E91,hb,hc,-lendN,-lend1]
    repeat' (first|omega|simp -dsimp [E91,ri,cellp,ints,-lendN,-lend1,hb,hc,hk,g_hset]|refine aI ?_ fun _=>?_|refine oI fun _=>?_|refine nI ?_ ?_)
    exact(by(try simp -dsimp only [hpush_hps,hps_app,List.cons_append,List.nil_append,hps_over]); refine ob_hle ?_; simp -dsimp [allK]<;>exact rz)
   ·simp -dsimp [Tryz.f91,E91,hb,-lendN,-lend1]
    repeat' (first|omega|simp -dsimp [E91,ri,cellp,ints,-lendN,-lend1,hb,hk,g_hset]|refine aI ?_ fun _=>?_|refine oI fun _=>?_|refine nI ?_ ?_)
    exact(by(try simp -dsimp only [hpush_hps,hps_app,List.cons_append,List.nil_append,hps_over]); refine ob_hle ?_; simp -dsimp [allK]<;>exact rz)
  by_cases hb:b=0<;>by_cases hc:c=0<;>simp -dsimp [Tryz.f91,E91,hb,hc,k1,k2,k3,k4,k5,k6,-lendN,-lend1]<;>repeat' (first|omega|simp -dsimp [E91,ri,cellp,ints,-lendN,-lend1,hb,hc,hk,k1,k2,k3,k4,k5,k6,g_hset]|refine aI ?_ fun _=>?_|refine oI fun _=>?_|refine nI ?_ ?_)
  all_goals exact(by(try simp -dsimp only [hpush_hps,hps_app,List.cons_append,List.nil_append,hps_over]); refine ob_hle ?_; simp -dsimp [allK]<;>exact rz)
 obtain⟨hb,hc⟩:=hal
 subst hb
 subst hc
 by_cases k3:k=3
 ·subst k3
  have h1:s.doOk ⟨3,a,0,0⟩=s.takeOk a:=by simp [HG.doOk,Wk.alone]
  have h2:s.after ⟨3,a,0,0⟩=if s.takeOk a=true then s.takeDo a else s:=by rw [←h1]; simp [HG.after,HG.doDo]
  rw [h1,h2]
  cases c1:s.i.part a
  ·have hf:s.takeOk a=false:=by simp [HG.takeOk,c1]
   simp -dsimp [Tryz.f91,E91,-lendN,-lend1]
   repeat' (first|omega|simp -dsimp [E91,ri,cellp,ints,-lendN,-lend1,hk,g_hset,HI.v,hiE_dec',c1,hf]|refine aI ?_ fun _=>?_|refine oI fun _=>?_|refine nI ?_ ?_)
   exact(by(try simp -dsimp only [hpush_hps,hps_app,List.cons_append,List.nil_append,hps_over]); refine ob_hle ?_; simp -dsimp [allK]<;>exact rz)
  have hps:=hok.ps
  obtain⟨ni,rfl,hni⟩:=withinB_nat (m:=s.ps.length) (by omega) c1
  obtain⟨p,hp,hp'⟩:=get_ex hni
  have hpts:=ptsV_ne (n:=s.ps.length) (by omega)
  have hptB:=ptsB_ne (n:=s.ps.length) (by omega)
  have hmx:=mapIdx_get hp
  have hgp:s.ps.getD ni default=p:=by simp [List.getD,hp]
  have hval:s.takeOk ni=decide (0≤p.a):=by simp only [HG.takeOk,c1,Int.toNat_natCast,hgp,Bool.true_and]
  by_cases hpa:p.a<0
  ·have hf:s.takeOk ni=false:=by rw [hval]; simp; omega
   simp -dsimp [Tryz.f91,E91,-lendN,-lend1]
   repeat' (first|omega|simp -dsimp [E91,ri,cellp,ints,-lendN,-lend1,hk,g_hset,HI.v,hiE_dec',c1,hf,hni,hp,hp',hpts,hptB,PS.blk,PS.row,hpa]|refine aI ?_ fun _=>?_|refine oI fun _=>?_|refine nI ?_ ?_)
   exact(by(try simp -dsimp only [hpush_hps,hps_app,List.cons_append,List.nil_append,hps_over]); refine ob_hle ?_; simp -dsimp [allK]<;>exact rz)
  have hf:s.takeOk ni=true:=by rw [hval]; simp; omega
  obtain⟨_,i,l,hh1,hh2⟩:=hok.at_ ni p hp (by omega)
  obtain⟨hnh,hh1'⟩:=List.getElem?_eq_some_iff.1 hh1
  have hdo:s.takeDo ni=({s with ps:=s.ps.set ni ⟨p.kind,p.hours,p.cycles,p.known,-1,-1,p.since,p.chk⟩}:HG).endd i s.wk:=by
   rw [HG.takeDo,take_eq hp]; simp [HG.hist,List.getD,hh1]
  have hw:=fun h a b c e f d=>w_part (s:=s) (h:=h) hp a b c e f d
  have hE:∃l',EndOk ({s with ps:=s.ps.set ni ⟨p.kind,p.hours,p.cycles,p.known,-1,-1,p.since,p.chk⟩}:HG) i l'∧l.length=l'.length:=⟨l,⟨hh2.at_,hh2.ne,hh2.len,hh2.m0,hh2.m1⟩,rfl⟩
  simp -dsimp [Tryz.f91,E91,-lendN,-lend1]
  repeat' (first|omega|simp -dsimp [E91,ri,cellp,ints,-lendN,-lend1,hk,g_hset,HI.v,hiE_dec',c1,hf,hni,hp,hp',hpts,hptB,PS.blk,PS.row,hpa,hw,hnh,hh1,hh1',hiV_some,end_go,hE,hdo]|refine aI ?_ fun _=>?_|refine oI fun _=>?_|refine nI ?_ ?_)
  all_goals exact(by(try simp -dsimp only [hpush_hps,hps_app,List.cons_append,List.nil_append,hps_over]); refine ob_hle ?_; simp -dsimp [allK]<;>exact rz)
 by_cases k4:k=4
 ·subst k4
  have h1:s.doOk ⟨4,a,0,0⟩=s.issueOk a:=by simp [HG.doOk,Wk.alone]
  have h2:s.after ⟨4,a,0,0⟩=if s.issueOk a=true then s.issueDo a else s:=by rw [←h1]; simp [HG.after,HG.doDo]
  rw [h1,h2]
  cases c1:s.i.order a
  ·have hf:s.issueOk a=false:=by simp [HG.issueOk,c1]
   simp -dsimp [Tryz.f91,E91,-lendN,-lend1]
   repeat' (first|omega|simp -dsimp [E91,ri,cellp,ints,-lendN,-lend1,hk,g_hset,HI.v,hiE_dec',c1,hf]|refine aI ?_ fun _=>?_|refine oI fun _=>?_|refine nI ?_ ?_)
   exact(by(try simp -dsimp only [hpush_hps,hps_app,List.cons_append,List.nil_append,hps_over]); refine ob_hle ?_; simp -dsimp [allK]<;>exact rz)
  have hos:=hok.orders
  obtain⟨oi,rfl,hoi⟩:=withinB_nat (m:=s.r.orders.length) (by omega) c1
  have l1:oi<s.iss.length:=by have:=hok.iss; omega
  obtain⟨b1,hb1,hb1'⟩:=get_ex l1
  have hgb:s.iss.getD oi false=b1:=by simp [List.getD,hb1]
  have hval:s.issueOk oi=!b1:=by simp only [HG.issueOk,c1,Int.toNat_natCast,hgb,Bool.true_and]
  have hw:=fun h=>w_iss (s:=s) (h:=h) (j:=oi) true
  have hdo:s.issueDo oi={s with iss:=s.iss.set oi true}:=rfl
  cases b1
  ·have hf:s.issueOk oi=true:=by rw [hval]; rfl
   simp -dsimp [Tryz.f91,E91,-lendN,-lend1]
   repeat' (first|omega|simp -dsimp [E91,ri,cellp,ints,-lendN,-lend1,hk,g_hset,HI.v,hiE_dec',c1,hf,l1,hb1,hb1',rb,hw,hdo]|refine aI ?_ fun _=>?_|refine oI fun _=>?_|refine nI ?_ ?_)
   all_goals exact(by(try simp -dsimp only [hpush_hps,hps_app,List.cons_append,List.nil_append,hps_over]); refine ob_hle ?_; simp -dsimp [allK]<;>exact rz)
  ·have hf:s.issueOk oi=false:=by rw [hval]; rfl
   simp -dsimp [Tryz.f91,E91,-lendN,-lend1]
   repeat' (first|omega|simp -dsimp [E91,ri,cellp,ints,-lendN,-lend1,hk,g_hset,HI.v,hiE_dec',c1,hf,l1,hb1,hb1',rb]|refine aI ?_ fun _=>?_|refine oI fun _=>?_|refine nI ?_ ?_)
   all_goals exact(by(try simp -dsimp only [hpush_hps,hps_app,List.cons_append,List.nil_append,hps_over]); refine ob_hle ?_; simp -dsimp [allK]<;>exact rz)
 by_cases k6:k=6
 ·subst k6
  have h1:s.doOk ⟨6,a,0,0⟩=s.scrapOk a:=by simp [HG.doOk,Wk.alone]
  have h2:s.after ⟨6,a,0,0⟩=if s.scrapOk a=true then s.put a (-2) (-2)else s:=by rw [←h1]; simp [HG.after,HG.doDo]
  rw [h1,h2]
  cases c1:s.i.part a
  ·have hf:s.scrapOk a=false:=by simp [HG.scrapOk,c1]
   simp -dsimp [Tryz.f91,E91,-lendN,-lend1]
   repeat' (first|omega|simp -dsimp [E91,ri,cellp,ints,-lendN,-lend1,hk,g_hset,HI.v,hiE_dec',c1,hf]|refine aI ?_ fun _=>?_|refine oI fun _=>?_|refine nI ?_ ?_)
   exact(by(try simp -dsimp only [hpush_hps,hps_app,List.cons_append,List.nil_append,hps_over]); refine ob_hle ?_; simp -dsimp [allK]<;>exact rz)
  have hps:=hok.ps
  obtain⟨ni,rfl,hni⟩:=withinB_nat (m:=s.ps.length) (by omega) c1
  obtain⟨p,hp,hp'⟩:=get_ex hni
  have hpts:=ptsV_ne (n:=s.ps.length) (by omega)
  have hptB:=ptsB_ne (n:=s.ps.length) (by omega)
  have hmx:=mapIdx_get hp
  have hgp:s.ps.getD ni default=p:=by simp [List.getD,hp]
  have hval:s.scrapOk ni=(p.a == -1 && p.b == -1):=by simp only [HG.scrapOk,c1,Int.toNat_natCast,hgp,Bool.true_and]
  have hw:=fun h a b c e f d=>w_part (s:=s) (h:=h) hp a b c e f d
  cases c3:(p.a == -1 && p.b == -1)
  ·have hf:s.scrapOk ni=false:=by rw [hval,c3]
   simp -dsimp [Tryz.f91,E91,-lendN,-lend1]
   repeat' (first|omega|simp -dsimp [E91,ri,cellp,ints,-lendN,-lend1,hk,g_hset,HI.v,hiE_dec',c1,c3,hf,hni,hp,hp',hpts,hptB,PS.blk,PS.row]|refine aI ?_ fun _=>?_|refine oI fun _=>?_|refine nI ?_ ?_)
   exact(by(try simp -dsimp only [hpush_hps,hps_app,List.cons_append,List.nil_append,hps_over]); refine ob_hle ?_; simp -dsimp [allK]<;>exact rz)
  ·have hf:s.scrapOk ni=true:=by rw [hval,c3]
   simp -dsimp [Tryz.f91,E91,-lendN,-lend1]
   repeat' (first|omega|simp -dsimp [E91,ri,cellp,ints,-lendN,-lend1,hk,g_hset,HI.v,hiE_dec',c1,c3,hf,hni,hp,hp',hpts,hptB,PS.blk,PS.row,hw,take_eq hp]|refine aI ?_ fun _=>?_|refine oI fun _=>?_|refine nI ?_ ?_)
   all_goals exact(by(try simp -dsimp only [hpush_hps,hps_app,List.cons_append,List.nil_append,hps_over]); refine ob_hle ?_; simp -dsimp [allK]<;>exact rz)
 have h1:s.doOk ⟨k,a,0,0⟩=false:=by simp [HG.doOk,k1,k2,k5,k3,k4,k6]
 have h2:s.after ⟨k,a,0,0⟩=s:=by simp [HG.after,h1]
 rw [h1,h2]
 simp -dsimp [Tryz.f91,E91,k1,k2,k3,k4,k5,k6,-lendN,-lend1]
 repeat' (first|omega|simp -dsimp [E91,ri,cellp,ints,-lendN,-lend1,hk,k1,k2,k3,k4,k5,k6,g_hset]|refine aI ?_ fun _=>?_|refine oI fun _=>?_|refine nI ?_ ?_)
 all_goals exact(by(try simp -dsimp only [hpush_hps,hps_app,List.cons_append,List.nil_append,hps_over]); refine ob_hle ?_; simp -dsimp [allK]<;>exact rz)
theorem ok91:FnOK Tryz.prog 91 (.heap doS):=pfH b91 (.cons ok149 (.cons ok150 (.cons ok151 (.cons ok152 (.cons ok154 (.cons ok153 .nil)))))) (fun args h hc=>by obtain⟨_,_,_,rfl,_⟩:=obS_inv hgL_keys hc; simp)
end Go.Sx
end
end
