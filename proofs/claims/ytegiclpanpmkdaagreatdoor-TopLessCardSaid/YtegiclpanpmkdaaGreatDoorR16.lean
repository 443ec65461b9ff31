/- A part of a proof; no conditions. -/
import Derived.Test.YtegiclpanpmkdaaGreatDoorR15
set_option linter.all false
set_option maxRecDepth 100000
set_option maxHeartbeats 8000000
noncomputable section
section
namespace Go.Sx
open Go.Proofs
attribute [local simp] ri aa ints
attribute [local irreducible] bA
attribute [local simp] aG
section
variable [aO]
theorem ain(s:HG)(h:Hp)(a b c d e f:Int) :
  bD (Ob dh s h) 20315 {z:=6,els:=[[.int .i64 a,.int .i64 b,.int .i64 c,.int .i64 d,.int .i64 e,.int .i64 f]],ty:=339,fz:=false,cl:=true}=Ob dh {s with hb:=s.hb++[[⟨a,b,c,d,e,f⟩]]} h:=amf (s:=s) (h:=h) [⟨a,b,c,d,e,f⟩]
theorem aio(s:HG)(h:Hp)(i:Nat)(l:List oJ)(a b c d e f:Int) :
  bE (Ob dh s h) 20315 i {z:=6,els:=l.map oJ.row++[[.int .i64 a,.int .i64 b,.int .i64 c,.int .i64 d,.int .i64 e,.int .i64 f]],ty:=339,fz:=false,cl:=true}=Ob dh {s with hb:=s.hb.set i (l++[⟨a,b,c,d,e,f⟩])} h:=by
 have:=agM (s:=s) (h:=h) (i:=i) (l++[⟨a,b,c,d,e,f⟩]);simp only [GP,List.map_append,List.map_cons,List.map_nil,oJ.row]at this;exact this
end
theorem ER:DX none=.nil:=rfl
theorem yJ(i n:Nat):DX (some (i,n))=.bw 20315 i n:=rfl
def HG.gL(s:HG)(n m pl:Int):Bool:=
 s.i.part n && (s.i.machine m && (((s.ps.getD n.toNat default).a == -1 && (s.ps.getD n.toNat default).b == -1) && ((s.ps.getD n.toNat default).known &&
  (au pl 0 (cM (s.r.kinds.getD (s.ps.getD n.toNat default).kind.toNat default).places 1) && decide (s.i.at (s.ps.getD n.toNat default).kind m pl<0)))))
def HG.stt(s:HG)(m pl:Int):oJ:=⟨m,pl,s.wk,-1,(s.fl.getD m.toNat (0,0)).1,(s.fl.getD m.toNat (0,0)).2⟩
def HG.pN(s:HG)(n m pl:Int):HG:=
 match s.hi.getD n.toNat none with
 | none=>{s with ps:=s.ps.set n.toNat {s.ps.getD n.toNat default with a:=m,b:=pl},hi:=s.hi.set n.toNat (some (s.hb.length,1)),hb:=s.hb++[[s.stt m pl]],cZ:=false}
 | some (i,k)=>{s with ps:=s.ps.set n.toNat {s.ps.getD n.toNat default with a:=m,b:=pl},hi:=s.hi.set n.toNat (some (i,k+1)),hb:=s.hb.set i (s.hb.getD i []++[s.stt m pl]),cZ:=false}
noncomputable abbrev XE:bB:=ES dh hkeys n3E (fun s _ h=>s.Ok/\Blank [20210] h) (fun s d _=>.bool (s.gL d.a d.b d.c)) (fun s d=>if s.gL d.a d.b d.c=true then s.pN d.a d.b d.c else s) fun _ _ h=>ec [20210] 1 h
theorem acL(s:HG)(a b c:Int)(h:Hp):XE.go [.bG 14119 0 1 0 0,.int .i64 a,.int .i64 b,.int .i64 c] (Ob dh s h)=⟨s.Ok/\Blank [20210] (Ob dh s h),.bool (s.gL a b c),Ob dh (if s.gL a b c=true then s.pN a b c else s) (ec [20210] 1 (Ob dh s h))⟩:=
 lH bW sS KE s ⟨a,b,c⟩ h
noncomputable abbrev Ti:=EV [(78,.pure oL),(79,.pure bF),(204,.pure Eb),(207,.pure haS)] [] 20200 117
theorem anZ:ct Ti [(7,([],[[0,1,2,3,4,5,6,7,8,9,10,11,12,13,14,15,16,17,18,19,20,21,22,23,24,25,26,27,28,29,30,31,32,33,34,35,36,37,38],[0,1,2,4,5,6,7,8,9,10,11,12,13,14,15,16,17,18,19,20,21,22,23,24,25,26,27,28,29,30,31,32,33,34,35,36,3,37,38]]))] Tryz.f202 XE:=by
 intro args h hc;obtain⟨s,⟨n,m,pl⟩,hh,rfl,⟨hok,v3⟩,fV⟩:=dG bW hc;rw [fV];clear fV hc;obtain⟨h0,rfl⟩:∃h0,h=Ob dh s h0:=⟨h,hh⟩
 clear hh;have hk:=hok.hok;have hb:h0 20210={base:=(h0 20210).base,ah:=[]}:=by simpa [Blank]using v3
 clear v3;have v2:h0=hps [(20210,{base:=(h0 20210).base,ah:=[]})] h0:=Blank.self (own:=[20210]) (by simpa [Blank]using hb);clear hb;generalize (h0 20210).base=b at v2;rw [v2];clear v2;simp only [ec,List.map_cons,List.map_nil];cases c1:s.i.part n
 ·have hf:s.gL n m pl=false:=by simp [HG.gL,c1]
  simp -dsimp [Tryz.f202,Ti,-ak,-av];repeat' first|omega|simp -dsimp [Ti,-ak,-av,hk,cN,HI.v,bJ,c1,hf,cN,ec]|apply aI|apply nI|intro
  exact(by(try simp -dsimp only [aV,aG,List.cons_append,List.nil_append,bq]);refine cu ?_;simp -dsimp [aC]<;>exact rz)
 cases c2:s.i.machine m
 ·have hf:s.gL n m pl=false:=by simp [HG.gL,c1,c2]
  simp -dsimp [Tryz.f202,Ti,-ak,-av];repeat' first|omega|simp -dsimp [Ti,-ak,-av,hk,cN,HI.v,bJ,c1,c2,hf,ec]|apply aI|apply nI|intro
  exact(by(try simp -dsimp only [aV,aG,List.cons_append,List.nil_append,bq]);refine cu ?_;simp -dsimp [aC]<;>exact rz)
 have vW:(s.r.ax:Int)<=1000:=hok.m1;have hfl:=hok.fl;obtain⟨mi,rfl,oh⟩:∃k:Nat,m=k/\k<s.fl.length:=by have:=aW (n:=m) (m:=s.fl.length) (by omega) (by rw [hfl];exact c2);exact this
 have hps:=hok.ps;obtain⟨ni,rfl,v1⟩:=aW (m:=s.ps.length) (by omega) c1;obtain⟨p,hp,hp'⟩:=aM v1;have vb:=hok.fit p (hp' ▸ List.getElem_mem v1);have nJ:=l8 (n:=s.ps.length) (by omega);have nK:=nj (n:=s.ps.length) (by omega);have wZ:=iy hp;have M7:s.ps.getD ni default=p:=by simp [List.getD,hp]
 obtain⟨ki,v4⟩:∃ki:Nat,p.kind=ki:=⟨p.kind.toNat,by have:=vb.k0;omega⟩
 have v5:ki<s.r.kinds.length:=by have:p.kind<s.r.kinds.length:=vb.k1;omega
 obtain⟨kd,kj,iA⟩:=aM v5;have vx:s.r.kinds.getD ki default=kd:=by simp [List.getD,kj]
 have v0:s.gL ni mi pl=((p.a == -1 && p.b == -1) && (p.known && (au pl 0 (IntKind.wrap .i64 (kd.places - 1)) && decide (s.i.at ki mi pl<0)))):=by simp only [HG.gL,c1,c2,Int.toNat_natCast,M7,v4,vx,Bool.true_and,cM]
 have v9:s.i.ps.length<=9223372036854775807:=by have:s.i.ps.length<=1000:=hok.ps;omega
 cases c3:(p.a == -1 && p.b == -1)
 ·have hf:s.gL ni mi pl=false:=by rw [v0,c3];rfl
  simp -dsimp [Tryz.f202,Ti,-ak,-av];repeat' first|omega|simp -dsimp [Ti,-ak,-av,hk,cN,HI.v,bJ,c1,c2,c3,hf,v1,hp,hp',nJ,nK,PS.blk,PS.row]|apply aI|apply nI|intro
  exact(by(try simp -dsimp only [aV,aG,List.cons_append,List.nil_append,bq]);refine cu ?_;simp -dsimp [aC]<;>exact rz)
 cases c4:p.known
 ·have hf:s.gL ni mi pl=false:=by rw [v0,c3,c4];rfl
  simp -dsimp [Tryz.f202,Ti,-ak,-av];repeat' first|omega|simp -dsimp [Ti,-ak,-av,hk,cN,HI.v,bJ,c1,c2,c3,c4,hf,v1,hp,hp',nJ,nK,PS.blk,PS.row]|apply aI|apply nI|intro
  exact(by(try simp -dsimp only [aV,aG,List.cons_append,List.nil_append,bq]);refine cu ?_;simp -dsimp [aC]<;>exact rz)
 cases c5:au pl 0 (IntKind.wrap .i64 (kd.places - 1))
 ·have hf:s.gL ni mi pl=false:=by rw [v0,c3,c4,c5];rfl
  simp -dsimp [Tryz.f202,Ti,-ak,-av];repeat' first|omega|simp -dsimp [Ti,-ak,-av,hk,cN,HI.v,bJ,c1,c2,c3,c4,c5,hf,v1,hp,hp',nJ,nK,PS.blk,PS.row,v4,v5,kj,iA,Kd.row]|apply aI|apply nI|intro
  exact(by(try simp -dsimp only [aV,aG,List.cons_append,List.nil_append,bq]);refine cu ?_;simp -dsimp [aC]<;>exact rz)
 by_cases c6:s.i.at ki mi pl<0
 case neg=>
  have hf:s.gL ni mi pl=false:=by rw [v0,c3,c4,c5,decide_eq_false c6];rfl
  have c6':0<=s.i.at ki mi pl:=by omega
  simp -dsimp [Tryz.f202,Ti,-ak,-av];repeat' first|omega|simp -dsimp [Ti,-ak,-av,hk,cN,HI.v,bJ,pP,v9,c1,c2,c3,c4,c5,c6',hf,v1,hp,hp',nJ,nK,PS.blk,PS.row,v4,v5,kj,iA,Kd.row]|apply aI|apply nI|intro
  exact(by(try simp -dsimp only [aV,aG,List.cons_append,List.nil_append,bq]);refine cu ?_;simp -dsimp [aC]<;>exact rz)
 have hf:s.gL ni mi pl=true:=by rw [v0,c3,c4,c5,decide_eq_true c6];rfl
 have c6':¬ 0<=s.i.at ki mi pl:=by omega
 obtain⟨f,W6,acM⟩:=aM oh;have vy:s.fl.getD mi (0,0)=f:=by simp [List.getD,W6]
 have RN:ni<s.hi.length:=by rw [hok.tf];exact v1
 obtain⟨o,ho,ho'⟩:=aM RN;have fV:s.hi.getD ni none=o:=by simp [List.getD,ho]
 have vd:s.stt mi pl=⟨mi,pl,s.wk,-1,f.1,f.2⟩:=by simp only [HG.stt,Int.toNat_natCast,vy]
 have hw:=fun h a b c e f d=>Ci (s:=s) (h:=h) hp a b c e f d;cases o with
 | none=>
  have XF:s.pN ni mi pl={s with ps:=s.ps.set ni ⟨p.kind,p.hours,p.bh,p.known,mi,pl,p.since,p.iV⟩,hi:=s.hi.set ni (some (s.hb.length,1)),hb:=s.hb++[[⟨mi,pl,s.wk,-1,f.1,f.2⟩]],cZ:=false}:=by simp only [HG.pN,Int.toNat_natCast,fV,M7,vd]
  have v6:=fun s h j i k=>agL (s:=s) (h:=h) (j:=j) (i,k);simp only at v6;simp -dsimp [Tryz.f202,Ti,-ak,-av];repeat' first|omega|simp -dsimp [Ti,-ak,-av,hk,cN,HI.v,bJ,pP,v9,c1,c2,c3,c4,c5,c6',hf,v1,hp,hp',nJ,nK,PS.blk,PS.row,v4,v5,kj,iA,Kd.row,hw,RN,ho,ho',ER,yJ,oh,W6,acM,bn,v6,ain,XF]|apply aI|apply nI|intro
  all_goals exact(by(try simp -dsimp only [aV,aG,List.cons_append,List.nil_append,bq]);refine cu ?_;simp -dsimp [aC]<;>exact rz)
 | some x=>
  obtain⟨i,k⟩:=x;obtain⟨l,hl,vP⟩:=hk.hi _ (ho' ▸ List.getElem_mem RN) i k rfl;subst vP;have Aa:=(hok.hl i l hl).1;have amW:(l.length+1) * 48<=140737488355328:=by omega
  have vV:s.hb.getD i []=l:=by simp [List.getD,hl]
  have vX:(s.hb.map GP)[i]?=some {z:=6,els:=l.map oJ.row,ty:=339}:=by rw [List.getElem?_map,hl];rfl
  have XF:s.pN ni mi pl={s with ps:=s.ps.set ni ⟨p.kind,p.hours,p.bh,p.known,mi,pl,p.since,p.iV⟩,hi:=s.hi.set ni (some (i,l.length+1)),hb:=s.hb.set i (l++[⟨mi,pl,s.wk,-1,f.1,f.2⟩]),cZ:=false}:=by simp only [HG.pN,Int.toNat_natCast,fV,M7,vd,vV]
  have v6:=fun s h j i k=>agL (s:=s) (h:=h) (j:=j) (i,k);simp only at v6;simp -dsimp [Tryz.f202,Ti,-ak,-av];repeat' first|omega|simp -dsimp [Ti,-ak,-av,hk,cN,HI.v,bJ,pP,v9,c1,c2,c3,c4,c5,c6',hf,v1,hp,hp',nJ,nK,PS.blk,PS.row,v4,v5,kj,iA,Kd.row,hw,RN,ho,ho',ER,yJ,oh,W6,acM,bn,v6,aio,hl,Aa,amW,GP,XF]|apply aI|apply nI|intro
  all_goals exact(by(try simp -dsimp only [aV,aG,List.cons_append,List.nil_append,bq]);refine cu ?_;simp -dsimp [aC]<;>exact rz)
theorem aje:dM Tryz.prog 202 (.heap XE):=yE anZ (.cons alp (.cons aoz (.cons awL (.cons ayb .nil)))) (fun args h hc=>by obtain⟨_,_,_,rfl,_⟩:=dG bW hc;simp)
end Go.Sx
end
section
namespace Go.Sx
open Go.Proofs
attribute [local simp] ri aa ints
attribute [local irreducible] bA
attribute [local simp] aG
def Wk.alone(w:Wk):Bool:=w.b == 0 && w.c == 0
def HG.lI(s:HG)(n:Int):Bool:=s.i.part n && decide (0<=(s.ps.getD n.toNat default).a)
def HG.put(s:HG)(n a b:Int):HG:={s with ps:=s.ps.set n.toNat {s.ps.getD n.toNat default with a:=a,b:=b}}
def HG.M8(s:HG)(n:Int):Nat:=match s.hi.getD n.toNat none with|some (i,_)=>i|none=>0
def HG.uV(s:HG)(n:Int):HG:=(s.put n (-1) (-1)).ET (s.M8 n) s.wk
def HG.jK(s:HG)(n:Int):Bool:=s.i.order n && !s.aX.getD n.toNat false
def HG.xx(s:HG)(n:Int):HG:={s with aX:=s.aX.set n.toNat true}
def HG.jL(s:HG)(n:Int):Bool:=s.i.part n && ((s.ps.getD n.toNat default).a == -1 && (s.ps.getD n.toNat default).b == -1)
def HG.eu(s:HG)(w:Wk):Bool:=
 if w.kind=1 then s.iN w.a w.b w.c else if w.kind=2 then s.gL w.a w.b w.c else if w.kind=5 then (w.c == 0 && s.iO w.a w.b)else
 if w.kind=3 then (w.alone && s.lI w.a)else if w.kind=4 then (w.alone && s.jK w.a)else if w.kind=6 then (w.alone && s.jL w.a)else false
def HG.lJ(s:HG)(w:Wk):HG:=
 if w.kind=1 then s.kE w.a w.b w.c else if w.kind=2 then s.pN w.a w.b w.c else if w.kind=5 then s.yK w.a w.b else
 if w.kind=3 then s.uV w.a else if w.kind=4 then s.xx w.a else if w.kind=6 then s.put w.a (-2) (-2)else s
def HG.after(s:HG)(w:Wk):HG:=if s.eu w=true then s.lJ w else s
@[simp] def doE(_:HG)(w:Wk):List V:=[.bG 14119 0 1 0 0,.agg w.row]
theorem XG(s:HG)(d d':Wk)(h:doE s d=doE s d'):d=d':=Wk.aq _ _ (by simpa using h)
abbrev om:List Nat:=[14203,20210]
noncomputable abbrev doS:bB:=ES dh hkeys doE (fun s _ h=>s.Ok/\Blank om h) (fun s w _=>.bool (s.eu w)) HG.after fun _ _ h=>ec om 1 h
theorem aiq(s:HG)(w:Wk)(h:Hp):doS.go [.bG 14119 0 1 0 0,.agg w.row] (Ob dh s h)=⟨s.Ok/\Blank om (Ob dh s h),.bool (s.eu w),Ob dh (s.after w) (ec om 1 (Ob dh s h))⟩:=
 lH bW sS XG s w h
theorem KG{s:HG}{n:Nat}{p:PS}(hp:s.ps[n]?=some p)(a b:Int):s.put n a b={s with ps:=s.ps.set n ⟨p.kind,p.hours,p.bh,p.known,a,b,p.since,p.iV⟩}:=by simp [HG.put,List.getD,hp]
noncomputable abbrev adO:=EV [(201,.heap fK),(202,.heap XE),(203,.heap CT),(204,.pure Eb),(206,.pure Ck),(205,.heap XH)] [] 14200 165
theorem an5:ct adO [] Tryz.f142 doS:=by
 intro args h hc;obtain⟨s,⟨k,a,b,c⟩,hh,rfl,⟨hok,v3⟩,fV⟩:=dG bW hc;rw [fV];clear fV hc;obtain⟨h0,rfl⟩:∃h0,h=Ob dh s h0:=⟨h,hh⟩
 clear hh;have hk:=hok.hok;have hb:∀k∈om,h0 k={base:=(h0 k).base,ah:=[]}:=by intro k hk;have:=v3 k hk;rw [abQ _ _ (by simp only [om,List.mem_cons,List.not_mem_nil,or_false]at hk;rcases hk with rfl|rfl<;>simp)]at this;exact this
 clear v3;have v2:h0=hps [(14203,{base:=(h0 14203).base,ah:=[]}),(20210,{base:=(h0 20210).base,ah:=[]})] h0:=Blank.self (own:=om) hb;clear hb;generalize (h0 14203).base=e1 at v2;generalize (h0 20210).base=e2 at v2;rw [v2];clear v2;have vs:∀k a b c,Wk.row ⟨k,a,b,c⟩=[.int .i64 k,.int .i64 a,.int .i64 b,.int .i64 c]:=fun _ _ _ _=>rfl;simp only [ec,om,List.map_cons,List.map_nil,doE,vs];have ry:∀(S:Site) (x:Nat),Blank [20210] (Ob dh s (hps [(14203,S),(20210,{base:=x,ah:=[]})] h0)):=by intro S x k hk;simp only [List.mem_cons,List.not_mem_nil,or_false]at hk;subst hk;simp
 by_cases k1:k=1
 ·subst k1;have h1:s.eu ⟨1,a,b,c⟩=s.iN a b c:=by simp [HG.eu]
  have h2:s.after ⟨1,a,b,c⟩=if s.iN a b c=true then s.kE a b c else s:=by simp [HG.after,HG.lJ,h1]
  rw [h1,h2];by_cases hb:b=0<;>by_cases hc:c=0<;>simp -dsimp [Tryz.f142,adO,hb,hc,-ak,-av]<;>repeat' first|omega|simp -dsimp [adO,-ak,-av,hb,hc,hk,cN,acN,hok]|apply aI|apply nI|intro
  all_goals exact(by(try simp -dsimp only [aV,aG,List.cons_append,List.nil_append,bq]);refine cu ?_;simp -dsimp [aC]<;>exact rz)
 by_cases k2:k=2
 ·subst k2;have h1:s.eu ⟨2,a,b,c⟩=s.gL a b c:=by simp [HG.eu]
  have h2:s.after ⟨2,a,b,c⟩=if s.gL a b c=true then s.pN a b c else s:=by simp [HG.after,HG.lJ,h1]
  rw [h1,h2];by_cases hb:b=0<;>by_cases hc:c=0<;>simp -dsimp [Tryz.f142,adO,hb,hc,-ak,-av]<;>repeat' first|omega|simp -dsimp [adO,-ak,-av,hb,hc,hk,cN,acL,hok,ry,ec]|apply aI|apply nI|intro
  all_goals exact(by(try simp -dsimp only [aV,aG,List.cons_append,List.nil_append,bq]);refine cu ?_;simp -dsimp [aC]<;>exact rz)
 by_cases k5:k=5
 ·subst k5;by_cases hc:c=0
  ·subst hc;have h1:s.eu ⟨5,a,b,0⟩=s.iO a b:=(by simp [HG.eu]);have h2:s.after ⟨5,a,b,0⟩=if s.iO a b=true then s.yK a b else s:=(by rw [<-h1];simp [HG.after,HG.lJ]);rw [h1,h2];by_cases hb:b=0<;>simp -dsimp [Tryz.f142,adO,hb,-ak,-av]<;>repeat' first|omega|simp -dsimp [adO,-ak,-av,hb,hk,cN,EU,hok]|apply aI|apply nI|intro
   all_goals exact(by(try simp -dsimp only [aV,aG,List.cons_append,List.nil_append,bq]);refine cu ?_;simp -dsimp [aC]<;>exact rz)
  ·have Hv:(c == 0)=false:=(by simpa using hc);have h1:s.eu ⟨5,a,b,c⟩=false:=(by simp [HG.eu,hc]);have h2:s.after ⟨5,a,b,c⟩=s:=(by simp [HG.after,h1]);rw [h1,h2];by_cases hb:b=0<;>simp -dsimp [Tryz.f142,adO,hb,hc,-ak,-av]<;>repeat' first|omega|simp -dsimp [adO,-ak,-av,hb,hc,Hv,hk,cN,EU,hok]|apply aI|apply nI|intro
   all_goals exact(by(try simp -dsimp only [aV,aG,List.cons_append,List.nil_append,bq]);refine cu ?_;simp -dsimp [aC]<;>exact rz)
 by_cases v7:b=0/\c=0
 case neg=>
  have amX:(b == 0 && c == 0)=false:=by
   cases h:(b == 0 && c == 0)
   ·rfl
   ·exact absurd (by simpa using h) v7
  have h1:s.eu ⟨k,a,b,c⟩=false:=by simp [HG.eu,Wk.alone,k1,k2,k5,amX]
  have h2:s.after ⟨k,a,b,c⟩=s:=by simp [HG.after,h1]
  rw [h1,h2];by_cases k3:k=3
  ·subst k3;by_cases hb:b=0
   ·have hc:¬ c=0:=fun h=>v7 ⟨hb,h⟩;simp -dsimp [Tryz.f142,adO,hb,hc,-ak,-av];repeat' first|omega|simp -dsimp [adO,-ak,-av,hb,hc,hk,cN]|apply aI|apply nI|intro
    exact(by(try simp -dsimp only [aV,aG,List.cons_append,List.nil_append,bq]);refine cu ?_;simp -dsimp [aC]<;>exact rz)
   ·simp -dsimp [Tryz.f142,adO,hb,-ak,-av];repeat' first|omega|simp -dsimp [adO,-ak,-av,hb,hk,cN]|apply aI|apply nI|intro
    exact(by(try simp -dsimp only [aV,aG,List.cons_append,List.nil_append,bq]);refine cu ?_;simp -dsimp [aC]<;>exact rz)
  by_cases k4:k=4
  ·subst k4;by_cases hb:b=0
   ·have hc:¬ c=0:=fun h=>v7 ⟨hb,h⟩;simp -dsimp [Tryz.f142,adO,hb,hc,-ak,-av];repeat' first|omega|simp -dsimp [adO,-ak,-av,hb,hc,hk,cN]|apply aI|apply nI|intro
    exact(by(try simp -dsimp only [aV,aG,List.cons_append,List.nil_append,bq]);refine cu ?_;simp -dsimp [aC]<;>exact rz)
   ·simp -dsimp [Tryz.f142,adO,hb,-ak,-av];repeat' first|omega|simp -dsimp [adO,-ak,-av,hb,hk,cN]|apply aI|apply nI|intro
    exact(by(try simp -dsimp only [aV,aG,List.cons_append,List.nil_append,bq]);refine cu ?_;simp -dsimp [aC]<;>exact rz)
  by_cases k6:k=6
  ·subst k6;by_cases hb:b=0
   ·have hc:¬ c=0:=fun h=>v7 ⟨hb,h⟩;simp -dsimp [Tryz.f142,adO,hb,hc,-ak,-av];repeat' first|omega|simp -dsimp [adO,-ak,-av,hb,hc,hk,cN]|apply aI|apply nI|intro
    exact(by(try simp -dsimp only [aV,aG,List.cons_append,List.nil_append,bq]);refine cu ?_;simp -dsimp [aC]<;>exact rz)
   ·simp -dsimp [Tryz.f142,adO,hb,-ak,-av];repeat' first|omega|simp -dsimp [adO,-ak,-av,hb,hk,cN]|apply aI|apply nI|intro
    exact(by(try simp -dsimp only [aV,aG,List.cons_append,List.nil_append,bq]);refine cu ?_;simp -dsimp [aC]<;>exact rz)
  by_cases hb:b=0<;>by_cases hc:c=0<;>simp -dsimp [Tryz.f142,adO,hb,hc,k1,k2,k3,k4,k5,k6,-ak,-av]<;>repeat' first|omega|simp -dsimp [adO,-ak,-av,hb,hc,hk,k1,k2,k3,k4,k5,k6,cN]|apply aI|apply nI|intro
  all_goals exact(by(try simp -dsimp only [aV,aG,List.cons_append,List.nil_append,bq]);refine cu ?_;simp -dsimp [aC]<;>exact rz)
 obtain⟨hb,hc⟩:=v7;subst hb;subst hc;by_cases k3:k=3
 ·subst k3;have h1:s.eu ⟨3,a,0,0⟩=s.lI a:=by simp [HG.eu,Wk.alone]
  have h2:s.after ⟨3,a,0,0⟩=if s.lI a=true then s.uV a else s:=by rw [<-h1];simp [HG.after,HG.lJ]
  rw [h1,h2];cases c1:s.i.part a
  ·have hf:s.lI a=false:=(by simp [HG.lI,c1]);simp -dsimp [Tryz.f142,adO,-ak,-av];repeat' first|omega|simp -dsimp [adO,-ak,-av,hk,cN,HI.v,bJ,c1,hf]|apply aI|apply nI|intro
   exact(by(try simp -dsimp only [aV,aG,List.cons_append,List.nil_append,bq]);refine cu ?_;simp -dsimp [aC]<;>exact rz)
  have hps:=hok.ps;obtain⟨ni,rfl,v1⟩:=aW (m:=s.ps.length) (by omega) c1;obtain⟨p,hp,hp'⟩:=aM v1;have nJ:=l8 (n:=s.ps.length) (by omega);have nK:=nj (n:=s.ps.length) (by omega);have wZ:=iy hp;have M7:s.ps.getD ni default=p:=by simp [List.getD,hp]
  have v0:s.lI ni=decide (0<=p.a):=by simp only [HG.lI,c1,Int.toNat_natCast,M7,Bool.true_and]
  by_cases vr:p.a<0
  ·have hf:s.lI ni=false:=(by rw [v0];simp;omega);simp -dsimp [Tryz.f142,adO,-ak,-av];repeat' first|omega|simp -dsimp [adO,-ak,-av,hk,cN,HI.v,bJ,c1,hf,v1,hp,hp',nJ,nK,PS.blk,PS.row,vr]|apply aI|apply nI|intro
   exact(by(try simp -dsimp only [aV,aG,List.cons_append,List.nil_append,bq]);refine cu ?_;simp -dsimp [aC]<;>exact rz)
  have hf:s.lI ni=true:=by rw [v0];simp;omega
  obtain⟨_,i,l,va,v8⟩:=hok.at_ ni p hp (by omega);obtain⟨RN,amY⟩:=List.getElem?_eq_some_iff.1 va;have XF:s.uV ni=({s with ps:=s.ps.set ni ⟨p.kind,p.hours,p.bh,p.known,-1,-1,p.since,p.iV⟩}:HG).ET i s.wk:=by rw [HG.uV,KG hp];simp [HG.M8,List.getD,va]
  have hw:=fun h a b c e f d=>Ci (s:=s) (h:=h) hp a b c e f d;have hE:∃l',KH ({s with ps:=s.ps.set ni ⟨p.kind,p.hours,p.bh,p.known,-1,-1,p.since,p.iV⟩}:HG) i l'/\l.length=l'.length:=⟨l,⟨v8.at_,v8.ne,v8.len,v8.m0,v8.m1⟩,rfl⟩
  simp -dsimp [Tryz.f142,adO,-ak,-av];repeat' first|omega|simp -dsimp [adO,-ak,-av,hk,cN,HI.v,bJ,c1,hf,v1,hp,hp',nJ,nK,PS.blk,PS.row,vr,hw,RN,va,amY,yJ,acO,hE,XF]|apply aI|apply nI|intro
  all_goals exact(by(try simp -dsimp only [aV,aG,List.cons_append,List.nil_append,bq]);refine cu ?_;simp -dsimp [aC]<;>exact rz)
 by_cases k4:k=4
 ·subst k4;have h1:s.eu ⟨4,a,0,0⟩=s.jK a:=by simp [HG.eu,Wk.alone]
  have h2:s.after ⟨4,a,0,0⟩=if s.jK a=true then s.xx a else s:=by rw [<-h1];simp [HG.after,HG.lJ]
  rw [h1,h2];cases c1:s.i.order a
  ·have hf:s.jK a=false:=(by simp [HG.jK,c1]);simp -dsimp [Tryz.f142,adO,-ak,-av];repeat' first|omega|simp -dsimp [adO,-ak,-av,hk,cN,HI.v,bJ,c1,hf]|apply aI|apply nI|intro
   exact(by(try simp -dsimp only [aV,aG,List.cons_append,List.nil_append,bq]);refine cu ?_;simp -dsimp [aC]<;>exact rz)
  have z0:=hok.az;obtain⟨oi,rfl,O3⟩:=aW (m:=s.r.az.length) (by omega) c1;have l1:oi<s.aX.length:=by have:=hok.aX;omega
  obtain⟨b1,ez,iC⟩:=aM l1;have EV:s.aX.getD oi false=b1:=by simp [List.getD,ez]
  have v0:s.jK oi=!b1:=by simp only [HG.jK,c1,Int.toNat_natCast,EV,Bool.true_and]
  have hw:=fun h=>agK (s:=s) (h:=h) (j:=oi) true;have XF:s.xx oi={s with aX:=s.aX.set oi true}:=rfl;cases b1
  ·have hf:s.jK oi=true:=(by rw [v0];rfl);simp -dsimp [Tryz.f142,adO,-ak,-av];repeat' first|omega|simp -dsimp [adO,-ak,-av,hk,cN,HI.v,bJ,c1,hf,l1,ez,iC,rb,hw,XF]|apply aI|apply nI|intro
   all_goals exact(by(try simp -dsimp only [aV,aG,List.cons_append,List.nil_append,bq]);refine cu ?_;simp -dsimp [aC]<;>exact rz)
  ·have hf:s.jK oi=false:=(by rw [v0];rfl);simp -dsimp [Tryz.f142,adO,-ak,-av];repeat' first|omega|simp -dsimp [adO,-ak,-av,hk,cN,HI.v,bJ,c1,hf,l1,ez,iC,rb]|apply aI|apply nI|intro
   all_goals exact(by(try simp -dsimp only [aV,aG,List.cons_append,List.nil_append,bq]);refine cu ?_;simp -dsimp [aC]<;>exact rz)
 by_cases k6:k=6
 ·subst k6;have h1:s.eu ⟨6,a,0,0⟩=s.jL a:=by simp [HG.eu,Wk.alone]
  have h2:s.after ⟨6,a,0,0⟩=if s.jL a=true then s.put a (-2) (-2)else s:=by rw [<-h1];simp [HG.after,HG.lJ]
  rw [h1,h2];cases c1:s.i.part a
  ·have hf:s.jL a=false:=(by simp [HG.jL,c1]);simp -dsimp [Tryz.f142,adO,-ak,-av];repeat' first|omega|simp -dsimp [adO,-ak,-av,hk,cN,HI.v,bJ,c1,hf]|apply aI|apply nI|intro
   exact(by(try simp -dsimp only [aV,aG,List.cons_append,List.nil_append,bq]);refine cu ?_;simp -dsimp [aC]<;>exact rz)
  have hps:=hok.ps;obtain⟨ni,rfl,v1⟩:=aW (m:=s.ps.length) (by omega) c1;obtain⟨p,hp,hp'⟩:=aM v1;have nJ:=l8 (n:=s.ps.length) (by omega);have nK:=nj (n:=s.ps.length) (by omega);have wZ:=iy hp;have M7:s.ps.getD ni default=p:=by simp [List.getD,hp]
  have v0:s.jL ni=(p.a == -1 && p.b == -1):=by simp only [HG.jL,c1,Int.toNat_natCast,M7,Bool.true_and]
  have hw:=fun h a b c e f d=>Ci (s:=s) (h:=h) hp a b c e f d;cases c3:(p.a == -1 && p.b == -1)
  ·have hf:s.jL ni=false:=(by rw [v0,c3]);simp -dsimp [Tryz.f142,adO,-ak,-av];repeat' first|omega|simp -dsimp [adO,-ak,-av,hk,cN,HI.v,bJ,c1,c3,hf,v1,hp,hp',nJ,nK,PS.blk,PS.row]|apply aI|apply nI|intro
   exact(by(try simp -dsimp only [aV,aG,List.cons_append,List.nil_append,bq]);refine cu ?_;simp -dsimp [aC]<;>exact rz)
  ·have hf:s.jL ni=true:=(by rw [v0,c3]);simp -dsimp [Tryz.f142,adO,-ak,-av];repeat' first|omega|simp -dsimp [adO,-ak,-av,hk,cN,HI.v,bJ,c1,c3,hf,v1,hp,hp',nJ,nK,PS.blk,PS.row,hw,KG hp]|apply aI|apply nI|intro
   all_goals exact(by(try simp -dsimp only [aV,aG,List.cons_append,List.nil_append,bq]);refine cu ?_;simp -dsimp [aC]<;>exact rz)
 have h1:s.eu ⟨k,a,0,0⟩=false:=by simp [HG.eu,k1,k2,k5,k3,k4,k6]
 have h2:s.after ⟨k,a,0,0⟩=s:=by simp [HG.after,h1]
 rw [h1,h2];simp -dsimp [Tryz.f142,adO,k1,k2,k3,k4,k5,k6,-ak,-av];repeat' first|omega|simp -dsimp [adO,-ak,-av,hk,k1,k2,k3,k4,k5,k6,cN]|apply aI|apply nI|intro
 all_goals exact(by(try simp -dsimp only [aV,aG,List.cons_append,List.nil_append,bq]);refine cu ?_;simp -dsimp [aC]<;>exact rz)
theorem Tp:dM Tryz.prog 142 (.heap doS):=yE an5 (.cons aja (.cons aje (.cons ajg (.cons awL (.cons aya (.cons azc .nil)))))) (fun args h hc=>by obtain⟨_,_,_,rfl,_⟩:=dG bW hc;simp)
end Go.Sx
end
end
