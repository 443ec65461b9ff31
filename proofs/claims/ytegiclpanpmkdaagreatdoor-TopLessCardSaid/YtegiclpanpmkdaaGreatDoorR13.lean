/- A part of a proof; no conditions. -/
import Derived.Test.YtegiclpanpmkdaaGreatDoorR08
import Derived.Test.YtegiclpanpmkdaaGreatDoorR10
set_option linter.all false
set_option maxRecDepth 100000
set_option maxHeartbeats 8000000
noncomputable section
section
namespace Go.Sx
structure Kd where
 hours:Int
 bh:Int
 places:Int
 deriving DecidableEq,Inhabited
structure Pt where
 kind:Int
 hours:Int
 bh:Int
 known:Bool
 deriving DecidableEq,Inhabited
structure Od where
 kind:Int
 within:Int
 deriving DecidableEq,Inhabited
structure Wk where
 kind:Int
 a:Int
 b:Int
 c:Int
 deriving DecidableEq,Inhabited
structure oJ where
 machine:Int
 place:Int
 fro:Int
 to:Int
 hours:Int
 bh:Int
 deriving DecidableEq,Inhabited
structure aZ where
 kinds:List Kd
 parts:List Pt
 ax:Int
 az:List Od
 deriving Inhabited
structure PS where
 kind:Int
 hours:Int
 bh:Int
 known:Bool
 a:Int
 b:Int
 since:List Int
 iV:List Bool
 deriving Inhabited
structure HG where
 r:aZ
 ps:List PS
 aX:List Bool
 fl:List (Int × Int)
 wk:Int
 hi:List (Option (Nat × Nat))
 hb:List (List oJ)
 cZ:Bool
 deriving Inhabited
def Kd.row(k:Kd):List V:=[.int .i64 k.hours,.int .i64 k.bh,.int .i64 k.places]
def Pt.row(p:Pt):List V:=[.int .i64 p.kind,.int .i64 p.hours,.int .i64 p.bh,.bool p.known]
def Od.row(o:Od):List V:=[.int .i64 o.kind,.int .i64 o.within]
def Wk.row(w:Wk):List V:=[.int .i64 w.kind,.int .i64 w.a,.int .i64 w.b,.int .i64 w.c]
def oJ.row(t:oJ):List V:=[.int .i64 t.machine,.int .i64 t.place,.int .i64 t.fro,.int .i64 t.to,.int .i64 t.hours,.int .i64 t.bh]
def aZ.row(r:aZ):List V:=[.sl 3 (r.kinds.map Kd.row),.sl 4 (r.parts.map Pt.row),.int .i64 r.ax,.sl 2 (r.az.map Od.row)]
def rb(b:Bool):List V:=[.bool b]
def qO(n:Nat):V:=if n=0 then .nil else .bw 14145 0 n
def Cg(n:Nat):List dZ:=if n=0 then []else [{z:=1,els:=(List.range n).map fun k=>[.bG 14143 k 1 0 0],ty:=151,cl:=false}]
def DX:Option (Nat × Nat)->V
 | none=>.nil
 | some (i,n)=>.bw 20315 i n
def PS.row(p:PS)(k:Nat):List V:=[.int .i64 p.kind,.int .i64 p.hours,.int .i64 p.bh,.bool p.known,.int .i64 p.a,.int .i64 p.b,.bw 14137 k p.since.length,.bw 14141 k p.iV.length]
def PS.blk(k:Nat)(p:PS):dZ:={z:=8,els:=[p.row k],ty:=157,cl:=false}
def HG.row(s:HG):List V:=[.sl 3 (s.r.kinds.map Kd.row),.sl 4 (s.r.parts.map Pt.row),.int .i64 s.r.ax,.sl 2 (s.r.az.map Od.row),qO s.ps.length,.bw 14110 0 s.aX.length,.bw 14113 0 s.fl.length,.int .i64 s.wk,.bw 14117 0 s.hi.length]
def wD(p:PS):dZ:={z:=1,els:=p.since.map ri,ty:=3}
def sR(p:PS):dZ:={z:=1,els:=p.iV.map rb,ty:=4}
def GP(l:List oJ):dZ:={z:=6,els:=l.map oJ.row,ty:=339}
def dh(s:HG):List (Nat × Site):=
 [(14119,{base:=0,ah:=[{z:=9,els:=[s.row],ty:=234,cl:=false}]}),
  (14145,{base:=0,ah:=Cg s.ps.length}),
  (14143,{base:=0,ah:=s.ps.mapIdx PS.blk}),
  (14137,{base:=0,ah:=s.ps.map wD}),
  (14141,{base:=0,ah:=s.ps.map sR}),
  (14110,{base:=0,ah:=[{z:=1,els:=s.aX.map rb,ty:=4}]}),
  (14113,{base:=0,ah:=[{z:=2,els:=s.fl.map bn,ty:=154}]}),
  (14117,{base:=0,ah:=[{z:=1,els:=s.hi.map fun o=>[DX o],ty:=293,cl:=s.cZ}]}),
  (20315,{base:=0,ah:=s.hb.map GP})]
abbrev hkeys:List Nat:=[14119,14145,14143,14137,14141,14110,14113,14117,20315]
theorem bW(s:HG):(dh s).map (·.1)=hkeys:=rfl
section inj
theorem map_inj{α β:Type}{f:α->β}(hf:∀a b,f a=f b->a=b):∀{l l':List α},l.map f=l'.map f->l=l'
 | [],[],_=>rfl
 | [],_::_,h=>by simp at h
 | _::_,[],h=>by simp at h
 | a::l,b::l',h=>by
  simp only [List.map_cons,List.cons.injEq]at h
  rw [hf _ _ h.1,map_inj hf h.2]
theorem Kd.aq(a b:Kd)(h:a.row=b.row):a=b:=by cases a;cases b;simp [Kd.row]at h;simp [h]
theorem Pt.aq(a b:Pt)(h:a.row=b.row):a=b:=by cases a;cases b;simp [Pt.row]at h;simp [h]
theorem Od.aq(a b:Od)(h:a.row=b.row):a=b:=by cases a;cases b;simp [Od.row]at h;simp [h]
theorem Wk.aq(a b:Wk)(h:a.row=b.row):a=b:=by cases a;cases b;simp [Wk.row]at h;simp [h]
theorem oJ.aq(a b:oJ)(h:a.row=b.row):a=b:=by cases a;cases b;simp [oJ.row]at h;simp [h]
theorem uA(a b:Bool)(h:rb a=rb b):a=b:=by simpa [rb]using h
theorem Pk(a b:Int × Int)(h:bn a=bn b):a=b:=by cases a;cases b;simp [bn]at h;simp [h]
theorem WI(a b:Option (Nat × Nat))(h:[DX a]=[DX b]):a=b:=by
 cases a with
 | none=>cases b with
  | none=>rfl
  | some b=>simp [DX]at h
 | some a=>cases b with
  | none=>simp [DX]at h
  | some b=>simp [DX]at h;simp [Prod.ext_iff,h]
theorem aZ.aq(a b:aZ)(h:a.row=b.row):a=b:=by cases a;cases b;simp only [aZ.row,List.cons.injEq,V.sl.injEq,V.int.injEq,true_and,and_true]at h;simp only [aZ.mk.injEq];exact⟨map_inj Kd.aq h.1,map_inj Pt.aq h.2.1,h.2.2.1,map_inj Od.aq h.2.2.2⟩
theorem sS(s s':HG)(h:∀k∈hkeys,hps (dh s) cg k=hps (dh s') cg k):s=s':=by
 have h1:=h 14119 (by simp);have h3:=h 14143 (by simp);have h4:=h 14137 (by simp);have h5:=h 14141 (by simp);have h6:=h 14110 (by simp);have h7:=h 14113 (by simp);have h8:=h 14117 (by simp);have h9:=h 20315 (by simp);clear h;have e1:s.row=s'.row:=by have:=congrArg Site.ah h1;simpa [dh,eU]using this
 have e3:s.ps.mapIdx PS.blk=s'.ps.mapIdx PS.blk:=congrArg Site.ah h3;have e4:s.ps.map wD=s'.ps.map wD:=congrArg Site.ah h4;have e5:s.ps.map sR=s'.ps.map sR:=congrArg Site.ah h5;have e6:s.aX.map rb=s'.aX.map rb:=by have:=congrArg Site.ah h6;simpa [dh,eU]using this
 have e7:s.fl.map bn=s'.fl.map bn:=by have:=congrArg Site.ah h7;simpa [dh,eU]using this
 have e8:(s.hi.map fun o=>[DX o])=(s'.hi.map fun o=>[DX o]):=by have:=congrArg Site.ah h8;simp only [dh,eU]at this;simp at this;exact this.1
 have e10:s.cZ=s'.cZ:=by have:=congrArg Site.ah h8;simp only [dh,eU]at this;simp at this;exact this.2
 have e9:s.hb.map GP=s'.hb.map GP:=congrArg Site.ah h9;clear h1 h3 h4 h5 h6 h7 h8 h9;obtain⟨r,ps,aX,fl,wk,hi,hb,cZ⟩:=s;obtain⟨r',ps',ama,fl',wk',hi',hb',agD⟩:=s';simp only at *;simp only [HG.row,List.cons.injEq]at e1;obtain⟨a1,a2,a3,a4,a5,a6,a7,a8,a9⟩:=e1;have er:r=r':=aZ.aq _ _ (by simp only [aZ.row,a1,a2,a3,a4]);have ehb:hb=hb':=map_inj (f:=GP) (fun a b h=>map_inj oJ.aq (by simpa [GP]using congrArg dZ.els h)) e9;simp only [HG.mk.injEq];refine⟨er,?_,map_inj uA e6,map_inj Pk e7,?_,map_inj WI e8,ehb,e10⟩
 ·refine List.ext_getElem? fun i=>?_;have x3:=congrArg (·[i]?) e3;have x4:=congrArg (·[i]?) e4;have x5:=congrArg (·[i]?) e5;simp only [List.getElem?_mapIdx,List.getElem?_map]at x3 x4 x5;cases hp:ps[i]? with
  | none=>cases hp':ps'[i]? with
   | none=>rfl
   | some p'=>rw [hp,hp']at x3;simp at x3
  | some p=>cases hp':ps'[i]? with
   | none=>rw [hp,hp']at x3;simp at x3
   | some p'=>
    rw [hp,hp']at x3 x4 x5;simp only [Option.map_some,Option.some.injEq,PS.blk,PS.row,wD,sR,dZ.mk.injEq,List.cons.injEq,V.int.injEq,V.bool.injEq]at x3 x4 x5;have y4:=ee x4.2.1;have y5:=map_inj uA x5.2.1;cases p;cases p';simp_all
 ·simp only [V.int.injEq]at a8;exact a8.2
end inj
section rw
variable [aO]
variable (s:HG) (h:Hp)
@[simp] theorem ayX:Ob dh s h 14119={base:=0,ah:=[{z:=9,els:=[[.sl 3 (s.r.kinds.map Kd.row),.sl 4 (s.r.parts.map Pt.row),.int .i64 s.r.ax,.sl 2 (s.r.az.map Od.row),qO s.ps.length,.bw 14110 0 s.aX.length,.bw 14113 0 s.fl.length,.int .i64 s.wk,.bw 14117 0 s.hi.length]],ty:=234,cl:=false}]}:=rfl
@[simp] theorem ayY:Ob dh s h 14145={base:=0,ah:=Cg s.ps.length}:=rfl
@[simp] theorem axF:Ob dh s h 14143={base:=0,ah:=s.ps.mapIdx PS.blk}:=rfl
@[simp] theorem ayZ:Ob dh s h 14137={base:=0,ah:=s.ps.map wD}:=rfl
@[simp] theorem ay0:Ob dh s h 14141={base:=0,ah:=s.ps.map sR}:=rfl
@[simp] theorem aAf:Ob dh s h 14110={base:=0,ah:=[{z:=1,els:=s.aX.map rb,ty:=4}]}:=rfl
@[simp] theorem aAg:Ob dh s h 14113={base:=0,ah:=[{z:=2,els:=s.fl.map bn,ty:=154}]}:=rfl
@[simp] theorem aAh:Ob dh s h 14117={base:=0,ah:=[{z:=1,els:=s.hi.map fun o=>[DX o],ty:=293,cl:=s.cZ}]}:=rfl
@[simp] theorem aAi:Ob dh s h 20315={base:=0,ah:=s.hb.map GP}:=rfl
@[simp] theorem abQ{k:Nat}(hn:hkeys.contains k=false):Ob dh s h k=h k:=jO bW hn
@[simp] theorem g_g(s':HG):Ob dh s (Ob dh s' h)=Ob dh s h:=AV bW _ _ _
@[simp] theorem G2(k i:Nat):aL (Ob dh s h) k i=if i<(Ob dh s h k).base then none else (Ob dh s h k).ah[i - (Ob dh s h k).base]?:=rfl
@[simp] theorem alA(k:Nat):hnext (Ob dh s h) k=(Ob dh s h k).base+(Ob dh s h k).ah.length:=rfl
@[simp] theorem alB{k:Nat}(hn:hkeys.contains k=false)(B:dZ):bD (Ob dh s h) k B=Ob dh s (bD h k B):=xN bW hn B
theorem cN{k i:Nat}(hn:hkeys.contains k=false)(B:dZ):bE (Ob dh s h) k i B=Ob dh s (bE h k i B):=Jz bW hn B
@[simp] theorem amc{k:Nat}{S:Site}{L:List (Nat × Site)}(hn:(((k,S)::L).all fun p=>!hkeys.contains p.1)=true):hps ((k,S)::L) (Ob dh s h)=Ob dh s (hps ((k,S)::L) h):=Ch bW hn
end rw
@[simp high] theorem agI(n:Nat):(qO n).len=some n:=by
 unfold qO;split
 ·rename_i e;subst e;rfl
 ·rfl
theorem l8{n:Nat}(h:0<n):qO n=.bw 14145 0 n:=by unfold qO;rw [if_neg (by omega)]
theorem nj{n:Nat}(h:0<n):Cg n=[{z:=1,els:=(List.range n).map fun k=>[.bG 14143 k 1 0 0],ty:=151,cl:=false}]:=by unfold Cg;rw [if_neg (by omega)]
theorem iy{ps:List PS}{k:Nat}{p:PS}(h:ps[k]?=some p):(ps.mapIdx PS.blk)[k]?=some {z:=8,els:=[[.int .i64 p.kind,.int .i64 p.hours,.int .i64 p.bh,.bool p.known,.int .i64 p.a,.int .i64 p.b,.bw 14137 k p.since.length,.bw 14141 k p.iV.length]],ty:=157,cl:=false}:=by rw [List.getElem?_mapIdx,h];rfl
section wr
variable [aO] {s:HG} {h:Hp} {i j:Nat} {p:PS}
theorem iz{α:Type}{l:List α}{i:Nat}{x:α}(h:l[i]?=some x):l.set i x=l:=by
 refine List.ext_getElem? fun n=>?_;rw [List.getElem?_set];split
 ·rename_i e;subst e;split
  ·exact h.symm
  ·rename_i e2;rw [List.getElem?_eq_none (by omega)]
 ·rfl
theorem Ci(hp:s.ps[i]?=some p)(a b c e f:Int)(d:Bool) :
  bE (Ob dh s h) 14143 i {z:=8,els:=[[.int .i64 a,.int .i64 b,.int .i64 c,.bool d,.int .i64 e,.int .i64 f,.bw 14137 i p.since.length,.bw 14141 i p.iV.length]],ty:=157,fz:=false,cl:=false}=Ob dh {s with ps:=s.ps.set i ⟨a,b,c,d,e,f,p.since,p.iV⟩} h:=by
 refine eV bW (by simp) (fun k hk v0=>?_) ?_
 ·simp only [hkeys,List.mem_cons,List.not_mem_nil,or_false]at hk;rcases hk with rfl|rfl|rfl|rfl|rfl|rfl|rfl|rfl|rfl<;>simp at v0 ⊢
  ·exact iz (by rw [List.getElem?_map,hp];rfl)
  ·exact iz (by rw [List.getElem?_map,hp];rfl)
 ·simp only [axF,Nat.sub_zero];rw [List.mapIdx_set];rfl
theorem WJ(hp:s.ps[i]?=some p)(x:Int) :
  bE (Ob dh s h) 14137 i {z:=1,els:=(p.since.map ri).set j [.int .i64 x],ty:=3,fz:=false,cl:=true}=Ob dh {s with ps:=s.ps.set i {p with since:=p.since.set j x}} h:=by
 refine eV bW (by simp) (fun k hk v0=>?_) ?_
 ·simp only [hkeys,List.mem_cons,List.not_mem_nil,or_false]at hk;rcases hk with rfl|rfl|rfl|rfl|rfl|rfl|rfl|rfl|rfl<;>simp at v0 ⊢
  ·exact iz (by rw [iy hp];simp [PS.blk,PS.row])
  ·exact iz (by rw [List.getElem?_map,hp];rfl)
 ·simp only [ayZ,Nat.sub_zero,List.map_set,wD,ri]
theorem agJ(hp:s.ps[i]?=some p)(x:Bool) :
  bE (Ob dh s h) 14141 i {z:=1,els:=(p.iV.map rb).set j [.bool x],ty:=4,fz:=false,cl:=true}=Ob dh {s with ps:=s.ps.set i {p with iV:=p.iV.set j x}} h:=by
 refine eV bW (by simp) (fun k hk v0=>?_) ?_
 ·simp only [hkeys,List.mem_cons,List.not_mem_nil,or_false]at hk;rcases hk with rfl|rfl|rfl|rfl|rfl|rfl|rfl|rfl|rfl<;>simp at v0 ⊢
  ·exact iz (by rw [iy hp];simp [PS.blk,PS.row])
  ·exact iz (by rw [List.getElem?_map,hp];rfl)
 ·simp only [ay0,Nat.sub_zero,List.map_set,sR,rb]
theorem agK(x:Bool) :
  bE (Ob dh s h) 14110 0 {z:=1,els:=(s.aX.map rb).set j [.bool x],ty:=4,fz:=false,cl:=true}=Ob dh {s with aX:=s.aX.set j x} h:=by
 refine eV bW (by simp) (fun k hk v0=>?_) ?_
 ·simp only [hkeys,List.mem_cons,List.not_mem_nil,or_false]at hk;rcases hk with rfl|rfl|rfl|rfl|rfl|rfl|rfl|rfl|rfl<;>simp at v0 ⊢
 ·simp [rb]
theorem amd(x y:Int) :
  bE (Ob dh s h) 14113 0 {z:=2,els:=(s.fl.map bn).set j [.int .i64 x,.int .i64 y],ty:=154,fz:=false,cl:=true}=Ob dh {s with fl:=s.fl.set j (x,y)} h:=by
 refine eV bW (by simp) (fun k hk v0=>?_) ?_
 ·simp only [hkeys,List.mem_cons,List.not_mem_nil,or_false]at hk;rcases hk with rfl|rfl|rfl|rfl|rfl|rfl|rfl|rfl|rfl<;>simp at v0 ⊢
 ·simp [bn]
theorem ame(x:Int) :
  bE (Ob dh s h) 14119 0 {z:=9,els:=[[.sl 3 (s.r.kinds.map Kd.row),.sl 4 (s.r.parts.map Pt.row),.int .i64 s.r.ax,.sl 2 (s.r.az.map Od.row),qO s.ps.length,.bw 14110 0 s.aX.length,.bw 14113 0 s.fl.length,.int .i64 x,.bw 14117 0 s.hi.length]],ty:=234,fz:=false,cl:=false}=Ob dh {s with wk:=x} h:=by
 refine eV bW (by simp) (fun k hk v0=>?_) ?_
 ·simp only [hkeys,List.mem_cons,List.not_mem_nil,or_false]at hk;rcases hk with rfl|rfl|rfl|rfl|rfl|rfl|rfl|rfl|rfl<;>simp at v0 ⊢
 ·simp
theorem agL(x:Nat × Nat) :
  bE (Ob dh s h) 14117 0 {z:=1,els:=(s.hi.map fun o=>[DX o]).set j [.bw 20315 x.1 x.2],ty:=293,fz:=false,cl:=false}=Ob dh {s with hi:=s.hi.set j (some x),cZ:=false} h:=by
 refine eV bW (by simp) (fun k hk v0=>?_) ?_
 ·simp only [hkeys,List.mem_cons,List.not_mem_nil,or_false]at hk;rcases hk with rfl|rfl|rfl|rfl|rfl|rfl|rfl|rfl|rfl<;>simp at v0 ⊢
 ·simp [List.map_set,DX]
theorem agM(l:List oJ) :
  bE (Ob dh s h) 20315 i (GP l)=Ob dh {s with hb:=s.hb.set i l} h:=by
 refine eV bW (by simp) (fun k hk v0=>?_) ?_
 ·simp only [hkeys,List.mem_cons,List.not_mem_nil,or_false]at hk;rcases hk with rfl|rfl|rfl|rfl|rfl|rfl|rfl|rfl|rfl<;>simp at v0 ⊢
 ·simp [List.map_set]
theorem amf(l:List oJ) :
  bD (Ob dh s h) 20315 (GP l)=Ob dh {s with hb:=s.hb++[l]} h:=by
 funext k;by_cases hk:k=20315
 ·subst hk;simp [bD]
 ·simp only [bD,hk,if_false];by_cases v5:k∈hkeys
  ·simp only [hkeys,List.mem_cons,List.not_mem_nil,or_false]at v5;rcases v5 with rfl|rfl|rfl|rfl|rfl|rfl|rfl|rfl|rfl<;>simp at hk ⊢
  ·have:hkeys.contains k=false:=(by simpa [List.contains_eq_mem]using v5);rw [abQ _ _ this,abQ _ _ this]
end wr
end Go.Sx
end
section
namespace Go.Sx
structure HI where
 r:aZ
 ps:List PS
 aX:List Bool
 v1:V
 v2:V
 v3:V
 deriving Inhabited
def PS.sU(p:PS):List V:=[.int .i64 p.kind,.int .i64 p.hours,.int .i64 p.bh,.bool p.known,.int .i64 p.a,.int .i64 p.b,.sl 1 (p.since.map ri),.sl 1 (p.iV.map rb)]
def vJ(p:PS):V:=.ip 8 [p.sU] 0 0
def oK(ps:List PS):V:=if ps=[]then .nil else .sl 1 (ps.map fun p=>[vJ p])
def HI.v(x:HI):V:=.ip 9 [[.sl 3 (x.r.kinds.map Kd.row),.sl 4 (x.r.parts.map Pt.row),.int .i64 x.r.ax,.sl 2 (x.r.az.map Od.row),oK x.ps,.sl 1 (x.aX.map rb),x.v1,x.v2,x.v3]] 0 0
@[simp high] theorem agN(ps:List PS):(oK ps).len=some ps.length:=by
 unfold oK;split
 ·rename_i e;subst e;rfl
 ·simp [V.len]
theorem sV{ps:List PS}(h:0<ps.length):oK ps=.sl 1 (ps.map fun p=>[vJ p]):=by unfold oK;rw [if_neg];rintro rfl;simp at h
theorem PS.axG(a b:PS)(h:a.sU=b.sU):a=b:=by cases a;cases b;simp only [PS.sU,List.cons.injEq,V.int.injEq,V.bool.injEq,V.sl.injEq,true_and,and_true]at h;simp only [PS.mk.injEq];exact⟨h.1,h.2.1,h.2.2.1,h.2.2.2.1,h.2.2.2.2.1,h.2.2.2.2.2.1,ee h.2.2.2.2.2.2.1,map_inj uA h.2.2.2.2.2.2.2⟩
theorem Cj(a b:PS)(h:vJ a=vJ b):a=b:=PS.axG _ _ (by simpa [vJ]using h)
theorem Ea(a b:List PS)(h:oK a=oK b):a=b:=by
 unfold oK at h;split at h<;>split at h
 ·rename_i h1 h2;rw [h1,h2]
 ·cases h
 ·cases h
 ·simp only [V.sl.injEq,true_and]at h;exact map_inj (f:=fun p=>[vJ p]) (fun a b h=>Cj _ _ (by simpa using h)) h
theorem HI.qZ(a b:HI)(h:a.v=b.v):a=b:=by obtain⟨⟨k,p,m,o⟩,ps,aX,v1,v2,v3⟩:=a;obtain⟨⟨k',p',m',o'⟩,ps',ama,v1',v2',v3'⟩:=b;simp only [HI.v,V.ip.injEq,List.cons.injEq,V.sl.injEq,V.int.injEq,true_and,and_true]at h;obtain⟨h1,h2,h3,h4,h5,h6,h7,h8,h9⟩:=h;simp only [HI.mk.injEq,aZ.mk.injEq];exact⟨⟨map_inj Kd.aq h1,map_inj Pt.aq h2,h3,map_inj Od.aq h4⟩,Ea _ _ h5,map_inj uA h6,h7,h8,h9⟩
section kg
theorem jy{α:Type}{g:V->Prop × V}{f f':α->List V}:∀{l:List α},(∀x∈l,cL g (f x)=(True,f' x))->dc g (l.map f)=(True,l.map f')
 | [],_=>rfl
 | x::l,h=>by
  simp only [List.map_cons,dc]
  rw [h x (by simp),jy fun y hy=>h y (by simp [hy])]
  simp
structure HG.Hok (s:HG):Prop where
 hi:∀o∈s.hi,∀i n,o=some (i,n)->∃l,s.hb[i]?=some l/\l.length=n
 cl:s.cZ=true->∀o∈s.hi,o=none
def Mw(hb:List (List oJ)):Option (Nat × Nat)->V
 | none=>.nil
 | some (i,_)=>.sl 6 ((hb.getD i []).map oJ.row)
def HG.i(s:HG):HI:={r:=s.r,ps:=s.ps,aX:=s.aX,v1:=.sl 2 (s.fl.map bn),v2:=.int .i64 s.wk,v3:=.sl 1 (s.hi.map fun o=>[Mw s.hb o])}
theorem rM{α:Type}{β:Type}(l:List α)(d:α)(g:α->β):(List.range l.length).map (fun k=>g (l.getD k d))=l.map g:=by refine List.ext_getElem (by simp) fun i h1 h2=>?_;simp at h1 h2 ⊢;simp [h2]
theorem Mx(s:HG)(h:Hp)(f:Nat){k:Nat}{p:PS}(hp:s.ps[k]?=some p):ak (f+1) (Ob dh s h) (.bG 14143 k 1 0 0)=(True,vJ p):=by
 have e3:=iy hp;have e1:(s.ps.map wD)[k]?=some {z:=1,els:=p.since.map ri,ty:=3}:=by rw [List.getElem?_map,hp];rfl
 have e2:(s.ps.map sR)[k]?=some {z:=1,els:=p.iV.map rb,ty:=4}:=by rw [List.getElem?_map,hp];rfl
 have x1:ak f (Ob dh s h) (.bw 14137 k p.since.length)=(True,.sl 1 (p.since.map ri)):=by cases f<;>simp [ak,e1,bV]
 have x2:ak f (Ob dh s h) (.bw 14141 k p.iV.length)=(True,.sl 1 (p.iV.map rb)):=by cases f<;>simp [ak,e2,bV]
 have y1:∀n,ak f (Ob dh s h) (.int .i64 n)=(True,.int .i64 n):=fun n=>by cases f<;>rfl
 have y2:∀n,ak f (Ob dh s h) (.bool n)=(True,.bool n):=fun n=>by cases f<;>rfl
 rw [ak];simp only [G2,axF,Nat.not_lt_zero,if_false,Nat.sub_zero,e3];simp [bV,dc,cL,x1,x2,y1,y2,V.leaf,vJ,PS.sU]
theorem Po(s:HG)(h:Hp):ak 2 (Ob dh s h) (qO s.ps.length)=(True,oK s.ps):=by
 by_cases hn:s.ps.length=0
 ·have:s.ps=[]:=List.length_eq_zero_iff.1 hn;rw [hn];simp [qO,oK,this,ak]
 ·rw [l8 (by omega),sV (by omega)];have:dc (ak 1 (Ob dh s h)) ((List.range s.ps.length).map fun k=>[.bG 14143 k 1 0 0])=(True,(List.range s.ps.length).map fun k=>[vJ (s.ps.getD k default)]):=by refine jy fun k hk=>?_;have hk':k<s.ps.length:=(by simpa using hk);have hp:s.ps[k]?=some s.ps[k]:=List.getElem?_eq_getElem hk';simp only [cL];rw [Mx s h 0 hp];simp [V.leaf,List.getD,hp]
  rw [ak];simp only [G2,ayY,Nat.not_lt_zero,if_false,Nat.sub_zero];rw [nj (by omega)];simp only [List.getElem?_cons_zero,bV,this];rw [rM s.ps default fun p=>[vJ p]];simp
theorem WK{s:HG}(hs:s.Hok)(h:Hp):av (Ob dh s h) (.bG 14119 0 1 0 0)=(True,s.i.v):=by
 have z1:ak 2 (Ob dh s h) (.bw 14110 0 s.aX.length)=(True,.sl 1 (s.aX.map rb)):=by simp [ak,bV]
 have z2:ak 2 (Ob dh s h) (.bw 14113 0 s.fl.length)=(True,.sl 2 (s.fl.map bn)):=by simp [ak,bV]
 have z3:ak 2 (Ob dh s h) (.bw 14117 0 s.hi.length)=(True,.sl 1 (s.hi.map fun o=>[Mw s.hb o])):=by
  cases hc:s.cZ with
  | true=>
   have:(s.hi.map fun o=>[DX o])=s.hi.map fun o=>[Mw s.hb o]:=List.map_congr_left fun o ho=>by rw [hs.cl hc o ho];rfl
   simp [ak,bV,hc,this]
  | false=>
   have:dc (ak 1 (Ob dh s h)) (s.hi.map fun o=>[DX o])=(True,s.hi.map fun o=>[Mw s.hb o]):=by
    refine jy fun o ho=>?_;cases o with
    | none=>simp [cL,DX,Mw,ak,V.leaf]
    | some x=>
     obtain⟨i,n⟩:=x;obtain⟨l,hl,hn⟩:=hs.hi _ ho i n rfl;have e:(s.hb.map GP)[i]?=some (GP l):=(by rw [List.getElem?_map,hl];rfl);simp [cL,DX,Mw,ak,V.leaf,e,hl,GP,bV,hn,List.getD]
   simp [ak,bV,hc,this]
 have hl:=Po s h;have lp:(qO s.ps.length).leaf=true:=by unfold qO;split<;>rfl
 unfold av;rw [ak];simp only [G2,ayX,Nat.not_lt_zero,if_false,Nat.sub_zero,List.getElem?_cons_zero];have y1:∀n,ak 2 (Ob dh s h) (.int .i64 n)=(True,.int .i64 n):=fun n=>rfl;have y2:∀z e,ak 2 (Ob dh s h) (.sl z e)=(True,.sl z e):=fun z e=>rfl;simp only [bV,dc,cL,hl,z1,z2,z3,y1,y2,lp,HI.v,HG.i];simp [V.leaf]
@[simp] theorem agl(h:Hp)(k:Go.IntKind)(n:Int):av h (.int k n)=(True,.int k n):=rfl
@[simp] theorem abR(h:Hp)(b:Bool):av h (.bool b)=(True,.bool b):=rfl
@[simp] theorem agO(h:Hp)(z:Nat)(els:List (List V)):av h (.sl z els)=(True,.sl z els):=rfl
@[simp] theorem agP(h:Hp)(z:Nat)(els:List (List V))(e j:Nat):av h (.ip z els e j)=(True,.ip z els e j):=rfl
@[simp] theorem agm(h:Hp):av h .nil=(True,.nil):=rfl
@[simp] theorem agQ{s:HG}(hs:s.Hok)(h:Hp):av (Ob dh s h) (.bG 14119 0 1 0 0)=(True,s.i.v):=WK hs h
end kg
end Go.Sx
end
section
namespace Go.Sx
open Go.Proofs
attribute [local simp] ri aa ints
def cM(a b:Int):Int:=IntKind.wrap .i64 (a - b)
def eZ(a b:Int):Int:=IntKind.wrap .i64 (a+b)
@[simp] def OR(d:HI × Int):List V:=[d.1.v,.int .i64 d.2]
theorem WL(a b:HI × Int)(h:OR a=OR b):a=b:=by simp only [OR,List.cons.injEq,V.int.injEq,true_and,and_true]at h;exact Prod.ext (HI.qZ _ _ h.1) h.2
theorem WM(x:HI)(n:Int):aY OR [x.v,.int .i64 n]=(x,n):=aA WL (x,n)
def HI.machine(x:HI)(n:Int):Bool:=au n 0 (cM x.r.ax 1)
def HI.part(x:HI)(n:Int):Bool:=au n 0 (cM x.ps.length 1)
def HI.order(x:HI)(n:Int):Bool:=au n 0 (cM x.r.az.length 1)
noncomputable abbrev oL:aB:=bS OR (fun _=>True) fun d=>.bool (d.1.machine d.2)
noncomputable abbrev Eb:aB:=bS OR (fun _=>True) fun d=>.bool (d.1.part d.2)
noncomputable abbrev Ck:aB:=bS OR (fun _=>True) fun d=>.bool (d.1.order d.2)
noncomputable abbrev E78:=EV [(79,.pure bF)] [] 7800 13
theorem b78:af E78 [] Tryz.f78 oL:=pb <| by rintro⟨x,n⟩ _;simp -dsimp [Tryz.f78,E78,OR,HI.v,HI.machine,cM];repeat' first|omega|simp -dsimp [E78,cM]|apply aI|apply nI|intro
theorem alp:FO 78 oL:=pf b78 (.cons aoz .nil)
noncomputable abbrev ay1:=EV [(79,.pure bF)] [] 20400 13
theorem aAj:af ay1 [] Tryz.f204 Eb:=pb <| by rintro⟨x,n⟩ _;simp -dsimp [Tryz.f204,ay1,OR,HI.v,HI.part,cM];repeat' first|omega|simp -dsimp [ay1,cM]|apply aI|apply nI|intro
theorem awL:FO 204 Eb:=pf aAj (.cons aoz .nil)
noncomputable abbrev ay2:=EV [(79,.pure bF)] [] 20600 14
theorem aAk:af ay2 [] Tryz.f206 Ck:=pb <| by rintro⟨x,n⟩ _;simp -dsimp [Tryz.f206,ay2,OR,HI.v,HI.order,cM];repeat' first|omega|simp -dsimp [ay2,cM]|apply aI|apply nI|intro
theorem aya:FO 206 Ck:=pf aAk (.cons aoz .nil)
structure AtD where
 p:PS
 k:Int
 a:Int
 b:Int
 deriving Inhabited
def oM(k a b:Int)(p:PS):Bool:=p.kind == k && (p.a == a && p.b == b)
def xP(k:Int):V:=.ip 1 [[.int .i64 k]] 0 0
def xQ(a b:Int):V:=.ip 2 [[.int .i64 a,.int .i64 b]] 0 0
@[simp] def My(d:AtD):List V:=[vJ d.p,xP d.k,xQ d.a d.b]
theorem wY(x y:AtD)(h:My x=My y):x=y:=by obtain⟨p,k,a,b⟩:=x;obtain⟨p',k',a',b'⟩:=y;simp only [My,List.cons.injEq,xP,xQ,V.ip.injEq,V.int.injEq,true_and,and_true]at h;rw [Cj _ _ h.1,h.2.1,h.2.2.1,h.2.2.2]
theorem Cm(p:PS)(k a b:Int):aY My [vJ p,xP k,xQ a b]=⟨p,k,a,b⟩:=aA wY ⟨p,k,a,b⟩
noncomputable abbrev abV:aB:=bS My (fun _=>True) fun d=>.bool (oM d.k d.a d.b d.p)
noncomputable abbrev ax5:=EV [] [] 26400 20
theorem anP:af ax5 [] Tryz.f264 abV:=pb <| by
 rintro⟨p,k,a,b⟩ _;simp -dsimp [Tryz.f264,ax5,My,vJ,xP,xQ,PS.sU];by_cases h:p.kind=k
 ·repeat' first|omega|simp -dsimp [ax5,h,oM]|apply aI|apply nI|intro
 ·repeat' first|omega|simp -dsimp [ax5,h,oM]|apply aI|apply nI|intro
theorem ai8:FO 264 abV:=pf anP .nil
theorem aM{α:Type}{l:List α}{k:Nat}(h:k<l.length):∃a,l[k]?=some a/\l[k]=a:=⟨_,List.getElem?_eq_getElem h,rfl⟩
theorem Ec(p:PS)(k a b:Int):aY My [.ip 8 [[.int .i64 p.kind,.int .i64 p.hours,.int .i64 p.bh,.bool p.known,.int .i64 p.a,.int .i64 p.b,.sl 1 (p.since.map ri),.sl 1 (p.iV.map rb)]] 0 0,.ip 1 [[.int .i64 k]] 0 0,.ip 2 [[.int .i64 a,.int .i64 b]] 0 0]=⟨p,k,a,b⟩:=aA wY ⟨p,k,a,b⟩
structure IxD where
 ps:List PS
 k:Int
 a:Int
 b:Int
 deriving Inhabited
@[simp] def ixE(d:IxD):List V:=[oK d.ps,.fn 264 [xP d.k,xQ d.a d.b]]
theorem JA(x y:IxD)(h:ixE x=ixE y):x=y:=by obtain⟨p,k,a,b⟩:=x;obtain⟨p',k',a',b'⟩:=y;simp only [ixE,List.cons.injEq,xP,xQ,V.fn.injEq,V.ip.injEq,V.int.injEq,true_and,and_true]at h;rw [Ea _ _ h.1,h.2.1,h.2.2.1,h.2.2.2]
theorem Pu(k a b:Int):aY ixE [.nil,.fn 264 [.ip 1 [[.int .i64 k]] 0 0,.ip 2 [[.int .i64 a,.int .i64 b]] 0 0]]=⟨[],k,a,b⟩:=aA JA ⟨[],k,a,b⟩
theorem WO(ps:List PS)(k a b:Int)(h:0<ps.length):aY ixE [.sl 1 (ps.map fun p=>[vJ p]),.fn 264 [.ip 1 [[.int .i64 k]] 0 0,.ip 2 [[.int .i64 a,.int .i64 b]] 0 0]]=⟨ps,k,a,b⟩:=by have:=aA JA ⟨ps,k,a,b⟩;simp only [ixE,sV h]at this;exact this
noncomputable abbrev ixS:aB:=bS ixE (fun d=>d.ps.length<=9223372036854775807) fun d=>.int .i64 (eB d.ps (oM d.k d.a d.b))
noncomputable abbrev SP:=EV [(264,.pure abV)] [] 26300 19
theorem adr:af SP [] Tryz.f263 ixS:=pb <| by
 rintro⟨ps,ki,a,b⟩ hl;simp only at hl;simp -dsimp [Tryz.f263,SP,xP,xQ];refine ay [9,10,5,11,12,13,14,15,16,17,4,18,8] (fun k:{k:Nat // k<=ps.length/\∀j (h:j<ps.length),j<k->oM ki a b ps[j]=false}=>[(8,(true,.int .i64 k.1))]) (fun _=>cg) (fun k=>ps.length - k.1) ⟨0,by omega,fun _ _ h=>by omega⟩ ?_ (bA.refl _) ?_
 ·simp [aj,aT]
 rintro⟨k,hk,v8⟩;by_cases aH:k<ps.length
 ·have v4:(k:Int)<ps.length:=by omega
  have hp:=sV (ps:=ps) (by omega);have e1:(ps.map fun p=>[vJ p])[k]?=some [vJ ps[k]]:=by rw [List.getElem?_map,List.getElem?_eq_getElem aH];rfl
  have wk:=wx k;cases hw:oM ki a b ps[k]
  ·simp -dsimp [v4,hp];repeat' first|omega|simp -dsimp [SP,v4,aH,hp,e1,hl,hw,wk,vJ,PS.sU,Ec,xP,xQ]|apply aI|apply nI|intro
   refine⟨k+1,ag rfl ?_,bA.refl _,⟨by omega,fun j h hj=>?_⟩,by omega⟩
   ·simp [aj,aT]
   ·by_cases va:j=k
    ·subst va;exact hw
    ·exact v8 j h (by omega)
  ·have hz:=cW ps (oM ki a b) aH hw v8;simp -dsimp [v4,hp];repeat' first|omega|simp -dsimp [SP,v4,aH,hp,e1,hl,hw,wk,hz,vJ,PS.sU,Ec,xP,xQ]|apply aI|apply nI|intro
 ·have v7:¬ (k:Int)<ps.length:=by omega
  have hz:=bP ps (oM ki a b) (fun j h=>v8 j h (by omega));simp -dsimp [v7];repeat' first|omega|simp -dsimp [SP,v7,hz]|apply aI|apply nI|intro
theorem SQ:FO 263 ixS:=pf adr (.cons ai8 .nil)
def HI.at(x:HI)(k a b:Int):Int:=eB x.ps (oM k a b)
@[simp] def haE(d:HI × Int × Int × Int):List V:=[d.1.v,.int .i64 d.2.1,.agg [.int .i64 d.2.2.1,.int .i64 d.2.2.2]]
theorem WQ(a b:HI × Int × Int × Int)(h:haE a=haE b):a=b:=by obtain⟨x,a1,a2,a3⟩:=a;obtain⟨y,b1,b2,b3⟩:=b;simp only [haE,List.cons.injEq,V.agg.injEq,V.int.injEq,true_and,and_true]at h;rw [HI.qZ _ _ h.1,h.2.1,h.2.2.1,h.2.2.2]
theorem WR(x:HI)(k a b:Int):aY haE [x.v,.int .i64 k,.agg [.int .i64 a,.int .i64 b]]=(x,k,a,b):=aA WQ (x,k,a,b)
noncomputable abbrev haS:aB:=bS haE (fun d=>d.1.ps.length<=9223372036854775807) fun d=>.int .i64 (d.1.at d.2.1 d.2.2.1 d.2.2.2)
noncomputable abbrev axH:=EV [(263,.pure ixS)] [] 20700 13
theorem aAl:af axH [] Tryz.f207 haS:=pb <| by
 rintro⟨x,k,a,b⟩ hl;simp only at hl;by_cases h0:x.ps.length=0
 ·have e0:x.ps=[]:=List.length_eq_zero_iff.1 h0;simp -dsimp [Tryz.f207,axH,HI.v,e0,show oK []=.nil from rfl,HI.at];repeat' first|omega|simp -dsimp [axH,e0,show oK []=.nil from rfl,Pu,xP,xQ,HI.at]|apply aI|apply nI|intro
 ·have hp:=sV (ps:=x.ps) (by omega);have hd:=fun k a b=>WO x.ps k a b (by omega);simp -dsimp [Tryz.f207,axH,HI.v,hp,HI.at];repeat' first|omega|simp -dsimp [axH,hp,hd,hl,xP,xQ,HI.at]|apply aI|apply nI|intro
theorem ayb:FO 207 haS:=pf aAl (.cons SQ .nil)
def xR(a b:Int):Int:=if b<a then b else a
def HI.Ed(x:HI)(p:PS)(i:Nat):Bool:=x.aX.getD i false && ((x.r.az.getD i default).kind == p.kind && !(p.iV.getD i false))
def HI.fe(x:HI)(p:PS):Nat->Int
 | 0=>cM (x.r.kinds.getD p.kind.toNat default).hours p.hours
 | i+1=>if x.Ed p i=true then xR (x.fe p i) (cM (x.r.az.getD i default).within (p.since.getD i 0))else x.fe p i
def HI.iL(x:HI)(p:PS):Int:=cM (x.r.kinds.getD p.kind.toNat default).bh p.bh
def HI.jt(x:HI)(p:PS):Int:=x.fe p x.r.az.length
structure HI.Fit (x:HI) (p:PS):Prop where
 k0:0<=p.kind
 k1:p.kind<x.r.kinds.length
 aX:x.aX.length=x.r.az.length
 iV:p.iV.length=x.r.az.length
 since:p.since.length=x.r.az.length
 len:x.r.az.length<=1000000
@[simp] def hpE(d:HI × PS):List V:=[d.1.v,vJ d.2]
theorem WS(a b:HI × PS)(h:hpE a=hpE b):a=b:=by simp only [hpE,List.cons.injEq,and_true]at h;exact Prod.ext (HI.qZ _ _ h.1) (Cj _ _ h.2)
theorem WT(x:HI)(p:PS):aY hpE [x.v,vJ p]=(x,p):=aA WS (x,p)
noncomputable abbrev Px:aB:=bS hpE (fun d=>d.1.Fit d.2) fun d=>.dB [.int .i64 (d.1.jt d.2),.int .i64 (d.1.iL d.2)]
noncomputable abbrev ajk:=EV [] [] 14400 90
theorem an6:af ajk [(1,([4,9,10,11],[[0,1,2,3,4,5,6,7,8,9,10,11,12,13]]))] Tryz.f144 Px:=pb <| by
 rintro⟨x,p⟩ ⟨h1,h2,h3,h4,h5,h6⟩;simp only at h1 h2 h3 h4 h5 h6;obtain⟨ki,v4⟩:∃ki:Nat,p.kind=ki:=⟨p.kind.toNat,by omega⟩
 have v9:ki<x.r.kinds.length:=by omega
 obtain⟨kd,kj,iA⟩:=aM v9;have e1:(x.r.kinds.map Kd.row)[ki]?=some kd.row:=by rw [List.getElem?_map,kj];rfl
 have g1:x.r.kinds.getD ki default=kd:=by simp [List.getD,kj]
 simp -dsimp [Tryz.f144,ajk,HI.v,vJ,PS.sU,v4];repeat' first|omega|simp -dsimp [ajk,kj,iA,v9,v4,Kd.row,HI.v,vJ,PS.sU,aS]|apply aI|apply nI|intro
 have hC:x.iL p=IntKind.wrap .i64 (kd.bh - p.bh):=by simp only [HI.iL,cM,v4,Int.toNat_natCast,g1]
 have hH:x.fe p 0=IntKind.wrap .i64 (kd.hours - p.hours):=by simp only [HI.fe,cM,v4,Int.toNat_natCast,g1]
 refine ay [44,45,46,47,8,7,48,49,50,51,52,53,54,55,56,57,58,59,60,61,62,63,64,65,66,67,68,69,70,71,72,73,74,75,76,77,78,79,80,81,82,83,84,85,86,4,87,43] (fun k:Fin (x.r.az.length+1)=>[(43,(true,.int .i64 (k.1:Nat))),(4,(true,.int .i64 (x.fe p k.1)))]) (fun k=>hps [(14406,{base:=1,ah:=[]}),(14408,{base:=k.1,ah:=[]})] cg) (fun k=>x.r.az.length - k.1) ⟨0,by omega⟩ ?_ (by(try simp -dsimp only [hpx]);refine ai ?_;simp -dsimp [aC]<;>exact rz) ?_
 ·simp [aj,aT,hH]
 rintro⟨k,hk⟩;simp only;by_cases aH:k<x.r.az.length
 ·have iB:(k:Int)<x.r.az.length:=by omega
  have wk:=wx k;have l1:k<x.aX.length:=by omega
  have l2:k<p.iV.length:=by omega
  have l3:k<p.since.length:=by omega
  obtain⟨od,xS,nk⟩:=aM aH;obtain⟨b1,ez,iC⟩:=aM l1;obtain⟨b2,kJ,rN⟩:=aM l2;obtain⟨sn,xT,Mz⟩:=aM l3;have e2:(x.r.az.map Od.row)[k]?=some od.row:=by rw [List.getElem?_map,xS];rfl
  have e3:(x.aX.map rb)[k]?=some (rb b1):=by rw [List.getElem?_map,ez];rfl
  have e4:(p.iV.map rb)[k]?=some (rb b2):=by rw [List.getElem?_map,kJ];rfl
  have e5:(p.since.map ri)[k]?=some (ri sn):=by rw [List.getElem?_map,xT];rfl
  have hs:x.fe p (k+1)=if b1 && (od.kind == p.kind && !b2)then xR (x.fe p k) (cM od.within sn)else x.fe p k:=by simp only [HI.fe,HI.Ed,List.getD,xS,ez,kJ,xT,Option.getD_some]
  generalize x.fe p k=H at *;cases b1
  ·simp -dsimp [iB];repeat' first|omega|simp -dsimp [ajk,iB,aH,xS,ez,kJ,xT,nk,iC,rN,Mz,wk,l1,l2,l3,Od.row,rb,ri]|apply aI|apply nI|intro
   refine⟨⟨k+1,by omega⟩,ag rfl ?_,(by(try simp -dsimp only [hpx]);refine ai ?_;simp -dsimp [aC]<;>exact rz),by simp only;omega⟩;simp [aj,aT,hs]
  by_cases v5:od.kind=p.kind
  case neg=>
   have v6:(od.kind=(ki:Int))=False:=eq_false (by rw [<-v4];exact v5);have abW:(od.kind == (ki:Int))=false:=(by simpa using v6);simp -dsimp [iB];repeat' first|omega|simp -dsimp [ajk,iB,aH,xS,ez,kJ,xT,nk,iC,rN,Mz,wk,l1,l2,l3,Od.row,rb,ri,v6,abW]|apply aI|apply nI|intro
   refine⟨⟨k+1,by omega⟩,ag rfl ?_,(by(try simp -dsimp only [hpx]);refine ai ?_;simp -dsimp [aC]<;>exact rz),by simp only;omega⟩;simp [aj,aT,hs,v5]
  have v6:od.kind=(ki:Int):=by rw [<-v4];exact v5
  cases b2
  ·simp -dsimp [iB];repeat' first|omega|simp -dsimp [ajk,iB,aH,xS,ez,kJ,xT,nk,iC,rN,Mz,wk,l1,l2,l3,Od.row,rb,ri,v6]|apply aI|apply nI|intro
   refine⟨⟨k+1,by omega⟩,ag rfl ?_,(by(try simp -dsimp only [hpx]);refine ai ?_;simp -dsimp [aC]<;>exact rz),by simp only;omega⟩;by_cases vb:IntKind.i64.wrap (od.within - sn)<H<;>simp [aj,aT,hs,v5,xR,cM,vb]
  ·simp -dsimp [iB];repeat' first|omega|simp -dsimp [ajk,iB,aH,xS,ez,kJ,xT,nk,iC,rN,Mz,wk,l1,l2,l3,Od.row,rb,ri,v6]|apply aI|apply nI|intro
   refine⟨⟨k+1,by omega⟩,ag rfl ?_,(by(try simp -dsimp only [hpx]);refine ai ?_;simp -dsimp [aC]<;>exact rz),by simp only;omega⟩;simp [aj,aT,hs,v5]
 ·have v7:¬ (k:Int)<x.r.az.length:=by omega
  have vd:k=x.r.az.length:=by omega
  subst vd;simp -dsimp [v7];repeat' first|omega|simp -dsimp [ajk,v7,HI.jt,hC]|apply aI|apply nI|intro
theorem abq:FO 144 Px:=pf an6 .nil
end Go.Sx
end
end
