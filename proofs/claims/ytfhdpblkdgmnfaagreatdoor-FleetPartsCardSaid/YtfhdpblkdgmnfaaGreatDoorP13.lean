/- A part of a proof; no conditions. -/
import Derived.Test.YtfhdpblkdgmnfaaGreatDoorP08
import Derived.Test.YtfhdpblkdgmnfaaGreatDoorP10
set_option linter.unusedSimpArgs false
set_option linter.unusedVariables false
set_option linter.unusedSectionVars false
set_option maxRecDepth 100000
set_option maxHeartbeats 8000000
noncomputable section
section
namespace Go.Sx
structure Kd where
 hours:Int
 cycles:Int
 places:Int
 deriving DecidableEq,Inhabited
structure Pt where
 kind:Int
 hours:Int
 cycles:Int
 known:Bool
 deriving DecidableEq,Inhabited
structure Od where
 kind:Int
 within:Int
 deriving DecidableEq,Inhabited
structure Wk where
 kind:Int
 a:Int
 b:Int
 c:Int
 deriving DecidableEq,Inhabited
structure Stt where
 machine:Int
 place:Int
 fro:Int
 to:Int
 hours:Int
 cycles:Int
 deriving DecidableEq,Inhabited
structure Reg where
 kinds:List Kd
 parts:List Pt
 machines:Int
 orders:List Od
 deriving Inhabited
structure PS where
 kind:Int
 hours:Int
 cycles:Int
 known:Bool
 a:Int
 b:Int
 since:List Int
 chk:List Bool
 deriving Inhabited
structure HG where
 r:Reg
 ps:List PS
 iss:List Bool
 fl:List (Int × Int)
 wk:Int
 hi:List (Option (Nat × Nat))
 hb:List (List Stt)
 hcl:Bool
 deriving Inhabited
def Kd.row (k:Kd):List V:=[.int .i64 k.hours,.int .i64 k.cycles,.int .i64 k.places]
def Pt.row (p:Pt):List V:=[.int .i64 p.kind,.int .i64 p.hours,.int .i64 p.cycles,.bool p.known]
def Od.row (o:Od):List V:=[.int .i64 o.kind,.int .i64 o.within]
def Wk.row (w:Wk):List V:=[.int .i64 w.kind,.int .i64 w.a,.int .i64 w.b,.int .i64 w.c]
def Stt.row (t:Stt):List V:=[.int .i64 t.machine,.int .i64 t.place,.int .i64 t.fro,.int .i64 t.to,.int .i64 t.hours,.int .i64 t.cycles]
def Reg.row (r:Reg):List V:=[.sl 3 (r.kinds.map Kd.row),.sl 4 (r.parts.map Pt.row),.int .i64 r.machines,.sl 2 (r.orders.map Od.row)]
def rb (b:Bool):List V:=[.bool b]
def ptsV (n:Nat):V:=if n=0 then .nil else .bsl 9045 0 n
def ptsB (n:Nat):List Blk:=if n=0 then []else [{z:=1,els:=(List.range n).map fun k=>[.bptr 9043 k 1 0 0],ty:=172,cl:=false}]
def hiV:Option (Nat × Nat)→V
 | none=>.nil
 | some (i,n)=>.bsl 15115 i n
def PS.row (p:PS) (k:Nat):List V:=[.int .i64 p.kind,.int .i64 p.hours,.int .i64 p.cycles,.bool p.known,.int .i64 p.a,.int .i64 p.b,.bsl 9037 k p.since.length,.bsl 9041 k p.chk.length]
def PS.blk (k:Nat) (p:PS):Blk:={z:=8,els:=[p.row k],ty:=177,cl:=false}
def HG.row (s:HG):List V:=[.sl 3 (s.r.kinds.map Kd.row),.sl 4 (s.r.parts.map Pt.row),.int .i64 s.r.machines,.sl 2 (s.r.orders.map Od.row),ptsV s.ps.length,.bsl 9010 0 s.iss.length,.bsl 9013 0 s.fl.length,.int .i64 s.wk,.bsl 9017 0 s.hi.length]
def sinB (p:PS):Blk:={z:=1,els:=p.since.map ri,ty:=3}
def chkB (p:PS):Blk:={z:=1,els:=p.chk.map rb,ty:=4}
def hbB (l:List Stt):Blk:={z:=6,els:=l.map Stt.row,ty:=303}
def hgL (s:HG):List (Nat × Site):=
 [(9019,{base:=0,blks:=[{z:=9,els:=[s.row],ty:=170,cl:=false}]}),
  (9045,{base:=0,blks:=ptsB s.ps.length}),
  (9043,{base:=0,blks:=s.ps.mapIdx PS.blk}),
  (9037,{base:=0,blks:=s.ps.map sinB}),
  (9041,{base:=0,blks:=s.ps.map chkB}),
  (9010,{base:=0,blks:=[{z:=1,els:=s.iss.map rb,ty:=4}]}),
  (9013,{base:=0,blks:=[{z:=2,els:=s.fl.map cycV,ty:=175}]}),
  (9017,{base:=0,blks:=[{z:=1,els:=s.hi.map fun o=>[hiV o],ty:=240,cl:=s.hcl}]}),
  (15115,{base:=0,blks:=s.hb.map hbB})]
abbrev hkeys:List Nat:=[9019,9045,9043,9037,9041,9010,9013,9017,15115]
theorem hgL_keys (s:HG):(hgL s).map (·.1)=hkeys:=rfl
section inj
theorem map_inj {α β:Type} {f:α→β} (hf:∀a b,f a=f b→a=b):∀{l l':List α},l.map f=l'.map f→l=l'
 | [],[],_=>rfl
 | [],_::_,h=>by simp at h
 | _::_,[],h=>by simp at h
 | a::l,b::l',h=>by
  simp only [List.map_cons,List.cons.injEq]at h
  rw [hf _ _ h.1,map_inj hf h.2]
theorem Kd.row_inj (a b:Kd) (h:a.row=b.row):a=b:=by
 cases a; cases b; simp [Kd.row]at h; simp [h]
theorem Pt.row_inj (a b:Pt) (h:a.row=b.row):a=b:=by
 cases a; cases b; simp [Pt.row]at h; simp [h]
theorem Od.row_inj (a b:Od) (h:a.row=b.row):a=b:=by
 cases a; cases b; simp [Od.row]at h; simp [h]
theorem Wk.row_inj (a b:Wk) (h:a.row=b.row):a=b:=by
 cases a; cases b; simp [Wk.row]at h; simp [h]
theorem Stt.row_inj (a b:Stt) (h:a.row=b.row):a=b:=by
 cases a; cases b; simp [Stt.row]at h; simp [h]
theorem rb_inj (a b:Bool) (h:rb a=rb b):a=b:=by simpa [rb]using h
theorem cycR_inj (a b:Int × Int) (h:cycV a=cycV b):a=b:=by
 cases a; cases b; simp [cycV]at h; simp [h]
theorem hiV_inj (a b:Option (Nat × Nat)) (h:[hiV a]=[hiV b]):a=b:=by
 cases a with
 | none=>cases b with
  | none=>rfl
  | some b=>simp [hiV]at h
 | some a=>cases b with
  | none=>simp [hiV]at h
  | some b=>simp [hiV]at h; simp [Prod.ext_iff,h]
theorem Reg.row_inj (a b:Reg) (h:a.row=b.row):a=b:=by
 cases a; cases b
 simp only [Reg.row,List.cons.injEq,V.sl.injEq,V.int.injEq,true_and,and_true]at h
 simp only [Reg.mk.injEq]
 exact⟨map_inj Kd.row_inj h.1,map_inj Pt.row_inj h.2.1,h.2.2.1,map_inj Od.row_inj h.2.2.2⟩
theorem hgL_inj (s s':HG) (h:∀k∈hkeys,hps (hgL s) noH k=hps (hgL s') noH k):s=s':=by
 have h1:=h 9019 (by simp)
 have h3:=h 9043 (by simp)
 have h4:=h 9037 (by simp)
 have h5:=h 9041 (by simp)
 have h6:=h 9010 (by simp)
 have h7:=h 9013 (by simp)
 have h8:=h 9017 (by simp)
 have h9:=h 15115 (by simp)
 clear h
 have e1:s.row=s'.row:=by
  have:=congrArg Site.blks h1
  simpa [hgL,hps_cons]using this
 have e3:s.ps.mapIdx PS.blk=s'.ps.mapIdx PS.blk:=congrArg Site.blks h3
 have e4:s.ps.map sinB=s'.ps.map sinB:=congrArg Site.blks h4
 have e5:s.ps.map chkB=s'.ps.map chkB:=congrArg Site.blks h5
 have e6:s.iss.map rb=s'.iss.map rb:=by
  have:=congrArg Site.blks h6
  simpa [hgL,hps_cons]using this
 have e7:s.fl.map cycV=s'.fl.map cycV:=by
  have:=congrArg Site.blks h7
  simpa [hgL,hps_cons]using this
 have e8:(s.hi.map fun o=>[hiV o])=(s'.hi.map fun o=>[hiV o]):=by
  have:=congrArg Site.blks h8
  simp only [hgL,hps_cons]at this
  simp at this
  exact this.1
 have e10:s.hcl=s'.hcl:=by
  have:=congrArg Site.blks h8
  simp only [hgL,hps_cons]at this
  simp at this
  exact this.2
 have e9:s.hb.map hbB=s'.hb.map hbB:=congrArg Site.blks h9
 clear h1 h3 h4 h5 h6 h7 h8 h9
 obtain⟨r,ps,iss,fl,wk,hi,hb,hcl⟩:=s
 obtain⟨r',ps',iss',fl',wk',hi',hb',hcl'⟩:=s'
 simp only at *
 simp only [HG.row,List.cons.injEq]at e1
 obtain⟨a1,a2,a3,a4,a5,a6,a7,a8,a9⟩:=e1
 have er:r=r':=Reg.row_inj _ _ (by simp only [Reg.row,a1,a2,a3,a4])
 have ehb:hb=hb':=map_inj (f:=hbB) (fun a b h=>map_inj Stt.row_inj (by simpa [hbB]using congrArg Blk.els h)) e9
 simp only [HG.mk.injEq]
 refine⟨er,?_,map_inj rb_inj e6,map_inj cycR_inj e7,?_,map_inj hiV_inj e8,ehb,e10⟩
 ·refine List.ext_getElem? fun i=>?_
  have x3:=congrArg (·[i]?) e3
  have x4:=congrArg (·[i]?) e4
  have x5:=congrArg (·[i]?) e5
  simp only [List.getElem?_mapIdx,List.getElem?_map]at x3 x4 x5
  cases hp:ps[i]? with
  | none=>cases hp':ps'[i]? with
   | none=>rfl
   | some p'=>rw [hp,hp']at x3; simp at x3
  | some p=>cases hp':ps'[i]? with
   | none=>rw [hp,hp']at x3; simp at x3
   | some p'=>
    rw [hp,hp']at x3 x4 x5
    simp only [Option.map_some,Option.some.injEq,PS.blk,PS.row,sinB,chkB,Blk.mk.injEq,List.cons.injEq,V.int.injEq,V.bool.injEq]at x3 x4 x5
    have y4:=map_ri_inj x4.2.1
    have y5:=map_inj rb_inj x5.2.1
    cases p; cases p'
    simp_all
 ·simp only [V.int.injEq]at a8; exact a8.2
end inj
section rw
variable [Gls]
variable (s:HG) (h:Hp)
@[simp] theorem g9019:Ob hgL s h 9019={base:=0,blks:=[{z:=9,els:=[[.sl 3 (s.r.kinds.map Kd.row),.sl 4 (s.r.parts.map Pt.row),.int .i64 s.r.machines,.sl 2 (s.r.orders.map Od.row),ptsV s.ps.length,.bsl 9010 0 s.iss.length,.bsl 9013 0 s.fl.length,.int .i64 s.wk,.bsl 9017 0 s.hi.length]],ty:=170,cl:=false}]}:=rfl
@[simp] theorem g9045:Ob hgL s h 9045={base:=0,blks:=ptsB s.ps.length}:=rfl
@[simp] theorem g9043:Ob hgL s h 9043={base:=0,blks:=s.ps.mapIdx PS.blk}:=rfl
@[simp] theorem g9037:Ob hgL s h 9037={base:=0,blks:=s.ps.map sinB}:=rfl
@[simp] theorem g9041:Ob hgL s h 9041={base:=0,blks:=s.ps.map chkB}:=rfl
@[simp] theorem g9010:Ob hgL s h 9010={base:=0,blks:=[{z:=1,els:=s.iss.map rb,ty:=4}]}:=rfl
@[simp] theorem g9013:Ob hgL s h 9013={base:=0,blks:=[{z:=2,els:=s.fl.map cycV,ty:=175}]}:=rfl
@[simp] theorem g9017:Ob hgL s h 9017={base:=0,blks:=[{z:=1,els:=s.hi.map fun o=>[hiV o],ty:=240,cl:=s.hcl}]}:=rfl
@[simp] theorem g15115:Ob hgL s h 15115={base:=0,blks:=s.hb.map hbB}:=rfl
@[simp] theorem g_ne {k:Nat} (hn:hkeys.contains k=false):Ob hgL s h k=h k:=ob_ne hgL_keys hn
@[simp] theorem g_g (s':HG):Ob hgL s (Ob hgL s' h)=Ob hgL s h:=ob_ob hgL_keys _ _ _
@[simp] theorem g_hget (k i:Nat):hget (Ob hgL s h) k i=if i<(Ob hgL s h k).base then none else (Ob hgL s h k).blks[i - (Ob hgL s h k).base]?:=rfl
@[simp] theorem g_hnext (k:Nat):hnext (Ob hgL s h) k=(Ob hgL s h k).base+(Ob hgL s h k).blks.length:=rfl
@[simp] theorem g_hpush {k:Nat} (hn:hkeys.contains k=false) (B:Blk):hpush (Ob hgL s h) k B=Ob hgL s (hpush h k B):=ob_hpush hgL_keys hn B
theorem g_hset {k i:Nat} (hn:hkeys.contains k=false) (B:Blk):hset (Ob hgL s h) k i B=Ob hgL s (hset h k i B):=ob_hset hgL_keys hn B
@[simp] theorem g_over {k:Nat} {S:Site} {L:List (Nat × Site)} (hn:(((k,S)::L).all fun p=>!hkeys.contains p.1)=true):hps ((k,S)::L) (Ob hgL s h)=Ob hgL s (hps ((k,S)::L) h):=ob_over hgL_keys hn
end rw
@[simp high] theorem len_ptsV (n:Nat):(ptsV n).len=some n:=by
 unfold ptsV; split
 ·rename_i e; subst e; rfl
 ·rfl
theorem ptsV_ne {n:Nat} (h:0<n):ptsV n=.bsl 9045 0 n:=by unfold ptsV; rw [if_neg (by omega)]
theorem ptsB_ne {n:Nat} (h:0<n):ptsB n=[{z:=1,els:=(List.range n).map fun k=>[.bptr 9043 k 1 0 0],ty:=172,cl:=false}]:=by unfold ptsB; rw [if_neg (by omega)]
theorem mapIdx_get {ps:List PS} {k:Nat} {p:PS} (h:ps[k]?=some p):(ps.mapIdx PS.blk)[k]?=some {z:=8,els:=[[.int .i64 p.kind,.int .i64 p.hours,.int .i64 p.cycles,.bool p.known,.int .i64 p.a,.int .i64 p.b,.bsl 9037 k p.since.length,.bsl 9041 k p.chk.length]],ty:=177,cl:=false}:=by
 rw [List.getElem?_mapIdx,h]; rfl
section wr
variable [Gls] {s:HG} {h:Hp} {i j:Nat} {p:PS}
theorem set_id {α:Type} {l:List α} {i:Nat} {x:α} (h:l[i]?=some x):l.set i x=l:=by
 refine List.ext_getElem? fun n=>?_
 rw [List.getElem?_set]
 split
 ·rename_i e; subst e; split
  ·exact h.symm
  ·rename_i e2; rw [List.getElem?_eq_none (by omega)]
 ·rfl
theorem w_part (hp:s.ps[i]?=some p) (a b c e f:Int) (d:Bool) :
  hset (Ob hgL s h) 9043 i {z:=8,els:=[[.int .i64 a,.int .i64 b,.int .i64 c,.bool d,.int .i64 e,.int .i64 f,.bsl 9037 i p.since.length,.bsl 9041 i p.chk.length]],ty:=177,fz:=false,cl:=false}=Ob hgL {s with ps:=s.ps.set i ⟨a,b,c,d,e,f,p.since,p.chk⟩} h:=by
 refine ob_write hgL_keys (by simp) (fun k hk hne=>?_) ?_
 ·simp only [hkeys,List.mem_cons,List.not_mem_nil,or_false]at hk
  rcases hk with rfl|rfl|rfl|rfl|rfl|rfl|rfl|rfl|rfl<;>simp at hne ⊢
  ·exact set_id (by rw [List.getElem?_map,hp]; rfl)
  ·exact set_id (by rw [List.getElem?_map,hp]; rfl)
 ·simp only [g9043,Nat.sub_zero]
  rw [List.mapIdx_set]
  rfl
theorem w_since (hp:s.ps[i]?=some p) (x:Int) :
  hset (Ob hgL s h) 9037 i {z:=1,els:=(p.since.map ri).set j [.int .i64 x],ty:=3,fz:=false,cl:=true}=Ob hgL {s with ps:=s.ps.set i {p with since:=p.since.set j x}} h:=by
 refine ob_write hgL_keys (by simp) (fun k hk hne=>?_) ?_
 ·simp only [hkeys,List.mem_cons,List.not_mem_nil,or_false]at hk
  rcases hk with rfl|rfl|rfl|rfl|rfl|rfl|rfl|rfl|rfl<;>simp at hne ⊢
  ·exact set_id (by rw [mapIdx_get hp]; simp [PS.blk,PS.row])
  ·exact set_id (by rw [List.getElem?_map,hp]; rfl)
 ·simp only [g9037,Nat.sub_zero,List.map_set,sinB,ri]
theorem w_chk (hp:s.ps[i]?=some p) (x:Bool) :
  hset (Ob hgL s h) 9041 i {z:=1,els:=(p.chk.map rb).set j [.bool x],ty:=4,fz:=false,cl:=true}=Ob hgL {s with ps:=s.ps.set i {p with chk:=p.chk.set j x}} h:=by
 refine ob_write hgL_keys (by simp) (fun k hk hne=>?_) ?_
 ·simp only [hkeys,List.mem_cons,List.not_mem_nil,or_false]at hk
  rcases hk with rfl|rfl|rfl|rfl|rfl|rfl|rfl|rfl|rfl<;>simp at hne ⊢
  ·exact set_id (by rw [mapIdx_get hp]; simp [PS.blk,PS.row])
  ·exact set_id (by rw [List.getElem?_map,hp]; rfl)
 ·simp only [g9041,Nat.sub_zero,List.map_set,chkB,rb]
theorem w_iss (x:Bool) :
  hset (Ob hgL s h) 9010 0 {z:=1,els:=(s.iss.map rb).set j [.bool x],ty:=4,fz:=false,cl:=true}=Ob hgL {s with iss:=s.iss.set j x} h:=by
 refine ob_write hgL_keys (by simp) (fun k hk hne=>?_) ?_
 ·simp only [hkeys,List.mem_cons,List.not_mem_nil,or_false]at hk
  rcases hk with rfl|rfl|rfl|rfl|rfl|rfl|rfl|rfl|rfl<;>simp at hne ⊢
 ·simp [rb]
theorem w_fl (x y:Int) :
  hset (Ob hgL s h) 9013 0 {z:=2,els:=(s.fl.map cycV).set j [.int .i64 x,.int .i64 y],ty:=175,fz:=false,cl:=true}=Ob hgL {s with fl:=s.fl.set j (x,y)} h:=by
 refine ob_write hgL_keys (by simp) (fun k hk hne=>?_) ?_
 ·simp only [hkeys,List.mem_cons,List.not_mem_nil,or_false]at hk
  rcases hk with rfl|rfl|rfl|rfl|rfl|rfl|rfl|rfl|rfl<;>simp at hne ⊢
 ·simp [cycV]
theorem w_wk (x:Int) :
  hset (Ob hgL s h) 9019 0 {z:=9,els:=[[.sl 3 (s.r.kinds.map Kd.row),.sl 4 (s.r.parts.map Pt.row),.int .i64 s.r.machines,.sl 2 (s.r.orders.map Od.row),ptsV s.ps.length,.bsl 9010 0 s.iss.length,.bsl 9013 0 s.fl.length,.int .i64 x,.bsl 9017 0 s.hi.length]],ty:=170,fz:=false,cl:=false}=Ob hgL {s with wk:=x} h:=by
 refine ob_write hgL_keys (by simp) (fun k hk hne=>?_) ?_
 ·simp only [hkeys,List.mem_cons,List.not_mem_nil,or_false]at hk
  rcases hk with rfl|rfl|rfl|rfl|rfl|rfl|rfl|rfl|rfl<;>simp at hne ⊢
 ·simp
theorem w_hi (x:Nat × Nat) :
  hset (Ob hgL s h) 9017 0 {z:=1,els:=(s.hi.map fun o=>[hiV o]).set j [.bsl 15115 x.1 x.2],ty:=240,fz:=false,cl:=false}=Ob hgL {s with hi:=s.hi.set j (some x),hcl:=false} h:=by
 refine ob_write hgL_keys (by simp) (fun k hk hne=>?_) ?_
 ·simp only [hkeys,List.mem_cons,List.not_mem_nil,or_false]at hk
  rcases hk with rfl|rfl|rfl|rfl|rfl|rfl|rfl|rfl|rfl<;>simp at hne ⊢
 ·simp [List.map_set,hiV]
theorem w_hb (l:List Stt) :
  hset (Ob hgL s h) 15115 i (hbB l)=Ob hgL {s with hb:=s.hb.set i l} h:=by
 refine ob_write hgL_keys (by simp) (fun k hk hne=>?_) ?_
 ·simp only [hkeys,List.mem_cons,List.not_mem_nil,or_false]at hk
  rcases hk with rfl|rfl|rfl|rfl|rfl|rfl|rfl|rfl|rfl<;>simp at hne ⊢
 ·simp [List.map_set]
theorem p_hb (l:List Stt) :
  hpush (Ob hgL s h) 15115 (hbB l)=Ob hgL {s with hb:=s.hb++[l]} h:=by
 funext k
 by_cases hk:k=15115
 ·subst hk; simp [hpush]
 ·simp only [hpush,hk,if_false]
  by_cases hkk:k∈hkeys
  ·simp only [hkeys,List.mem_cons,List.not_mem_nil,or_false]at hkk
   rcases hkk with rfl|rfl|rfl|rfl|rfl|rfl|rfl|rfl|rfl<;>simp at hk ⊢
  ·have:hkeys.contains k=false:=by simpa [List.contains_eq_mem]using hkk
   rw [g_ne _ _ this,g_ne _ _ this]
end wr
end Go.Sx
end
section
namespace Go.Sx
structure HI where
 r:Reg
 ps:List PS
 iss:List Bool
 v1:V
 v2:V
 v3:V
 deriving Inhabited
def PS.irow (p:PS):List V:=[.int .i64 p.kind,.int .i64 p.hours,.int .i64 p.cycles,.bool p.known,.int .i64 p.a,.int .i64 p.b,.sl 1 (p.since.map ri),.sl 1 (p.chk.map rb)]
def ptI (p:PS):V:=.ip 8 [p.irow] 0 0
def ptsI (ps:List PS):V:=if ps=[]then .nil else .sl 1 (ps.map fun p=>[ptI p])
def HI.v (x:HI):V:=.ip 9 [[.sl 3 (x.r.kinds.map Kd.row),.sl 4 (x.r.parts.map Pt.row),.int .i64 x.r.machines,.sl 2 (x.r.orders.map Od.row),ptsI x.ps,.sl 1 (x.iss.map rb),x.v1,x.v2,x.v3]] 0 0
@[simp high] theorem len_ptsI (ps:List PS):(ptsI ps).len=some ps.length:=by
 unfold ptsI; split
 ·rename_i e; subst e; rfl
 ·simp [V.len]
theorem ptsI_ne {ps:List PS} (h:0<ps.length):ptsI ps=.sl 1 (ps.map fun p=>[ptI p]):=by
 unfold ptsI; rw [if_neg]; rintro rfl; simp at h
theorem PS.irow_inj (a b:PS) (h:a.irow=b.irow):a=b:=by
 cases a; cases b
 simp only [PS.irow,List.cons.injEq,V.int.injEq,V.bool.injEq,V.sl.injEq,true_and,and_true]at h
 simp only [PS.mk.injEq]
 exact⟨h.1,h.2.1,h.2.2.1,h.2.2.2.1,h.2.2.2.2.1,h.2.2.2.2.2.1,map_ri_inj h.2.2.2.2.2.2.1,map_inj rb_inj h.2.2.2.2.2.2.2⟩
theorem ptI_inj (a b:PS) (h:ptI a=ptI b):a=b:=PS.irow_inj _ _ (by simpa [ptI]using h)
theorem ptsI_inj (a b:List PS) (h:ptsI a=ptsI b):a=b:=by
 unfold ptsI at h
 split at h<;>split at h
 ·rename_i h1 h2; rw [h1,h2]
 ·cases h
 ·cases h
 ·simp only [V.sl.injEq,true_and]at h
  exact map_inj (f:=fun p=>[ptI p]) (fun a b h=>ptI_inj _ _ (by simpa using h)) h
theorem HI.v_inj (a b:HI) (h:a.v=b.v):a=b:=by
 obtain⟨⟨k,p,m,o⟩,ps,iss,v1,v2,v3⟩:=a
 obtain⟨⟨k',p',m',o'⟩,ps',iss',v1',v2',v3'⟩:=b
 simp only [HI.v,V.ip.injEq,List.cons.injEq,V.sl.injEq,V.int.injEq,true_and,and_true]at h
 obtain⟨h1,h2,h3,h4,h5,h6,h7,h8,h9⟩:=h
 simp only [HI.mk.injEq,Reg.mk.injEq]
 exact⟨⟨map_inj Kd.row_inj h1,map_inj Pt.row_inj h2,h3,map_inj Od.row_inj h4⟩,ptsI_inj _ _ h5,map_inj rb_inj h6,h7,h8,h9⟩
section lend
theorem lendRs_map {α:Type} {g:V→Prop × V} {f f':α→List V}:∀{l:List α},(∀x∈l,lendCs g (f x)=(True,f' x))→lendRs g (l.map f)=(True,l.map f')
 | [],_=>rfl
 | x::l,h=>by
  simp only [List.map_cons,lendRs]
  rw [h x (by simp),lendRs_map fun y hy=>h y (by simp [hy])]
  simp
structure HG.Hok (s:HG):Prop where
 hi:∀o∈s.hi,∀i n,o=some (i,n)→∃l,s.hb[i]?=some l∧l.length=n
 cl:s.hcl=true→∀o∈s.hi,o=none
def hisI (hb:List (List Stt)):Option (Nat × Nat)→V
 | none=>.nil
 | some (i,_)=>.sl 6 ((hb.getD i []).map Stt.row)
def HG.i (s:HG):HI:={r:=s.r,ps:=s.ps,iss:=s.iss,v1:=.sl 2 (s.fl.map cycV),v2:=.int .i64 s.wk,v3:=.sl 1 (s.hi.map fun o=>[hisI s.hb o])}
theorem range_getD {α:Type} {β:Type} (l:List α) (d:α) (g:α→β):(List.range l.length).map (fun k=>g (l.getD k d))=l.map g:=by
 refine List.ext_getElem (by simp) fun i h1 h2=>?_
 simp at h1 h2 ⊢
 simp [h2]
theorem lend_part (s:HG) (h:Hp) (f:Nat) {k:Nat} {p:PS} (hp:s.ps[k]?=some p):lendN (f+1) (Ob hgL s h) (.bptr 9043 k 1 0 0)=(True,ptI p):=by
 have e3:=mapIdx_get hp
 have e1:(s.ps.map sinB)[k]?=some {z:=1,els:=p.since.map ri,ty:=3}:=by rw [List.getElem?_map,hp]; rfl
 have e2:(s.ps.map chkB)[k]?=some {z:=1,els:=p.chk.map rb,ty:=4}:=by rw [List.getElem?_map,hp]; rfl
 have x1:lendN f (Ob hgL s h) (.bsl 9037 k p.since.length)=(True,.sl 1 (p.since.map ri)):=by
  cases f<;>simp [lendN,e1,lendB]
 have x2:lendN f (Ob hgL s h) (.bsl 9041 k p.chk.length)=(True,.sl 1 (p.chk.map rb)):=by
  cases f<;>simp [lendN,e2,lendB]
 have y1:∀n,lendN f (Ob hgL s h) (.int .i64 n)=(True,.int .i64 n):=fun n=>by cases f<;>rfl
 have y2:∀n,lendN f (Ob hgL s h) (.bool n)=(True,.bool n):=fun n=>by cases f<;>rfl
 rw [lendN]
 simp only [g_hget,g9043,Nat.not_lt_zero,if_false,Nat.sub_zero,e3]
 simp [lendB,lendRs,lendCs,x1,x2,y1,y2,V.leaf,ptI,PS.irow]
theorem lend_pts (s:HG) (h:Hp):lendN 2 (Ob hgL s h) (ptsV s.ps.length)=(True,ptsI s.ps):=by
 by_cases hn:s.ps.length=0
 ·have:s.ps=[]:=List.length_eq_zero_iff.1 hn
  rw [hn]; simp [ptsV,ptsI,this,lendN]
 ·rw [ptsV_ne (by omega),ptsI_ne (by omega)]
  have:lendRs (lendN 1 (Ob hgL s h)) ((List.range s.ps.length).map fun k=>[.bptr 9043 k 1 0 0])=(True,(List.range s.ps.length).map fun k=>[ptI (s.ps.getD k default)]):=by
   refine lendRs_map fun k hk=>?_
   have hk':k<s.ps.length:=by simpa using hk
   have hp:s.ps[k]?=some s.ps[k]:=List.getElem?_eq_getElem hk'
   simp only [lendCs]
   rw [lend_part s h 0 hp]
   simp [V.leaf,List.getD,hp]
  rw [lendN]
  simp only [g_hget,g9045,Nat.not_lt_zero,if_false,Nat.sub_zero]
  rw [ptsB_ne (by omega)]
  simp only [List.getElem?_cons_zero,lendB,this]
  rw [range_getD s.ps default fun p=>[ptI p]]
  simp
theorem lend_hg {s:HG} (hs:s.Hok) (h:Hp):lend1 (Ob hgL s h) (.bptr 9019 0 1 0 0)=(True,s.i.v):=by
 have z1:lendN 2 (Ob hgL s h) (.bsl 9010 0 s.iss.length)=(True,.sl 1 (s.iss.map rb)):=by simp [lendN,lendB]
 have z2:lendN 2 (Ob hgL s h) (.bsl 9013 0 s.fl.length)=(True,.sl 2 (s.fl.map cycV)):=by simp [lendN,lendB]
 have z3:lendN 2 (Ob hgL s h) (.bsl 9017 0 s.hi.length)=(True,.sl 1 (s.hi.map fun o=>[hisI s.hb o])):=by
  cases hc:s.hcl with
  | true=>
   have:(s.hi.map fun o=>[hiV o])=s.hi.map fun o=>[hisI s.hb o]:=List.map_congr_left fun o ho=>by rw [hs.cl hc o ho]; rfl
   simp [lendN,lendB,hc,this]
  | false=>
   have:lendRs (lendN 1 (Ob hgL s h)) (s.hi.map fun o=>[hiV o])=(True,s.hi.map fun o=>[hisI s.hb o]):=by
    refine lendRs_map fun o ho=>?_
    cases o with
    | none=>simp [lendCs,hiV,hisI,lendN,V.leaf]
    | some x=>
     obtain⟨i,n⟩:=x
     obtain⟨l,hl,hn⟩:=hs.hi _ ho i n rfl
     have e:(s.hb.map hbB)[i]?=some (hbB l):=by rw [List.getElem?_map,hl]; rfl
     simp [lendCs,hiV,hisI,lendN,V.leaf,e,hl,hbB,lendB,hn,List.getD]
   simp [lendN,lendB,hc,this]
 have hl:=lend_pts s h
 have lp:(ptsV s.ps.length).leaf=true:=by unfold ptsV; split<;>rfl
 unfold lend1
 rw [lendN]
 simp only [g_hget,g9019,Nat.not_lt_zero,if_false,Nat.sub_zero,List.getElem?_cons_zero]
 have y1:∀n,lendN 2 (Ob hgL s h) (.int .i64 n)=(True,.int .i64 n):=fun n=>rfl
 have y2:∀z e,lendN 2 (Ob hgL s h) (.sl z e)=(True,.sl z e):=fun z e=>rfl
 simp only [lendB,lendRs,lendCs,hl,z1,z2,z3,y1,y2,lp,HI.v,HG.i]
 simp [V.leaf]
@[simp] theorem lend1_int (h:Hp) (k:Go.IntKind) (n:Int):lend1 h (.int k n)=(True,.int k n):=rfl
@[simp] theorem lend1_bool (h:Hp) (b:Bool):lend1 h (.bool b)=(True,.bool b):=rfl
@[simp] theorem lend1_sl (h:Hp) (z:Nat) (els:List (List V)):lend1 h (.sl z els)=(True,.sl z els):=rfl
@[simp] theorem lend1_ip (h:Hp) (z:Nat) (els:List (List V)) (e j:Nat):lend1 h (.ip z els e j)=(True,.ip z els e j):=rfl
@[simp] theorem lend1_nil (h:Hp):lend1 h .nil=(True,.nil):=rfl
@[simp] theorem lend_hg' {s:HG} (hs:s.Hok) (h:Hp):lend1 (Ob hgL s h) (.bptr 9019 0 1 0 0)=(True,s.i.v):=lend_hg hs h
end lend
end Go.Sx
end
section
namespace Go.Sx
open Go.Proofs
def wsub (a b:Int):Int:=IntKind.wrap .i64 (a - b)
def wadd (a b:Int):Int:=IntKind.wrap .i64 (a+b)
@[simp] def hiE (d:HI × Int):List V:=[d.1.v,.int .i64 d.2]
theorem hiE_inj (a b:HI × Int) (h:hiE a=hiE b):a=b:=by
 simp only [hiE,List.cons.injEq,V.int.injEq,true_and,and_true]at h
 exact Prod.ext (HI.v_inj _ _ h.1) h.2
theorem hiE_dec (x:HI) (n:Int):decC hiE [x.v,.int .i64 n]=(x,n):=decC_eq hiE_inj (x,n)
def HI.machine (x:HI) (n:Int):Bool:=withinB n 0 (wsub x.r.machines 1)
def HI.part (x:HI) (n:Int):Bool:=withinB n 0 (wsub x.ps.length 1)
def HI.order (x:HI) (n:Int):Bool:=withinB n 0 (wsub x.r.orders.length 1)
abbrev machineS:PSpec:=mkP hiE (fun _=>True) fun d=>.bool (d.1.machine d.2)
abbrev partS:PSpec:=mkP hiE (fun _=>True) fun d=>.bool (d.1.part d.2)
abbrev orderS:PSpec:=mkP hiE (fun _=>True) fun d=>.bool (d.1.order d.2)
abbrev E39:Env:={P:=Tryz.prog,fn:=tbl [(40,.pure withinS)],own:=[],key:=3900,nt:=13}
theorem b39:PureBody E39 [] Tryz.f39 machineS:=by
 refine pb ?_
 rintro⟨x,n⟩ _
 simp -dsimp [Tryz.f39,E39,hiE,HI.v,HI.machine,wsub]
 repeat' (first|omega|simp -dsimp [E39,ri,cellp,ints,wsub]|refine aI ?_ fun _=>?_|refine oI fun _=>?_|refine nI ?_ ?_)
theorem ok39:FO 39 machineS:=pf b39 (.cons ok40 .nil)
abbrev E152:Env:={P:=Tryz.prog,fn:=tbl [(40,.pure withinS)],own:=[],key:=15200,nt:=13}
theorem b152:PureBody E152 [] Tryz.f152 partS:=by
 refine pb ?_
 rintro⟨x,n⟩ _
 simp -dsimp [Tryz.f152,E152,hiE,HI.v,HI.part,wsub]
 repeat' (first|omega|simp -dsimp [E152,ri,cellp,ints,wsub]|refine aI ?_ fun _=>?_|refine oI fun _=>?_|refine nI ?_ ?_)
theorem ok152:FO 152 partS:=pf b152 (.cons ok40 .nil)
abbrev E154:Env:={P:=Tryz.prog,fn:=tbl [(40,.pure withinS)],own:=[],key:=15400,nt:=14}
theorem b154:PureBody E154 [] Tryz.f154 orderS:=by
 refine pb ?_
 rintro⟨x,n⟩ _
 simp -dsimp [Tryz.f154,E154,hiE,HI.v,HI.order,wsub]
 repeat' (first|omega|simp -dsimp [E154,ri,cellp,ints,wsub]|refine aI ?_ fun _=>?_|refine oI fun _=>?_|refine nI ?_ ?_)
theorem ok154:FO 154 orderS:=pf b154 (.cons ok40 .nil)
structure AtD where
 p:PS
 k:Int
 a:Int
 b:Int
 deriving Inhabited
def atIs (k a b:Int) (p:PS):Bool:=p.kind == k && (p.a == a && p.b == b)
def boxI (k:Int):V:=.ip 1 [[.int .i64 k]] 0 0
def boxS (a b:Int):V:=.ip 2 [[.int .i64 a,.int .i64 b]] 0 0
@[simp] def atE (d:AtD):List V:=[ptI d.p,boxI d.k,boxS d.a d.b]
theorem atE_inj (x y:AtD) (h:atE x=atE y):x=y:=by
 obtain⟨p,k,a,b⟩:=x
 obtain⟨p',k',a',b'⟩:=y
 simp only [atE,List.cons.injEq,boxI,boxS,V.ip.injEq,V.int.injEq,true_and,and_true]at h
 rw [ptI_inj _ _ h.1,h.2.1,h.2.2.1,h.2.2.2]
abbrev atS1:PSpec:=mkP atE (fun _=>True) fun d=>.bool (atIs d.k d.a d.b d.p)
abbrev E221:Env:={P:=Tryz.prog,fn:=tbl [],own:=[],key:=22100,nt:=20}
theorem b221:PureBody E221 [] Tryz.f221 atS1:=by
 refine pb ?_
 rintro⟨p,k,a,b⟩ _
 simp -dsimp [Tryz.f221,E221,atE,ptI,boxI,boxS,PS.irow]
 by_cases h:p.kind=k
 ·repeat' (first|omega|simp -dsimp [E221,ri,cellp,ints,h,atIs]|refine aI ?_ fun _=>?_|refine oI fun _=>?_|refine nI ?_ ?_)
 ·repeat' (first|omega|simp -dsimp [E221,ri,cellp,ints,h,atIs]|refine aI ?_ fun _=>?_|refine oI fun _=>?_|refine nI ?_ ?_)
theorem ok221:FO 221 atS1:=pf b221 .nil
end Go.Sx
end
section
namespace Go.Sx
open Go.Proofs
theorem get_ex {α:Type} {l:List α} {k:Nat} (h:k<l.length):∃a,l[k]?=some a∧l[k]=a:=⟨_,List.getElem?_eq_getElem h,rfl⟩
theorem atE_dec' (p:PS) (k a b:Int):decC atE [.ip 8 [[.int .i64 p.kind,.int .i64 p.hours,.int .i64 p.cycles,.bool p.known,.int .i64 p.a,.int .i64 p.b,.sl 1 (p.since.map ri),.sl 1 (p.chk.map rb)]] 0 0,.ip 1 [[.int .i64 k]] 0 0,.ip 2 [[.int .i64 a,.int .i64 b]] 0 0]=⟨p,k,a,b⟩:=decC_eq atE_inj ⟨p,k,a,b⟩
structure IxD where
 ps:List PS
 k:Int
 a:Int
 b:Int
 deriving Inhabited
@[simp] def ixE (d:IxD):List V:=[ptsI d.ps,.fn 221 [boxI d.k,boxS d.a d.b]]
theorem ixE_inj (x y:IxD) (h:ixE x=ixE y):x=y:=by
 obtain⟨p,k,a,b⟩:=x
 obtain⟨p',k',a',b'⟩:=y
 simp only [ixE,List.cons.injEq,boxI,boxS,V.fn.injEq,V.ip.injEq,V.int.injEq,true_and,and_true]at h
 rw [ptsI_inj _ _ h.1,h.2.1,h.2.2.1,h.2.2.2]
theorem ixE_dec0 (k a b:Int):decC ixE [.nil,.fn 221 [.ip 1 [[.int .i64 k]] 0 0,.ip 2 [[.int .i64 a,.int .i64 b]] 0 0]]=⟨[],k,a,b⟩:=decC_eq ixE_inj ⟨[],k,a,b⟩
theorem ixE_dec (ps:List PS) (k a b:Int) (h:0<ps.length):decC ixE [.sl 1 (ps.map fun p=>[ptI p]),.fn 221 [.ip 1 [[.int .i64 k]] 0 0,.ip 2 [[.int .i64 a,.int .i64 b]] 0 0]]=⟨ps,k,a,b⟩:=by
 have:=decC_eq ixE_inj ⟨ps,k,a,b⟩
 simp only [ixE,ptsI_ne h]at this
 exact this
abbrev ixS:PSpec:=mkP ixE (fun d=>d.ps.length≤9223372036854775807) fun d=>.int .i64 (idxZ d.ps (atIs d.k d.a d.b))
abbrev E220:Env:={P:=Tryz.prog,fn:=tbl [(221,.pure atS1)],own:=[],key:=22000,nt:=19}
theorem b220:PureBody E220 [] Tryz.f220 ixS:=by
 refine pb ?_
 rintro⟨ps,ki,a,b⟩ hl
 simp only at hl
 simp -dsimp [Tryz.f220,E220,boxI,boxS]
 refine awp_loop [9,10,5,11,12,13,14,15,16,17,4,18,8] (fun k:{k:Nat // k≤ps.length∧∀j (h:j<ps.length),j<k→atIs ki a b ps[j]=false}=>[(8,(true,.int .i64 k.1))]) (fun _=>noH) (fun k=>ps.length - k.1) ⟨0,by omega,fun _ _ h=>by omega⟩ ?_ (HLe.refl _) ?_
 ·simp [okAll,okv]
 rintro⟨k,hk,hall⟩
 by_cases hk1:k<ps.length
 ·have hki:(k:Int)<ps.length:=by omega
  have hp:=ptsI_ne (ps:=ps) (by omega)
  have e1:(ps.map fun p=>[ptI p])[k]?=some [ptI ps[k]]:=by rw [List.getElem?_map,List.getElem?_eq_getElem hk1]; rfl
  have wk:IntKind.wrap .i64 ((k:Int)+1)=(k+1:Nat):=wrap_id (by omega) (by omega)
  cases hw:atIs ki a b ps[k]
  ·simp -dsimp [hki,hp]
   repeat' (first|omega|simp -dsimp [E220,ri,cellp,ints,hki,hk1,hp,e1,hl,hw,wk,ptI,PS.irow,atE_dec',boxI,boxS]|refine aI ?_ fun _=>?_|refine oI fun _=>?_|refine nI ?_ ?_)
   refine⟨k+1,tle_chain rfl ?_,HLe.refl _,⟨by omega,fun j h hj=>?_⟩,by omega⟩
   ·simp [okAll,okv]
   ·by_cases hjk:j=k
    ·subst hjk; exact hw
    ·exact hall j h (by omega)
  ·have hz:=idxZ_at ps (atIs ki a b) hk1 hw hall
   simp -dsimp [hki,hp]
   repeat' (first|omega|simp -dsimp [E220,ri,cellp,ints,hki,hk1,hp,e1,hl,hw,wk,hz,ptI,PS.irow,atE_dec',boxI,boxS]|refine aI ?_ fun _=>?_|refine oI fun _=>?_|refine nI ?_ ?_)
 ·have hkn:¬ (k:Int)<ps.length:=by omega
  have hz:=idxZ_none ps (atIs ki a b) (fun j h=>hall j h (by omega))
  simp -dsimp [hkn]
  repeat' (first|omega|simp -dsimp [E220,ri,cellp,ints,hkn,hz]|refine aI ?_ fun _=>?_|refine oI fun _=>?_|refine nI ?_ ?_)
theorem ok220:FO 220 ixS:=pf b220 (.cons ok221 .nil)
def HI.at (x:HI) (k a b:Int):Int:=idxZ x.ps (atIs k a b)
@[simp] def haE (d:HI × Int × Int × Int):List V:=[d.1.v,.int .i64 d.2.1,.agg [.int .i64 d.2.2.1,.int .i64 d.2.2.2]]
theorem haE_inj (a b:HI × Int × Int × Int) (h:haE a=haE b):a=b:=by
 obtain⟨x,a1,a2,a3⟩:=a
 obtain⟨y,b1,b2,b3⟩:=b
 simp only [haE,List.cons.injEq,V.agg.injEq,V.int.injEq,true_and,and_true]at h
 rw [HI.v_inj _ _ h.1,h.2.1,h.2.2.1,h.2.2.2]
theorem haE_dec (x:HI) (k a b:Int):decC haE [x.v,.int .i64 k,.agg [.int .i64 a,.int .i64 b]]=(x,k,a,b):=decC_eq haE_inj (x,k,a,b)
abbrev haS:PSpec:=mkP haE (fun d=>d.1.ps.length≤9223372036854775807) fun d=>.int .i64 (d.1.at d.2.1 d.2.2.1 d.2.2.2)
abbrev E155:Env:={P:=Tryz.prog,fn:=tbl [(220,.pure ixS)],own:=[],key:=15500,nt:=13}
theorem b155:PureBody E155 [] Tryz.f155 haS:=by
 refine pb ?_
 rintro⟨x,k,a,b⟩ hl
 simp only at hl
 by_cases h0:x.ps.length=0
 ·have e0:x.ps=[]:=List.length_eq_zero_iff.1 h0
  simp -dsimp [Tryz.f155,E155,HI.v,e0,show ptsI []=.nil from rfl,HI.at]
  repeat' (first|omega|simp -dsimp [E155,ri,cellp,ints,e0,show ptsI []=.nil from rfl,ixE_dec0,boxI,boxS,HI.at]|refine aI ?_ fun _=>?_|refine oI fun _=>?_|refine nI ?_ ?_)
 ·have hp:=ptsI_ne (ps:=x.ps) (by omega)
  have hd:=fun k a b=>ixE_dec x.ps k a b (by omega)
  simp -dsimp [Tryz.f155,E155,HI.v,hp,HI.at]
  repeat' (first|omega|simp -dsimp [E155,ri,cellp,ints,hp,hd,hl,boxI,boxS,HI.at]|refine aI ?_ fun _=>?_|refine oI fun _=>?_|refine nI ?_ ?_)
theorem ok155:FO 155 haS:=pf b155 (.cons ok220 .nil)
def imin (a b:Int):Int:=if b<a then b else a
def HI.leftI (x:HI) (p:PS) (i:Nat):Bool:=x.iss.getD i false && ((x.r.orders.getD i default).kind == p.kind && !(p.chk.getD i false))
def HI.leftH (x:HI) (p:PS):Nat→Int
 | 0=>wsub (x.r.kinds.getD p.kind.toNat default).hours p.hours
 | i+1=>if x.leftI p i=true then imin (x.leftH p i) (wsub (x.r.orders.getD i default).within (p.since.getD i 0))else x.leftH p i
def HI.leftC (x:HI) (p:PS):Int:=wsub (x.r.kinds.getD p.kind.toNat default).cycles p.cycles
def HI.leftT (x:HI) (p:PS):Int:=x.leftH p x.r.orders.length
structure HI.Fit (x:HI) (p:PS):Prop where
 k0:0≤p.kind
 k1:p.kind<x.r.kinds.length
 iss:x.iss.length=x.r.orders.length
 chk:p.chk.length=x.r.orders.length
 since:p.since.length=x.r.orders.length
 len:x.r.orders.length≤1000000
@[simp] def hpE (d:HI × PS):List V:=[d.1.v,ptI d.2]
theorem hpE_inj (a b:HI × PS) (h:hpE a=hpE b):a=b:=by
 simp only [hpE,List.cons.injEq,and_true]at h
 exact Prod.ext (HI.v_inj _ _ h.1) (ptI_inj _ _ h.2)
theorem hpE_dec (x:HI) (p:PS):decC hpE [x.v,ptI p]=(x,p):=decC_eq hpE_inj (x,p)
abbrev leftS:PSpec:=mkP hpE (fun d=>d.1.Fit d.2) fun d=>.tup [.int .i64 (d.1.leftT d.2),.int .i64 (d.1.leftC d.2)]
abbrev E93:Env:={P:=Tryz.prog,fn:=tbl [],own:=[],key:=9300,nt:=90}
theorem b93:PureBody E93 [(1,([4,9,10,11],[[0,1,2,3,4,5,6,7,8,9,10,11,12,13]]))] Tryz.f93 leftS:=by
 refine pb ?_
 rintro⟨x,p⟩ ⟨h1,h2,h3,h4,h5,h6⟩
 simp only at h1 h2 h3 h4 h5 h6
 obtain⟨ki,hki⟩:∃ki:Nat,p.kind=ki:=⟨p.kind.toNat,by omega⟩
 have hk2:ki<x.r.kinds.length:=by omega
 obtain⟨kd,hkd,hkd'⟩:=get_ex hk2
 have e1:(x.r.kinds.map Kd.row)[ki]?=some kd.row:=by rw [List.getElem?_map,hkd]; rfl
 have g1:x.r.kinds.getD ki default=kd:=by simp [List.getD,hkd]
 simp -dsimp [Tryz.f93,E93,HI.v,ptI,PS.irow,hki]
 repeat' (first|omega|simp -dsimp [E93,ri,cellp,ints,hkd,hkd',hk2,hki,Kd.row,HI.v,ptI,PS.irow,FreeAt]|refine aI ?_ fun _=>?_|refine oI fun _=>?_|refine nI ?_ ?_)
 have hC:x.leftC p=IntKind.wrap .i64 (kd.cycles - p.cycles):=by simp only [HI.leftC,wsub,hki,Int.toNat_natCast,g1]
 have hH:x.leftH p 0=IntKind.wrap .i64 (kd.hours - p.hours):=by simp only [HI.leftH,wsub,hki,Int.toNat_natCast,g1]
 refine awp_loop [44,45,46,47,8,7,48,49,50,51,52,53,54,55,56,57,58,59,60,61,62,63,64,65,66,67,68,69,70,71,72,73,74,75,76,77,78,79,80,81,82,83,84,85,86,4,87,43] (fun k:Fin (x.r.orders.length+1)=>[(43,(true,.int .i64 (k.1:Nat))),(4,(true,.int .i64 (x.leftH p k.1)))]) (fun k=>hps [(9306,{base:=1,blks:=[]}),(9308,{base:=k.1,blks:=[]})] noH) (fun k=>x.r.orders.length - k.1) ⟨0,by omega⟩ ?_ (by(try simp -dsimp only [hpx]); refine hle_hps ?_; simp -dsimp [allK]<;>exact rz) ?_
 ·simp [okAll,okv,hH]
 rintro⟨k,hk⟩
 simp only
 by_cases hk1:k<x.r.orders.length
 ·have hki2:(k:Int)<x.r.orders.length:=by omega
  have wk:IntKind.wrap .i64 ((k:Int)+1)=(k+1:Nat):=wrap_id (by omega) (by omega)
  have l1:k<x.iss.length:=by omega
  have l2:k<p.chk.length:=by omega
  have l3:k<p.since.length:=by omega
  obtain⟨od,hod,hod'⟩:=get_ex hk1
  obtain⟨b1,hb1,hb1'⟩:=get_ex l1
  obtain⟨b2,hb2,hb2'⟩:=get_ex l2
  obtain⟨sn,hsn,hsn'⟩:=get_ex l3
  have e2:(x.r.orders.map Od.row)[k]?=some od.row:=by rw [List.getElem?_map,hod]; rfl
  have e3:(x.iss.map rb)[k]?=some (rb b1):=by rw [List.getElem?_map,hb1]; rfl
  have e4:(p.chk.map rb)[k]?=some (rb b2):=by rw [List.getElem?_map,hb2]; rfl
  have e5:(p.since.map ri)[k]?=some (ri sn):=by rw [List.getElem?_map,hsn]; rfl
  have hs:x.leftH p (k+1)=if b1 && (od.kind == p.kind && !b2)then imin (x.leftH p k) (wsub od.within sn)else x.leftH p k:=by
   simp only [HI.leftH,HI.leftI,List.getD,hod,hb1,hb2,hsn,Option.getD_some]
  generalize x.leftH p k=H at *
  cases b1
  ·simp -dsimp [hki2]
   repeat' (first|omega|simp -dsimp [E93,ri,cellp,ints,hki2,hk1,hod,hb1,hb2,hsn,hod',hb1',hb2',hsn',wk,l1,l2,l3,Od.row,rb,ri]|refine aI ?_ fun _=>?_|refine oI fun _=>?_|refine nI ?_ ?_)
   refine⟨⟨k+1,by omega⟩,tle_chain rfl ?_,(by(try simp -dsimp only [hpx]); refine hle_hps ?_; simp -dsimp [allK]<;>exact rz),by simp only; omega⟩
   simp [okAll,okv,hs]
  by_cases hkk:od.kind=p.kind
  case neg=>
   have hkk':(od.kind=(ki:Int))=False:=eq_false (by rw [←hki]; exact hkk)
   have hkk2:(od.kind == (ki:Int))=false:=by simpa using hkk'
   simp -dsimp [hki2]
   repeat' (first|omega|simp -dsimp [E93,ri,cellp,ints,hki2,hk1,hod,hb1,hb2,hsn,hod',hb1',hb2',hsn',wk,l1,l2,l3,Od.row,rb,ri,hkk',hkk2]|refine aI ?_ fun _=>?_|refine oI fun _=>?_|refine nI ?_ ?_)
   refine⟨⟨k+1,by omega⟩,tle_chain rfl ?_,(by(try simp -dsimp only [hpx]); refine hle_hps ?_; simp -dsimp [allK]<;>exact rz),by simp only; omega⟩
   simp [okAll,okv,hs,hkk]
  have hkk':od.kind=(ki:Int):=by rw [←hki]; exact hkk
  cases b2
  ·simp -dsimp [hki2]
   repeat' (first|omega|simp -dsimp [E93,ri,cellp,ints,hki2,hk1,hod,hb1,hb2,hsn,hod',hb1',hb2',hsn',wk,l1,l2,l3,Od.row,rb,ri,hkk']|refine aI ?_ fun _=>?_|refine oI fun _=>?_|refine nI ?_ ?_)
   refine⟨⟨k+1,by omega⟩,tle_chain rfl ?_,(by(try simp -dsimp only [hpx]); refine hle_hps ?_; simp -dsimp [allK]<;>exact rz),by simp only; omega⟩
   by_cases hlt:IntKind.i64.wrap (od.within - sn)<H<;>simp [okAll,okv,hs,hkk,imin,wsub,hlt]
  ·simp -dsimp [hki2]
   repeat' (first|omega|simp -dsimp [E93,ri,cellp,ints,hki2,hk1,hod,hb1,hb2,hsn,hod',hb1',hb2',hsn',wk,l1,l2,l3,Od.row,rb,ri,hkk']|refine aI ?_ fun _=>?_|refine oI fun _=>?_|refine nI ?_ ?_)
   refine⟨⟨k+1,by omega⟩,tle_chain rfl ?_,(by(try simp -dsimp only [hpx]); refine hle_hps ?_; simp -dsimp [allK]<;>exact rz),by simp only; omega⟩
   simp [okAll,okv,hs,hkk]
 ·have hkn:¬ (k:Int)<x.r.orders.length:=by omega
  have hke:k=x.r.orders.length:=by omega
  subst hke
  simp -dsimp [hkn]
  repeat' (first|omega|simp -dsimp [E93,ri,cellp,ints,hkn,HI.leftT,hC]|refine aI ?_ fun _=>?_|refine oI fun _=>?_|refine nI ?_ ?_)
theorem ok93:FO 93 leftS:=pf b93 .nil
end Go.Sx
end
end
