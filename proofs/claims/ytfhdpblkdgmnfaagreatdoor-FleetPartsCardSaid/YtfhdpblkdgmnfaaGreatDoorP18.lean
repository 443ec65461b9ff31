/- A part of a proof; no conditions. -/
import Derived.Test.YtfhdpblkdgmnfaaGreatDoorP10
import Derived.Test.YtfhdpblkdgmnfaaGreatDoorP08
import Derived.Test.YtfhdpblkdgmnfaaGreatDoorP17
set_option linter.unusedSimpArgs false
set_option linter.unusedVariables false
set_option linter.unusedSectionVars false
set_option maxRecDepth 100000
set_option maxHeartbeats 8000000
noncomputable section
section
namespace Go.Sx
structure Jb where
 a:Int
 b:Int
 dep:Int
 val:Int
 wat:Bool
 deriving DecidableEq,Inhabited
def Jb.row (x:Jb):List V:=[.int .i64 x.a,.int .i64 x.b,.int .i64 x.dep,.int .i64 x.val,.bool x.wat]
theorem Jb.row_inj (a b:Jb) (h:a.row=b.row):a=b:=by
 cases a; cases b; simp [Jb.row]at h; simp [h]
structure Sr where
 j:Int
 m:Int
 c:Int
 k:Int
 deriving DecidableEq,Inhabited
def Sr.row (x:Sr):List V:=[.int .i64 x.j,.int .i64 x.m,.int .i64 x.c,.int .i64 x.k]
theorem Sr.row_inj (a b:Sr) (h:a.row=b.row):a=b:=by
 cases a; cases b; simp [Sr.row]at h; simp [h]
structure Fl where
 met:Met
 mn:Mn
 net:List Leg
 reg:Reg
 wks:List Wk
 ros:Ro
 dus:List Du
 bas:List Int
 cra:List Int
 turn:Int
 hour:Int
 cov:Int
 unt:Int
 jobs:List Jb
 deriving Inhabited
def Fl.row (f:Fl):List V:=f.met.row++(f.mn.row++(.sl 3 (f.net.map Leg.row)::(f.reg.row++(.sl 4 (f.wks.map Wk.row)::(f.ros.row++[.sl 3 (f.dus.map Du.row),.sl 1 (f.bas.map ri),.sl 1 (f.cra.map ri),.int .i64 f.turn,.int .i64 f.hour,.int .i64 f.cov,.int .i64 f.unt,.sl 5 (f.jobs.map Jb.row)])))))
theorem app_inj {a b c d:List V} {n:Nat} (ha:a.length=n) (hb:b.length=n) (h:a++c=b++d):a=b∧c=d:=
 List.append_inj h (by rw [ha,hb])
theorem Fl.row_inj (f g:Fl) (h:f.row=g.row):f=g:=by
 obtain⟨a1,a2,a3,a4,a5,a6,a7,a8,a9,a10,a11,a12,a13,a14⟩:=f
 obtain⟨b1,b2,b3,b4,b5,b6,b7,b8,b9,b10,b11,b12,b13,b14⟩:=g
 unfold Fl.row at h
 simp only at h
 obtain⟨h1,h⟩:=app_inj (n:=14) rfl rfl h
 obtain⟨h2,h⟩:=app_inj (n:=5) rfl rfl h
 rw [List.cons.injEq]at h
 obtain⟨h3,h⟩:=h
 obtain⟨h4,h⟩:=app_inj (n:=4) rfl rfl h
 rw [List.cons.injEq]at h
 obtain⟨h5,h⟩:=h
 obtain⟨h6,h⟩:=app_inj (n:=6) rfl rfl h
 simp only [List.cons.injEq,V.int.injEq,V.sl.injEq,true_and,and_true]at h h3 h5
 obtain⟨g1,g2,g3,g4,g5,g6,g7,g8⟩:=h
 rw [Met.row_inj _ _ h1,Wt.row_inj _ _ h2,map_injR Leg.row_inj h3,Reg.row_inj _ _ h4,map_injR Wk.row_inj h5,Ro.row_inj _ _ h6,map_injR Du.row_inj g1,map_ri_inj g2,map_ri_inj g3,g4,g5,g6,g7,map_injR Jb.row_inj g8]
def Jb.bad (n unt:Int) (x:Jb):Bool:=!(rgB x.a 0 (n - 1) && rgB x.b 0 (n - 1) && decide (x.a≠x.b) && rgB x.dep 0 (unt - 1) && rgB x.val 0 1000000)
def bey (most n:Int):Bool:=!rgB n 0 most
def flB (f:Fl):Bool:=
 (decide ((f.bas.length:Int)=f.reg.machines) && decide ((f.cra.length:Int)=f.reg.machines) && !(f.bas.any (bey (f.met.n - 1))) && !(f.cra.any (bey 7))) &&
 (rgB f.turn 0 100 && rgB f.hour 1 100 && rgB f.cov 0 f.reg.machines && rgB f.unt 1 2000 && decide (f.jobs.length≤6)) && !(f.jobs.any (Jb.bad f.met.n f.unt))
def flE (f:Fl):Int:=
 if mnE f.met f.mn≠0 then mnE f.met f.mn else if netE f.met f.net≠0 then netE f.met f.net else if opE f.reg f.wks≠0 then opE f.reg f.wks else if (chkE f.ros f.dus).2≠0 then (chkE f.ros f.dus).2 else if flB f=true then 0 else 110
structure FlOk (f:Fl):Prop where
 met:f.met.ok=true
 mn:f.mn.ok=true
 net:netB f.met f.net=true
 op:opE f.reg f.wks=0
 du:(chkE f.ros f.dus).2=0
 bas:(f.bas.length:Int)=f.reg.machines
 cra:(f.cra.length:Int)=f.reg.machines
 bas1:∀n∈f.bas,0≤n∧n<f.met.n
 cra1:∀n∈f.cra,0≤n∧n≤7
 turn:0≤f.turn∧f.turn≤100
 hour:1≤f.hour∧f.hour≤100
 cov:0≤f.cov∧f.cov≤f.reg.machines
 unt:1≤f.unt∧f.unt≤2000
 jobs:f.jobs.length≤6
 job:∀x∈f.jobs,(0≤x.a∧x.a<f.met.n)∧(0≤x.b∧x.b<f.met.n)∧x.a≠x.b∧(0≤x.dep∧x.dep<f.unt)∧0≤x.val∧x.val≤1000000
theorem mnE_zero {m:Met} {l:Mn}:mnE m l=0↔m.ok=true∧l.ok=true:=by
 unfold mnE; cases m.ok<;>cases l.ok<;>simp
theorem netE_zero {m:Met} {l:List Leg}:netE m l=0↔m.ok=true∧netB m l=true:=by
 unfold netE; cases m.ok<;>cases netB m l<;>simp
theorem flE_zero {f:Fl}:flE f=0↔FlOk f:=by
 have hB:flB f=true↔((f.bas.length:Int)=f.reg.machines∧(f.cra.length:Int)=f.reg.machines∧(∀n∈f.bas,0≤n∧n<f.met.n)∧(∀n∈f.cra,0≤n∧n≤7))∧((0≤f.turn∧f.turn≤100)∧(1≤f.hour∧f.hour≤100)∧(0≤f.cov∧f.cov≤f.reg.machines)∧(1≤f.unt∧f.unt≤2000)∧f.jobs.length≤6)∧(∀x∈f.jobs,(0≤x.a∧x.a<f.met.n)∧(0≤x.b∧x.b<f.met.n)∧x.a≠x.b∧(0≤x.dep∧x.dep<f.unt)∧0≤x.val∧x.val≤1000000):=by
  unfold flB
  simp only [Bool.and_eq_true,decide_eq_true_eq,Bool.not_eq_true',List.any_eq_false,bey,Jb.bad,rgB]
  constructor
  ·rintro⟨⟨⟨⟨⟨h1,h2⟩,h3⟩,h4⟩,⟨⟨⟨h5,h6⟩,h7⟩,h8⟩,h9⟩,h10⟩
   refine⟨⟨h1,h2,fun n hn=>?_,fun n hn=>?_⟩,⟨h5,h6,h7,h8,h9⟩,fun x hx=>?_⟩
   ·have:=h3 n hn; simp at this; omega
   ·have:=h4 n hn; simp at this; omega
   ·have:=h10 x hx; simp at this; omega
  ·rintro⟨⟨h1,h2,h3,h4⟩,⟨h5,h6,h7,h8,h9⟩,h10⟩
   refine⟨⟨⟨⟨⟨h1,h2⟩,fun n hn=>?_⟩,fun n hn=>?_⟩,⟨⟨⟨h5,h6⟩,h7⟩,h8⟩,h9⟩,fun x hx=>?_⟩
   ·have:=h3 n hn; simp; omega
   ·have:=h4 n hn; simp; omega
   ·have:=h10 x hx; simp; omega
 unfold flE
 constructor
 ·intro h
  by_cases h1:mnE f.met f.mn=0<;>simp only [h1,ne_eq,not_true,not_false_iff,if_true,if_false]at h
  by_cases h2:netE f.met f.net=0<;>simp only [h2,ne_eq,not_true,not_false_iff,if_true,if_false]at h
  by_cases h3:opE f.reg f.wks=0<;>simp only [h3,ne_eq,not_true,not_false_iff,if_true,if_false]at h
  by_cases h4:(chkE f.ros f.dus).2=0<;>simp only [h4,ne_eq,not_true,not_false_iff,if_true,if_false]at h
  cases h5:flB f
  ·rw [h5]at h; simp at h
  ·obtain⟨⟨a1,a2,a3,a4⟩,⟨b1,b2,b3,b4,b5⟩,c⟩:=hB.1 h5
   exact⟨(mnE_zero.1 h1).1,(mnE_zero.1 h1).2,(netE_zero.1 h2).2,h3,h4,a1,a2,a3,a4,b1,b2,b3,b4,b5,c⟩
 ·intro h
  rw [if_neg (by simp [mnE_zero.2 ⟨h.met,h.mn⟩]),if_neg (by simp [netE_zero.2 ⟨h.met,h.net⟩]),if_neg (by simp [h.op]),if_neg (by simp [h.du]),if_pos (hB.2 ⟨⟨h.bas,h.cra,h.bas1,h.cra1⟩,⟨h.turn,h.hour,h.cov,h.unt,h.jobs⟩,h.job⟩)]
structure Bk where
 lv:Int
 ar:Int
 hm:Int
 air:Int
 deriving DecidableEq,Inhabited
def Bk.row (b:Bk):List V:=[.int .i64 b.lv,.int .i64 b.ar,.int .i64 b.hm,.int .i64 b.air]
theorem Bk.row_inj (a b:Bk) (h:a.row=b.row):a=b:=by
 cases a; cases b; simp [Bk.row]at h; simp [h]
def tmF (f:Fl):T2:=timT f.met.n.toNat f.net
def jbA (f:Fl) (j:Nat):Jb:=f.jobs.getD j default
def bsA (f:Fl) (m:Nat):Int:=f.bas.getD m 0
def tOut (f:Fl) (j m:Nat):Int:=g2 (tmF f) (bsA f m).toNat (jbA f j).a.toNat
def tOvr (f:Fl) (j:Nat):Int:=g2 (tmF f) (jbA f j).a.toNat (jbA f j).b.toNat
def tBck (f:Fl) (j m:Nat):Int:=g2 (tmF f) (jbA f j).b.toNat (bsA f m).toNat
def bkQ (f:Fl) (j m:Nat):Bool:=decide (0≤tOut f j m) && decide (0≤tOvr f j) && decide (0≤tBck f j m)
def bkV (f:Fl) (j m:Nat):Bk:=
 ⟨(jbA f j).dep - (if bsA f m=(jbA f j).a then 0 else f.turn+tOut f j m),(jbA f j).dep+tOvr f j,(jbA f j).dep+tOvr f j+(if bsA f m=(jbA f j).b then 0 else f.turn+tBck f j m),tOut f j m+tOvr f j+tBck f j m⟩
def hrF (f:Fl) (m:Nat):Int:=if longE f.reg f.wks m 0=0 then longF f.reg f.wks m 0 else -1
def canB (f:Fl) (j m:Nat):Bool:=bkQ f j m && decide (0≤(bkV f j m).lv) && decide ((bkV f j m).hm<f.unt) && decide (0≤hrF f m)
def opF (f:Fl) (p t:Int):Bool:=opnB f.met f.mn p t
def oaB (f:Fl) (j m:Nat):Bool:=opF f (bsA f m) (bkV f j m).lv && opF f (jbA f j).a (jbA f j).dep && opF f (jbA f j).b (bkV f j m).ar && opF f (bsA f m) (bkV f j m).hm
def thB (f:Fl) (j m:Int):Bool:=rgB j 0 (f.jobs.length - 1) && rgB m 0 (f.bas.length - 1)
def bkS (f:Fl) (s:Sr):Bk:=bkV f s.j.toNat s.m.toNat
def clB (f:Fl) (s x:Sr):Bool:=decide (x.j=s.j) || decide (x.m=s.m∧(bkS f s).lv<(bkS f x).hm+f.turn) || decide ((bkS f s).lv<(bkS f x).lv) || decide ((bkS f s).lv=(bkS f x).lv∧s.j<x.j)
def airM (f:Fl) (m:Int):List Sr→Int
 | []=>0
 | x::l=>(if x.m=m then (bkS f x).air else 0)+airM f m l
def fitB (f:Fl) (l:List Sr) (s:Sr) (any:Bool):Bool:=(canB f s.j.toNat s.m.toNat && (any || oaB f s.j.toNat s.m.toNat)) && !(l.any (clB f s)) && decide ((bkS f s).air+airM f s.m l≤hrF f s.m.toNat * f.hour)
def du2 (f:Fl) (s:Sr):List Du:=[⟨s.c,(bkS f s).lv,(bkS f s).hm⟩,⟨s.k,(bkS f s).lv,(bkS f s).hm⟩]
def duF (f:Fl) (l:List Sr):List Du:=f.dus++l.flatMap (du2 f)
def caF (f:Fl) (s:Sr):Cl:=⟨(bkS f s).lv,(bkS f s).hm,f.cra.getD s.m.toNat 0,(jbA f s.j.toNat).wat⟩
def crB (f:Fl) (l:List Sr) (s:Sr):Bool:=callB (caF f s) && (crwL f.ros (duF f l) (caF f s)).contains (s.c,s.k)
def rdB (f:Fl) (l:List Sr) (m t:Int):Bool:=!(l.any fun x=>decide (x.m=m∧(bkS f x).lv≤t∧t<(bkS f x).hm))
def rdN (f:Fl) (l:List Sr) (t:Int):Nat→Int
 | 0=>0
 | m+1=>rdN f l t m+if rdB f l m t=true then 1 else 0
def covT (f:Fl) (l:List Sr) (t:Int):Bool:=decide (f.cov≤rdN f l t f.bas.length)
def covB (f:Fl) (l:List Sr):Bool:=(List.range f.unt.toNat).all fun t=>covT f l t
def nxB (f:Fl) (l:List Sr) (s:Sr) (any:Bool):Bool:=thB f s.j s.m && fitB f l s any && crB f l s && decide ((chkE f.ros (duF f (l++[s]))).2=0) && covB f (l++[s])
def bdP (f:Fl) (l:List Sr) (any:Bool):Int:=idxZ (List.range l.length) fun i=>!nxB f (l.take i) (l.getD i default) any
def Good (f:Fl) (any:Bool) (l:List Sr):Prop:=∀i,i<l.length→nxB f (l.take i) (l.getD i default) any=true
end Go.Sx
end
section
namespace Go.Sx
theorem snoc_ind {α:Type} {P:List α→Prop} (h0:P []) (hs:∀l x,P l→P (l++[x])):∀l,P l:=by
 have:∀(n:Nat) (l:List α),l.length=n→P l:=by
  intro n
  induction n with
  | zero=>intro l hl; rw [List.length_eq_zero_iff.1 hl]; exact h0
  | succ n ih=>
   intro l hl
   rcases snoc_cases l with rfl|⟨p,s,rfl⟩
   ·exact h0
   ·exact hs p s (ih p (by simpa using hl))
 exact fun l=>this _ l rfl
section
variable {f:Fl} {any:Bool} {l:List Sr} {s:Sr}
theorem getD_take {α:Type} [Inhabited α] {l:List α} {n i:Nat} (h:i<n):(l.take n).getD i default=l.getD i default:=by
 simp [List.getD,List.getElem?_take,h]
theorem Good.take (h:Good f any l) (n:Nat):Good f any (l.take n):=by
 intro i hi
 have h1:i<n:=by simp at hi; omega
 have:=h i (by simp at hi; omega)
 rw [List.take_take,show min i n=i by omega,getD_take h1]; exact this
theorem Good.init (h:Good f any (l++[s])):Good f any l:=by
 have:=h.take l.length
 rwa [List.take_left' rfl]at this
theorem Good.last (h:Good f any (l++[s])):nxB f l s any=true:=by
 have:=h l.length (by simp)
 rw [List.take_left' rfl]at this
 rwa [show(l++[s]).getD l.length default=s by simp [List.getD]]at this
theorem Good.snoc (h:Good f any l) (hs:nxB f l s any=true):Good f any (l++[s]):=by
 intro i hi
 simp at hi
 by_cases e:i<l.length
 ·have:=h i e
  rw [List.take_append_of_le_length (by omega),show(l++[s]).getD i default=l.getD i default by simp [List.getD,List.getElem?_append_left e]]; exact this
 ·have:i=l.length:=by omega
  subst this
  rw [List.take_left' rfl,show(l++[s]).getD l.length default=s by simp [List.getD]]; exact hs
theorem Good.nil:Good f any []:=fun i hi=>by simp at hi
theorem good_ind {P:List Sr→Prop} (h0:P []) (hs:∀l s,Good f any l→nxB f l s any=true→P l→P (l++[s])):∀l,Good f any l→P l:=
 snoc_ind (fun _=>h0) fun l x ih h=>hs l x h.init h.last (ih h.init)
structure Nx (f:Fl) (any:Bool) (l:List Sr) (s:Sr):Prop where
 th:thB f s.j s.m=true
 can:canB f s.j.toNat s.m.toNat=true
 opn:any=true∨oaB f s.j.toNat s.m.toNat=true
 cl:∀x∈l,clB f s x=false
 air:(bkS f s).air+airM f s.m l≤hrF f s.m.toNat * f.hour
 crw:crB f l s=true
 chk:(chkE f.ros (duF f (l++[s]))).2=0
 cov:covB f (l++[s])=true
theorem nx_iff:nxB f l s any=true↔Nx f any l s:=by
 unfold nxB fitB
 simp only [Bool.and_eq_true,Bool.or_eq_true,decide_eq_true_eq,Bool.not_eq_true',List.any_eq_false,Bool.not_eq_true]
 constructor
 ·rintro⟨⟨⟨⟨h1,⟨⟨h2,h3⟩,h4⟩,h5⟩,h6⟩,h7⟩,h8⟩; exact⟨h1,h2,h3,h4,h5,h6,h7,h8⟩
 ·rintro⟨h1,h2,h3,h4,h5,h6,h7,h8⟩; exact⟨⟨⟨⟨h1,⟨⟨h2,h3⟩,h4⟩,h5⟩,h6⟩,h7⟩,h8⟩
theorem Nx.weak (h:Nx f any l s):Nx f true l s:=⟨h.th,h.can,.inl rfl,h.cl,h.air,h.crw,h.chk,h.cov⟩
theorem Good.weak (h:Good f any l):Good f true l:=fun i hi=>nx_iff.2 (nx_iff.1 (h i hi)).weak
theorem Good.nx (h:Good f any l) {i:Nat} (hi:i<l.length):Nx f any (l.take i) (l.getD i default):=nx_iff.1 (h i hi)
theorem bdP_good:bdP f l any = -1↔Good f any l:=by
 constructor
 ·intro h i hi
  have hz:=idxZ_any (List.range l.length) fun i=>!nxB f (l.take i) (l.getD i default) any
  have e:idxZ (List.range l.length) (fun i=>!nxB f (l.take i) (l.getD i default) any) = -1:=h
  rw [e]at hz
  have:=List.any_eq_false.1 (hz.symm.trans (by decide)) i (by simpa using hi)
  simpa using this
 ·intro h
  exact idxZ_none _ _ fun j hj=>by
   simp at hj ⊢; exact h j hj
theorem rdB_app (f:Fl) (l:List Sr) (s:Sr) (m t:Int):rdB f (l++[s]) m t=(rdB f l m t && !decide (s.m=m∧(bkS f s).lv≤t∧t<(bkS f s).hm)):=by
 simp [rdB,List.any_append,Bool.not_or]
theorem rdN_nil (f:Fl) (t:Int):∀n:Nat,rdN f [] t n=n
 | 0=>rfl
 | n+1=>by rw [rdN,rdN_nil f t n]; simp [rdB]
theorem covB_iff:covB f l=true↔∀t:Int,0≤t→t<f.unt→covT f l t=true:=by
 unfold covB
 rw [List.all_eq_true]
 constructor
 ·intro h t h1 h2
  have:=h t.toNat (by simp; omega)
  rwa [Int.toNat_of_nonneg h1]at this
 ·intro h x hx
  simp at hx
  exact h x (by omega) (by omega)
theorem covB_nil (hf:FlOk f):covB f []=true:=covB_iff.2 fun t _ _=>by
 have:=hf.cov; have:=hf.bas
 unfold covT; rw [rdN_nil]; simp; omega
theorem Good.cov (hf:FlOk f) (h:Good f any l):covB f l=true:=by
 rcases snoc_cases l with rfl|⟨p,s,rfl⟩
 ·exact covB_nil hf
 ·exact(nx_iff.1 h.last).cov
theorem duF_snoc (f:Fl) (l:List Sr) (s:Sr):duF f (l++[s])=duF f l++du2 f s:=by simp [duF,List.flatMap_append]
theorem duF_len (f:Fl) (l:List Sr):(duF f l).length=f.dus.length+2 * l.length:=by
 have:∀l:List Sr,(l.flatMap (du2 f)).length=2 * l.length:=by
  intro l
  induction l with
  | nil=>rfl
  | cons x l ih=>simp [List.flatMap_cons,du2,ih]; omega
 simp [duF,this]
theorem Good.chk (hf:FlOk f) (h:Good f any l):(chkE f.ros (duF f l)).2=0:=by
 rcases snoc_cases l with rfl|⟨p,s,rfl⟩
 ·simpa [duF]using hf.du
 ·exact(nx_iff.1 h.last).chk
theorem airM_snoc (f:Fl) (m:Int) (s:Sr):∀l:List Sr,airM f m (l++[s])=airM f m l+if s.m=m then (bkS f s).air else 0
 | []=>by simp [airM]
 | x::l=>by rw [List.cons_append,airM,airM_snoc f m s l,airM]; omega
theorem Good.air (h:Good f any l):∀x∈l,0≤hrF f x.m.toNat∧airM f x.m l≤hrF f x.m.toNat * f.hour:=by
 refine good_ind (f:=f) (any:=any) (P:=fun l=>∀x∈l,0≤hrF f x.m.toNat∧airM f x.m l≤hrF f x.m.toNat * f.hour) (by simp) ?_ l h
 intro l s _ hn ih x hx
 have hn:=nx_iff.1 hn
 have hc:=hn.can
 simp only [canB,Bool.and_eq_true,decide_eq_true_eq]at hc
 rw [airM_snoc]
 by_cases e:s.m=x.m
 ·rw [if_pos e]
  have:=hn.air
  rw [e]at this
  rw [←e]at this ⊢
  exact⟨hc.2,by omega⟩
 ·rw [if_neg e]
  rcases List.mem_append.1 hx with hx|hx
  ·have:=ih x hx; omega
  ·have:=List.mem_singleton.1 hx; subst this; exact absurd rfl e
theorem Good.pair (h:Good f any l) {i k:Nat} (hik:i<k) (hk:k<l.length):clB f (l.getD k default) (l.getD i default)=false:=by
 refine(h.nx hk).cl _ ?_
 have:(l.take k).getD i default∈l.take k:=by
  have hi:i<(l.take k).length:=by simp; omega
  rw [List.getD_eq_getElem?_getD,List.getElem?_eq_getElem hi]; exact List.getElem_mem hi
 rwa [getD_take hik]at this
theorem clB_false {x:Sr}:clB f s x=false↔x.j≠s.j∧(x.m=s.m→(bkS f x).hm+f.turn≤(bkS f s).lv)∧(bkS f x).lv≤(bkS f s).lv∧((bkS f s).lv=(bkS f x).lv→x.j≤s.j):=by
 unfold clB
 simp only [Bool.or_eq_false_iff,decide_eq_false_iff_not,not_and,Int.not_lt,Int.not_le,and_assoc]
end
end Go.Sx
end
section
namespace Go.Sx
theorem dgTo_sq {n:Nat} {t:T2} (h:Sq n t):∀{k:Nat},k≤n→Sq n (dgTo t k)
 | 0,_=>h
 | k+1,hk=>(dgTo_sq h (k:=k) (by omega)).s2 (by omega) _ _
theorem dgTo_get {n:Nat} {t:T2} (h:Sq n t):∀{k:Nat},k≤n→∀a b,g2 (dgTo t k) a b=if a=b∧a<k then 0 else g2 t a b
 | 0,_,a,b=>by simp [dgTo]
 | k+1,hk,a,b=>by
  rw [dgTo,g2_s2 (dgTo_sq h (by omega)) (by omega) (by omega),dgTo_get h (k:=k) (by omega)]
  by_cases e:a=k∧b=k
  ·rw [if_pos e,if_pos (by omega)]
  ·rw [if_neg e]
   by_cases e2:a=b∧a<k
   ·rw [if_pos e2,if_pos (by omega)]
   ·rw [if_neg e2,if_neg (by omega)]
theorem tim0_tim {n:Nat} {l:List Leg} (h:rightL n l):Tim n 200 (tim0 n l):=by
 have hs:=lgTo_sq h (Nat.le_refl _)
 have e:=dgTo_get hs (Nat.le_refl n)
 refine⟨dgTo_sq hs (Nat.le_refl n),fun a ha=>?_,fun a b ha hb=>?_,fun a b ha hb=>?_⟩
 ·rw [tim0,e,if_pos ⟨rfl,ha⟩]
 ·rw [tim0,e]; split
  ·omega
  ·rw [lgTo_get h (Nat.le_refl _) a b ha hb]; exact(legR_bd h a b (Nat.le_refl _)).1
 ·rw [tim0,e]; split
  ·omega
  ·rw [lgTo_get h (Nat.le_refl _) a b ha hb]; exact(legR_bd h a b (Nat.le_refl _)).2
theorem timT_tim {n:Nat} {l:List Leg} (h:rightL n l) (hn:n≤8):Tim n 51200 (timT n l):=
 ((tim0_tim h).fwC (Nat.le_refl n)).le (by have:=pow_le8 hn; omega)
theorem met_n {m:Met} (h:m.ok=true):1≤m.n∧m.n≤8:=by
 simp only [Met.ok,Bool.and_eq_true,rgB,decide_eq_true_eq]at h; exact h.1.1.1.1.1.1
section
variable {f:Fl} (hf:FlOk f)
include hf
theorem FlOk.tim:Tim f.met.n.toNat 51200 (tmF f):=by
 have:=met_n hf.met
 exact timT_tim (rightL_of (by omega) hf.net) (by omega)
theorem FlOk.jb {j:Nat} (hj:j<f.jobs.length):(0≤(jbA f j).a∧(jbA f j).a<f.met.n)∧(0≤(jbA f j).b∧(jbA f j).b<f.met.n)∧(jbA f j).a≠(jbA f j).b∧(0≤(jbA f j).dep∧(jbA f j).dep<f.unt)∧0≤(jbA f j).val∧(jbA f j).val≤1000000:=by
 refine hf.job _ ?_
 rw [jbA,List.getD_eq_getElem?_getD,List.getElem?_eq_getElem hj]; exact List.getElem_mem hj
theorem FlOk.bs {m:Nat} (hm:m<f.bas.length):0≤bsA f m∧bsA f m<f.met.n:=by
 refine hf.bas1 _ ?_
 rw [bsA,List.getD_eq_getElem?_getD,List.getElem?_eq_getElem hm]; exact List.getElem_mem hm
theorem FlOk.cr {m:Nat} (hm:m<f.bas.length):0≤f.cra.getD m 0∧f.cra.getD m 0≤7:=by
 refine hf.cra1 _ ?_
 have h1:=hf.bas; have h2:=hf.cra
 have hm:m<f.cra.length:=by omega
 rw [List.getD_eq_getElem?_getD,List.getElem?_eq_getElem hm]; exact List.getElem_mem hm
theorem FlOk.t3 {j m:Nat} (hj:j<f.jobs.length) (hm:m<f.bas.length):(-1≤tOut f j m∧tOut f j m≤51200)∧(-1≤tOvr f j∧tOvr f j≤51200)∧-1≤tBck f j m∧tBck f j m≤51200:=by
 have h1:=hf.jb hj; have h2:=hf.bs hm; have h:=hf.tim
 exact⟨⟨h.lo _ _ (by omega) (by omega),h.hi _ _ (by omega) (by omega)⟩,⟨h.lo _ _ (by omega) (by omega),h.hi _ _ (by omega) (by omega)⟩,h.lo _ _ (by omega) (by omega),h.hi _ _ (by omega) (by omega)⟩
theorem FlOk.t0 {j m:Nat} (hj:j<f.jobs.length) (hm:m<f.bas.length):(bsA f m=(jbA f j).a→tOut f j m=0)∧(bsA f m=(jbA f j).b→tBck f j m=0):=by
 have h1:=hf.jb hj; have h2:=hf.bs hm; have h:=hf.tim
 refine⟨fun e=>?_,fun e=>?_⟩
 ·rw [tOut,e]; exact h.dg _ (by omega)
 ·rw [tBck,e]; exact h.dg _ (by omega)
theorem FlOk.bk {j m:Nat} (hj:j<f.jobs.length) (hm:m<f.bas.length) (hq:bkQ f j m=true):((bkV f j m).lv≤(jbA f j).dep∧-51300≤(bkV f j m).lv)∧((jbA f j).dep≤(bkV f j m).ar∧(bkV f j m).ar≤(bkV f j m).hm∧(bkV f j m).hm≤110000)∧0≤(bkV f j m).air∧(bkV f j m).air≤153600:=by
 have h1:=hf.jb hj; have h3:=hf.t3 hj hm; have h4:=hf.turn; have h5:=hf.unt
 simp only [bkQ,Bool.and_eq_true,decide_eq_true_eq]at hq
 simp only [bkV]
 refine⟨⟨?_,?_⟩,⟨?_,?_,?_⟩,?_,?_⟩<;>(repeat' split)<;>omega
end
theorem th_iff {f:Fl} {j m:Int}:thB f j m=true↔(0≤j∧j<f.jobs.length)∧0≤m∧m<f.bas.length:=by
 simp [thB,rgB]; omega
structure SrOk (f:Fl) (s:Sr):Prop where
 j:(0≤s.j∧s.j<f.jobs.length)∧s.j.toNat<f.jobs.length
 m:(0≤s.m∧s.m<f.bas.length)∧s.m.toNat<f.bas.length
 q:bkQ f s.j.toNat s.m.toNat=true
 lv:0≤(bkS f s).lv
 hm:(bkS f s).hm<f.unt
 hr:0≤hrF f s.m.toNat
theorem Nx.sr {f:Fl} {any:Bool} {l:List Sr} {s:Sr} (h:Nx f any l s):SrOk f s:=by
 have h1:=th_iff.1 h.th
 have h2:=h.can
 simp only [canB,Bool.and_eq_true,decide_eq_true_eq]at h2
 exact⟨⟨h1.1,by omega⟩,⟨h1.2,by omega⟩,h2.1.1.1,h2.1.1.2,h2.1.2,h2.2⟩
theorem Good.sr {f:Fl} {any:Bool} {l:List Sr} (h:Good f any l):∀x∈l,SrOk f x:=by
 intro x hx
 obtain⟨i,hi,rfl⟩:=List.getElem_of_mem hx
 have:=(h.nx hi).sr
 rwa [show l.getD i default=l[i] by simp [List.getD,hi]]at this
theorem hrF_bd {f:Fl} (m:Nat) : -1≤hrF f m∧hrF f m≤100:=by
 unfold hrF longF
 split
 ·rename_i h
  refine⟨?_,longest_le100 _ _ _⟩
  unfold longE at h
  split at h
  ·split at h
   ·split at h
    ·cases h
    ·omega
   ·cases h
  ·rename_i g; exact absurd h g
 ·omega
end Go.Sx
end
section
namespace Go.Sx
section
variable {f:Fl} {any:Bool} {l:List Sr}
theorem getD_gE {α:Type} [Inhabited α] {l:List α} {i:Nat} (h:i<l.length):l.getD i default=l[i]:=by simp [List.getD,h]
theorem Good.apart (hf:FlOk f) (h:Good f any l) (p:Int) {i k:Nat} (hik:i<k) (hk:k<l.length) {x y:Du} (hx:x∈du2 f (l.getD i default)) (hy:y∈du2 f (l.getD k default)) (hxp:x.p=p) (hyp:y.p=p) (t:Int):¬ (x.on t=true∧y.on t=true):=by
 obtain⟨h1,h2,h3⟩:=chkE_zero.1 (h.chk hf)
 have hd:=Rt.disj h1.rst.1 p (Nat.le_refl _) h3
 rw [List.take_length]at hd
 unfold Disj own at hd
 rw [List.pairwise_filter,duF,List.pairwise_append]at hd
 have hd:=hd.2.1
 rw [List.pairwise_flatMap]at hd
 have hd:=List.pairwise_iff_getElem.1 hd.2 i k (by omega) hk hik
 rw [getD_gE (by omega)]at hx
 rw [getD_gE hk]at hy
 exact hd x hx y hy (by simpa using hxp) (by simpa using hyp) t
theorem Good.two (h:Good f any l) {i:Nat} (hi:i<l.length):(l.getD i default).c≠(l.getD i default).k:=by
 have h1:=(h.nx hi).crw
 unfold crB at h1
 rw [Bool.and_eq_true,List.contains_iff_mem]at h1
 unfold crwL at h1
 obtain⟨a,_,h2⟩:=List.mem_flatMap.1 h1.2
 obtain⟨b,hb,h3⟩:=List.mem_map.1 h2
 have:=(List.mem_filter.1 hb).2
 simp only [mayB,Bool.and_eq_true,decide_eq_true_eq]at this
 simp only [Prod.mk.injEq]at h3
 omega
theorem Nx.call {s:Sr} (h:Nx f any l s):0≤(bkS f s).lv∧(bkS f s).lv<(bkS f s).hm∧(bkS f s).hm≤2000:=by
 have h1:=h.crw
 unfold crB callB at h1
 rw [Bool.and_eq_true,Bool.and_eq_true,strB_iff]at h1
 exact h1.1.1
theorem Good.same (hf:FlOk f) (h:Good f any l) {i k:Nat} (hik:i<k) (hk:k<l.length)
  (hs:(l.getD k default).m=(l.getD i default).m∨(l.getD k default).c=(l.getD i default).c∨(l.getD k default).c=(l.getD i default).k∨(l.getD k default).k=(l.getD i default).c∨(l.getD k default).k=(l.getD i default).k) :
  ¬ ((bkS f (l.getD k default)).lv<(bkS f (l.getD i default)).hm∧(bkS f (l.getD i default)).lv<(bkS f (l.getD k default)).hm):=by
 have hcl:=clB_false.1 (h.pair hik hk)
 have ht:=hf.turn
 have hpos:=(h.nx hk).call
 have ha:=fun p x y hx hy hxp hyp t=>h.apart hf p hik hk (x:=x) (y:=y) hx hy hxp hyp t
 generalize l.getD k default=s at *
 generalize l.getD i default=x at *
 rintro⟨h1,h2⟩
 have key:∀p,(⟨p,(bkS f x).lv,(bkS f x).hm⟩:Du)∈du2 f x→(⟨p,(bkS f s).lv,(bkS f s).hm⟩:Du)∈du2 f s→False:=fun p hx hy=>by
  refine ha p _ _ hx hy rfl rfl (bkS f s).lv ?_
  have:=hcl.2.2.1
  simp only [Du.on,Bool.and_eq_true,decide_eq_true_eq]
  omega
 rcases hs with hs|hs|hs|hs|hs
 ·have:=hcl.2.1 hs.symm; omega
 ·refine key s.c ?_ ?_<;>simp [du2,hs]
 ·refine key s.c ?_ ?_<;>simp [du2,hs]
 ·refine key s.k ?_ ?_<;>simp [du2,hs]
 ·refine key s.k ?_ ?_<;>simp [du2,hs]
def upH (air hour:Int):Int:=(air+hour - 1).tdiv hour
theorem upH_le {air hour n:Int} (h1:0≤air) (h2:1≤hour) (h3:air≤n * hour):0≤upH air hour∧upH air hour≤n:=by
 unfold upH
 rw [Int.tdiv_eq_ediv_of_nonneg (by omega)]
 refine⟨Int.ediv_nonneg (by omega) (by omega),?_⟩
 have:=Int.ediv_lt_of_lt_mul (a:=air+hour - 1) (b:=n+1) (c:=hour) (by omega) (by
  rw [Int.add_mul,Int.one_mul]; omega)
 omega
theorem hrF_long {m:Nat} (h:0≤hrF f m):longE f.reg f.wks m 0=0∧longF f.reg f.wks m 0=hrF f m:=by
 unfold hrF at h ⊢
 split
 ·rename_i g; exact⟨g,rfl⟩
 ·rename_i g; rw [if_neg g]at h; omega
theorem longE_inv {r:Reg} {l:List Wk} {m c:Int} (h:longE r l m c=0):opE r l=0∧(opH r l).i.machine m=true∧withinB c 0 100=true∧0≤(opH r l).i.longest m c∧longF r l m c=(opH r l).i.longest m c:=by
 have hF:longF r l m c=(opH r l).i.longest m c:=by rw [longF,if_pos h]
 unfold longE at h
 split at h
 ·split at h
  ·split at h
   ·cases h
   ·rename_i g1 g2 g3
    rw [Bool.and_eq_true]at g2
    exact⟨g1,g2.1,g2.2,by omega,hF⟩
  ·cases h
 ·rename_i g; exact absurd h g
theorem SrOk.bk (hf:FlOk f) {s:Sr} (h:SrOk f s):((bkS f s).lv≤(jbA f s.j.toNat).dep∧-51300≤(bkS f s).lv)∧((jbA f s.j.toNat).dep≤(bkS f s).ar∧(bkS f s).ar≤(bkS f s).hm∧(bkS f s).hm≤110000)∧0≤(bkS f s).air∧(bkS f s).air≤153600:=hf.bk h.j.2 h.m.2 h.q
theorem airM_bd (hf:FlOk f) (m:Int):∀{l:List Sr},(∀x∈l,SrOk f x)→0≤airM f m l∧airM f m l≤153600 * l.length
 | [],_=>by simp [airM]
 | x::l,h=>by
  have ih:=airM_bd hf m fun y hy=>h y (List.mem_cons_of_mem _ hy)
  have:=((h x (by simp)).bk hf).2.2
  rw [airM,List.length_cons]; split<;>omega
theorem Good.fly (hf:FlOk f) (h:Good f any l) (hw:f.wks.length<200) {x:Sr} (hx:x∈l):opE f.reg (f.wks++[⟨1,x.m,upH (airM f x.m l) f.hour,0⟩])=0:=by
 obtain⟨h1,h2⟩:=h.air x hx
 have hsr:=(h.sr x hx).m
 obtain⟨e1,e2⟩:=hrF_long h1
 obtain⟨g1,g2,g3,g4,g5⟩:=longE_inv e1
 have hm:((x.m.toNat:Nat):Int)=x.m:=by omega
 rw [hm]at e1 e2 g2 g4 g5
 have hb:=(airM_bd hf x.m h.sr).1
 have hh:=hf.hour
 have hu:=upH_le hb hh.1 h2
 have h100:=(hrF_bd (f:=f) x.m.toNat).2
 rw [opE_snoc g1 hw,fly_ok,if_pos]
 simp only [HG.flyOk,g2,withinB,Bool.true_and,Bool.and_eq_true,decide_eq_true_eq]
 omega
end
end Go.Sx
end
end
