/- A part of a proof; no conditions. -/
import Derived.Test.YtegiclpanpmkdaaGreatDoorR06
set_option linter.all false
set_option maxRecDepth 100000
set_option maxHeartbeats 8000000
noncomputable section
section
namespace Go.Sx
open Go.RowKit
variable [aO]
omit [aO]in
theorem VD(L:List (Nat × (Bool × V)))(T:Nat->Bool × V)(d:Nat)(x:Bool × V):o7 (js L T) (some d) x=js ((d,x)::L) T:=by funext k;simp only [o7,js]
omit [aO]in
theorem VE(t:Nat->Bool × V)(x:Bool × V):o7 t none x=t:=rfl
omit [aO]in
theorem Oy(b:Bool)(h:Hp):nD b h h=h:=by cases b<;>rfl
omit [aO]in
theorem Oz(h h':Hp):nD true h h'=h:=rfl
omit [aO]in
theorem Jq(h h':Hp):nD false h h'=h':=rfl
def forget(ws:List Nat)(T:Nat->Bool × V)(k:Nat):Bool × V:=if ws.contains k=true then (true,.top)else T k
def aT(x y:Bool × V):Prop:=x=y\/y=(true,.top)\/(x.1=true/\y.1=true/\sub x.2 y.2)
def aj(t:Nat->Bool × V):List (Nat × (Bool × V))->Prop
 | []=>True
 | (d,y)::r=>aT (t d) y/\aj t r
omit [aO]in
theorem qM{t:Nat->Bool × V}:∀{L:List (Nat × (Bool × V))} {T:Nat->Bool × V} {k:Nat},aj t L->(L.map (·.1)).contains k=true->aT (t k) (js L T k)
 | [],_,_,_,hk=>by simp at hk
 | (d,y)::r,T,k,h,hk=>by
  simp only [js]
  by_cases hd:k=d
  ·subst hd;rw [if_pos rfl];exact h.1
  ·rw [if_neg hd]
   exact qM h.2 (by simpa [hd]using hk)
omit [aO]in
theorem k9:∀{L:List (Nat × (Bool × V))} {T:Nat->Bool × V} {k:Nat},(L.map (·.1)).contains k=false->js L T k=T k
 | [],_,_,_=>rfl
 | (d,y)::r,T,k,hk=>by
  simp only [List.map_cons,List.contains_cons,Bool.or_eq_false_iff,beq_eq_false_iff_ne]at hk
  simp only [js]
  rw [if_neg hk.1];exact k9 hk.2
omit [aO]in
theorem ag{ws:List Nat}{L L':List (Nat × (Bool × V))}{T:Nat->Bool × V}(h1:(L.all fun p=>ws.contains p.1 || (L'.map (·.1)).contains p.1)=true)(h2:aj (js L (forget ws T)) L'):TLe (js L (forget ws T)) (js L' (forget ws T)):=by
 intro k;by_cases hk:(L'.map (·.1)).contains k=true
 ·rcases qM (T:=forget ws T) h2 hk with h|h|⟨ha,hb,hc⟩
  ·right;left;exact h.symm
  ·left;exact h
  ·right;right;refine⟨_,Prod.ext ha rfl,_,Prod.ext hb rfl,hc⟩
 ·have hk':(L'.map (·.1)).contains k=false:=by simpa using hk
  rw [k9 hk'];by_cases hw:ws.contains k=true
  ·left;simp only [forget,hw,if_true]
  ·right;left;refine(k9 ?_).symm;cases hc:(L.map (·.1)).contains k with
   | false=>rfl
   | true=>
    obtain⟨p,hp,vr⟩:=List.mem_map.1 (List.contains_iff_mem.1 hc);have:=List.all_eq_true.1 h1 p hp;subst vr;simp only [hw,hk',Bool.or_self]at this;cases this
omit [aO]in
theorem OA{ws:List Nat}{L':List (Nat × (Bool × V))}{t:Nat->Bool × V}(h2:aj t L'):TLe t (js L' (forget ws t)):=by
 intro k;by_cases hk:(L'.map (·.1)).contains k=true
 ·rcases qM (T:=forget ws t) h2 hk with h|h|⟨ha,hb,hc⟩
  ·right;left;exact h.symm
  ·left;exact h
  ·right;right;refine⟨_,Prod.ext ha rfl,_,Prod.ext hb rfl,hc⟩
 ·have hk':(L'.map (·.1)).contains k=false:=by simpa using hk
  rw [k9 hk'];by_cases hw:ws.contains k=true
  ·left;simp only [forget,hw,if_true]
  ·right;left;simp only [forget];rw [if_neg hw]
theorem B4{E:Env}{ok:jC}{c:Code}{t t0:Nat->Bool × V}{h h0:Hp}(vs:Gh {t:=t0,h:=h0} {t:=t,h:=h}){Q:Ex->St->Prop}{ι:Type}(ws:List Nat)(L:ι->List (Nat × (Bool × V)))(H:ι->Hp)(m:ι->Nat)(i0:ι)
  (h1:aj t (L i0)) (h2:bA h (H i0))
  (h3:∀i,jo E ok c {t:=js (L i) (forget ws t),h:=H i} fun e st'=>match e with
   | .normal=>∃j,TLe st'.t (js (L j) (forget ws t))/\bA st'.h (H j)/\m j<m i
   | e=>Q e st'):jo E ok (.loop c) {t:=t0,h:=h0} Q:=by
 refine⟨ι,fun i=>{t:=js (L i) (forget ws t),h:=H i},m,i0,⟨_,vs,OA h1,h2⟩,fun i=>?_⟩;refine uo c _ _ _ (fun e st' hh=>?_) (h3 i);cases e with
 | normal=>obtain⟨j,h4,h5,h6⟩:=hh;exact⟨j,⟨h4,h5⟩,h6⟩
 | exit id=>exact hh
 | ret=>exact hh
theorem ay{E:Env}{ok:jC}{c:Code}{t:Nat->Bool × V}{h:Hp}{Q:Ex->St->Prop}{ι:Type}(ws:List Nat)(L:ι->List (Nat × (Bool × V)))(H:ι->Hp)(m:ι->Nat)(i0:ι)
  (h1:aj t (L i0)) (h2:bA h (H i0))
  (h3:∀i,jo E ok c {t:=js (L i) (forget ws t),h:=H i} fun e st'=>match e with
   | .normal=>∃j,TLe st'.t (js (L j) (forget ws t))/\bA st'.h (H j)/\m j<m i
   | e=>Q e st'):jo E ok (.loop c) {t:=t,h:=h} Q:=B4 (.refl _) ws L H m i0 h1 h2 h3
def ghs:List (Nat × Nat × Nat × TypeId)->(Nat->Bool × V)->Hp->(Nat->Bool × V) × Hp
 | [],t,h=>(t,h)
 | (k,key,z,ty)::r,t,h=>ghs r (o7 t (some k) (true,.bw key (hnext h key) 0)) (bD h key {z:=z,els:=[],ty:=ty})
def ghc:List (Nat × Nat × Nat × TypeId)->(Nat->Bool × V)->Hp->Prop
 | [],_,_=>True
 | (k,key,z,ty)::r,t,h=>t k=(true,.nil)/\0<z/\key≠999999999/\ghc r (o7 t (some k) (true,.bw key (hnext h key) 0)) (bD h key {z:=z,els:=[],ty:=ty})
omit [aO]in
theorem VF:∀(gs:List (Nat × Nat × Nat × TypeId)) (t:Nat->Bool × V) (h:Hp),ghc gs t h->Gh {t:=t,h:=h} {t:=(ghs gs t h).1,h:=(ghs gs t h).2}
 | [],t,h,_=>.refl _
 | (k,key,z,ty)::r,t,h,hc=>.nil _ _ k key z ty hc.1 hc.2.1 hc.2.2.1 (VF r _ _ hc.2.2.2)
theorem dA(gs:List (Nat × Nat × Nat × TypeId)){E:Env}{ok:jC}{c:Code}{t0 t:Nat->Bool × V}{h0 h:Hp}(hg:ghs gs t0 h0=(t,h))(hc:ghc gs t0 h0){Q:Ex->St->Prop}{ι:Type}(ws:List Nat)(L:ι->List (Nat × (Bool × V)))(H:ι->Hp)(m:ι->Nat)(i0:ι)
  (h1:aj t (L i0)) (h2:bA h (H i0))
  (h3:∀i,jo E ok c {t:=js (L i) (forget ws t),h:=H i} fun e st'=>match e with
   | .normal=>∃j,TLe st'.t (js (L j) (forget ws t))/\bA st'.h (H j)/\m j<m i
   | e=>Q e st'):jo E ok (.loop c) {t:=t0,h:=h0} Q:=by
 have:=VF gs t0 h0 hc;rw [hg]at this;exact B4 this ws L H m i0 h1 h2 h3
omit [aO]in
theorem aK{n:Int}(h1 : -9223372036854775808<=n)(h2:n<=9223372036854775807):IntKind.wrap .i64 n=n:=by rw [IntKind.wrap_i64];omega
def ri(n:Int):List V:=[.int .i64 n]
def ints(l:List Int):V:=.sl 1 (l.map ri)
omit [aO]in
theorem zm{a b:Int}(h:ri a=ri b):a=b:=by simpa [ri]using h
omit [aO]in
theorem ee:∀{a b:List Int},a.map ri=b.map ri->a=b
 | [],[],_=>rfl
 | [],_::_,h=>by simp at h
 | _::_,[],h=>by simp at h
 | x::a,y::b,h=>by
  simp only [List.map_cons,List.cons.injEq]at h
  rw [zm h.1,ee h.2]
def V.toInt:V->Int
 | .int _ n=>n
 | _=>0
def V.toBool:V->Bool
 | .bool b=>b
 | _=>false
def V.rows:V->List (List V)
 | .sl _ els=>els
 | _=>[]
def vF:List V->Int
 | [v]=>v.toInt
 | _=>0
def V.DN(v:V):List Int:=v.rows.map vF
@[simp] theorem abJ(l:List Int):(ints l).DN=l:=by
 simp [V.DN,ints,V.rows,List.map_map]
 induction l with
 | nil=>rfl
 | cons a l ih=>simp [ri,vF,V.toInt,ih]
@[simp] theorem afK:V.nil.DN=[]:=rfl
def hps:List (Nat × Site)->Hp->Hp
 | [],H,s=>H s
 | (k,S)::L,H,s=>if s=k then S else hps L H s
omit [aO]in
theorem eU(k:Nat)(S:Site)(L:List (Nat × Site))(H:Hp)(s:Nat):hps ((k,S)::L) H s=if s=k then S else hps L H s:=rfl
omit [aO]in
theorem Lo(H:Hp)(s:Nat):hps [] H s=H s:=rfl
omit [aO]in
theorem aau(s:Nat):cg s={base:=0,ah:=[]}:=rfl
omit [aO]in
theorem B5(s:Nat)(B:dZ):bD cg s B=hps [(s,{base:=0,ah:=[B]})] cg:=by funext k;simp only [bD,hps,cg];split<;>simp_all
omit [aO]in
theorem aV(L:List (Nat × Site))(H:Hp)(s:Nat)(B:dZ):bD (hps L H) s B=hps ((s,{base:=(hps L H s).base,ah:=(hps L H s).ah++[B],fl:=(hps L H s).fl})::L) H:=by funext k;simp only [bD,hps]
omit [aO]in
theorem VG(L:List (Nat × Site))(H:Hp)(s i:Nat)(B:dZ):bE (hps L H) s i B=hps ((s,{base:=(hps L H s).base,ah:=(hps L H s).ah.set (i - (hps L H s).base) B,fl:=(hps L H s).fl})::L) H:=by funext k;simp only [bE,hps]
omit [aO]in
theorem VH(L:List (Nat × Site))(H:Hp)(s i:Nat):aL (hps L H) s i=if i<(hps L H s).base then none else (hps L H s).ah[i - (hps L H s).base]?:=rfl
omit [aO]in
theorem OB(L:List (Nat × Site))(H:Hp)(s:Nat):hnext (hps L H) s=(hps L H s).base+(hps L H s).ah.length:=rfl
omit [aO]in
theorem VI(L:List (Nat × Site))(H:Hp)(s:Nat):zx (hps L H) s=hps ((s,{base:=(hps L H s).base,ah:=(hps L H s).ah.map (fun B=>{B with fz:=true}),fl:=(hps L H s).fl})::L) H:=by funext k;simp only [zx,hps]
omit [aO]in
theorem VJ(L:List (Nat × Site))(H:Hp)(s i:Nat):tV (hps L H) s i=hps ((s,{base:=max (hps L H s).base (i+1),ah:=(hps L H s).ah.drop (i+1 - (hps L H s).base),fl:=(hps L H s).fl})::L) H:=by funext k;simp only [tV,hps]
omit [aO]in
theorem OC(s:Nat):hnext cg s=0:=rfl
omit [aO]in
theorem VK(s i:Nat):aL cg s i=none:=rfl
def Kept(ws:List Nat)(t T:Nat->Bool × V):Prop:=∀k,ws.contains k=false->t k=T k
omit [aO]in
theorem bO{ws:List Nat}{T:Nat->Bool × V}:Kept ws (forget ws T) T:=fun k hk=>by simp only [forget,hk,Bool.false_eq_true,if_false]
omit [aO]in
theorem aN{ws:List Nat}{L:List (Nat × (Bool × V))}{t T:Nat->Bool × V}(h:(L.all fun p=>ws.contains p.1)=true)(hk:Kept ws t T):Kept ws (js L t) T:=by
 intro k hw;rw [k9,hk k hw];cases hc:(L.map (·.1)).contains k with
 | false=>rfl
 | true=>
  obtain⟨p,hp,rfl⟩:=List.mem_map.1 (List.contains_iff_mem.1 hc);have:=List.all_eq_true.1 h p hp;rw [hw]at this;cases this
omit [aO]in
theorem br{ws ws2:List Nat}{t T:Nat->Bool × V}(h:(ws2.all fun k=>ws.contains k)=true)(hk:Kept ws t T):Kept ws (forget ws2 t) T:=by
 intro k hw;simp only [forget];rw [if_neg]
 ·exact hk k hw
 ·intro hc;have:=List.all_eq_true.1 h k (List.contains_iff_mem.1 hc);rw [hw]at this;cases this
omit [aO]in
theorem cq{ws:List Nat}{L':List (Nat × (Bool × V))}{t T:Nat->Bool × V}(hk:Kept ws t T)(h2:aj t L'):TLe t (js L' (forget ws T)):=by
 intro k;by_cases hm:(L'.map (·.1)).contains k=true
 ·rcases qM (T:=forget ws T) h2 hm with h|h|⟨ha,hb,hc⟩
  ·right;left;exact h.symm
  ·left;exact h
  ·right;right;refine⟨_,Prod.ext ha rfl,_,Prod.ext hb rfl,hc⟩
 ·have hm':(L'.map (·.1)).contains k=false:=by simpa using hm
  rw [k9 hm'];by_cases hw:ws.contains k=true
  ·left;simp only [forget,hw,if_true]
  ·right;left;have hw':ws.contains k=false:=(by simpa using hw);rw [hk k hw'];simp only [forget,hw',Bool.false_eq_true,if_false]
omit [aO]in
theorem bq(k:Nat)(S S':Site)(L:List (Nat × Site))(H:Hp):hps ((k,S)::(k,S')::L) H=hps ((k,S)::L) H:=by funext s;simp only [hps];split<;>simp_all
omit [aO]in
theorem bA.clear{h h':Hp}(h1:∀s i,aL h' s i=none)(h2:∀s,hnext h s<=hnext h' s)(hy:h' YS=h YS):bA h h':=
 ⟨⟨fun s i B hg=>(by rw [h1]at hg;cases hg),h2⟩,hy⟩
omit [aO]in
theorem B6:∀{L:List (Nat × Site)},(L.all fun p=>p.2.ah.isEmpty)=true->∀s i,aL (hps L cg) s i=none
 | [],_,s,i=>by simp [aL,hps,cg]
 | (k,S)::L,h,s,i=>by
  simp only [List.all_cons,Bool.and_eq_true,List.isEmpty_iff]at h;have ih:=B6 h.2 s i;unfold aL at ih ⊢;rw [eU];by_cases hs:s=k
  ·rw [if_pos hs,h.1];simp
  ·rw [if_neg hs];exact ih
omit [aO]in
theorem bA.forget{h:Hp}{L:List (Nat × Site)}(h1:(L.all fun p=>p.2.ah.isEmpty)=true)(h2:∀s,hnext h s<=hnext (hps L cg) s)(hy:hps L cg YS=h YS):bA h (hps L cg):=bA.clear (B6 h1) h2 hy
def Oi(S S':Site):Prop:=(S'.ah=[]/\S.base+S.ah.length<=S'.base)\/∃d,d<=S.ah.length/\S'.base=S.base+d/\S'.ah=S.ah.drop d
omit [aO]in
theorem Oi.same{S S':Site}(h1:S'.base=S.base)(h2:S'.ah=S.ah):Oi S S':=.inr ⟨0,Nat.zero_le _,h1,by simpa using h2⟩
omit [aO]in
theorem Oi.clear{S S':Site}(h1:S'.ah=[])(h2:S.base+S.ah.length<=S'.base):Oi S S':=.inl ⟨h1,h2⟩
omit [aO]in
theorem Oi.drop{S S':Site}(d:Nat)(h0:d<=S.ah.length)(h1:S'.base=S.base+d)(h2:S'.ah=S.ah.drop d):Oi S S':=.inr ⟨d,h0,h1,h2⟩
def aC(P:Nat->Prop):List Nat->Prop
 | []=>True
 | k::r=>P k/\aC P r
omit [aO]in
theorem zC{P:Nat->Prop}:∀{l:List Nat},aC P l->∀k∈l,P k
 | [],_,k,hk=>by simp at hk
 | a::r,h,k,hk=>by
  rcases List.mem_cons.1 hk with rfl|hk
  ·exact h.1
  ·exact zC h.2 k hk
omit [aO]in
theorem bA.sites{h h':Hp}(H:∀s,Oi (h s) (h' s))(hy:h' YS=h YS):bA h h':=by
 refine⟨⟨fun s i B hg=>?_,fun s=>?_⟩,hy⟩
 ·unfold aL at hg ⊢;rcases H s with⟨h1,_⟩|⟨d,h0,h1,h2⟩
  ·rw [h1]at hg;simp at hg
  ·rw [h1,h2]at hg;split at hg
   ·cases hg
   ·rw [if_neg (by omega)];rw [List.getElem?_drop]at hg;rw [<-hg];congr 1;omega
 ·unfold hnext;rcases H s with⟨h1,h2⟩|⟨d,h0,h1,h2⟩
  ·rw [h1];simpa using h2
  ·rw [h1,h2];simp;omega
omit [aO]in
theorem bN{L:List (Nat × Site)}{H:Hp}{s:Nat}(h:s ∉ L.map (·.1)):hps L H s=H s:=by
 induction L with
 | nil=>rfl
 | cons p L ih=>
  obtain⟨k,S⟩:=p;simp only [List.map_cons,List.mem_cons,not_or]at h;rw [eU,if_neg h.1];exact ih h.2
omit [aO]in
theorem bK{L L':List (Nat × Site)}{H:Hp}(h:aC (fun k=>Oi (hps L H k) (hps L' H k)) (L.map (·.1)++L'.map (·.1)))(hy:(L.map (·.1)++L'.map (·.1)).contains 999999999=false:=by first|rfl|simp):bA (hps L H) (hps L' H):=by
 have v5:YS ∉ L.map (·.1)++L'.map (·.1):=by
  intro hm;have:(L.map (·.1)++L'.map (·.1)).contains 999999999=true:=by simpa [List.contains_eq_mem]using hm
  rw [hy]at this;cases this
 refine .sites (fun s=>?_) ?_
 ·by_cases hs:s∈L.map (·.1)++L'.map (·.1)
  ·exact zC h s hs
  ·rw [List.mem_append,not_or]at hs;rw [bN hs.1,bN hs.2];exact .same rfl rfl
 ·rw [List.mem_append,not_or]at v5;rw [bN v5.1,bN v5.2]
omit [aO]in
theorem ai{L L':List (Nat × Site)}(h:aC (fun k=>Oi (hps L cg k) (hps L' cg k)) (L.map (·.1)++L'.map (·.1)))(hy:(L.map (·.1)++L'.map (·.1)).contains 999999999=false:=by first|rfl|simp):bA (hps L cg) (hps L' cg):=bK h hy
omit [aO]in
theorem bA.of_eq{h h':Hp}(e:h=h'):bA h h':=e ▸ bA.refl _
omit [aO]in
theorem Bw(h:Hp)(s i:Nat)(B B':dZ):bE (bE h s i B) s i B'=bE h s i B':=by funext k;simp only [bE];split<;>simp [List.set_set]
omit [aO]in
theorem S7{h:Hp}{s i:Nat}{B:dZ}(hg:aL h s i=some B):bE h s i B=h:=by
 funext k;simp only [bE];split
 ·rename_i hk;subst hk;unfold aL at hg;split at hg
  ·cases hg
  ·have:(h k).ah.set (i - (h k).base) B=(h k).ah:=by
    apply List.ext_getElem?;intro n;rw [List.getElem?_set];split
    ·rename_i e;subst e;split
     ·exact hg.symm
     ·rename_i e2;rw [List.getElem?_eq_none (by omega)]
    ·rfl
   rw [this]
 ·rfl
theorem hpx:(∀(s:Nat) (B:dZ),bD cg s B=hps [(s,{base:=0,ah:=[B]})] cg)/\(∀(L:List (Nat × Site)) (H:Hp) (s:Nat) (B:dZ),bD (hps L H) s B=hps ((s,{base:=(hps L H s).base,ah:=(hps L H s).ah++[B],fl:=(hps L H s).fl})::L) H)/\∀(k:Nat) (S S':Site) (L:List (Nat × Site)) (H:Hp),hps ((k,S)::(k,S')::L) H=hps ((k,S)::L) H:=⟨B5,aV,bq⟩
theorem rz{p:Prop}(h:p:=by repeat' (first|(refine And.intro ?_ ?_)|(refine Oi.same ?_ ?_<;>(simp;done))|(refine Oi.clear ?_ ?_<;>(first|(simp;done)|(simp;omega)))|(refine Oi.drop 1 ?_ ?_ ?_<;>(simp;done)))):p:=h
end Go.Sx
end
section
namespace Go.Sx
variable [aO]
@[simp] theorem ags(d:Nat)(x:Bool × V)(L:List (Nat × (Bool × V)))(T:Nat->Bool × V)(k:Nat):js ((d,x)::L) T k=if k=d then x else js L T k:=rfl
@[simp] theorem ak3(T:Nat->Bool × V)(k:Nat):js [] T k=T k:=rfl
@[simp] theorem afL(ws:List Nat)(T:Nat->Bool × V)(k:Nat):forget ws T k=if ws.contains k=true then (true,.top)else T k:=rfl
@[simp] theorem ak4(k:Nat):aav k=(true,.top):=rfl
@[simp] theorem entry_eq(args:List V)(h:Hp):entry args h={t:=js (OD 0 args) aav,h:=h}:=rfl
inductive Tg {α:Type} (q:α):Type where
 | mk:Tg q
def sK(c:Prop)(st:St)(k:St->Prop)(_:Tg k):Prop:=c/\k st
def zQ(c:Prop)(st:St)(k:St->Prop)(_:Tg k):Prop:=c->k st
@[simp] theorem agt(st:St)(k:St->Prop)(t:Tg k):sK True st k t=k st:=by simp [sK]
@[simp] theorem agu(st:St)(k:St->Prop)(t:Tg k):zQ True st k t=k st:=by simp [zQ]
@[simp] theorem afM(st:St)(k:St->Prop)(t:Tg k):zQ False st k t=True:=by simp [zQ]
omit [aO]in
theorem sK.intro{c:Prop}{st:St}{k:St->Prop}{t:Tg k}(h:c)(h':c->k st):sK c st k t:=⟨h,h' h⟩
omit [aO]in
theorem zQ.intro{c:Prop}{st:St}{k:St->Prop}{t:Tg k}(h:c->k st):zQ c st k t:=h
def AP(E:Env)(all:List Oper):List Oper->St->(St->Prop)->Prop
 | [],st,K=>K st
 | o::r,st,K=>match step E all o st with
  | (c,st')=>sK c st' (fun st'=>AP E all r st' K) .mk
theorem DP(E:Env)(all:List Oper):∀(ops:List Oper) (st:St) (K:St->Prop),AP E all ops st K=((mP E all ops st).1/\K (mP E all ops st).2)
 | [],st,K=>by simp [AP,mP]
 | o::r,st,K=>by
  rw [AP,mP]
  cases hs:step E all o st with
  | mk c st'=>
   simp only [sK]
   rw [DP E all r st' K]
   simp [and_assoc]
@[simp ↓] theorem ak5(E:Env)(all:List Oper)(st:St)(K:St->Prop):AP E all [] st K=K st:=rfl
@[simp ↓] theorem agv(E:Env)(all:List Oper)(o:Oper)(r:List Oper)(st:St)(K:St->Prop):AP E all (o::r) st K=(match step E all o st with
  | (c,st')=>sK c st' (fun st'=>AP E all r st' K) .mk):=rfl
def qh(E:Env)(all:List Oper)(fr:List Nat):List Nat->St->(St->Prop)->Prop
 | [],st,K=>K st
 | i::l,st,K=>match all[i]? with
  | none=>qh E all fr l st K
  | some o=>sK ((fr.contains i=true->aS E o st)/\(fr.contains (i+1000)=true->o8 o st)/\(fr.contains (i+2000)=true->cQ E all o st)/\(fr.contains (i+3000)=true->lB o st)) st (fun st=>match step E all o st with
   | (c,st')=>sK c st' (fun st'=>qh E all fr l st' K) .mk) .mk
theorem zR(E:Env)(all:List Oper)(fr:List Nat):∀(l:List Nat) (st:St) (K:St->Prop),qh E all fr l st K=((iS E all fr l st).1/\K (iS E all fr l st).2)
 | [],st,K=>by simp [qh,iS]
 | i::l,st,K=>by
  rw [qh,iS]
  cases ho:all[i]? with
  | none=>exact zR E all fr l st K
  | some o=>
   simp only [sK]
   rw [zR E all fr l _ K]
   simp [and_assoc]
def wB(E:Env)(all:List Oper)(fr:List Nat):List (List Nat)->St->(St->Prop)->Prop
 | [],_,_=>True
 | l::r,st,K=>qh E all fr l st K/\wB E all fr r st K
theorem VL(E:Env)(all:List Oper)(fr:List Nat)(cs:List (List Nat))(st:St)(K:St->Prop):runs E all fr cs st K=wB E all fr cs st K:=by
 induction cs with
 | nil=>rfl
 | cons l r ih=>simp only [runs,wB,zR,ih]
@[simp ↓] theorem agw(E:Env)(all:List Oper)(fr:List Nat)(st:St)(K:St->Prop):qh E all fr [] st K=K st:=rfl
@[simp ↓] theorem afN(E:Env)(all:List Oper)(fr:List Nat)(i:Nat)(l:List Nat)(st:St)(K:St->Prop):qh E all fr (i::l) st K=(match all[i]? with
  | none=>qh E all fr l st K
  | some o=>sK ((fr.contains i=true->aS E o st)/\(fr.contains (i+1000)=true->o8 o st)/\(fr.contains (i+2000)=true->cQ E all o st)/\(fr.contains (i+3000)=true->lB o st)) st (fun st=>match step E all o st with
   | (c,st')=>sK c st' (fun st'=>qh E all fr l st' K) .mk) .mk):=rfl
@[simp ↓] theorem agx(E:Env)(all:List Oper)(fr:List Nat)(st:St)(K:St->Prop):wB E all fr [] st K=True:=rfl
@[simp ↓] theorem afO(E:Env)(all:List Oper)(fr:List Nat)(l:List Nat)(r:List (List Nat))(st:St)(K:St->Prop):wB E all fr (l::r) st K=(qh E all fr l st K/\wB E all fr r st K):=rfl
def lk:jC->Nat->Option (List Nat × List (List Nat))
 | [],_=>none
 | (a,p)::r,id=>if id=a then some p else lk r id
@[simp] theorem aqh(id:Nat):lk [] id=none:=rfl
@[simp] theorem aaw(a:Nat)(p:List Nat × List (List Nat))(r:jC)(id:Nat):lk ((a,p)::r) id=if id=a then some p else lk r id:=rfl
theorem abK(id:Nat):∀(ok:jC),ok.lookup id=lk ok id
 | []=>rfl
 | (a,p)::r=>by
  rw [aaw,List.lookup];by_cases h:id=a
  ·subst h;simp
  ·have h':(id == a)=false:=(by simpa using h);rw [h',if_neg h];exact abK id r
@[simp] theorem al4(id:Nat):OV [] id=[]:=rfl
@[simp] theorem ak6(a:Nat)(p:List Nat)(r:List (Nat × List Nat))(id:Nat):OV ((a,p)::r) id=if id=a then p else OV r id:=rfl
def DQ(l:List Nat)(st:St)(K:St->Prop)(_:Tg K):Prop:=(qW l st).1/\K (qW l st).2
@[simp] theorem ak7(st:St)(K:St->Prop)(t:Tg K):DQ [] st K t=K st:=by simp [DQ,qW]
@[simp] theorem agy(k:Nat)(r:List Nat)(st:St)(K:St->Prop)(t:Tg K):DQ (k::r) st K t=(match Az k st with
  | (c,st')=>sK c st' (fun st=>DQ r st K t) .mk):=by
 simp only [DQ,qW,sK];simp [and_assoc]
def Mh(o:Option (List Nat × List (List Nat)))(E:Env)(all:List Oper)(st:St)(K:St->Prop)(_:Tg K):Prop:=
 match o with
 | none=>AP E all all st K
 | some (fr,cs)=>wB E all fr cs st K
@[simp] theorem afP(E:Env)(all:List Oper)(st:St)(K:St->Prop)(t:Tg K):Mh none E all st K t=AP E all all st K:=rfl
@[simp] theorem afQ(E:Env)(all:List Oper)(st:St)(K:St->Prop)(t:Tg K)(fr:List Nat)(cs:List (List Nat)):Mh (some (fr,cs)) E all st K t=wB E all fr cs st K:=rfl
section
variable (E:Env) (ok:jC) (st:St) (Q:Ex->St->Prop)
@[simp ↓] theorem ak8:jo E ok .skip st Q=Q .normal st:=rfl
@[simp ↓] theorem al5:jo E ok .ret st Q=Q .ret st:=rfl
@[simp ↓] theorem ak9(id:Nat):jo E ok (.exit id) st Q=Q (.exit id) st:=rfl
@[simp ↓] theorem afR(id:Nat)(ops:Array Oper):jo E ok (.region id ops false) st Q=DQ (OV E.jQ id) st (fun st=>AP E ops.toList ops.toList st (fun st'=>Q .normal st')) .mk:=by simp only [jo,DQ,DP]
@[simp ↓] theorem Pg(id:Nat)(ops:Array Oper):jo E ok (.region id ops true) st Q=DQ (OV E.jQ id) st (fun st=>Mh (lk ok id) E ops.toList st (fun st'=>Q .normal st') .mk) .mk:=by
 rw [<-abK];simp only [jo,Mh,DQ];cases ok.lookup id with
 | none=>simp only [];rw [DP]
 | some p=>obtain⟨fr,cs⟩:=p;simp only [];rw [VL]
@[simp ↓] theorem al6(a b:Code):jo E ok (.seq a b) st Q=jo E ok a st fun e st'=>match e with
  | .normal=>jo E ok b st' Q
  | e=>Q e st':=rfl
@[simp ↓] theorem ala(c:Operand)(x y:Code):jo E ok (.cond c x y) st Q=(match ev st c with
  | (g,.bool b)=>g=true/\zQ (b=true) st (fun st=>jo E ok x st Q) .mk/\zQ (b=false) st (fun st=>jo E ok y st Q) .mk
  | (g,.qT)=>g=true/\jo E ok x st Q/\jo E ok y st Q
  | _=>False):=by
 simp only [jo,zQ];rfl
@[simp ↓] theorem agz(id:Nat)(c:Code):jo E ok (.block id c) st Q=jo E ok c st fun e st'=>match e with
  | .exit i=>if i=id then Q .normal st' else Q (.exit i) st'
  | e=>Q e st':=rfl
end
omit [aO]in
theorem bU(h:Hp):bA h h=True:=eq_true (bA.refl h)
@[simp] theorem wrap_zero:IntKind.wrap .i64 0=0:=aK (by omega) (by omega)
@[simp] theorem agA:IntKind.wrap .i64 (-1) = -1:=aK (by omega) (by omega)
attribute [simp] fM bq eU Lo aau B5 aV VG VH OB OC VK
@[simp] theorem agB(x y:V):Ad true x y=x:=by
 unfold Ad;split
 ·rfl
 ·split<;>simp_all
 ·rfl
@[simp] theorem afS(x y:V):Ad false x y=y:=by
 unfold Ad;split
 ·rfl
 ·split<;>simp_all
 ·rfl
@[simp] theorem agC(b p q:Bool):Ad b (.bool p) (.bool q)=.bool (if b then p else q):=rfl
@[simp] theorem alb(b:Bool)(k:IntKind)(m n:Int):Ad b (.int k m) (.int k n)=.int k (if b then m else n):=by simp [Ad]
omit [aO]in
@[simp] theorem V.al7:V.emp.len=some 0:=rfl
omit [aO]in
@[simp] theorem V.len_nil:V.nil.len=some 0:=rfl
omit [aO]in
@[simp] theorem V.aqi(z:Nat)(els:List (List V)):(V.sl z els).len=some els.length:=rfl
omit [aO]in
@[simp] theorem V.al8(s i n:Nat):(V.bw s i n).len=some n:=rfl
omit [aO]in
@[simp] theorem V.al9(s i n off len cap:Nat):(V.gY s i n off len cap).len=some len:=rfl
attribute [simp] F5 I7 o6 yp sC ZY I6 zz p8 Oc VJ Az ae1 VI F3 ZT V.at? Wz fzA o8 cQ lB CE kq jr ZX ghs ghc mP step sem fI di ev VD VE A8 valid CC Op.operands JB iD UK I5 Oy Oz Jq OD
 uD MA ny dK gX l9 nq sUn yq eG fk nr ef nu sLen uM gI sCap q9 mN A7 Co vM ag3 kg av ak bV dc cL dF oO splice q8 ja asI uK ig zy ZV
 Gr rJ Jr aj V.cells V.dQ V.cD V.bZ V.Oa V.BP V.leaf V.tW BQ pW sub F2 aAx
def sr(a n:Nat):Nat:=a >>> n
def an(a b:Nat):Nat:=a &&& b
omit [aO]in
theorem ou{a:Nat}(h:a<9223372036854775808):(BitVec.ofInt IntKind.i64.bits (a:Int)).toNat=a:=by rw [show IntKind.i64.bits=64 from rfl,BitVec.toNat_ofInt];omega
omit [aO]in
theorem YC{a b:Nat}(ha:a<9223372036854775808)(hb:b<9223372036854775808):r8 .and .i64 (a:Int) (b:Int)=(an a b:Int):=by unfold an;have h:=Nat.and_le_left (n:=a) (m:=b);simp only [r8,BitVec.toNat_and,ou ha,ou hb];exact aK (by omega) (by omega)
omit [aO]in
theorem YB(a n:Nat)(hn:n<64):tB .i64 (a:Int) (n:Int)=(sr a n:Int):=by
 unfold sr;have e:min (n:Int).toNat IntKind.i64.bits=n:=by rw [show IntKind.i64.bits=64 from rfl,Int.toNat_natCast];omega
 rw [tB,e,Nat.shiftRight_eq_div_pow,Int.fdiv_eq_ediv_of_nonneg _ (by exact Int.le_of_lt (Int.pow_pos (by decide)))]
 norm_cast
omit [aO]in
theorem YD(a n:Nat):an (sr a n) 1=if a.testBit n then 1 else 0:=by
 unfold an sr;have h:=Nat.testBit_eq_decide_div_mod_eq (x:=a) (i:=n);rw [Nat.shiftRight_eq_div_pow,Nat.and_one_is_mod,h];by_cases e:a / 2 ^ n % 2=1
 ·simp [e]
 ·simp [e];omega
theorem pb{E:Env}{ok:jC}{fn:Func}{dom:Type}{enc:dom->List V}{dec:List V->dom}{pre:dom->Prop}{res:dom->V}(h:∀d:dom,pre d->jo E ok (fn.body.getD .skip) (entry (enc d) cg) fun e st=>(e=.normal\/e=.ret)/\match Jr E.P fn.results.toList st with
  | (c,v)=>c/\sub v (res d)) (hyl:E.yl=none:=by rfl):af E ok fn ⟨dom,enc,dec,pre,res⟩:=⟨hyl,h⟩
theorem aI{c:Prop}{st:St}{k:St->Prop}{t:Tg k}(h:c)(h':zQ c st k t):sK c st k t:=⟨h,h' h⟩
theorem oI{c:Prop}{st:St}{k:St->Prop}{t:Tg k}(h:c->k st):zQ c st k t:=h
theorem nI{a b:Prop}(h:a)(k:b):a/\b:=⟨h,k⟩
theorem wi(n:Int)(h1 : -9223372036854775808<=n:=by omega)(h2:n<=9223372036854775807:=by omega):IntKind.wrap .i64 n=n:=aK h1 h2
theorem wx(k:Nat)(h:(k:Int)<9223372036854775807:=by omega):IntKind.wrap .i64 ((k:Int)+1)=(k+1:Nat):=aK (by omega) (by omega)
theorem gx{α:Type}{l:List α}{k:Nat}(h:k<l.length):∃x,l[k]?=some x/\l[k]=x:=⟨_,List.getElem?_eq_getElem h,rfl⟩
end Go.Sx
end
section
namespace Go.Sx
open Go.RowKit
variable [aO]
def bf(l:List (Nat × Spec))(f:Nat):Option Spec:=(l.find? fun p=>p.1 == f).map (·.2)
@[simp] theorem ZO(f:Nat):bf [] f=none:=rfl
@[simp] theorem Uz(g:Nat)(S:Spec)(l:List (Nat × Spec))(f:Nat):bf ((g,S)::l) f=if g=f then some S else bf l f:=by
 simp only [bf,List.find?_cons];by_cases h:g=f
 ·subst h;simp
 ·have:(g == f)=false:=by simpa using h
  simp [this,h]
def Mi(P:Program)(l:List (Nat × Spec)):Prop:=∀p∈l,dM P p.1 p.2
theorem Mi.nil{P:Program}:Mi P []:=fun p h=>by cases h
theorem Mi.cons{P:Program}{f:Nat}{S:Spec}{l:List (Nat × Spec)}(h:dM P f S)(k:Mi P l):Mi P ((f,S)::l):=by
 intro p hp;rcases List.mem_cons.1 hp with rfl|hp
 ·exact h
 ·exact k p hp
theorem Mi.bf{E:Env}{l:List (Nat × Spec)}(hE:E.fn=bf l)(h:Mi E.P l):nZ E:=by
 intro f S hf;rw [hE]at hf;unfold Sx.bf at hf;cases hx:l.find? fun p=>p.1 == f with
 | none=>simp [hx]at hf
 | some p=>
  simp [hx]at hf;subst hf;have h1:=h p (List.mem_of_find?_eq_some hx);have h2:=List.find?_some hx;simp only [beq_iff_eq]at h2;rw [<-h2];exact h1
omit [aO]in
theorem mU {P:Program} {f:FuncId} {fn:Func} {c:Code} (hf:P.funcs[f]?=some fn) (hn:(fn.name == "runtime.NumGoroutine")=false) (hb:fn.body=some c) (args:Array Value) (w:World):(callFunc f args).run P w=.ok (.enter f args) w:=by unfold callFunc;simp only [Sem.run_bind,run_program,Result.andThen_ok,hf,hn,hb,Option.isNone_some,Bool.false_eq_true,if_false,Sem.run_pure]
theorem aax {E:Env} {l:List (Nat × Spec)} (hE:E.fn=bf l) (hl:Mi E.P l) {ok:jC} {f:FuncId} {fn:Func} {S:aB} (hf:E.P.funcs[f]?=some fn) (hn:(fn.name == "runtime.NumGoroutine")=false) (oG:fn.body.isSome=true) (hok:dz E ok (fn.body.getD .skip)=true) (v0:fn.ntmps=E.nt) (hlen:∀d,S.pre d->(S.enc d).length<=E.nt)
  (h:af E ok fn S):dM E.P f (.pure S):=by
 obtain⟨c,hc⟩:=Option.isSome_iff_exists.1 oG;rw [hc]at hok;exact {call:=mU hf hn hc,pure:=fun S' hS=>(by cases hS;exact aay (hl.bf hE) hf hc hok v0 hlen h),heap:=fun S' hS=>(by cases hS),iter:=fun S' hS=>(by cases hS)}
theorem aaz {E:Env} {l:List (Nat × Spec)} (hE:E.fn=bf l) (hl:Mi E.P l) {ok:jC} {f:FuncId} {fn:Func} {S:bB} (hf:E.P.funcs[f]?=some fn) (hn:(fn.name == "runtime.NumGoroutine")=false) (oG:fn.body.isSome=true) (hok:dz E ok (fn.body.getD .skip)=true) (v0:fn.ntmps=E.nt) (hlen:∀args h,(S.go args h).c->args.length<=E.nt)
  (h:ct E ok fn S) (hyl:E.yl=none:=by rfl):dM E.P f (.heap S):=by
 obtain⟨c,hc⟩:=Option.isSome_iff_exists.1 oG;rw [hc]at hok;exact {call:=mU hf hn hc,pure:=fun S' hS=>(by cases hS),heap:=fun S' hS=>(by cases hS;exact aaA (hl.bf hE) hf hc hok v0 hlen h hyl),iter:=fun S' hS=>(by cases hS)}
theorem VM {E:Env} {l:List (Nat × Spec)} (hE:E.fn=bf l) (hl:Mi E.P l) {ok:jC} {f:FuncId} {fn:Func} {S:bB} (hf:E.P.funcs[f]?=some fn) (hn:(fn.name == "runtime.NumGoroutine")=false) (oG:fn.body.isSome=true) (hok:dz E ok (fn.body.getD .skip)=true) (v0:fn.ntmps=E.nt) (hlen:∀args h,(S.go args h).c->args.length<=E.nt)
  (h:vG E ok fn S) (hyl:E.yl=none:=by rfl):dM E.P f (.heap S):=by
 obtain⟨c,hc⟩:=Option.isSome_iff_exists.1 oG;rw [hc]at hok;exact {call:=mU hf hn hc,pure:=fun S' hS=>(by cases hS),heap:=fun S' hS=>(by cases hS;exact Gs (hl.bf hE) hf hc hok v0 hlen h hyl),iter:=fun S' hS=>(by cases hS)}
theorem ZP {E:Env} {l:List (Nat × Spec)} (hE:E.fn=bf l) (hl:Mi E.P l) {ok:jC} {f:FuncId} {fn:Func} {S:Nat->bB->bB} (hf:E.P.funcs[f]?=some fn) (hn:(fn.name == "runtime.NumGoroutine")=false) (oG:fn.body.isSome=true) (hok:∀l Y,dz {E with yl:=some (l,Y)} ok (fn.body.getD .skip)=true) (v0:fn.ntmps=E.nt) (hlen:∀l Y args h,((S l Y).go args h).c->args.length<=E.nt)
  (hkp:VN E) (h:zq E ok fn S) (hyl:E.yl=none:=by rfl) (vP:E.key+E.nt<YS:=by decide):dM E.P f (.iter S):=by
 obtain⟨c,hc⟩:=Option.isSome_iff_exists.1 oG;rw [hc]at hok;exact {call:=mU hf hn hc,pure:=fun S' hS=>(by cases hS),heap:=fun S' hS=>(by cases hS),iter:=fun S' hS=>(by cases hS;exact aaB (hl.bf hE) hf hc hok v0 hlen hyl (fun d hd=>by omega) hkp h)}
def V.aqj:V->V
 | .ip _ els e j=>(els.getD e []).getD j .top
 | _=>.top
def V.caps:V->List V
 | .fn _ cs=>cs
 | _=>[]
def V.cs:V->List V
 | .agg cs=>cs
 | _=>[]
omit [aO]in
theorem B7:vF ∘ ri=id:=by funext n;rfl
@[simp] theorem afT(l:List Int):(l.map ri).map vF=l:=by rw [List.map_map,B7,List.map_id]
@[simp] theorem abL(l:List Int):l.map (vF ∘ ri)=l:=by rw [B7,List.map_id]
attribute [simp] V.aqj V.caps V.cs V.toInt V.toBool V.DN V.rows vF Js rK AQ
theorem pf {E:Env} {l:List (Nat × Spec)} {ok:jC} {f:FuncId} {fn:Func} {S:aB} (h:af E ok fn S) (hl:Mi E.P l) (hE:E.fn=bf l:=by rfl) (hf:E.P.funcs[f]?=some fn:=by kernel_rfl) (hn:(fn.name == "runtime.NumGoroutine")=false:=by kernel_rfl) (oG:fn.body.isSome=true:=by kernel_rfl) (hok:dz E ok (fn.body.getD .skip)=true:=by kernel_rfl) (v0:fn.ntmps=E.nt:=by rfl) (hlen:∀d,S.pre d->(S.enc d).length<=E.nt:=by exact fun _ _=>by simp):dM E.P f (.pure S):=aax hE hl hf hn oG hok v0 hlen h
theorem yE {E:Env} {l:List (Nat × Spec)} {ok:jC} {f:FuncId} {fn:Func} {S:bB} (h:ct E ok fn S) (hl:Mi E.P l) (hlen:∀args h,(S.go args h).c->args.length<=E.nt) (hE:E.fn=bf l:=by rfl) (hf:E.P.funcs[f]?=some fn:=by kernel_rfl) (hn:(fn.name == "runtime.NumGoroutine")=false:=by kernel_rfl) (oG:fn.body.isSome=true:=by kernel_rfl) (hok:dz E ok (fn.body.getD .skip)=true:=by kernel_rfl) (v0:fn.ntmps=E.nt:=by rfl) (hyl:E.yl=none:=by rfl):dM E.P f (.heap S):=aaz hE hl hf hn oG hok v0 hlen h hyl
end Go.Sx
end
section
namespace Go.Sx
open Go.RowKit
variable [aO]
omit [aO]in
theorem DR(h:Hp)(b:Bool):hfl h b YS={base:=hnext h YS,ah:=[],fl:=b}:=by simp [hfl]
omit [aO]in
theorem zS(h:Hp)(b:Bool){k:Nat}(hk:k≠YS):hfl h b k=h k:=by simp [hfl,hk]
omit [aO]in
theorem uq{h:Hp}(h1:(h YS).ah=[])(h2:(h YS).fl=false):hfl h false=h:=by
 funext k;unfold hfl;split
 ·rename_i e;subst e;cases hh:h YS with
  | mk base ah fl=>
   rw [hh]at h1 h2;simp only at h1 h2;subst h1 h2;simp [hnext,hh]
 ·rfl
omit [aO]in
theorem aG(L L':List (Nat × Site))(H:Hp):hps L (hps L' H)=hps (L++L') H:=by
 funext k
 induction L with
 | nil=>rfl
 | cons p L ih=>
  obtain⟨a,S⟩:=p;simp only [List.cons_append,hps];split
  ·rfl
  ·exact ih
omit [aO]in
theorem fR{L:List (Nat × Site)}{H H':Hp}{k:Nat}(h:k∈L.map (·.1)):hps L H k=hps L H' k:=by
 induction L with
 | nil=>simp at h
 | cons p L ih=>
  obtain⟨a,S⟩:=p;simp only [hps];split
  ·rfl
  ·rename_i v6;refine ih ?_;simp only [List.map_cons,List.mem_cons]at h;rcases h with h|h
   ·exact absurd h v6
   ·exact h
omit [aO]in
theorem gJ{L:List (Nat × Site)}{H:Hp}(h:∀k∈L.map (·.1),H k=hps L cg k):hps L H=H:=by
 funext k;by_cases hk:k∈L.map (·.1)
 ·rw [h k hk];exact fR hk
 ·exact bN hk
structure Loc (Y:bB) (own ro:List Nat):Prop where
 loc:∀(L:List (Nat × Site)),(∀k∈L.map (·.1),k∈own)->∀x h,(Y.go x h).c->(Y.go x (hps L h)).c/\(Y.go x (hps L h)).v=(Y.go x h).v/\(Y.go x (hps L h)).h=hps L (Y.go x h).h
 ro:∀x h,(Y.go x h).c->∀k∈ro,(Y.go x h).h k=h k
 vb:∀x h,(Y.go x h).c->∃b,(Y.go x h).v=.bool b
 ys:∀x h,(Y.go x h).c->((h YS).ah=[]/\(h YS).fl=false)/\((Y.go x h).v=.bool true->((Y.go x h).h YS)=h YS)
omit [aO]in
theorem Loc.go{Y:bB}{own ro:List Nat}(hL:Loc Y own ro){x:List V}{h:Hp}(hc:(Y.go x h).c){b:Bool}(hv:(Y.go x h).v=.bool b)(L:List (Nat × Site))(hk:(L.map (·.1)).all (fun k=>own.contains k)=true:=by first|rfl|simp) :
  Y.go x (hps L h)=⟨True,.bool b,hps L (Y.go x h).h⟩:=by
 obtain⟨h1,h2,h3⟩:=hL.loc L (fun k hm=>by have:=List.all_eq_true.1 hk k hm;simpa [List.contains_eq_mem]using this) x h hc;cases hy:Y.go x (hps L h)with
 | mk c v h'=>
  rw [hy]at h1 h2 h3;simp only at h1 h2 h3;rw [h2,hv,h3,eq_true h1]
def feed(Y:bB):List (List V)->Hp->Prop × Hp
 | [],h=>(True,h)
 | x::r,h=>match Y.go x h with
  | ⟨c,.bool true,h'⟩=>(c/\(feed Y r h').1,(feed Y r h').2)
  | ⟨c,.bool false,h'⟩=>(c,h')
  | ⟨_,_,h'⟩=>(False,h')
omit [aO]in
theorem B8(Y:bB)(x:List V)(r:List (List V))(h:Hp):feed Y (x::r) h=match Y.go x h with
  | ⟨c,.bool true,h'⟩=>(c/\(feed Y r h').1,(feed Y r h').2)
  | ⟨c,.bool false,h'⟩=>(c,h')
  | ⟨_,_,h'⟩=>(False,h'):=rfl
omit [aO]in
theorem N7{Y:bB}{x:List V}{r:List (List V)}{h:Hp}(hf:(feed Y (x::r) h).1):(Y.go x h).c/\∃b,(Y.go x h).v=.bool b/\
  (b=true->(feed Y r (Y.go x h).h).1/\(feed Y (x::r) h).2=(feed Y r (Y.go x h).h).2)/\(b=false->(feed Y (x::r) h).2=(Y.go x h).h):=by
 rw [B8]at hf ⊢;cases hy:Y.go x h with
 | mk c v h'=>
  rw [hy]at hf;cases v with
  | bool b=>
   cases b with
   | true=>exact⟨hf.1,true,rfl,fun _=>⟨hf.2,rfl⟩,fun e=>by cases e⟩
   | false=>exact⟨hf,false,rfl,(fun e=>by cases e),fun _=>rfl⟩
  | _=>exact hf.elim
def itS(own ro:List Nat)(dec:List V->Hp->Prop × List (List V))(l:Nat)(Y:bB):bB where
 go args h:=match args with
  | .vW l'::caps=>⟨l'=l/\Loc Y own ro/\(∀k∈own,h k={base:=(h k).base,ah:=[]})/\(dec caps h).1/\(feed Y (dec caps h).2 h).1,.dB [],hps (own.map fun k=>(k,{base:=(h k).base+1000000,ah:=[]})) (feed Y (dec caps h).2 h).2⟩
  | _=>⟨False,.top,h⟩
theorem ZM{own ro:List Nat}{dec:List V->Hp->Prop × List (List V)}{l:Nat}{Y:bB}{args:List V}{h:Hp}(hc:((itS own ro dec l Y).go args h).c):∃caps,args=.vW l::caps/\Loc Y own ro/\(∀k∈own,h k={base:=(h k).base,ah:=[]})/\(dec caps h).1/\(feed Y (dec caps h).2 h).1/\
  ((itS own ro dec l Y).go args h).v=.dB []/\((itS own ro dec l Y).go args h).h=hps (own.map fun k=>(k,{base:=(h k).base+1000000,ah:=[]})) (feed Y (dec caps h).2 h).2:=by
 match args,hc with
 | .vW l'::caps,hc=>
  obtain⟨rfl,h2,h3,h4,h5⟩:=hc;exact⟨caps,rfl,h2,h3,h4,h5,rfl,rfl⟩
section
variable {σ:Type} (LC:σ->List (Nat × Site)) (keys:List Nat) (pre:σ->List V->Prop) (go:σ->List V->Bool) (kO:σ->List V->σ)
def Mt(s:σ)(h:Hp):Prop:=∀k∈keys,h k=hps (LC s) cg k
open Classical in
noncomputable def Ph:bB where
 go args h:=if hs:∃s,Mt LC keys s h then ⟨((h YS).ah=[]/\(h YS).fl=false)/\pre hs.choose args,.bool (go hs.choose args),hfl (hps (LC (kO hs.choose args)) h) (!go hs.choose args)⟩else ⟨False,.top,h⟩
def nc:σ->List (List V)->Prop × Bool × σ
 | s,[]=>(True,true,s)
 | s,x::r=>match go s x with
  | true=>(pre s x/\(nc (kO s x) r).1,(nc (kO s x) r).2)
  | false=>(pre s x,false,kO s x)
variable {LC keys pre go kO}
variable (inj:∀s s',(∀k∈keys,hps (LC s) cg k=hps (LC s') cg k)->s=s')
include inj
omit [aO]in
theorem qi{s:σ}{h:Hp}(hm:Mt LC keys s h)(x:List V):(Ph LC keys pre go kO).go x h=⟨((h YS).ah=[]/\(h YS).fl=false)/\pre s x,.bool (go s x),hfl (hps (LC (kO s x)) h) (!go s x)⟩:=by
 have hs:∃s,Mt LC keys s h:=⟨s,hm⟩
 have e:hs.choose=s:=inj _ _ fun k hk=>(hs.choose_spec k hk).symm.trans (hm k hk);simp only [Ph,dif_pos hs,e]
omit [aO]in
theorem Gt{x:List V}{h:Hp}(hc:((Ph LC keys pre go kO).go x h).c):∃s,Mt LC keys s h/\((h YS).ah=[]/\(h YS).fl=false)/\pre s x:=by
 by_cases hs:∃s,Mt LC keys s h
 ·obtain⟨s,hm⟩:=hs;rw [qi inj hm]at hc;exact⟨s,hm,hc⟩
 ·simp only [Ph,dif_neg hs]at hc
omit [aO]in
theorem aaC(hkeys:∀s,(LC s).map (·.1)=keys){own ro:List Nat}(hd:keys.all (fun k=>!own.contains k && !ro.contains k && !(k == YS))=true)(ho:own.contains YS=false)(hr:ro.contains YS=false):Loc (Ph LC keys pre go kO) own ro:=by
 have hd':∀k∈keys,k ∉ own/\k ∉ ro/\k≠YS:=fun k hk=>by have:=List.all_eq_true.1 hd k hk;simp only [Bool.and_eq_true,Bool.not_eq_true',List.contains_eq_mem,decide_eq_false_iff_not,beq_eq_false_iff_ne]at this;exact⟨this.1.1,this.1.2,this.2⟩
 have v4:YS ∉ own:=by simpa [List.contains_eq_mem]using ho
 have vx:YS ∉ ro:=by simpa [List.contains_eq_mem]using hr
 have v1:∀s,YS ∉ (LC s).map (·.1):=fun s hm=>by rw [hkeys]at hm;exact(hd' _ hm).2.2 rfl
 refine⟨fun L hL x h hc=>?_,fun x h hc k hk=>?_,fun x h hc=>?_,fun x h hc=>?_⟩
 ·obtain⟨s,hm,hy,hp⟩:=Gt inj hc;have va:∀k∈keys,k ∉ L.map (·.1):=fun k hk hm=>(hd' k hk).1 (hL k hm);have hm':Mt LC keys s (hps L h):=fun k hk=>by rw [bN (va k hk)];exact hm k hk
  have vd:hps L h YS=h YS:=bN fun hm=>v4 (hL _ hm);rw [qi inj hm,qi inj hm'];refine⟨by rw [vd];exact⟨hy,hp⟩,rfl,?_⟩;funext k;dsimp only;by_cases hk:k=YS
  ·rw [hk];have OX:YS ∉ L.map (·.1):=fun hm=>v4 (hL _ hm);rw [bN OX,DR,DR];simp only [hnext,bN (v1 _),vd]
  ·rw [zS _ _ hk];by_cases v2:k∈L.map (·.1)
   ·have:k ∉ (LC (kO s x)).map (·.1):=(by rw [hkeys];exact fun hm=>va k hm v2);rw [bN this];exact fR v2
   ·rw [bN v2,zS _ _ hk];by_cases v7:k∈(LC (kO s x)).map (·.1)
    ·exact fR v7
    ·rw [bN v7,bN v7,bN v2]
 ·obtain⟨s,hm,hy,hp⟩:=Gt inj hc;rw [qi inj hm];have v3:k≠YS:=fun e=>vx (by rw [<-e];exact hk);dsimp only;rw [zS _ _ v3,bN (by rw [hkeys];exact fun hm=>(hd' k hm).2.1 hk)]
 ·obtain⟨s,hm,hy,hp⟩:=Gt inj hc;rw [qi inj hm];exact⟨_,rfl⟩
 ·obtain⟨s,hm,hy,hp⟩:=Gt inj hc;refine⟨hy,?_⟩;rw [qi inj hm];intro hv;simp only [V.bool.injEq]at hv;simp only [hv,Bool.not_true];rw [uq (by rw [bN (v1 _)];exact hy.1) (by rw [bN (v1 _)];exact hy.2),bN (v1 _)]
omit [aO]in
theorem B9(hkeys:∀s,(LC s).map (·.1)=keys)(v3:YS ∉ keys):∀(xs:List (List V)) (s:σ) (h:Hp),Mt LC keys s h->(h YS).ah=[]->(h YS).fl=false->(nc pre go kO s xs).1->
  (feed (Ph LC keys pre go kO) xs h).1/\(feed (Ph LC keys pre go kO) xs h).2=hfl (hps (LC (nc pre go kO s xs).2.2) h) (!(nc pre go kO s xs).2.1)
 | [],s,h,hm,h1,h2,_=>by refine⟨trivial,?_⟩;simp only [feed,nc,Bool.not_true];rw [gJ (fun k hk=>hm k (by rw [<-hkeys s];exact hk)),uq h1 h2]
 | x::r,s,h,hm,h1,h2,hr=>by
  have v1:∀s,YS ∉ (LC s).map (·.1):=fun s=>by rw [hkeys];exact v3
  rw [B8,qi inj hm];cases hg:go s x with
  | false=>
   simp only [nc,hg]at hr ⊢;exact⟨⟨⟨h1,h2⟩,hr⟩,by simp⟩
  | true=>
   simp only [nc,hg]at hr ⊢;simp only [Bool.not_true];have e1:hps (LC (kO s x)) h YS=h YS:=bN (v1 _);rw [uq (by rw [e1];exact h1) (by rw [e1];exact h2)];have hm':Mt LC keys (kO s x) (hps (LC (kO s x)) h):=fun k hk=>fR (by rw [hkeys];exact hk);obtain⟨g1,g2⟩:=B9 hkeys v3 r (kO s x) (hps (LC (kO s x)) h) hm' (by rw [e1];exact h1) (by rw [e1];exact h2) hr.2;refine⟨⟨⟨⟨h1,h2⟩,hr.1⟩,g1⟩,?_⟩;rw [g2];congr 1;funext k;by_cases hk:k∈keys
   ·exact fR (by rw [hkeys];exact hk)
   ·rw [bN (by rw [hkeys];exact hk),bN (by rw [hkeys];exact hk),bN (by rw [hkeys];exact hk)]
theorem N8(hkeys:∀s,(LC s).map (·.1)=keys){E:Env}{ok:jC}{g:Operand}{ps:Array Tmp}{assign body:Code}{t:Nat->Bool × V}{h:Hp}{Q:Ex->St->Prop}
  (s0:σ) (e0:Ex) {own ro:List Nat} {dec:List V->Hp->Prop × List (List V)} {it:Nat} {caps:List V} (xs:List (List V))
  (h1:ev {t:=t,h:=h} g=(true,.fn it caps)) (h2:E.fn it=some (.iter (itS own ro dec))) (aqk:(ps.toList.all fun p=>decide (p<E.nt))=true)
  (hd:keys.all (fun k=>!own.contains k && !ro.contains k && !(k == YS))=true) (ho:own.contains YS=false) (hr:ro.contains YS=false)
  (hys:(h YS).ah=[]/\(h YS).fl=false) (hm:Mt LC keys s0 h) (vy:∀k∈own,h k={base:=(h k).base,ah:=[]}) (alc:(dec caps h).1/\(dec caps h).2=xs)
  (hrun:(nc pre go kO s0 xs).1)
  (r7:∀s x hb,pre s x->(hb YS).ah=[]->(hb YS).fl=false->x.length=ps.size/\jo E ok assign {t:=vn t ps.toList x,h:=hps (LC s) hb} fun e st1=>match e with
    | .normal=>jo E ok body st1 fun e st2=>match e with
     | .normal=>go s x=true/\bA st2.h (hps (LC (kO s x)) hb)
     | .ret=>e0=.ret/\go s x=false/\bA st2.h (hps (LC (kO s x)) hb)
     | .exit id=>e0=.exit id/\go s x=false/\bA st2.h (hps (LC (kO s x)) hb)
    | _=>False)
  (hQ1:(nc pre go kO s0 xs).2.1=true->Q .normal {t:=t,h:=hps (own.map fun k=>(k,{base:=(h k).base+1000000,ah:=[]})) (hps (LC (nc pre go kO s0 xs).2.2) h)})
  (hQ2:(nc pre go kO s0 xs).2.1=false->e0≠.normal/\Q e0 {t:=t,h:=hps (own.map fun k=>(k,{base:=(h k).base+1000000,ah:=[]})) (hps (LC (nc pre go kO s0 xs).2.2) h)})
  (hyl:E.yl=none:=by rfl):jo E ok (.rangeFunc g ps assign body) {t:=t,h:=h} Q:=by
 have hd':∀k∈keys,k ∉ own/\k ∉ ro/\k≠YS:=fun k hk=>by have:=List.all_eq_true.1 hd k hk;simp only [Bool.and_eq_true,Bool.not_eq_true',List.contains_eq_mem,decide_eq_false_iff_not,beq_eq_false_iff_ne]at this;exact⟨this.1.1,this.1.2,this.2⟩
 have v3:YS ∉ keys:=fun hm=>(hd' _ hm).2.2 rfl;have v4:YS ∉ own:=by simpa [List.contains_eq_mem]using ho
 have v1:∀s,YS ∉ (LC s).map (·.1):=fun s=>by rw [hkeys];exact v3
 have afU:∀(a b:Hp) (x:Bool),bA a b->bA (hfl a x) (hfl b x):=by
  intro a b x v8;refine⟨⟨fun s i B hg=>?_,fun s=>?_⟩,?_⟩
  ·rw [E2]at hg ⊢;split at hg
   ·cases hg
   ·rename_i v6;rw [if_neg v6];exact v8.1.1 s i B hg
  ·rw [uW,uW];exact v8.1.2 s
  ·simp only [hfl,if_true];simp only [hnext,v8.2]
 simp only [jo];refine⟨hyl,it,caps,itS own ro dec,Ph LC keys pre go kO,e0,⟨⟨h1,h2⟩,aqk⟩,fun x hb hc=>?_,fun l=>?_⟩
 ·obtain⟨s,hm,hy,hp⟩:=Gt inj hc;obtain⟨r1,r2⟩:=r7 s x hb hp hy.1 hy.2;refine⟨hy,r1,?_⟩;have he:hps (LC s) hb=hb:=gJ fun k hk=>hm k (by rw [<-hkeys s];exact hk);rw [he]at r2;rw [qi inj hm];refine uo assign _ _ _ (fun e st1 hh=>?_) r2;cases e with
  | normal=>
   refine uo body _ _ _ (fun e st2 hh=>?_) hh;cases e with
   | normal=>exact⟨by rw [hh.1],by rw [hh.1];exact afU _ _ _ hh.2⟩
   | ret=>exact⟨hh.1,by rw [hh.2.1],by rw [hh.2.1];exact afU _ _ _ hh.2.2⟩
   | exit id=>exact⟨hh.1,by rw [hh.2.1],by rw [hh.2.1];exact afU _ _ _ hh.2.2⟩
  | _=>exact hh.elim
 ·rw [uq hys.1 hys.2];obtain⟨f1,f2⟩:=B9 inj hkeys v3 xs s0 h hm hys.1 hys.2 hrun;have aeN:=aaC (pre:=pre) (go:=go) (kO:=kO) inj hkeys hd ho hr;have fV:(itS own ro dec l (Ph LC keys pre go kO)).go (.vW l::caps) h=⟨l=l/\Loc (Ph LC keys pre go kO) own ro/\(∀k∈own,h k={base:=(h k).base,ah:=[]})/\(dec caps h).1/\(feed (Ph LC keys pre go kO) (dec caps h).2 h).1,.dB [],hps (own.map fun k=>(k,{base:=(h k).base+1000000,ah:=[]})) (feed (Ph LC keys pre go kO) (dec caps h).2 h).2⟩:=rfl;rw [fV,alc.2];refine⟨⟨rfl,aeN,vy,alc.1,f1⟩,?_⟩;simp only [f2];have v9:YS ∉ (own.map fun k=>(k,({base:=(h k).base+1000000,ah:=[]}:Site))).map (·.1):=by rw [List.map_map];intro hm;obtain⟨a,ha,e⟩:=List.mem_map.1 hm;exact v4 (e ▸ ha)
  have aql:∀b,(hps (own.map fun k=>(k,({base:=(h k).base+1000000,ah:=[]}:Site))) (hfl (hps (LC (nc pre go kO s0 xs).2.2) h) b) YS).fl=b:=fun b=>by rw [bN v9];simp [hfl]
  have uQ:∀b,hfl (hps (own.map fun k=>(k,({base:=(h k).base+1000000,ah:=[]}:Site))) (hfl (hps (LC (nc pre go kO s0 xs).2.2) h) b)) false=hps (own.map fun k=>(k,({base:=(h k).base+1000000,ah:=[]}:Site))) (hps (LC (nc pre go kO s0 xs).2.2) h):=by
   intro b;funext k;by_cases hk:k=YS
   ·rw [hk];have e1:hps (LC (nc pre go kO s0 xs).2.2) h YS=h YS:=bN (v1 _);rw [bN v9,e1,DR];simp only [hnext,bN v9,DR,e1];cases hh:h YS with
    | mk base ah fl=>rw [hh]at hys;obtain⟨a,b⟩:=hys;simp only at a b;subst a b;simp
   ·rw [zS _ _ hk];by_cases v2:k∈(own.map fun k=>(k,({base:=(h k).base+1000000,ah:=[]}:Site))).map (·.1)
    ·exact fR v2
    ·rw [bN v2,bN v2,zS _ _ hk]
  rw [aql,uQ];refine⟨fun hb=>hQ1 (by simpa using hb),fun hb=>hQ2 (by simpa using hb)⟩
end
end Go.Sx
end
end
