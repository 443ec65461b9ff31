/- The soundness of append, slicing and arithmetic. No conditions. -/
import Derived.Test.YtegiclpanpmkdaaGreatDoorR01
import Derived.ChangeKeysEq
set_option linter.all false
set_option maxRecDepth 100000
set_option maxHeartbeats 8000000
noncomputable section
namespace Go.Sx
open Go.RowKit
variable [aO]
section
variable {F:Fr} {w:World} {A:Nat->Prop} {X:Refs} {h:Hp} {P:Program}
theorem Inv.Ms(hI:Inv F w A X h)(key z:Nat)(ty:TypeId) :
  ∃X',fH X X'/\Inv F w A X' (bD h key {z:=z,els:=[],ty:=ty,cl:=true})/\(X'.D key (hnext h key)).v=.slice none 0 0:=by
 let X':Refs:={D:=fun s' i'=>if s'=key/\i'=hnext h key then {b:=0,z:=z,len:=0,v:=.slice none 0 0}else X.D s' i',N:=fun s'=>if s'=key then hnext h key+1 else X.N s'}
 have hX:fH X X':=by
  intro s' i' hi;have:=hI.nb s';constructor
  ·simp only [X'];split
   ·rename_i hs;subst hs;omega
   ·exact hi
  ·left;simp only [X'];rw [if_neg];rintro⟨rfl,rfl⟩;omega
 refine⟨X',hX,{gl:=hI.gl,oV:=hI.oV,iE:=hI.iE,ep:=hI.ep,os:=hI.os,tape:=hI.tape,output:=hI.output,size:=hI.size,same:=hI.same,xle:=hI.xle.trans hX,nb:=?_,blk:=?_,inj:=?_},by simp [X']⟩
 ·intro s';rw [sB];simp only [X'];have:=hI.nb s';split
  ·rename_i hs;subst hs;omega
  ·omega
 ·intro s' i' B' mg;by_cases v1:s'=key/\i'=hnext h key
  ·obtain⟨rfl,rfl⟩:=v1;rw [dI]at mg;obtain rfl:=Option.some.inj mg;exact {hN:=by simp [X'],hz:=by simp [X'],hlen:=by simp [X'],rows:=by simp,mem:=.inl ⟨by simp [X'],rfl⟩}
  ·rw [eL h key s' i' _ (fun e hi=>v1 ⟨e,hi⟩)]at mg;have ho:=hI.blk s' i' B' mg;have hD:X'.D s' i'=X.D s' i':=(by simp only [X'];rw [if_neg v1]);refine {hN:=(hX s' i' ho.hN).1,hz:=by rw [hD];exact ho.hz,hlen:=by rw [hD];exact ho.hlen,rows:=ho.rows,mem:=?_};rw [hD];rcases ho.mem with hm'|⟨Oe,cap',h1,h2,h3,h4,h5,h6,h7,h8⟩
   ·exact .inl hm'
   ·refine .inr ⟨Oe,cap',h1,h2,h3,h4,h5,?_,h7,h8⟩;intro e j row c he hj;obtain⟨u,g1,g2,g3,g4⟩:=h6 e j row c he hj;exact⟨u,g1,g2,g3.mono (bC.refl w A) hX,g4⟩
 ·intro s1 i1 B1 s2 i2 B2 ez kJ kR jP vd;have key':∀s' i' B',aL (bD h key {z:=z,els:=[],ty:=ty,cl:=true}) s' i'=some B'->(X'.D s' i').real->aL h s' i'=some B'/\X'.D s' i'=X.D s' i':=by
   intro s' i' B' mg hr;by_cases v1:s'=key/\i'=hnext h key
   ·obtain⟨rfl,rfl⟩:=v1;exact absurd (show(X'.D s' (hnext h s')).v=.slice none 0 0 by simp [X']) hr
   ·rw [eL h key s' i' _ (fun e hi=>v1 ⟨e,hi⟩)]at mg;exact⟨mg,by simp only [X'];rw [if_neg v1]⟩
  obtain⟨g1,d1⟩:=key' _ _ _ ez kR;obtain⟨g2,d2⟩:=key' _ _ _ kJ jP;rw [d1,d2]at vd;rw [d1]at kR;rw [d2]at jP;exact hI.inj s1 i1 B1 s2 i2 B2 g1 g2 kR jP vd
omit [aO]in
theorem qI(h:Hp)(s:Nat)(B0 B1:dZ):bE (bD h s B0) s (hnext h s) B1=bD h s B1:=by
 funext s';unfold bE bD hnext;by_cases hs:s'=s
 ·subst hs;simp
 ·simp [hs]
omit [aO]in
theorem Src.mono{w':World}{A':Nat->Prop}{X':Refs}{z:Nat}{x:Value}{els:List (List V)}{cl:Bool}{news:List Value}(hs:Src P w A X z x els cl news)(hX:fH X X')(hw:w'=w)(hA:A'=A):Src P w' A' X' z x els cl news:=by subst hw hA;refine {shape:=hs.shape,run:=hs.run,run':=hs.run',rows:=hs.rows,len:=hs.len,one:=hs.one,cells:=?_};intro e j row c he hj;obtain⟨u,g1,g3,g4⟩:=hs.cells e j row c he hj;exact⟨u,g1,g3.mono (bC.refl _ _) hX,g4⟩
def fU(h:Hp)(z:Nat)(x:V):Prop × List (List V) × Bool:=
 match x with
 | .nil=>(True,[],true)
 | .sl z' els=>(z'=z,els,true)
 | .bw s' i' n'=>match aL h s' i' with
  | some B=>(B.z=z/\n'=B.els.length,B.els,B.cl)
  | none=>(False,[],true)
 | .gY s' i' n' off len _=>match aL h s' i' with
  | some B=>(B.z=z/\n'=B.els.length/\off+len<=B.els.length,(B.els.drop off).take len,B.cl)
  | none=>(False,[],true)
 | _=>(False,[],true)
theorem jI(hI:Inv F w A X h){z:Nat}(hz:0<z){x:V}{u:Value}(hr:RV w A X x u)(hc:(fU h z x).1):∃news,Src P w A X z u (fU h z x).2.1 (fU h z x).2.2 news:=by
 cases x<;>simp only [fU]at hc ⊢
 case nil=>rw [hr.dY];exact⟨[],.empty _ _ _⟩
 case sl z' els=>
  subst hc;have h':=hr.nv;cases h' with
  | xV _ a cap=>exact⟨[],.empty _ _ _⟩
  | sl _ _ b off cap us vV hb hA Eh v6 hv=>
   exact Src.xZ hz rfl Eh fun e j row x he hj=>⟨us e j,(v6 e j row x he hj).1,(v6 e j row x he hj).2,.pure (hv e j row x he hj),fun _=>hv e j row x he hj⟩
 case bw s i n=>
  cases hg:aL h s i with
  | none=>simp [hg]at hc
  | some B=>
   simp only [hg]at hc ⊢;obtain⟨rfl,hn⟩:=hc;obtain⟨a,c,rfl,hN,hn',hv⟩:=hr.gp;have hb:=hI.blk s i B hg;have fJ:=hv (by rw [hb.hlen];exact hn);rcases hb.mem with⟨h1,h2⟩|⟨arr,cap,h1,h2,h3,h4,h5,h6,_⟩
   ·rw [h1]at fJ;injection fJ with e1 e2 e3;subst e1 e2;rw [h2];exact⟨[],.empty _ _ _⟩
   ·rw [h2]at fJ;injection fJ with e1 e2 e3;subst e1;refine Src.xZ hz hn.symm hb.rows fun e j row x he hj=>?_;obtain⟨u,g1,g2,g3,g4⟩:=h6 e j row x he hj;exact⟨u,by simp [World.cell?,h1,g1],g2,g3,g4⟩
 case gY s i n off len cap=>
  cases hg:aL h s i with
  | none=>simp [hg]at hc
  | some B=>
   simp only [hg]at hc ⊢;obtain⟨rfl,hn,hl⟩:=hc;obtain⟨a,c',rfl,mK,hN,hn',hv⟩:=hr.gq;have hb:=hI.blk s i B hg;have fJ:=(hv (by rw [hb.hlen];exact hn)).1;rw [hb.hz]at fJ;subst fJ;refine Src.xZ hz (by simp;omega) (fun row hr=>hb.rows row (List.mem_of_mem_drop (List.mem_of_mem_take hr))) fun e j row x he hj=>?_;have v2:e<len:=(by have:=(List.getElem?_eq_some_iff.1 he).1;rw [List.length_take]at this;omega);rw [List.getElem?_take_of_lt v2,List.getElem?_drop]at he;rcases hb.mem with⟨_,h2⟩|⟨arr,cap,h1,h2,h3,h4,h5,h6,_⟩
   ·rw [h2]at he;simp at he
   ·obtain⟨u,g1,g2,g3,g4⟩:=h6 _ j row x he hj;refine⟨u,?_,g2,g3,g4⟩;rw [Nat.add_mul,<-Nat.add_assoc]at g1;simp [World.cell?,h1,g1]
omit [aO]in
theorem Jt(E:Env)(key:Nat)(T:TypeId)(s x:V)(h:Hp):fM E key T s x h=(match cm E.P T with
  | none=>bad h
  | some e=>match s with
   | .nil=>⟨(fU h (E.P.cellsOf e) x).1/\0<E.P.cellsOf e/\(zc E.P e).length=E.P.cellsOf e/\0<E.P.bytesOf e/\((fU h (E.P.cellsOf e) x).2.1.length) * E.P.bytesOf e<=140737488355328,.bw key (hnext h key) (fU h (E.P.cellsOf e) x).2.1.length,
     bD h key {z:=E.P.cellsOf e,els:=(fU h (E.P.cellsOf e) x).2.1,ty:=e,cl:=(fU h (E.P.cellsOf e) x).2.2}⟩
   | .bw s0 i0 n0=>match aL h s0 i0 with
    | none=>bad h
    | some B=>⟨(fU h (E.P.cellsOf e) x).1/\0<E.P.cellsOf e/\(zc E.P e).length=E.P.cellsOf e/\0<E.P.bytesOf e/\B.z=E.P.cellsOf e/\B.ty=e/\B.fz=false/\n0=B.els.length/\(B.els.length+(fU h (E.P.cellsOf e) x).2.1.length) * E.P.bytesOf e<=140737488355328,
      .bw s0 i0 (B.els.length+(fU h (E.P.cellsOf e) x).2.1.length),bE h s0 i0 {B with els:=B.els++(fU h (E.P.cellsOf e) x).2.1,cl:=B.cl && (fU h (E.P.cellsOf e) x).2.2}⟩
   | .gY s0 i0 n0 off len cap=>match aL h s0 i0 with
    | none=>bad h
    | some B=>⟨(fU h (E.P.cellsOf e) x).1/\0<E.P.cellsOf e/\B.z=E.P.cellsOf e/\(zc E.P e).length=E.P.cellsOf e/\B.ty=e/\B.fz=false/\n0=B.els.length/\off=0/\B.els≠[]/\len+(fU h (E.P.cellsOf e) x).2.1.length<=cap/\cap<=B.els.length,
      .gY s0 i0 n0 0 (len+(fU h (E.P.cellsOf e) x).2.1.length) cap,bE h s0 i0 {B with els:=B.els.take len++(fU h (E.P.cellsOf e) x).2.1++B.els.drop (len+(fU h (E.P.cellsOf e) x).2.1.length),cl:=B.cl && (fU h (E.P.cellsOf e) x).2.2}⟩
   | .emp=>if (fU h (E.P.cellsOf e) x).2.1=[]then ⟨(fU h (E.P.cellsOf e) x).1/\0<E.P.cellsOf e/\(zc E.P e).length=E.P.cellsOf e,.emp,h⟩else
    ⟨(fU h (E.P.cellsOf e) x).1/\0<E.P.cellsOf e/\(zc E.P e).length=E.P.cellsOf e/\0<E.P.bytesOf e/\((fU h (E.P.cellsOf e) x).2.1.length) * E.P.bytesOf e<=140737488355328,.gY key (hnext h key) (fU h (E.P.cellsOf e) x).2.1.length 0 (fU h (E.P.cellsOf e) x).2.1.length (fU h (E.P.cellsOf e) x).2.1.length,
     bD h key {z:=E.P.cellsOf e,els:=(fU h (E.P.cellsOf e) x).2.1,ty:=e,cl:=(fU h (E.P.cellsOf e) x).2.2}⟩
   | _=>bad h):=by
 unfold fM;cases cm E.P T with
 | none=>rfl
 | some e=>cases s<;>rfl
theorem Av{E:Env}{key:Nat}{T ty:TypeId}{s x:V}{us ux:Value}(hI:Inv F w A X h)(hs:RV w A X s us)(hx:RV w A X x ux)(hc:(fM E key T s x h).c) :
  ∃r w' A' X',(Builtin.append_ #[T,T] ty #[us,ux]).run E.P w=.ok r w'/\bC w A w' A'/\fH X X'/\Inv F w' A' X' (fM E key T s x h).h/\RV w' A' X' (fM E key T s x h).v r:=by
 rw [Jt]at hc ⊢;cases Ei:cm E.P T with
 | none=>simp [Ei,bad]at hc
 | some e=>
  simp only [Ei]at hc ⊢;have hu:=cH Ei;have v7:∀n:Nat,0<E.P.bytesOf e->n * E.P.bytesOf e<=140737488355328->n<=maxLen:=by intro n hb hn;have:=Nat.le_mul_of_pos_right n hb;simp only [maxLen];omega
  cases s<;>simp only [bad]at hc ⊢
  case nil=>
   obtain⟨c1,c2,c3,c4,c5⟩:=hc;obtain⟨news,v0⟩:=jI (P:=E.P) hI c2 hx c1;obtain⟨i,zv,hi,hsz,hz,uw,v3⟩:=gm c2 c3;have v4:E.P.bytesOf e=i.bytes:=(by simp [Program.bytesOf,hi]);obtain⟨X1,vr,wO,oQ⟩:=hI.Ms key (E.P.cellsOf e) e;have v8:=wO.append E.P (T:=T) (ty:=ty) (e:=e) (ti:=i) (zv:=zv) (dI h key _) rfl hu hi hz rfl hsz c2 v3 (v0.mono vr rfl rfl) (by rw [v4]at c5;simpa using c5) (by simpa using v7 _ c4 c5);obtain⟨v',w',A',X',g1,g2,g3,g4,g5⟩:=v8;rw [oQ]at g1;rw [hs.dY];rw [qI]at g4;refine⟨v',w',A',X',g1,g2,vr.trans g3,?_,?_⟩
   ·simpa using g4
   ·simpa using g5
  case bw s0 i0 n0=>
   cases hg:aL h s0 i0 with
   | none=>simp [hg]at hc
   | some B=>
    simp only [hg]at hc ⊢;obtain⟨c1,c2,c3,c4,c5,c6,c7,c8,c9⟩:=hc;obtain⟨news,v0⟩:=jI (P:=E.P) hI c2 hx c1;obtain⟨i,zv,hi,hsz,hz,uw,v3⟩:=gm c2 c3;have v4:E.P.bytesOf e=i.bytes:=(by simp [Program.bytesOf,hi]);rw [<-c5]at v0 hsz v3;have v8:=hI.append E.P (T:=T) (ty:=ty) (e:=e) (ti:=i) (zv:=zv) hg c7 hu hi hz c6 hsz (by rw [c5];exact c2) v3 v0 (by rw [v4,<-c5]at c9;exact c9) (by rw [c5];exact v7 _ c4 c9);obtain⟨v',w',A',X',g1,g2,g3,g4,g5⟩:=v8;obtain⟨a,c,rfl,hN,hn',hv⟩:=hs.gp;have hb:=hI.blk s0 i0 B hg;rw [hv (by rw [hb.hlen];exact c8)];rw [<-c5];exact⟨v',w',A',X',g1,g2,g3,g4,g5⟩
  case gY s0 i0 n0 off len cap=>
   cases hg:aL h s0 i0 with
   | none=>simp [hg]at hc
   | some B=>
    simp only [hg]at hc ⊢;obtain⟨c1,c2,c3,c4,c5,c6,c7,c8,c9,c10,c11⟩:=hc;obtain⟨news,v0⟩:=jI (P:=E.P) hI c2 hx c1;obtain⟨i,zv,hi,hsz,hz,uw,v3⟩:=gm c2 c4;rw [<-c3]at v0 hsz;obtain⟨a,c',rfl,mK,hN,hn',hv⟩:=hs.gq;have hb:=hI.blk s0 i0 B hg;subst c8;obtain⟨w',g1,g2,g3⟩:=hI.UQ E.P (T:=T) (ty:=ty) (e:=e) (ti:=i) hg c6 hu hi c5 hsz v0 mK c9 (by rw [c3];exact c10) c11;obtain⟨oQ,oR⟩:=hv (by rw [hb.hlen];exact c7);rw [oQ,Nat.zero_mul,Nat.add_zero];rw [<-c3];exact⟨_,w',A,X,g1,g2,fH.refl X,g3,.gY s0 i0 n0 0 _ cap _ _ mK hN hn' (fun hh=>⟨by rw [Nat.zero_mul,Nat.add_zero],oR⟩)⟩
  case emp=>
   obtain⟨a,rfl⟩:=hs.tY;by_cases he:(fU h (E.P.cellsOf e) x).2.1=[]
   ·rw [if_pos he]at hc;rw [if_pos he];obtain⟨c1,c2,c3⟩:=hc;obtain⟨news,v0⟩:=jI (P:=E.P) hI c2 hx c1;obtain⟨i,zv,hi,hsz,hz,uw,v3⟩:=gm c2 c3;rw [he]at v0;rw [<-hsz]at v0;exact⟨_,w,A,X,qY E.P T ty e i hu hi a v0 rfl,bC.refl w A,fH.refl X,hI,.pure (.emp a)⟩
   ·rw [if_neg he]at hc;rw [if_neg he];obtain⟨c1,c2,c3,c4,c5⟩:=hc;obtain⟨news,v0⟩:=jI (P:=E.P) hI c2 hx c1;obtain⟨i,zv,hi,hsz,hz,uw,v3⟩:=gm c2 c3;have v4:E.P.bytesOf e=i.bytes:=(by simp [Program.bytesOf,hi]);rw [v4]at c5;have hm:=v7 _ c4 (by rw [v4];exact c5);generalize F7:(fU h (E.P.cellsOf e) x).2.1=els at *;generalize cZ:(fU h (E.P.cellsOf e) x).2.2=cl at *;have vW:0<els.length:=List.length_pos_iff.2 he;have F8:=v0;rw [<-hsz]at F8;have hr:=kI E.P T ty e i zv hu hi hz a 0 0 [] (by simp) (by simp) F8 (by omega) (by simp only [maxLen]at hm;omega) (growslice_fits (by omega) (by rw [Nat.zero_add];exact c5));simp only [Nat.zero_add]at hr;have vx:=grownCap_ge w els.length 0 e;have wZ:=grownCap_le_maxLen w els.length 0 e hm;obtain⟨v9,va⟩:=hI.drew;have afB:(([]:List Value).toArray++news.toArray++Builtin.zeroCells zv.cells (grownCap w els.length 0 e - els.length)).size=grownCap w els.length 0 e * E.P.cellsOf e:=by simp only [Array.size_append,List.size_toArray,size_zeroCells,v3,v0.len,List.length_nil,Nat.zero_add,<-Nat.add_mul];congr 1;omega
    have fB:=va.alloc key {z:=E.P.cellsOf e,els:=els,ty:=e,cl:=cl} (([]:List Value).toArray++news.toArray++Builtin.zeroCells zv.cells (grownCap w els.length 0 e - els.length)) (grownCap w els.length 0 e) rfl vx wZ v0.rows afB
     (fun e1 j row c vy hj=>by obtain⟨u,k1,k3,k4⟩:=v0.cells e1 j row c vy hj;have v2:e1 * E.P.cellsOf e+j<news.length:=(List.getElem?_eq_some_iff.1 k1).1;refine⟨u,?_,v0.one u (List.mem_of_getElem? k1),k3.mono v9 (fH.refl X),fun hh=>(k4 hh).mono v9⟩;rw [<-Array.getElem?_toList];simp only [Array.toList_append,List.nil_append];rw [List.getElem?_append_left (by simpa using v2)];exact k1)
    refine⟨_,_,_,_,hr,v9.trans (va.fW _),va.nw key _ _,fB,?_⟩;exact .gY _ _ _ _ _ _ _ _ vx (by simp [bT]) (by simp [bT]) (fun _=>⟨by simp [bT],by simp [bT,Hd.cap]⟩)
omit [aO]in
theorem Gy{T:TypeId}(h:isBool P T=true):P.underlying T=some .bool:=by unfold isBool at h;split at h<;>simp_all
omit [aO]in
theorem uu{T:TypeId}(h:EA P T=true):∃e,P.underlying T=some (.pointer e):=by unfold EA at h;split at h<;>simp_all
omit [aO]in
theorem Ju{T:TypeId}(h:ZU P T=true):∃a b c,P.underlying T=some (.func a b c):=by unfold ZU at h;split at h<;>simp_all
omit [aO]in
theorem mG{T:TypeId}(h:(cm P T).isSome=true):∃e,P.underlying T=some (.slice e):=by
 cases hs:cm P T with
 | none=>simp [hs]at h
 | some e=>exact⟨e,cH hs⟩
omit [aO]in
theorem eY{op:BinOp}{T:TypeId}{x y:Operand}{ua ub:Value}{r:Bool}(hE:∀d,(Op.equalIn (d+1) T ua ub).run P w=.ok r w)(h1:binOp .eql T ua ub=(do pure (.bool (<-Op.equal T ua ub))))
  (h2:binOp .neq T ua ub=(do pure (.bool (!(<-Op.equal T ua ub))))) (hg:(eqGuard op T x y ua ub).run P w=.ok () w) :
  (eqGuard op T x y ua ub).run P w=.ok () w/\(binOp .eql T ua ub).run P w=.ok (.bool r) w/\(binOp .neq T ua ub).run P w=.ok (.bool (!r)) w:=by
 have hE':(Op.equal T ua ub).run P w=.ok r w:=hE 9999;refine⟨hg,?_,?_⟩
 ·rw [h1];simp only [Sem.run_bind,hE',Result.andThen_ok,Sem.run_pure]
 ·rw [h2];simp only [Sem.run_bind,hE',Result.andThen_ok,Sem.run_pure]
omit [aO]in
theorem Mu{op:BinOp}{T:TypeId}{x y:Operand}{us vs:Array Value}{r:Bool}(hE:∀d,(Op.equalIn (d+2) T (.agg us) (.agg vs)).run P w=.ok r w)(hg:P.eqGuardType P.depth T=false) :
  (eqGuard op T x y (.agg us) (.agg vs)).run P w=.ok () w/\(binOp .eql T (.agg us) (.agg vs)).run P w=.ok (.bool r) w/\(binOp .neq T (.agg us) (.agg vs)).run P w=.ok (.bool (!r)) w:=by
 have h:=hE 9998;refine⟨run_eqGuard_agg w op T x y us vs hg,?_,?_⟩
 ·rw [run_eql_struct,h];rfl
 ·rw [run_neq_struct,h];rfl
omit [aO]in
theorem wC{T:TypeId}(h:F4 P T=true):P.plainKey T=true:=by
 unfold F4 at h;unfold Program.plainKey;cases hu:P.underlying T with
 | none=>simp [hu]at h
 | some u=>cases u<;>simp_all
omit [aO]in
theorem qj:∀(ts:List TypeId) (a b:List V),(jr P ts a b).1->a.length=ts.length/\b.length=ts.length
 | [],[],[],_=>⟨rfl,rfl⟩
 | [],_::_,_,h=>by simp [jr]at h
 | [],[],_::_,h=>by simp [jr]at h
 | _::_,[],_,h=>by simp [jr]at h
 | _::_,x::_,[],h=>by cases x<;>simp [jr]at h
 | _::ts,x::a,y::b,h=>by cases x<;>cases y<;>first|(simp [jr]at h;done)|(simp only [jr]at h;have:=qj ts a b h.2;simp [this])
omit [aO]in
theorem abO{t:TypeId}{x y:V}{u v:Value}{ts:List TypeId}{a b:List V}(hx:RV w A X x u)(hy:RV w A X y v)(h:(jr P (t::ts) (x::a) (y::b)).1) :
  ∃r,(∀d,(Op.equalIn (d+1) t u v).run P w=.ok r w)/\(jr P (t::ts) (x::a) (y::b)).2=(r && (jr P ts a b).2)/\(jr P ts a b).1:=by
 cases x<;>cases y<;>simp only [jr]at h ⊢<;>try (exact h.elim)
 ·obtain⟨⟨h1,rfl⟩,h2⟩:=h;rw [hx.dV,hy.dV];obtain⟨k',hk⟩:∃k',P.underlying t=some (.int k'):=by
   unfold wI at h1;split at h1
   ·rename_i k' hk;exact⟨k',hk⟩
   ·simp at h1
  exact⟨_,fun d=>run_equalIn_int w d t _ _ _ _ hk,rfl,h2⟩
 ·obtain⟨h1,h2⟩:=h;rw [hx.gD,hy.gD];exact⟨_,fun d=>run_equalIn_bool w d t _ _ (Gy h1),rfl,h2⟩
omit [aO]in
theorem rL{e:TypeId}(he:P.plainKey e=true){us vs:Array Value}(d:Nat):∀(n o:Nat) (a b:List V),(jr P (List.replicate n e) a b).1->(∀i c,a[i]?=some c->∃u,us[o+i]?=some u/\RV w A X c u)->(∀i c,b[i]?=some c->∃u,vs[o+i]?=some u/\RV w A X c u)->
  (Op.eqItems (d+1) e 1 us vs (List.range' o n)).run P w=.ok (jr P (List.replicate n e) a b).2 w
 | 0,o,a,b,h,_,_=>by have:=qj _ _ _ h;have e1:a=[]:=List.eq_nil_of_length_eq_zero (by simpa using this.1);have e2:b=[]:=List.eq_nil_of_length_eq_zero (by simpa using this.2);subst e1 e2;simp [Op.eqItems,jr]
 | n+1,o,a,b,h,ha,hb=>by
  have:=qj _ _ _ h;cases a with
  | nil=>simp at this
  | cons x a=>
   cases b with
   | nil=>simp at this
   | cons y b=>
    rw [List.replicate_succ]at h ⊢;obtain⟨u,hu,vb⟩:=ha 0 x rfl;obtain⟨v,hv,Wq⟩:=hb 0 y rfl;obtain⟨r,h1,h2,h3⟩:=abO vb Wq h;rw [Nat.add_zero]at hu hv;rw [h2,List.range'_succ,Op.eqItems];have ih:=rL he d n (o+1) a b h3 (fun i c hc=>by have:=ha (i+1) c (by simpa using hc);rwa [show o+(i+1)=o+1+i by omega]at this) (fun i c hc=>by have:=hb (i+1) c (by simpa using hc);rwa [show o+(i+1)=o+1+i by omega]at this);simp only [Nat.mul_one,Sem.run_bind,run_part_plain w he hu,run_part_plain w he hv,Result.andThen_ok,h1 d];cases r
    ·simp
    ·simpa using ih
omit [aO]in
theorem ql {us vs:Array Value} (d:Nat):∀(fs:List Field) (o:Nat) (a b:List V),(fs.all fun f=>f.name != "_" && F4 P f.type)=true->fs.map (·.offset)=List.range' o fs.length->(jr P (fs.map (·.type)) a b).1->(∀i c,a[i]?=some c->∃u,us[o+i]?=some u/\RV w A X c u)->(∀i c,b[i]?=some c->∃u,vs[o+i]?=some u/\RV w A X c u)->
  (Op.eqFields (d+1) us vs fs).run P w=.ok (jr P (fs.map (·.type)) a b).2 w
 | [],o,a,b,_,_,h,_,_=>by have:=qj _ _ _ h;have e1:a=[]:=List.eq_nil_of_length_eq_zero (by simpa using this.1);have e2:b=[]:=List.eq_nil_of_length_eq_zero (by simpa using this.2);subst e1 e2;simp [Op.eqFields,jr]
 | f::fs,o,a,b,v5,ho,h,ha,hb=>by
  have:=qj _ _ _ h;cases a with
  | nil=>simp at this
  | cons x a=>
   cases b with
   | nil=>simp at this
   | cons y b=>
    simp only [List.all_cons,Bool.and_eq_true]at v5;rw [List.map_cons,List.length_cons,List.range'_succ,List.cons.injEq]at ho;rw [List.map_cons]at h ⊢;obtain⟨u,hu,vb⟩:=ha 0 x rfl;obtain⟨v,hv,Wq⟩:=hb 0 y rfl;obtain⟨r,h1,h2,h3⟩:=abO vb Wq h;have hn:f.name≠ "_":=(by have:=v5.1.1; simpa using this);have he:=wC v5.1.2;rw [Nat.add_zero,<-ho.1]at hu hv;rw [h2,Op.eqFields,if_pos hn];have ih:=ql d fs (o+1) a b v5.2 ho.2 h3 (fun i c hc=>by have:=ha (i+1) c (by simpa using hc); rwa [show o+(i+1)=o+1+i by omega]at this) (fun i c hc=>by have:=hb (i+1) c (by simpa using hc); rwa [show o+(i+1)=o+1+i by omega]at this);simp only [Sem.run_bind,run_part_plain w he hu,run_part_plain w he hv,Result.andThen_ok,h1 d];cases r
    ·simp
    ·simpa using ih
omit [aO]in
theorem Gz{op:BinOp}{T:TypeId}{x y:Operand}{a b:List V}{ua ub:Value}(ha:RV w A X (.agg a) ua)(hb:RV w A X (.agg b) ub)(hf:uO P T=true)(hc:(jr P (nE P T) a b).1) :
  (eqGuard op T x y ua ub).run P w=.ok () w/\(binOp .eql T ua ub).run P w=.ok (.bool (jr P (nE P T) a b).2) w/\(binOp .neq T ua ub).run P w=.ok (.bool (!(jr P (nE P T) a b).2)) w:=by
 obtain⟨us,rfl,oy,h1⟩:=ha.mb;obtain⟨vs,rfl,vP,h2⟩:=hb.mb;have g1:∀i c,a[i]?=some c->∃u,us[0+i]?=some u/\RV w A X c u:=by
  intro i c hi;have v2:i<us.size:=by rw [oy];exact(List.getElem?_eq_some_iff.1 hi).1
  refine⟨us[i],by rw [Nat.zero_add];exact Array.getElem?_eq_getElem v2,?_⟩;have:=h1 i c hi;simpa [Array.getD_eq_getD_getElem?,Array.getElem?_eq_getElem v2]using this
 have g2:∀i c,b[i]?=some c->∃u,vs[0+i]?=some u/\RV w A X c u:=by
  intro i c hi;have v2:i<vs.size:=by rw [vP];exact(List.getElem?_eq_some_iff.1 hi).1
  refine⟨vs[i],by rw [Nat.zero_add];exact Array.getElem?_eq_getElem v2,?_⟩;have:=h2 i c hi;simpa [Array.getD_eq_getD_getElem?,Array.getElem?_eq_getElem v2]using this
 unfold uO at hf;unfold nE at hc ⊢;cases hu:P.underlying T with
 | none=>simp [hu]at hf
 | some u=>
  rw [hu]at hf hc;cases u<;>simp only at hf hc ⊢<;>try (cases hf;done)
  case array n e=>
   simp only [Bool.and_eq_true,beq_iff_eq,Bool.not_eq_true']at hf;obtain⟨⟨⟨f1,f2⟩,f3⟩,f4⟩:=hf;obtain⟨i,hi⟩:=Option.isSome_iff_exists.1 f3;refine Mu (fun d=>?_) f4;rw [run_equalIn_array w (d+1) us vs hu hi,f2,List.range_eq_range'];exact rL (wC f1) d n 0 a b hc g1 g2
  case struct fs=>
   simp only [Bool.and_eq_true,beq_iff_eq,Bool.not_eq_true']at hf;obtain⟨⟨⟨f1,f2⟩,f3⟩,f4⟩:=hf;have Wg:P.fieldsOf T=fs:=(by simp [Program.fieldsOf,hu]);refine Mu (fun d=>?_) f3;rw [run_equalIn_struct w (d+1) T us vs (by rw [Wg];exact hu) f2,Wg];exact ql d fs.toList 0 a b f1 (by rw [f4,List.range_eq_range'];simp) hc g1 g2
omit [aO]in
theorem Cb{op:BinOp}{T:TypeId}{x y:Operand}{a b:V}{ua ub:Value}(ha:RV w A X a ua)(hb:RV w A X b ub)(hc:(ZV P T a b).1) :
  (eqGuard op T x y ua ub).run P w=.ok () w/\(binOp .eql T ua ub).run P w=.ok (.bool (ZV P T a b).2) w/\(binOp .neq T ua ub).run P w=.ok (.bool (!(ZV P T a b).2)) w:=by
 unfold ZV at hc ⊢;split at hc
 ·exact Gz ha hb hc.1 hc.2
 ·rw [ha.gD,hb.gD];have hu:=Gy hc;exact eY (fun d=>by simp [Op.equalIn,run_underlying hu]) rfl rfl (by cases op<;>rfl)
 ·rw [ha.ng,hb.ng];obtain⟨e,hu⟩:=uu hc;exact eY (fun d=>by simp [Op.equalIn,run_underlying hu]) rfl rfl (by cases op<;>rfl)
 ·obtain⟨p,rfl,_⟩:=hb.iZ;rw [ha.ng];obtain⟨e,hu⟩:=uu hc;exact eY (fun d=>by simp [Op.equalIn,run_underlying hu]) rfl rfl (by cases op<;>rfl)
 ·obtain⟨p,rfl,_⟩:=ha.iZ;rw [hb.ng];obtain⟨e,hu⟩:=uu hc;exact eY (fun d=>by simp [Op.equalIn,run_underlying hu]) rfl rfl (by cases op<;>rfl)
 ·have h':=hb.rO;rw [ha.ng];obtain⟨e,hu⟩:=uu hc;cases h';exact eY (fun d=>by simp [Op.equalIn,run_underlying hu]) rfl rfl (by cases op<;>rfl)
 ·have h':=ha.rO;rw [hb.ng];obtain⟨e,hu⟩:=uu hc;cases h';exact eY (fun d=>by simp [Op.equalIn,run_underlying hu]) rfl rfl (by cases op<;>rfl)
 ·rw [ha.dY,hb.dY];obtain⟨e,hu⟩:=mG hc;exact eY (fun d=>by simp [Op.equalIn,run_underlying hu]) rfl rfl (by cases op<;>rfl)
 ·rw [hb.dY];obtain⟨e,hu⟩:=mG hc.1;have h':=ha.nv;cases h' with
  | xV=>exact absurd rfl hc.2
  | sl=>exact eY (fun d=>by simp [Op.equalIn,run_underlying hu]) rfl rfl (by cases op<;>rfl)
 ·rw [ha.dY];obtain⟨e,hu⟩:=mG hc.1;have h':=hb.nv;cases h' with
  | xV=>exact absurd rfl hc.2
  | sl=>exact eY (fun d=>by simp [Op.equalIn,run_underlying hu]) rfl rfl (by cases op<;>rfl)
 ·obtain⟨p,c',rfl,_⟩:=ha.gq;rw [hb.dY];obtain⟨e,hu⟩:=mG hc;exact eY (fun d=>by simp [Op.equalIn,run_underlying hu]) rfl rfl (by cases op<;>rfl)
 ·obtain⟨p,c',rfl,_⟩:=hb.gq;rw [ha.dY];obtain⟨e,hu⟩:=mG hc;exact eY (fun d=>by simp [Op.equalIn,run_underlying hu]) rfl rfl (by cases op<;>rfl)
 ·obtain⟨p,rfl⟩:=ha.tY;rw [hb.dY];obtain⟨e,hu⟩:=mG hc;exact eY (fun d=>by simp [Op.equalIn,run_underlying hu]) rfl rfl (by cases op<;>rfl)
 ·obtain⟨p,rfl⟩:=hb.tY;rw [ha.dY];obtain⟨e,hu⟩:=mG hc;exact eY (fun d=>by simp [Op.equalIn,run_underlying hu]) rfl rfl (by cases op<;>rfl)
 ·rw [ha.tX,hb.tX];obtain⟨p,q,r,hu⟩:=Ju hc;exact eY (fun d=>by simp [Op.equalIn,run_underlying hu]) rfl rfl (by cases op<;>rfl)
 ·obtain⟨us,rfl,_⟩:=hb.nN;rw [ha.tX];obtain⟨p,q,r,hu⟩:=Ju hc;exact eY (fun d=>by simp [Op.equalIn,run_underlying hu]) rfl rfl (by cases op<;>rfl)
 ·obtain⟨us,rfl,_⟩:=ha.nN;rw [hb.tX];obtain⟨p,q,r,hu⟩:=Ju hc;exact eY (fun d=>by simp [Op.equalIn,run_underlying hu]) rfl rfl (by cases op<;>rfl)
 ·exact hc.elim
omit [aO]in
theorem Cc{op:BinOp}{T:TypeId}{x y:Operand}{a b:V}{ua ub:Value}(ha:RV w A X a ua)(hb:RV w A X b ub)(hu:I5 a b=true)(hc:(cm P T).isSome=true) :
  (∃r:Bool,(binOp .eql T ua ub).run P w=.ok (.bool r) w/\(binOp .neq T ua ub).run P w=.ok (.bool (!r)) w)/\(eqGuard op T x y ua ub).run P w=.ok () w:=by
 obtain⟨e,hT⟩:=mG hc;have one:∀(a:Option Addr) (n c:Nat),(∃r:Bool,(binOp .eql T (.slice a n c) (.slice none 0 0)).run P w=.ok (.bool r) w/\(binOp .neq T (.slice a n c) (.slice none 0 0)).run P w=.ok (.bool (!r)) w)/\(eqGuard op T x y (.slice a n c) (.slice none 0 0)).run P w=.ok () w:=by
  intro a n c;cases a with
  | none=>
   have h:((eqGuard op T x y (.slice none n c) (.slice none 0 0)).run P w=.ok () w)/\(binOp .eql T (.slice none n c) (.slice none 0 0)).run P w=.ok (.bool true) w/\(binOp .neq T (.slice none n c) (.slice none 0 0)).run P w=.ok (.bool (!true)) w:=
    eY (fun d=>by simp [Op.equalIn,run_underlying hT]) rfl rfl (by cases op<;>rfl)
   exact⟨⟨_,h.2⟩,h.1⟩
  | some a=>
   have h:((eqGuard op T x y (.slice (some a) n c) (.slice none 0 0)).run P w=.ok () w)/\(binOp .eql T (.slice (some a) n c) (.slice none 0 0)).run P w=.ok (.bool false) w/\(binOp .neq T (.slice (some a) n c) (.slice none 0 0)).run P w=.ok (.bool (!false)) w:=
    eY (fun d=>by simp [Op.equalIn,run_underlying hT]) rfl rfl (by cases op<;>rfl)
   exact⟨⟨_,h.2⟩,h.1⟩
 have two:∀(a:Option Addr) (n c:Nat),(∃r:Bool,(binOp .eql T (.slice none 0 0) (.slice a n c)).run P w=.ok (.bool r) w/\(binOp .neq T (.slice none 0 0) (.slice a n c)).run P w=.ok (.bool (!r)) w)/\(eqGuard op T x y (.slice none 0 0) (.slice a n c)).run P w=.ok () w:=by
  intro a n c;cases a with
  | none=>
   have h:((eqGuard op T x y (.slice none 0 0) (.slice none n c)).run P w=.ok () w)/\(binOp .eql T (.slice none 0 0) (.slice none n c)).run P w=.ok (.bool true) w/\(binOp .neq T (.slice none 0 0) (.slice none n c)).run P w=.ok (.bool (!true)) w:=
    eY (fun d=>by simp [Op.equalIn,run_underlying hT]) rfl rfl (by cases op<;>rfl)
   exact⟨⟨_,h.2⟩,h.1⟩
  | some a=>
   have h:((eqGuard op T x y (.slice none 0 0) (.slice (some a) n c)).run P w=.ok () w)/\(binOp .eql T (.slice none 0 0) (.slice (some a) n c)).run P w=.ok (.bool false) w/\(binOp .neq T (.slice none 0 0) (.slice (some a) n c)).run P w=.ok (.bool (!false)) w:=
    eY (fun d=>by simp [Op.equalIn,run_underlying hT]) rfl rfl (by cases op<;>rfl)
   exact⟨⟨_,h.2⟩,h.1⟩
 unfold I5 at hu;split at hu
 ·rw [hb.dY];have h':=ha.nv;cases h'<;>exact one _ _ _
 ·rw [ha.dY];have h':=hb.nv;cases h'<;>exact two _ _ _
 ·cases hu
omit [aO]in
theorem HW{op:BinOp}{T:TypeId}{x y:Operand}{a b:V}{ua ub:Value}(ha:RV w A X a ua)(hb:RV w A X b ub)(hc:(UK P op T a b).1) :
  ∃r,(do eqGuard op T x y ua ub;binOp op T ua ub:Sem Value).run P w=.ok r w/\RV w A X (UK P op T a b).2 r:=by
 unfold UK at hc ⊢;split at hc
 ·rename_i k m k' n;rw [ha.dV,hb.dV];have hg':(eqGuard op T x y (.int k m) (.int k' n)).run P w=.ok () w:=by cases op<;>rfl
  simp only [Sem.run_bind,hg',Result.andThen_ok];cases op<;>simp only at hc ⊢
  case add=>subst hc;exact⟨_,by simp [binOp,Op.intArith],.pure (.int _ _)⟩
  case sub=>subst hc;exact⟨_,by simp [binOp,Op.intArith],.pure (.int _ _)⟩
  case mul=>subst hc;exact⟨_,by simp [binOp,Op.intArith],.pure (.int _ _)⟩
  case quo=>obtain⟨rfl,hn⟩:=hc;exact⟨_,by simp [binOp,Op.intDiv,hn],.pure (.int _ _)⟩
  case rem=>obtain⟨rfl,hn⟩:=hc;exact⟨_,by simp [binOp,Op.intDiv,hn],.pure (.int _ _)⟩
  case shl=>exact⟨_,by simp [binOp,Op.shift,UJ,tB,show ¬ n<0 by omega],.pure (.int _ _)⟩
  case shr=>exact⟨_,by simp [binOp,Op.shift,UJ,tB,show ¬ n<0 by omega],.pure (.int _ _)⟩
  case and=>subst hc;exact⟨.int k (r8 .and k m n),by unfold binOp;simp only [ne_eq,not_true_eq_false,if_false];rfl,.pure (.int _ _)⟩
  case or=>subst hc;exact⟨.int k (r8 .or k m n),by unfold binOp;simp only [ne_eq,not_true_eq_false,if_false];rfl,.pure (.int _ _)⟩
  case xor=>subst hc;exact⟨.int k (r8 .xor k m n),by unfold binOp;simp only [ne_eq,not_true_eq_false,if_false];rfl,.pure (.int _ _)⟩
  case andNot=>subst hc;exact⟨.int k (r8 .andNot k m n),by unfold binOp;simp only [ne_eq,not_true_eq_false,if_false];rfl,.pure (.int _ _)⟩
  case eql=>subst hc;exact⟨_,by unfold binOp;simp only [ne_eq,not_true_eq_false,if_false];rfl,.pure (.bool _)⟩
  case neq=>subst hc;exact⟨_,by unfold binOp;simp only [ne_eq,not_true_eq_false,if_false];rfl,.pure (.bool _)⟩
  case lss=>subst hc;exact⟨_,by unfold binOp;simp only [ne_eq,not_true_eq_false,if_false];rfl,.pure (.bool _)⟩
  case leq=>subst hc;exact⟨_,by unfold binOp;simp only [ne_eq,not_true_eq_false,if_false];rfl,.pure (.bool _)⟩
  case gtr=>subst hc;exact⟨_,by unfold binOp;simp only [ne_eq,not_true_eq_false,if_false];rfl,.pure (.bool _)⟩
  case geq=>subst hc;exact⟨_,by unfold binOp;simp only [ne_eq,not_true_eq_false,if_false];rfl,.pure (.bool _)⟩
 ·split at hc
  ·
   by_cases hu:I5 a b=true
   ·rw [if_pos hu]at hc ⊢;obtain⟨⟨r,hr⟩,hg⟩:=Cc (op:=.eql) (x:=x) (y:=y) ha hb hu hc;exact⟨_,by simp only [Sem.run_bind,hg,Result.andThen_ok];exact hr.1,.pure (.qT r)⟩
   rw [if_neg hu]at hc ⊢;obtain⟨hg,he⟩:=Cb (x:=x) (y:=y) (op:=.eql) ha hb hc;refine⟨_,?_,.pure (.bool _)⟩;simp only [Sem.run_bind,hg,Result.andThen_ok];exact he.1
  ·by_cases hu:I5 a b=true
   ·rw [if_pos hu]at hc ⊢;obtain⟨⟨r,hr⟩,hg⟩:=Cc (op:=.neq) (x:=x) (y:=y) ha hb hu hc;exact⟨_,by simp only [Sem.run_bind,hg,Result.andThen_ok];exact hr.2,.pure (.qT (!r))⟩
   rw [if_neg hu]at hc ⊢;obtain⟨hg,he⟩:=Cb (x:=x) (y:=y) (op:=.neq) ha hb hc;refine⟨_,?_,.pure (.bool _)⟩;simp only [Sem.run_bind,hg,Result.andThen_ok];exact he.2
  ·exact hc.elim
end
end Go.Sx
end
