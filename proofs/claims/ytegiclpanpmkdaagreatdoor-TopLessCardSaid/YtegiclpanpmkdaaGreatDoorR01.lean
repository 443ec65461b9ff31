/- A part of a proof; no conditions. -/
import Derived.Test.YtegiclpanpmkdaaGreatDoorR00
set_option linter.all false
set_option maxRecDepth 100000
set_option maxHeartbeats 8000000
noncomputable section
section
namespace Go.Sx
open Go.RowKit
variable [aO]
omit [aO]in
theorem cH{P:Program}{T e:TypeId}(h:cm P T=some e):P.underlying T=some (.slice e):=by unfold cm at h;split at h<;>simp_all
omit [aO]in
theorem kQ{P:Program}{T e:TypeId}{n:Nat}(h:cS P T=some (n,e)):P.underlying T=some (.array n e):=by unfold cS at h;split at h<;>simp_all
omit [aO]in
theorem sW{P:Program}{S:TypeId}{f o:Nat}{ft:TypeId}(h:cG P S f=some (o,ft)):∃fs x,P.underlying S=some (.struct fs)/\fs[f]?=some x/\x.offset=o/\x.type=ft:=by
 unfold cG at h;split at h
 ·rename_i fs hu;cases hf:fs[f]? with
  | none=>simp [hf]at h
  | some x=>simp [hf]at h;exact⟨fs,x,hu,hf,h.1,h.2⟩
 ·simp at h
omit [aO]in
theorem q7{P:Program}{T:TypeId}(h:0<P.cellsOf T):∃i,P.info? T=some i/\i.size=P.cellsOf T:=by
 unfold Program.cellsOf at h ⊢;cases hi:P.info? T with
 | none=>simp [hi]at h
 | some i=>exact⟨i,rfl,rfl⟩
omit [aO]in
theorem bY{P:Program}{T:TypeId}(h:0<P.cellsOf T)(w:World):(sizeOf T).run P w=.ok (P.cellsOf T) w:=by obtain⟨i,hi,hs⟩:=q7 h;simp [sizeOf,typeInfo,hi,hs]
omit [aO]in
theorem gm{P:Program}{T:TypeId}(h0:0<P.cellsOf T)(hl:(zc P T).length=P.cellsOf T):∃i zv,P.info? T=some i/\i.size=P.cellsOf T/\i.zero=some zv/\zc P T=zv.cells.toList.map iD/\zv.cells.size=P.cellsOf T:=by
 obtain⟨i,hi,hs⟩:=q7 h0;have hz:zc P T=match i.zero with|some z=>z.cells.toList.map iD|none=>[]:=by unfold zc;rw [hi];rfl
 cases Ee:i.zero with
 | none=>rw [Ee]at hz;simp only at hz;rw [hz]at hl;simp at hl;omega
 | some zv=>
  rw [Ee]at hz;simp only at hz;refine⟨i,zv,hi,hs,Ee,hz,?_⟩;rw [hz]at hl;simpa using hl
omit [aO]in
theorem qo{P:Program}{T:TypeId}(h:cT P T=true)(w:World):(isAgg T).run P w=.ok (cB P T) w:=by
 unfold cT at h;cases hu:P.underlying T with
 | none=>simp [hu]at h
 | some d=>
  simp only [isAgg,cB,Sem.run_bind,run_underlying hu,Result.andThen_ok,hu];cases d<;>rfl
omit [aO]in
theorem qp(w:World)(A:Nat->Prop)(v:Value):PV w A (iD v) v:=by
 unfold iD;split
 ·exact .int _ _
 ·exact .bool _
 ·exact .nil
 ·exact .lg
 ·exact .oN
 ·exact .top _
omit [aO]in
theorem sX(w:World)(A:Nat->Prop)(v:Value):PV w A (JB v) v:=by
 unfold JB;split
 ·rename_i cs;refine .agg _ _ (by simp) fun i c hc=>?_;rw [List.getElem?_map]at hc;cases hi:cs.toList[i]? with
  | none=>simp [hi]at hc
  | some x=>
   simp [hi]at hc;subst hc;have:cs.getD i gC=x:=(by rw [Array.getD_eq_getD_getElem?,<-Array.getElem?_toList,hi];rfl);rw [this];exact qp w A x
 ·exact qp w A _
section
variable {F:Fr} {w:World} {A:Nat->Prop} {X:Refs} {h:Hp} {P:Program}
def aaW(w:World)(A:Nat->Prop)(X:Refs)(a:Addr)(row:List V):Prop:=
 ∃us:Nat->Value,∀k c,row[k]?=some c->w.cell? (a.add k)=some (us k)/\RV w A X c (us k)
omit [aO]in
theorem Ef{T:TypeId}{a:Addr}{row:List V}{j:Nat}(hr:aaW w A X a (row.drop j))(hlen:j+P.cellsOf T<=row.length)(h1:cB P T=false->P.cellsOf T=1)(hT:cT P T=true)(h0:0<P.cellsOf T) :
  ∃r,(loadVar T a).run P w=.ok r w/\RV w A X (oO P T row j) r:=by
 obtain⟨us,Py⟩:=hr;have aL:∀k,k<P.cellsOf T->∃c,(row.drop j)[k]?=some c:=fun k hk=>⟨_,List.getElem?_eq_getElem (by rw [List.length_drop];omega)⟩
 cases v3:cB P T with
 | true=>
  have hl:=run_loadCells (P:=P) w a (P.cellsOf T) us (fun k hk=>by obtain⟨c,hc⟩:=aL k hk;exact(Py k c hc).1);refine⟨.agg ((List.range (P.cellsOf T)).map us).toArray,by simp [loadVar,qo hT,v3,bY h0,hl],?_⟩;simp only [oO,v3,if_true];refine .agg _ _ (by simp;omega) fun k c hc=>?_;have hk:k<P.cellsOf T:=by have:=(List.getElem?_eq_some_iff.1 hc).1;rw [List.length_take]at this;omega
  rw [List.getElem?_take_of_lt hk]at hc;have:(((List.range (P.cellsOf T)).map us).toArray).getD k gC=us k:=by simp [Array.getD_eq_getD_getElem?,hk]
  rw [this];exact(Py k c hc).2
 | false=>
  have vW:=h1 v3;obtain⟨c,hc⟩:=aL 0 h0;have h2:=Py 0 c hc;have ha:a.add 0=a:=by simp [Addr.add]
  rw [ha]at h2;refine⟨us 0,by simp [loadVar,qo hT,v3,h2.1],?_⟩;simp only [oO,v3];have:row.getD j .top=c:=by rw [List.getElem?_drop,Nat.add_zero]at hc;simp [List.getD,hc]
  simp only [Bool.false_eq_true,if_false,this];exact h2.2
omit [aO]in
theorem vK{b o z e j:Nat}{els:List (List V)}(hc:∀k c,(els.getD e [])[k]?=some c->∃u,w.cell? ⟨b,o+e * z+k,none⟩=some u/\RV w A X c u) :
  aaW w A X ⟨b,o+e * z+j,none⟩ ((els.getD e []).drop j):=by
 refine⟨fun k=>(w.cell? ⟨b,o+e * z+(j+k),none⟩).getD gC,fun k c hk=>?_⟩;rw [List.getElem?_drop]at hk;obtain⟨u,h1,h2⟩:=hc (j+k) c hk;rw [dJ,show o+e * z+j+k=o+e * z+(j+k) by omega];simp only [h1,Option.getD_some];exact⟨trivial,h2⟩
omit [aO]in
theorem iY{els:List (List V)}{e:Nat}(he:e<els.length):els[e]?=some (els.getD e []):=by simp [List.getD,List.getElem?_eq_getElem he]
theorem Inv.cells(hI:Inv F w A X h){s i:Nat}{B:dZ}(hB:aL h s i=some B){e:Nat}(he:e<B.els.length) :
  ∀(k:Nat) (c:V),(B.els.getD e [])[k]?=some c->∃u,w.cell? ⟨(X.D s i).b,(X.D s i).o+e * B.z+k,none⟩=some u/\u.oneCell'=true/\RV w A X c u/\(B.cl=true->PV w A c u):=by
 intro k c hk;have hb:=hI.blk s i B hB;rcases hb.mem with⟨_,hn⟩|⟨arr,cap,h1,h2,h3,h4,h5,h6,_⟩
 ·rw [hn]at he;simp at he
 ·obtain⟨u,g1,g2,g3,g4⟩:=h6 e k _ c (iY he) hk;exact⟨u,by simp [World.cell?,h1,g1],g2,g3,g4⟩
theorem oP{T:TypeId}{v:V}{u:Value}(hI:Inv F w A X h)(hr:RV w A X v u)(hc:(l9 P T v h).c):∃r,(Instr.loadAt T u).run P w=.ok r w/\RV w A X (l9 P T v h).v r:=by
 cases v<;>simp only [l9,bad]at hc ⊢
 case ip z els e j=>
  obtain⟨he,hj,h1,hT,h0⟩:=hc;have h':=hr.rO;cases h' with
  | ip _ _ _ _ b off us hb hA hz v1 hv=>
   have v4:=vK (w:=w) (A:=A) (X:=X) (b:=b) (o:=off) (z:=z) (e:=e) (j:=j) (fun k c hk=>⟨us e k,(v1 e k _ c (iY he) hk).1,.pure (hv e k _ c (iY he) hk)⟩);have hlen:(els.getD e []).length=z:=hz _ (List.mem_of_getElem? (iY he));obtain⟨r,kR,jP⟩:=Ef (P:=P) (T:=T) v4 (by omega) h1 hT h0;exact⟨r,by simp [Instr.loadAt,Instr.sureAddr,kR],jP⟩
 case bG s i n e j=>
  cases hg:aL h s i with
  | none=>simp [hg]at hc
  | some B=>
   simp only [hg]at hc ⊢;obtain⟨hn,he,hj,h1,hT,h0⟩:=hc;obtain⟨a,rfl,_,_,ha⟩:=hr.iZ;have hb:=hI.blk s i B hg;have GQ:=ha (by rw [hb.hlen];exact hn);rw [hb.hz]at GQ;subst GQ;have v4:=vK (w:=w) (A:=A) (X:=X) (b:=(X.D s i).b) (o:=(X.D s i).o) (z:=B.z) (e:=e) (j:=j) (fun k c hk=>by obtain⟨u,g1,_,g3,_⟩:=hI.cells hg he k c hk;exact⟨u,g1,g3⟩);have hlen:(B.els.getD e []).length=B.z:=hb.rows _ (List.mem_of_getElem? (iY he));obtain⟨r,kR,jP⟩:=Ef (P:=P) (T:=T) v4 (by omega) h1 hT h0;exact⟨r,by simp [Instr.loadAt,Instr.sureAddr,kR],jP⟩
theorem Cn{T:TypeId}{a x:V}{ua ux:Value}(hI:Inv F w A X h)(ha:RV w A X a ua)(hx:RV w A X x ux)(hc:(nq P T a x h).c) :
  ∃w',(Instr.storeAt T ua ux).run P w=.ok () w'/\bC w A w' A/\Inv F w' A X (nq P T a x h).h:=by
 cases a<;>simp only [nq,bad]at hc ⊢
 case bG s i n e j=>
  cases hg:aL h s i with
  | none=>simp [hg]at hc
  | some B=>
   simp only [hg]at hc ⊢;obtain⟨hn,he,hj,h0,hfz,hlen,v0⟩:=hc;obtain⟨ad,rfl,_,_,vd⟩:=ha.iZ;have hb:=hI.blk s i B hg;have GQ:=vd (by rw [hb.hlen];exact hn);rw [hb.hz]at GQ;subst GQ;have hcs:=hx.cells v0;obtain⟨w',hr,hL,fB⟩:=hI.store P hg hfz he (cs:=x.cells) (us:=ux.cells) (j:=j) (by omega) hcs;refine⟨w',?_,hL,fB⟩;have hsz:ux.cells.size=P.cellsOf T:=(by rw [hcs.1,hlen]);simp [Instr.storeAt,Instr.sureAddr,storeVar,bY h0,hsz,hr]
omit [aO]in
theorem G3{x:V}{u:Value}(hr:RV w A X x u)(hc:(Co x h).c):(∃a,u=.pointer (some a))/\RV w A X (Co x h).v u:=by
 cases x<;>simp only [Co,bad]at hc ⊢
 case ip z els e j=>have h':=hr.rO;cases h';exact⟨⟨_,rfl⟩,hr⟩
 case bG s i n e j=>obtain⟨a,rfl,_⟩:=hr.iZ;exact⟨⟨_,rfl⟩,hr⟩
omit [aO]in
theorem G4{b:Bool}{x y:V}{u1 u2:Value}(hx:b=true->RV w A X x u1)(hy:b=false->RV w A X y u2):RV w A X (Ad b x y) (if b then u1 else u2):=by
 have gen:RV w A X (if b then x else y) (if b then u1 else u2):=by cases b<;>simp_all
 unfold Ad;split
 ·rename_i p q;cases b
  ·rw [(hy rfl).gD];exact .pure (.bool _)
  ·rw [(hx rfl).gD];exact .pure (.bool _)
 ·rename_i k m k' n;split
  ·rename_i hk;subst hk;cases b
   ·rw [(hy rfl).dV];exact .pure (.int _ _)
   ·rw [(hx rfl).dV];exact .pure (.int _ _)
  ·exact gen
 ·exact gen
omit [aO]in
theorem uB{S:TypeId}{x:V}{f:Nat}{u:Value}(hr:RV w A X x u)(hc:(fk P S x f h).c):∃r,(Instr.fieldAt S u f).run P w=.ok r w/\RV w A X (fk P S x f h).v r:=by
 unfold fk at hc ⊢;split at hc
 ·rename_i z els e j o ft hf;simp only at hc ⊢;obtain⟨fs,fd,hu,Wg,rfl,rfl⟩:=sW hf;have h':=hr.rO;cases h' with
  | ip _ _ _ _ b off us hb hA hz v1 hv=>
   refine⟨.pointer (some ⟨b,off+e * z+(j+fd.offset),none⟩),?_,.pure (.ip z els e _ b off us hb hA hz v1 hv)⟩;have h0:P.cellsOf fd.type≠0:=(by omega);simp [Instr.fieldAt,run_underlying hu,Wg,Instr.sureAddr,fieldPlace,bY hc,h0,dJ,Nat.add_assoc]
 ·rename_i s i n e j o ft hf;simp only at hc ⊢;obtain⟨fs,fd,hu,Wg,rfl,rfl⟩:=sW hf;obtain⟨a,rfl,hN,hn,ha⟩:=hr.iZ;refine⟨.pointer (some (a.add fd.offset)),?_,.bG s i n e _ _ hN hn fun hh=>by rw [ha hh,dJ,Nat.add_assoc]⟩;have h0:P.cellsOf fd.type≠0:=by omega
  simp [Instr.fieldAt,run_underlying hu,Wg,Instr.sureAddr,fieldPlace,bY hc,h0]
 ·exact hc.elim
omit [aO]in
theorem WU{cs:List V}{us:Array Value}(hl:us.size=cs.length){o n:Nat}(ho:o+n<=cs.length)(hc:∀i c,cs[i]?=some c->RV w A X c (us.getD i gC)) :
  RV w A X (.agg ((cs.drop o).take n)) (.agg (us.extract o (o+n))):=by
 refine .agg _ _ (by simp;omega) fun i c hi=>?_;have v2:i<n:=by have:=(List.getElem?_eq_some_iff.1 hi).1;rw [List.length_take]at this;omega
 rw [List.getElem?_take_of_lt v2,List.getElem?_drop]at hi;have h1:=hc _ c hi;have:(us.extract o (o+n)).getD i gC=us.getD (o+i) gC:=by simp only [Array.getD_eq_getD_getElem?,Array.getElem?_extract];rw [if_pos (by omega)]
 rw [this];exact h1
omit [aO]in
theorem xU{ft:TypeId}{cs:List V}{us:Array Value}(hl:us.size=cs.length){o:Nat}(ho:o+P.cellsOf ft<=cs.length)(h0:0<P.cellsOf ft)(hT:cT P ft=true)(hc:∀i c,cs[i]?=some c->RV w A X c (us.getD i gC)) :
  ∃r,(part ft us o).run P w=.ok r w/\RV w A X (oO P ft cs o) r:=by
 cases v3:cB P ft with
 | true=>
  refine⟨.agg (us.extract o (o+P.cellsOf ft)),by simp [part,qo hT,v3,bY h0],?_⟩;simp only [oO,v3,if_true];exact WU hl ho hc
 | false=>
  have v2:o<us.size:=by omega
  refine⟨us[o],by simp [part,qo hT,v3,Array.getElem?_eq_getElem v2],?_⟩;have h2:=hc o cs[o] (List.getElem?_eq_getElem (by omega));simp only [oO,v3,Bool.false_eq_true,if_false];have e1:us.getD o gC=us[o]:=by simp [Array.getD_eq_getD_getElem?,Array.getElem?_eq_getElem v2]
  have e2:cs.getD o .top=cs[o]:=by simp [List.getD,List.getElem?_eq_getElem (show o<cs.length by omega)]
  rw [e2,<-e1];exact h2
omit [aO]in
theorem Cq{S:TypeId}{x:V}{f:Nat}{u:Value}(hr:RV w A X x u)(hc:(nr P S x f h).c):∃r,(Instr.field S u f).run P w=.ok r w/\RV w A X (nr P S x f h).v r:=by
 unfold nr at hc ⊢;split at hc
 ·rename_i cs o ft hf;simp only at hc ⊢;obtain⟨fs,fd,hu,Wg,rfl,rfl⟩:=sW hf;obtain⟨us,rfl,hl,hcs⟩:=hr.mb;obtain⟨h1,h2,_,h4⟩:=hc;obtain⟨r,kR,jP⟩:=xU (P:=P) hl h1 h2 h4 hcs;exact⟨r,by simp [Instr.field,run_underlying hu,Wg,asAgg,kR],jP⟩
 ·exact hc.elim
omit [aO]in
theorem Cr{T:TypeId}{x ix:V}{u ui:Value}(hr:RV w A X x u)(hi:RV w A X ix ui)(hc:(nu P T x ix h).c):∃r,(Instr.index T u ui).run P w=.ok r w/\RV w A X (nu P T x ix h).v r:=by
 unfold nu at hc ⊢;split at hc
 ·rename_i k n cs len e hf;simp only at hc ⊢;have hu:=kQ hf;obtain⟨us,rfl,hl,hcs⟩:=hr.mb;rw [hi.dV];obtain⟨h1,h2,h3,h4,_,h6⟩:=hc;have hb:n.toNat * P.cellsOf e+P.cellsOf e<=cs.length:=by rw [h3];have:(n.toNat+1) * P.cellsOf e<=len * P.cellsOf e:=Nat.mul_le_mul_right _ (by omega);rw [Nat.add_mul]at this;omega
  obtain⟨r,kR,jP⟩:=xU (P:=P) hl hb h4 h6 hcs;exact⟨r,by simp [Instr.index,asIntOf,run_underlying hu,h1,h2,bY h4,kR],jP⟩
 ·exact hc.elim
theorem uC{T:TypeId}{x ix:V}{u ui:Value}(hI:Inv F w A X h)(hr:RV w A X x u)(hi:RV w A X ix ui)(hc:(ef P T x ix h).c):∃r,(Instr.indexAt T u ui).run P w=.ok r w/\RV w A X (ef P T x ix h).v r:=by
 unfold ef at hc ⊢;split at hc
 ·rename_i k n;rw [hi.dV];split at hc
  ·rename_i _ z els e hf;simp only at hc ⊢;obtain⟨h1,h2,h3,h4⟩:=hc;have hu:=cH hf;have h':=hr.nv;cases h' with
   | xV=>simp at h4;omega
   | sl _ _ b off cap us vX hb hA hz v1 hv=>
    refine⟨.pointer (some ⟨b,off+n.toNat * z+0,none⟩),?_,.pure (.ip z els _ _ b off us hb hA hz v1 hv)⟩;simp [Instr.indexAt,asIntOf,run_underlying hu,h3,h4,bY (h1 ▸ h2),dJ,h1]
  ·rename_i _ s i m e hf;have hu:=cH hf;cases hg:aL h s i with
   | none=>simp [hg,bad]at hc
   | some B=>
    simp only [hg]at hc ⊢;obtain⟨h1,h2,h3,h4,h5⟩:=hc;obtain⟨a,c,rfl,hN,hn,ha⟩:=hr.gp;have hb:=hI.blk s i B hg;have hv:=ha (by rw [hb.hlen];exact h3);rcases hb.mem with⟨_,Pz⟩|⟨arr,cap,g1,g2,_⟩
    ·rw [Pz]at h3;simp at h3;omega
    ·rw [g2]at hv;injection hv with oQ oR JC;subst oQ;refine⟨.pointer (some ⟨(X.D s i).b,(X.D s i).o+n.toNat * P.cellsOf e,none⟩),?_,.bG s i m _ _ _ hN hn fun _=>by rw [hb.hz,h1];simp⟩;simp [Instr.indexAt,asIntOf,run_underlying hu,h4,h5,bY (h1 ▸ h2),dJ]
  ·rename_i _ s i m off len cp e hf;have hu:=cH hf;cases hg:aL h s i with
   | none=>simp [hg,bad]at hc
   | some B=>
    simp only [hg]at hc ⊢;obtain⟨h1,h2,h3,h4,h5⟩:=hc;obtain⟨a,c',rfl,mK,hN,hn,ha⟩:=hr.gq;have hb:=hI.blk s i B hg;refine⟨.pointer (some (a.add (n.toNat * P.cellsOf e))),?_,.bG s i m _ _ _ hN hn fun hh=>by rw [(ha hh).1,dJ,hb.hz,h1,Nat.add_mul,<-Nat.add_assoc];simp⟩;simp [Instr.indexAt,asIntOf,run_underlying hu,h4,h5,bY (h1 ▸ h2)]
  ·rename_i _ z els e0 j len e hf;simp only at hc ⊢;obtain⟨h1,h2,h3⟩:=hc;have hu:=kQ hf;have h':=hr.rO;cases h' with
   | ip _ _ _ _ b off us hb hA hz v1 hv=>
    refine⟨.pointer (some ⟨b,off+e0 * z+(j+n.toNat * P.cellsOf e),none⟩),?_,.pure (.ip z els _ _ b off us hb hA hz v1 hv)⟩;simp [Instr.indexAt,asIntOf,Instr.sureAddr,run_underlying hu,h1,h2,bY h3,dJ,Nat.add_assoc]
  ·rename_i _ s i m e0 j len e hf;simp only at hc ⊢;obtain⟨h1,h2,h3⟩:=hc;have hu:=kQ hf;obtain⟨a,rfl,hN,hn,ha⟩:=hr.iZ;refine⟨.pointer (some (a.add (n.toNat * P.cellsOf e))),?_,.bG s i m _ _ _ hN hn fun hh=>by rw [ha hh,dJ,Nat.add_assoc]⟩;simp [Instr.indexAt,asIntOf,Instr.sureAddr,run_underlying hu,h1,h2,bY h3]
  ·exact hc.elim
 ·exact hc.elim
end
end Go.Sx
end
section
namespace Go.Sx
open Go.RowKit
variable [aO]
omit [aO]in
theorem JD(off:Nat):∀(L:List Value) (k:Nat) (cells:Array Value),off+k+L.length<=cells.size->
  ((L.zipIdx k).foldl (fun cs p=>cs.setIfInBounds (off+p.2) p.1) cells).size=cells.size/\
  ∀x,((L.zipIdx k).foldl (fun cs p=>cs.setIfInBounds (off+p.2) p.1) cells)[x]?=if off+k<=x/\x<off+k+L.length then L[x - (off+k)]? else cells[x]?
 | [],k,cells,_=>by refine⟨rfl,fun x=>?_⟩;rw [if_neg (by simp only [List.length_nil];omega)];rfl
 | v::L,k,cells,h=>by
  simp only [List.length_cons]at h;have ih:=JD off L (k+1) (cells.setIfInBounds (off+k) v) (by simp;omega);simp only [List.zipIdx_cons,List.foldl_cons];refine⟨by rw [ih.1];simp,fun x=>?_⟩;rw [ih.2 x];by_cases h1:off+(k+1)<=x/\x<off+(k+1)+L.length
  ·rw [if_pos h1,if_pos (by simp only [List.length_cons];omega)];rw [show x - (off+k)=(x - (off+(k+1)))+1 by omega];simp
  ·rw [if_neg h1];by_cases h2:x=off+k
   ·subst h2;rw [if_pos (by simp only [List.length_cons];omega)];have:off+k<cells.size:=(by omega);simp [this]
   ·rw [if_neg (by simp only [List.length_cons];omega)];rw [Array.getElem?_setIfInBounds,if_neg (fun e=>h2 e.symm)]
omit [aO]in
theorem Eg(off:Nat)(us cells:Array Value)(h:off+us.size<=cells.size) :
  (us.zipIdx.foldl (fun cs (p:Value × Nat)=>match p with|(c,j)=>cs.setIfInBounds (off+j) c) cells).size=cells.size/\
  ∀x,(us.zipIdx.foldl (fun cs (p:Value × Nat)=>match p with|(c,j)=>cs.setIfInBounds (off+j) c) cells)[x]?=if off<=x/\x<off+us.size then us[x - off]? else cells[x]?:=by
 have hz:=JD off us.toList 0 cells (by simpa using h);have e:us.zipIdx.foldl (fun cs (p:Value × Nat)=>match p with|(c,j)=>cs.setIfInBounds (off+j) c) cells=(us.toList.zipIdx 0).foldl (fun cs p=>cs.setIfInBounds (off+p.2) p.1) cells:=by rw [<-Array.foldl_toList,Array.toList_zipIdx]
 rw [e];refine⟨hz.1,fun x=>?_⟩;rw [hz.2 x];simp
section
variable {F:Fr} {w:World} {A:Nat->Prop} {X:Refs} {h:Hp} {P:Program}
omit [aO]in
theorem fm{zs:Array Value}(v0:(zs.toList.map iD).all V.dQ=true):gW w A X (zs.toList.map iD) zs:=by
 refine⟨by simp,fun j c hj=>?_⟩;rw [List.getElem?_map]at hj;cases hi:zs.toList[j]? with
 | none=>simp [hi]at hj
 | some x=>
  simp [hi]at hj;subst hj;have h1:PV w A (iD x) x:=qp w A x;refine⟨x,by simpa using hi,h1.one ?_,.pure h1⟩;simp only [List.all_eq_true]at v0;exact v0 _ (List.mem_map.2 ⟨x,List.mem_of_getElem? hi,rfl⟩)
omit [aO]in
theorem qq{zs:List Value}{j:Nat}{c:V}(hj:(zs.map iD)[j]?=some c):∃x,zs[j]?=some x/\PV w A c x:=by
 rw [List.getElem?_map]at hj;cases hi:zs[j]? with
 | none=>simp [hi]at hj
 | some x=>simp [hi]at hj;subst hj;exact⟨x,rfl,qp w A x⟩
theorem JE(hI:Inv F w A X h)(key:Nat)(cs:List V)(us:Array Value)(ty:TypeId)(cl:Bool)(hcs:gW w A X cs us)(cZ:cl=true->∀(j:Nat) (c:V) (u:Value),cs[j]?=some c->us[j]?=some u->PV w A c u) :
  ∃A' X',bC w A (w.alloc (.cells us ty)) A'/\fH X X'/\Inv F (w.alloc (.cells us ty)) A' X' (bD h key {z:=cs.length,els:=[cs],ty:=ty,cl:=cl})/\
   RV (w.alloc (.cells us ty)) A' X' (.bG key (hnext h key) 1 0 0) (.pointer (some ⟨w.heap.size,0,none⟩)):=by
 have fB:=hI.alloc key {z:=cs.length,els:=[cs],ty:=ty,cl:=cl} us 1 rfl (by simp) (by decide) (by simp) (by simp [hcs.1]) (by
  intro e j row c he hj;cases e with
  | zero=>
   simp at he;subst he;obtain⟨u,h1,h2,h3⟩:=hcs.2 j c hj;exact⟨u,by simpa using h1,h2,h3,fun hc=>cZ hc j c u hj h1⟩
  | succ e=>simp at he)
 refine⟨_,_,hI.fW _,hI.nw key _ 1,fB,?_⟩;refine .bG _ _ _ _ _ _ (by simp [bT]) (by simp [bT]) (fun _=>by simp [bT])
theorem Cs{T:TypeId}{key:Nat}(hI:Inv F w A X h)(hc:(uD P key T h).c) :
  ∃r w' A' X',(Instr.alloc T true (.tuple #[])).run P w=.ok r w'/\bC w A w' A'/\fH X X'/\Inv F w' A' X' (uD P key T h).h/\RV w' A' X' (uD P key T h).v r:=by
 simp only [uD]at hc ⊢;obtain⟨h1,h2,h3⟩:=hc;obtain⟨i,zv,hi,hs,hz,uw,hsz⟩:=gm h2 h1;rw [uw]at h3 h1 ⊢;obtain⟨A',X',g1,g2,g3,g4⟩:=JE hI key _ zv.cells T true (fm h3) (fun _ j c u hj hu=>by
  obtain⟨x,hx,hp⟩:=qq (w:=w) (A:=A) hj
  have : u = x := by have hx' : zv.cells[j]? = some x := by simpa using hx
                     rw [hu]at hx';exact Option.some.inj hx'
  rw [this];exact hp)
 rw [h1]at g3;have hr:(Instr.alloc T true (.tuple #[])).run P w=.ok (.pointer (some ⟨w.heap.size,0,none⟩)) (w.alloc (.cells zv.cells T)):=by simp [Instr.alloc,zeroValue,typeInfo,hi,hz,newVar,newRow]
 exact⟨_,_,A',X',hr,g1,g2,g3,g4⟩
omit [aO]in
theorem Ae{cs:List V}{us:Array Value}(hcs:gW w A X cs us)(v0:cs.all V.cD=true){j:Nat}{c:V}{u:Value}(hj:cs[j]?=some c)(hu:us[j]?=some u):PV w A c u:=by obtain⟨u',h1,_,h3⟩:=hcs.2 j c hj;rw [hu]at h1;cases h1;simp only [List.all_eq_true]at v0;exact .lq h3 (v0 c (List.mem_of_getElem? hj))
theorem G5{T:TypeId}{key:Nat}{x:V}{u:Value}(hI:Inv F w A X h)(hx:RV w A X x u)(hc:(MA P key T x h).c) :
  ∃r w' A' X',(Instr.box T u).run P w=.ok r w'/\bC w A w' A'/\fH X X'/\Inv F w' A' X' (MA P key T x h).h/\RV w' A' X' (MA P key T x h).v r:=by
 simp only [MA]at hc ⊢;obtain⟨h1,h2⟩:=hc;have hcs:=hx.cells h2;obtain⟨A',X',g1,g2,g3,g4⟩:=JE hI key _ u.cells T (x.cells.all V.cD) hcs (fun v0 j c u hj hu=>Ae hcs v0 hj hu);rw [h1]at g3;have hr:(Instr.box T u).run P w=.ok (.pointer (some ⟨w.heap.size,0,none⟩)) (w.alloc (.cells u.cells T)):=by simp [Instr.box,newVar,newRow]
 exact⟨_,_,A',X',hr,g1,g2,g3,g4⟩
omit [aO]in
theorem oS{place:Nat->Option (Nat × Nat)}:∀(parts:List (Nat × V)) (us:List (Nat × Value)) (cells:List V) (cs:Array Value),parts.length=us.length->
  (∀(i:Nat) (p:Nat × V) (u:Nat × Value),parts[i]?=some p->us[i]?=some u->p.1=u.1/\RV w A X p.2 u.2)->gW w A X cells cs->(q8 place cells parts).1->
  ∃cs',Instr.fill place cs us=some cs'/\gW w A X (q8 place cells parts).2 cs'/\(q8 place cells parts).2.length=cells.length
 | [],[],cells,cs,_,_,hcs,_=>⟨cs,rfl,hcs,rfl⟩
 | [],_::_,_,_,hl,_,_,_=>by simp at hl
 | _::_,[],_,_,hl,_,_,_=>by simp at hl
 | (i,v)::parts,(i',u)::us,cells,cs,hl,hp,hcs,hc=>by
  have h0:=hp 0 (i,v) (i',u) rfl rfl;simp only at h0;obtain⟨rfl,hv⟩:=h0;simp only [q8]at hc ⊢;cases Af:place i with
  | none=>simp [Af]at hc
  | some os=>
   obtain⟨off,size⟩:=os;simp only [Af]at hc ⊢;obtain⟨h1,h2,h3,h4⟩:=hc;have v7:=hv.cells h3;have Py:u.cells.size=size:=(by rw [v7.1,h1]);have hf:=Eg off u.cells cs (by rw [Py,hcs.1];exact h2);have abX:gW w A X (splice cells off v.cells) (u.cells.zipIdx.foldl (fun cs (p:Value × Nat)=>match p with|(c,j)=>cs.setIfInBounds (off+j) c) cs):=by
    refine⟨by rw [hf.1,hcs.1,mC];omega,fun j c hj=>?_⟩;rw [xW _ _ _ _ (by omega)]at hj;rw [hf.2 j];by_cases c1:j<off
    ·rw [if_pos c1]at hj;rw [if_neg (by omega)];exact hcs.2 j c hj
    ·rw [if_neg c1]at hj;by_cases c2:j<off+v.cells.length
     ·rw [if_pos c2]at hj;rw [if_pos (by omega)];exact v7.2 _ c hj
     ·rw [if_neg c2]at hj;rw [if_neg (by omega)];exact hcs.2 j c hj
   obtain⟨cs',g1,g2,g3⟩:=oS parts us (splice cells off v.cells) _ (by simpa using hl) (fun k p q hk hq=>hp (k+1) p q (by simpa using hk) (by simpa using hq)) abX h4;refine⟨cs',?_,g2,by rw [g3,mC];omega⟩;simp only [Instr.fill,Af];rw [if_neg (by simp only [ne_eq,Py,not_true_eq_false,false_or,Bool.or_eq_true,decide_eq_true_eq];rw [hcs.1];omega)];exact g1
omit [aO]in
theorem oT{ρ:Operand->V}{ρ':Operand->Value}(parts:List (Nat × Operand))(hρ:∀p∈parts,RV w A X (ρ p.2) (ρ' p.2)) :
  ∀(i:Nat) (p:Nat × V) (u:Nat × Value),(parts.map fun p=>(p.1,ρ p.2))[i]?=some p->(parts.map fun p=>(p.1,ρ' p.2))[i]?=some u->p.1=u.1/\RV w A X p.2 u.2:=by
 intro i p u hp hu;rw [List.getElem?_map]at hp hu;cases hi:parts[i]? with
 | none=>simp [hi]at hp
 | some q=>simp [hi]at hp hu;subst hp hu;exact⟨rfl,hρ q (List.mem_of_getElem? hi)⟩
omit [aO]in
theorem gW.agg{cs:List V}{us:Array Value}(hcs:gW w A X cs us):RV w A X (.agg cs) (.agg us):=by refine .agg cs us hcs.1 fun i c hi=>?_;obtain⟨u,h1,_,h3⟩:=hcs.2 i c hi;rw [Array.getD_eq_getD_getElem?,h1];exact h3
omit [aO]in
theorem xX{f g:Nat->Option (Nat × Nat)}:∀(l:List (Nat × Value)) (cs:Array Value),(∀p∈l,f p.1=g p.1)->Instr.fill f cs l=Instr.fill g cs l
 | [],_,_=>rfl
 | (i,v)::l,cs,h=>by
  have h0:=h (i,v) (by simp);simp only at h0;simp only [Instr.fill,h0];cases g i with
  | none=>rfl
  | some os=>
   obtain⟨off,size⟩:=os;simp only;split
   ·rfl
   ·exact xX l _ fun p hp=>h p (List.mem_cons_of_mem _ hp)
omit [aO]in
theorem PA(f:Nat->Option (Nat × Nat))(places:Array (Nat × Nat))(l:List (Nat × Value))(cs:Array Value)(h:∀i os,f i=some os->places[i]?=some os)(hok:∀p∈l,(f p.1).isSome=true) :
  Instr.fill (fun i=>places[i]?) cs l=Instr.fill f cs l:=by
 refine xX l cs fun p hp=>?_;have:=hok p hp;cases hf:f p.1 with
 | none=>simp [hf]at this
 | some os=>exact h _ _ hf
omit [aO]in
theorem sY{place:Nat->Option (Nat × Nat)}:∀(parts:List (Nat × V)) (cells:List V),(q8 place cells parts).1->∀p∈parts,(place p.1).isSome=true
 | [],_,_,p,hp=>by simp at hp
 | (i,v)::parts,cells,hc,p,hp=>by
  simp only [q8]at hc;cases Af:place i with
  | none=>simp [Af]at hc
  | some os=>
   obtain⟨off,size⟩:=os;simp only [Af]at hc;rcases List.mem_cons.1 hp with rfl|hp
   ·simp [Af]
   ·exact sY parts _ hc.2.2.2 p hp
omit [aO]in
theorem vL(w:World):∀(fs:List Field),(∀f∈fs,0<P.cellsOf f.type)->(fs.mapM (fun f=>do pure (f.offset,<-sizeOf f.type):Field->Sem (Nat × Nat))).run P w=.ok (fs.map fun f=>(f.offset,P.cellsOf f.type)) w
 | [],_=>by simp
 | f::fs,h=>by have h0:=h f (by simp);have ih:=vL w fs fun g hg=>h g (List.mem_cons_of_mem _ hg);simp only [List.mapM_cons,Sem.run_bind,bY h0,Result.andThen_ok,Sem.run_pure,ih,List.map_cons]
omit [aO]in
theorem Ct{T:TypeId}{ρ:Operand->V}{ρ':Operand->Value}(parts:Array (Nat × Operand))(hρ:∀p∈parts.toList,RV w A X (ρ p.2) (ρ' p.2))
  (hc:(ny P T (parts.toList.map fun p=>(p.1,ρ p.2)) h).c) :
  ∃r,(Instr.build T (parts.map fun(i,x)=>(i,ρ' x))).run P w=.ok r w/\RV w A X (ny P T (parts.toList.map fun p=>(p.1,ρ p.2)) h).v r:=by
 unfold ny at hc ⊢;have v8:(parts.map fun(i,x)=>(i,ρ' x)).toList=parts.toList.map fun p=>(p.1,ρ' p.2):=by simp
 split at hc
 ·rename_i _ va;obtain⟨fs,hu⟩:∃fs,P.underlying T=some (.struct fs):=by unfold gE at va;split at va<;>simp_all
  simp only at hc ⊢;obtain⟨h1,h2,v0,hfl,hcs⟩:=hc;obtain⟨i,zv,hi,hs,hz,uw,hsz⟩:=gm h2 h1;have Wg:∀f∈fs.toList,0<P.cellsOf f.type:=by simp only [ar5,hu,List.all_eq_true,decide_eq_true_eq]at hfl;exact hfl
  have OS:gW w A X (zc P T) zv.cells:=by rw [uw];exact fm (by rw [<-uw];exact v0)
  obtain⟨cs',g1,g2,g3⟩:=oS (w:=w) (A:=A) (X:=X) _ _ _ _ (by simp) (oT (w:=w) (A:=A) (X:=X) parts.toList hρ) OS hcs;have g1':Instr.fill (fun x=>(fs.map fun f=>(f.offset,P.cellsOf f.type))[x]?) zv.cells (parts.toList.map fun p=>(p.1,ρ' p.2))=some cs':=by
   rw [<-g1];refine PA _ _ _ _ (fun k os hk=>?_) (fun p hp=>?_)
   ·cases hf:cG P T k with
    | none=>simp [hf]at hk
    | some oft=>
     obtain⟨o,ft⟩:=oft;simp [hf]at hk;subst hk;obtain⟨fs',fd,WV,PB,rfl,rfl⟩:=sW hf;rw [hu]at WV;cases WV;simp [PB]
   ·obtain⟨q,hq,rfl⟩:=List.mem_map.1 hp;have:=sY _ _ hcs (q.1,ρ q.2) (List.mem_map.2 ⟨q,hq,rfl⟩);simpa using this
  refine⟨.agg cs',?_,g2.agg⟩;have Af:=vL (P:=P) w fs.toList Wg;have amm:(fs.mapM (fun f=>do pure (f.offset,<-sizeOf f.type):Field->Sem (Nat × Nat))).run P w=.ok (fs.map fun f=>(f.offset,P.cellsOf f.type)) w:=by have OT:(fs.mapM (fun f=>do pure (f.offset,<-sizeOf f.type):Field->Sem (Nat × Nat)))=List.toArray <$> (fs.toList.mapM (fun f=>do pure (f.offset,<-sizeOf f.type):Field->Sem (Nat × Nat))):=Array.mapM_eq_mapM_toList;rw [OT];refine(Sem.run_map P w _ _).trans ?_;rw [Af];refine congrArg (fun x=>Result.ok x w) ?_;rw [<-Array.toList_map]
  have Eh:(zeroValue T).run P w=.ok zv w:=by simp [zeroValue,typeInfo,hi,hz]
  unfold Instr.build;simp only [Sem.run_bind,Eh,Result.andThen_ok,run_underlying hu,amm,v8,g1',Sem.run_pure]
 ·rename_i n e _ vr;have hu:=kQ vr;simp only at hc ⊢;obtain⟨h1,h2,v0,h0,hcs⟩:=hc;obtain⟨i,zv,hi,hs,hz,uw,hsz⟩:=gm h2 h1;have OS:gW w A X (zc P T) zv.cells:=by rw [uw];exact fm (by rw [<-uw];exact v0)
  obtain⟨cs',g1,g2,g3⟩:=oS (w:=w) (A:=A) (X:=X) _ _ _ _ (by simp) (oT (w:=w) (A:=A) (X:=X) parts.toList hρ) OS hcs;refine⟨.agg cs',?_,g2.agg⟩;have Eh:(zeroValue T).run P w=.ok zv w:=by simp [zeroValue,typeInfo,hi,hz]
  unfold Instr.build;simp only [Sem.run_bind,Eh,Result.andThen_ok,run_underlying hu,bY h0,v8,g1,Sem.run_pure]
 ·exact hc.elim
def uE(w:World)(A:Nat->Prop)(X:Refs)(z:Nat)(rows:List (List V))(arr:Array Value):Prop:=
 arr.size=rows.length * z/\(∀row∈rows,row.length=z)/\∀(e j:Nat) (row:List V) (c:V),rows[e]?=some row->row[j]?=some c->∃u,arr[e * z+j]?=some u/\u.oneCell'=true/\RV w A X c u
omit [aO]in
theorem oU{z:Nat}(OS:0<z):∀(parts:List (Nat × V)) (us:List (Nat × Value)) (rows:List (List V)) (cs:Array Value),parts.length=us.length->
  (∀(i:Nat) (p:Nat × V) (u:Nat × Value),parts[i]?=some p->us[i]?=some u->p.1=u.1/\RV w A X p.2 u.2)->uE w A X z rows cs->(ja z rows parts).1->
  ∃cs',Instr.fill (fun i=>some (i * z,z)) cs us=some cs'/\uE w A X z (ja z rows parts).2 cs'/\(ja z rows parts).2.length=rows.length
 | [],[],rows,cs,_,_,hcs,_=>⟨cs,rfl,hcs,rfl⟩
 | [],_::_,_,_,hl,_,_,_=>by simp at hl
 | _::_,[],_,_,hl,_,_,_=>by simp at hl
 | (i,v)::parts,(i',u)::us,rows,cs,hl,hp,hcs,hc=>by
  have h0:=hp 0 (i,v) (i',u) rfl rfl;simp only at h0;obtain⟨rfl,hv⟩:=h0;simp only [ja]at hc ⊢;obtain⟨h1,h2,h3,h4⟩:=hc;have v7:=hv.cells h3;have Py:u.cells.size=z:=by rw [v7.1,h1]
  have vb:i * z+z<=cs.size:=by rw [hcs.1];have:(i+1) * z<=rows.length * z:=Nat.mul_le_mul_right _ h2;rw [Nat.add_mul]at this;omega
  have hf:=Eg (i * z) u.cells cs (by rw [Py];exact vb);have abX:uE w A X z (rows.set i v.cells) (u.cells.zipIdx.foldl (fun cs (p:Value × Nat)=>match p with|(c,j)=>cs.setIfInBounds (i * z+j) c) cs):=by
   refine⟨by rw [hf.1,hcs.1,List.length_set],fun row hr=>?_,fun e j row c he hj=>?_⟩
   ·rcases List.mem_or_eq_of_mem_set hr with hr|rfl
    ·exact hcs.2.1 row hr
    ·exact h1
   ·rw [hf.2];by_cases v9:e=i
    ·subst v9;rw [List.getElem?_set_self h2]at he;obtain rfl:=Option.some.inj he;have v6:j<v.cells.length:=(List.getElem?_eq_some_iff.1 hj).1;rw [if_pos (by omega),show e * z+j - e * z=j by omega];exact v7.2 j c hj
    ·rw [List.getElem?_set_ne (fun hh=>v9 hh.symm)]at he;have v6:j<z:=(by rw [<-hcs.2.1 row (List.mem_of_getElem? he)];exact(List.getElem?_eq_some_iff.1 hj).1);have:=JF (j:=0) (m:=z) v9 (by omega) v6;rw [if_neg (by omega)];exact hcs.2.2 e j row c he hj
  obtain⟨cs',g1,g2,g3⟩:=oU OS parts us (rows.set i v.cells) _ (by simpa using hl) (fun k p q hk hq=>hp (k+1) p q (by simpa using hk) (by simpa using hq)) abX h4;refine⟨cs',?_,g2,by rw [g3,List.length_set]⟩;simp only [Instr.fill];rw [if_neg (by simp only [ne_eq,Py,not_true_eq_false,false_or,Bool.or_eq_true,decide_eq_true_eq];omega)];exact g1
omit [aO]in
theorem xY{zs:Array Value}{n e j:Nat}(he:e<n)(hj:j<zs.size):((Array.range (n * zs.size)).map (zs[· % zs.size]!))[e * zs.size+j]?=zs[j]?:=by
 have v2:=rP he hj;simp only [Array.getElem?_map,Array.getElem?_range,v2,if_true,Option.map_some];have hm:(e * zs.size+j) % zs.size=j:=by rw [Nat.mul_comm,Nat.mul_add_mod];exact Nat.mod_eq_of_lt hj
 rw [hm,Array.getElem?_eq_getElem hj,getElem!_pos zs j hj]
omit [aO]in
theorem uE.agT{zs:Array Value}(v0:(zs.toList.map iD).all V.dQ=true)(n:Nat):uE w A X zs.size (List.replicate n (zs.toList.map iD)) ((Array.range (n * zs.size)).map (zs[· % zs.size]!)):=by
 refine⟨by simp,fun row hr=>by rw [List.eq_of_mem_replicate hr];simp,fun e j row c he hj=>?_⟩;have v2:e<n:=by have:=(List.getElem?_eq_some_iff.1 he).1;simpa using this
 have v4:row=zs.toList.map iD:=List.eq_of_mem_replicate (List.mem_of_getElem? he);subst v4;have v6:j<zs.size:=by have:=(List.getElem?_eq_some_iff.1 hj).1;simpa using this
 rw [xY v2 v6];exact(fm (w:=w) (A:=A) (X:=X) v0).2 j c hj
end
end Go.Sx
end
section
namespace Go.Sx
open Go.RowKit
variable [aO]
section
variable {F:Fr} {w:World} {A:Nat->Prop} {X:Refs} {h:Hp} {P:Program}
theorem Inv.ext(hI:Inv F w A X h)(o:Obj):bC w A (w.alloc o) A/\Inv F (w.alloc o) A X h:=by
 have hL:bC w A (w.alloc o) A:=⟨by simp,fun b hb hA=>⟨Below.heap_alloc w o b hb,hA⟩⟩
 refine⟨hL,{gl:=hI.gl.mono hL,oV:=?_,iE:=hI.iE,ep:=hI.ep,os:=hI.os,tape:=hI.tape,output:=hI.output,size:=?_,same:=?_,xle:=hI.xle,nb:=hI.nb,blk:=?_,inj:=hI.inj}⟩
 ·intro b hA;have:=hI.oV b hA;simp;omega
 ·have:=hI.size;simp;omega
 ·intro b hb hM;have:=hI.size;rw [Below.heap_alloc w o b (by omega)];exact hI.same b hb hM
 intro s i B hB;have ho:=hI.blk s i B hB;refine {hN:=ho.hN,hz:=ho.hz,hlen:=ho.hlen,rows:=ho.rows,mem:=?_};rcases ho.mem with hm|⟨arr,cap,h1,h2,h3,h4,h5,h6,h7,h8⟩
 ·exact .inl hm
 ·have v2:(X.D s i).b<w.heap.size:=(Array.getElem?_eq_some_iff.1 h1).1;refine .inr ⟨arr,cap,by rw [Below.heap_alloc w o _ v2];exact h1,h2,h3,h4,h5,?_,h7,h8⟩;intro e j row c he hj;obtain⟨u,g1,g2,g3,g4⟩:=h6 e j row c he hj;exact⟨u,g1,g2,g3.mono hL (fH.refl X),fun cZ=>(g4 cZ).mono hL⟩
theorem sZ{own:Bool}{key:Nat}{T:TypeId}{n:Nat}{ρ:Operand->V}{ρ':Operand->Value}(parts:Array (Nat × Operand))(hI:Inv F w A X h)(hρ:∀p∈parts.toList,RV w A X (ρ p.2) (ρ' p.2))
  (hc:(dK P own key T n (parts.toList.map fun p=>(p.1,ρ p.2)) h).c) :
  ∃r w' A' X',(Instr.buildSlice T n (parts.map fun(i,x)=>(i,ρ' x))).run P w=.ok r w'/\bC w A w' A'/\fH X X'/\Inv F w' A' X' (dK P own key T n (parts.toList.map fun p=>(p.1,ρ p.2)) h).h/\
   RV w' A' X' (dK P own key T n (parts.toList.map fun p=>(p.1,ρ p.2)) h).v r:=by
 unfold dK at hc ⊢;have v8:(parts.map fun(i,x)=>(i,ρ' x)).toList=parts.toList.map fun p=>(p.1,ρ' p.2):=by simp
 cases Ei:cm P T with
 | none=>simp [Ei,bad]at hc
 | some e=>
  simp only [Ei]at hc ⊢;have hu:=cH Ei;have core:(zc P e).length=P.cellsOf e/\0<P.cellsOf e/\n * P.cellsOf e<=1048576/\(zc P e).all V.dQ=true/\(ja (P.cellsOf e) (List.replicate n (zc P e)) (parts.toList.map fun p=>(p.1,ρ p.2))).1:=by
   cases own<;>simp at hc
   ·exact⟨hc.1.1,hc.1.2.1,hc.1.2.2.1,by simpa using hc.1.2.2.2.1,hc.1.2.2.2.2⟩
   ·exact⟨hc.1,hc.2.1,hc.2.2.1,by simpa using hc.2.2.2.1,hc.2.2.2.2⟩
  obtain⟨h1,h2,h3,h4,h5⟩:=core;obtain⟨i,zv,hi,hs,hz,uw,hsz⟩:=gm h2 h1;have aaX:=uE.agT (w:=w) (A:=A) (X:=X) (zs:=zv.cells) (by rw [<-uw];exact h4) n;rw [<-uw,hsz]at aaX;obtain⟨cs',g1,g2,g3⟩:=oU (w:=w) (A:=A) (X:=X) h2 _ _ _ _ (by simp) (oT (w:=w) (A:=A) (X:=X) parts.toList hρ) aaX h5;generalize v5:(ja (P.cellsOf e) (List.replicate n (zc P e)) (parts.toList.map fun p=>(p.1,ρ p.2))).2=rows at *;have hlen:rows.length=n:=by rw [g3];simp
  have hr:(Instr.buildSlice T n (parts.map fun(i,x)=>(i,ρ' x))).run P w=.ok (.slice (some ⟨w.heap.size,0,none⟩) n n) (w.alloc (.cells cs' e)):=by
   have Eh:(zeroValue e).run P w=.ok zv w:=(by simp [zeroValue,typeInfo,hi,hz]);have abY:¬ n * P.cellsOf e > 2 ^ 24:=(by omega);unfold Instr.buildSlice;simp only [Sem.run_bind,run_underlying hu,Result.andThen_ok,bY h2];by_cases hn:n * P.cellsOf e=0
   ·have z0:n=0:=(by rcases Nat.mul_eq_zero.1 hn with h|h<;>omega);have e0:∀f:Nat->Value,(Array.range (n * P.cellsOf e)).map f = #[]:=(by intro f;rw [hn];simp [Array.range_zero']);have g1':Instr.fill (fun i=>some (i * P.cellsOf e,P.cellsOf e)) #[] (parts.toList.map fun p=>(p.1,ρ' p.2))=some cs':=(by rw [<-g1,e0]);simp only [hn,if_true,Sem.run_bind,Sem.run_pure,Result.andThen_ok];have e1:∀f:Nat->Value,(Array.range 0).map f = #[]:=fun f=>by simp [Array.range_zero']
    simp only [e1,v8,g1'];simp [newRow]
   ·simp only [hn,if_false,abY,Sem.run_bind,Eh,Result.andThen_ok,Sem.run_pure,v8,hsz,g1];simp [newRow]
  cases own
  ·simp only [Bool.false_eq_true,if_false]at hc ⊢;obtain⟨hL,fB⟩:=hI.ext (.cells cs' e);have vs:¬ A w.heap.size:=fun hA=>by have:=hI.oV _ hA;omega
   refine⟨_,_,A,X,hr,hL,fH.refl X,fB,.pure ?_⟩;have vx:∀row∈rows,∀c∈row,V.cD c=true:=by have:=hc.2;simpa [List.all_eq_true]using this
   have:=PV.sl (w:=w.alloc (.cells cs' e)) (A:=A) (P.cellsOf e) rows w.heap.size 0 n (fun e1 j=>(cs'[e1 * P.cellsOf e+j]?).getD gC) (by omega) (by simp) vs g2.2.1
    (fun e1 j row c he hj=>by obtain⟨u,k1,k2,_⟩:=g2.2.2 e1 j row c he hj;rw [Nat.zero_add,World.cell?_alloc_new,k1];exact⟨rfl,k2⟩)
    (fun e1 j row c he hj=>by obtain⟨u,k1,k2,k3⟩:=g2.2.2 e1 j row c he hj;simp only [k1,Option.getD_some];exact PV.mono hL (.lq k3 (vx row (List.mem_of_getElem? he) c (List.mem_of_getElem? hj))))
   rw [hlen]at this;exact this
  ·simp only [if_true]at hc ⊢
   have fB:=hI.alloc key {z:=P.cellsOf e,els:=rows,ty:=e,cl:=rows.all fun row=>row.all V.cD} cs' n rfl (by simp [hlen]) (by simp only [maxLen];have:=Nat.le_mul_of_pos_right n h2;omega) g2.2.1 (by rw [g2.1,hlen])
    (fun e1 j row c he hj=>by obtain⟨u,k1,k2,k3⟩:=g2.2.2 e1 j row c he hj;refine⟨u,k1,k2,k3,fun cZ=>?_⟩;simp only [List.all_eq_true]at cZ;exact .lq k3 (cZ row (List.mem_of_getElem? he) c (List.mem_of_getElem? hj)))
   refine⟨_,_,_,_,hr,hI.fW _,hI.nw key _ n,fB,?_⟩;exact .bw _ _ _ _ _ (by simp [bT]) (by simp [bT,hlen]) (fun _=>by simp [bT,hlen])
theorem Ag{T:TypeId}{n:Nat}{ρ:Operand->V}{ρ':Operand->Value}(parts:Array (Nat × Operand))(hI:Inv F w A X h)
  (hc:(gX P T n (parts.toList.map fun p=>(p.1,ρ p.2)) h).c) :
  ∃r w' A' X',(Instr.buildSlice T n (parts.map fun(i,x)=>(i,ρ' x))).run P w=.ok r w'/\bC w A w' A'/\fH X X'/\Inv F w' A' X' (gX P T n (parts.toList.map fun p=>(p.1,ρ p.2)) h).h/\
   RV w' A' X' (gX P T n (parts.toList.map fun p=>(p.1,ρ p.2)) h).v r:=by
 unfold gX at hc ⊢;split at hc
 ·rename_i _ e Ei hq;have hp:parts = #[]:=by have:parts.toList=[]:=(by simpa using hq);exact Array.toList_eq_nil_iff.1 this
  subst hp;simp only [Ei,List.map_nil]at hc ⊢;have hu:=cH Ei;obtain⟨h2,h1⟩:=hc;have hr:(Instr.buildSlice T 0 ((#[]:Array (Nat × Operand)).map fun(i,x)=>(i,ρ' x))).run P w=.ok (.slice (some ⟨w.heap.size,0,none⟩) 0 0) (w.alloc (.cells #[] e)):=by unfold Instr.buildSlice;simp [Sem.run_bind,run_underlying hu,bY h2,Instr.fill,newRow,Array.range_zero']
  obtain⟨hL,fB⟩:=hI.ext (.cells #[] e);exact⟨_,_,A,X,hr,hL,fH.refl X,fB,.pure (.emp _)⟩
 ·exact hc.elim
theorem uF{own:Bool}{key:Nat}{T:TypeId}{l c:V}{ul uc:Value}(hI:Inv F w A X h)(hl:RV w A X l ul)(vy:RV w A X c uc)(hc:(eG P own key T l c h).c) :
  ∃r w' A' X',(Instr.makeSlice T ul uc).run P w=.ok r w'/\bC w A w' A'/\fH X X'/\Inv F w' A' X' (eG P own key T l c h).h/\RV w' A' X' (eG P own key T l c h).v r:=by
 unfold eG at hc ⊢;split at hc
 ·rename_i e k n k' m Ei;have hu:=cH Ei;rw [hl.dV,vy.dV];have core:0<=n/\n<=m/\(zc P e).length=P.cellsOf e/\0<P.cellsOf e/\(zc P e).all V.dQ=true/\m * P.bytesOf e<=140737488355328/\m<=9223372036854775807:=by cases own<;>simp only [Bool.false_eq_true,if_false,if_true]at hc<;>exact hc
  obtain⟨c1,c2,c3,c4,c5,c6,c7⟩:=core;obtain⟨i,zv,hi,hs,hz,uw,hsz⟩:=gm c4 c3;have vP:P.bytesOf e=i.bytes:=by simp [Program.bytesOf,hi]
  have hr:=run_make (P:=P) w T e i zv hu hi hz k k' n m c1 c2 (by rw [vP]at c6;rw [Int.mul_comm];omega) c7;rw [hs]at hr;have aaY:∀q,q<=m.toNat->∀(e1 j:Nat) (row:List V) (c:V),(List.replicate q (zc P e))[e1]?=some row->row[j]?=some c->∃u,(madeCells zv.cells (m.toNat * P.cellsOf e))[e1 * P.cellsOf e+j]?=some u/\u.oneCell'=true/\RV w A X c u/\(true=true->PV w A c u):=by
   intro q hq e1 j row c he hj;have v2:e1<q:=(by have:=(List.getElem?_eq_some_iff.1 he).1;simpa using this);have v4:row=zc P e:=List.eq_of_mem_replicate (List.mem_of_getElem? he);subst v4;have v6:j<zv.cells.size:=(by have:=(List.getElem?_eq_some_iff.1 hj).1;omega);have hg:(madeCells zv.cells (m.toNat * P.cellsOf e))[e1 * P.cellsOf e+j]?=zv.cells[j]?:=by unfold madeCells;rw [<-hsz];exact xY (by omega) v6
   rw [hg];have hok:=fm (w:=w) (A:=A) (X:=X) (zs:=zv.cells) (by rw [<-uw];exact c5);rw [<-uw]at hok;obtain⟨u,k1,k2,k3⟩:=hok.2 j c hj;refine⟨u,k1,k2,k3,fun _=>?_⟩;rw [uw]at hj;obtain⟨x,hx,hp⟩:=qq (w:=w) (A:=A) hj;have hx':zv.cells[j]?=some x:=(by simpa using hx);rw [k1]at hx';cases hx';exact hp
  have agU:∀q,∀row∈List.replicate q (zc P e),row.length=P.cellsOf e:=fun q row hr=>by rw [List.eq_of_mem_replicate hr];exact c3
  have wZ:m.toNat<=maxLen:=by simp only [maxLen];omega
  cases own
  ·simp only [Bool.false_eq_true,if_false]at hc ⊢;have fB:=hI.alloc key {z:=P.cellsOf e,els:=List.replicate n.toNat (zc P e),ty:=e} (madeCells zv.cells (m.toNat * P.cellsOf e)) m.toNat rfl (by simp;omega) wZ (agU _) (size_madeCells _ _) (aaY n.toNat (by omega));refine⟨_,_,_,_,hr,hI.fW _,hI.nw key _ _,fB,?_⟩;exact .bw _ _ _ _ _ (by simp [bT]) (by simp [bT]) (fun _=>by simp [bT,Hd.cap])
  ·simp only [if_true]at hc ⊢;have fB:=hI.alloc key {z:=P.cellsOf e,els:=List.replicate m.toNat (zc P e),ty:=e} (madeCells zv.cells (m.toNat * P.cellsOf e)) m.toNat rfl (by simp) wZ (agU _) (size_madeCells _ _) (aaY m.toNat (Nat.le_refl _));refine⟨_,_,_,_,hr,hI.fW _,hI.nw key _ _,fB,?_⟩;exact .gY _ _ _ _ _ _ _ _ (Nat.le_refl _) (by simp [bT]) (by simp [bT]) (fun _=>by simp [bT,Hd.cap])
 ·exact hc.elim
omit [aO]in
theorem Src.xZ{z n:Nat}(hz:0<z){b off c:Nat}{els:List (List V)}{cl:Bool}(hn:els.length=n)(v5:∀row∈els,row.length=z)
  (hc:∀(e j:Nat) (row:List V) (x:V),els[e]?=some row->row[j]?=some x->∃u,w.cell? ⟨b,off+e * z+j,none⟩=some u/\u.oneCell'=true/\RV w A X x u/\(cl=true->PV w A x u)) :
  ∃news,Src P w A X z (.slice (some ⟨b,off,none⟩) n c) els cl news:=by
 subst hn;have aL:∀k,k<els.length * z->∃row x,els[k / z]?=some row/\row[k % z]?=some x:=by
  intro k hk;have h1:k / z<els.length:=(Nat.div_lt_iff_lt_mul hz).2 hk;have h2:(els[k / z]).length=z:=v5 _ (List.getElem_mem h1);have h3:k % z<(els[k / z]).length:=by rw [h2];exact Nat.mod_lt _ hz
  exact⟨_,_,List.getElem?_eq_getElem h1,List.getElem?_eq_getElem h3⟩
 have vV:∀k,off+k / z * z+k % z=off+k:=fun k=>by rw [Nat.add_assoc,Nat.mul_comm];rw [Nat.div_add_mod]
 let f:Nat->Value:=fun k=>(w.cell? ⟨b,off+k,none⟩).getD gC
 have hf:∀k,k<els.length * z->w.cell? ⟨b,off+k,none⟩=some (f k)/\(f k).oneCell'=true:=by intro k hk;obtain⟨row,x,h1,h2⟩:=aL k hk;obtain⟨u,g1,g2,_⟩:=hc _ _ _ _ h1 h2;rw [vV]at g1;simp only [f,g1,Option.getD_some];exact⟨trivial,g2⟩
 refine⟨(List.range (els.length * z)).map f,{shape:=⟨_,_,rfl⟩,run:=?_,run':=?_,rows:=v5,len:=by simp,cells:=?_,one:=?_}⟩
 ·simp only [Builtin.firstCells];exact run_loadCells w _ _ f fun j hj=>by rw [dJ];exact(hf j hj).1
 ·simp only [Builtin.firstCells];exact run_loadCells w.drew _ _ f fun j hj=>by rw [dJ];exact(hf j hj).1
 ·intro e j row x he hj;have hj':j<z:=by rw [<-v5 row (List.mem_of_getElem? he)];exact(List.getElem?_eq_some_iff.1 hj).1
  have hk:=rP (List.getElem?_eq_some_iff.1 he).1 hj';obtain⟨u,g1,g2,g3,g4⟩:=hc e j row x he hj;refine⟨u,?_,g3,g4⟩;rw [List.getElem?_map,List.getElem?_range hk];simp only [Option.map_some,f];rw [<-Nat.add_assoc,g1];rfl
 ·intro u hu;obtain⟨k,hk,rfl⟩:=List.mem_map.1 hu;exact(hf k (List.mem_range.1 hk)).2
omit [aO]in
theorem Src.empty{z:Nat}(a:Option Addr)(c:Nat)(cl:Bool):Src P w A X z (.slice a 0 c) [] cl []:=by
 refine {shape:=⟨a,c,rfl⟩,run:=?_,run':=?_,rows:=by simp,len:=by simp,cells:=by intro e j row c he;simp at he,one:=by simp}
 ·cases a<;>simp [Builtin.firstCells,loadCells,loadCellsFrom]
 ·cases a<;>simp [Builtin.firstCells,loadCells,loadCellsFrom]
end
end Go.Sx
end
end
